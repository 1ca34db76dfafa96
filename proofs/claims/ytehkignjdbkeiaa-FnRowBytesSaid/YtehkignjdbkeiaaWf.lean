/- A function's end: results that stand in boxes; all results; what goes back by pointers. -/
import Derived.Test.YtehkignjdbkeiaaWe
set_option linter.unusedVariables false
set_option linter.unusedSimpArgs false
namespace Go.Proofs.Ytehkignjdbkeiaa.Vf
open Go
attribute [local irreducible] C H

theorem run_loadVar {P : Program} {w : World} {T : TypeId} {t : TI} {k o' : Nat} {cs : List Value} (ht : TOk P T t) (ha : t.ag = true) (hc : CellsAt w k o' cs) (hl : cs.length = t.ty.sz) :
    (loadVar T ⟨k, o', none⟩).run P w = .ok (.agg cs.toArray) w := by
  obtain ⟨d, hd, hagg⟩ := tok_agg ht
  rw [ha] at hagg
  have hc' : ∀ j v, cs[j]? = some v → w.cell? (Addr.add ⟨k, o', none⟩ j) = some v := fun j v hj => by rw [add_none]; exact hc j v hj
  have hlc := run_loadCells_list (P := P) w ⟨k, o', none⟩ cs hc'
  simp only [Sem.run_bind, Sem.run_pure, Result.andThen_ok, loadVar, isAgg_of hd hagg, if_true, info_size (tok_size ht), ← hl, hlc]

def resRun (a : Act) : ResultVar → Sem Value
  | .tmp t => pure (a.tmps.getD t undef)
  | .cell x t => do loadVar t (← asAddr (a.tmps.getD x undef))

def cellH (b m i : Nat) (O : Nat → Lab) : Nat → Lab := fun k => match O k with
  | .pl l [] => if C b 0 ≤ l ∧ l < C b 0 + m then .tm i [l - C b 0] else .pl l []
  | o => o

theorem cellH_other {b m i k : Nat} {O : Nat → Lab} {o : Lab} (h : O k = o) (ho : ∀ l, o = .pl l [] → ¬ (C b 0 ≤ l ∧ l < C b 0 + m)) : cellH b m i O k = o := by
  unfold cellH
  rw [h]
  cases o <;> first | rfl | skip
  rename_i l p
  cases p with
  | nil => exact if_neg (ho l rfl)
  | cons => rfl

theorem cellH_in {b m i k j : Nat} {O : Nat → Lab} (h : O k = .pl (C b j) []) (hj : j < m) : cellH b m i O k = .tm i [j] := by
  unfold cellH
  rw [h]
  have h1 : C b 0 ≤ C b j ∧ C b j < C b 0 + m := by unfold C; omega
  simp only
  rw [if_pos h1]
  have : C b j - C b 0 = j := by unfold C; omega
  rw [this]

section
variable {X : Cx} {S S1 S2 : Sit} {a : Act} {E : En} {A : Ab}

theorem rawOf_ok (K : Okay X S a) (hg : S.g = get A) (b : Nat) : ∀ (n j : Nat), storable (rawOf A b j n) = true → (rawOf A b j n).length = n ∧ LfsOk X.P S (fun i => .pl (C b i) []) j (rawOf A b j n) ((List.range n).map fun i => S.ph (C b (j + i)))
  | 0, j, _ => ⟨rfl, trivial⟩
  | n + 1, j, h => by
    have hat := K.at_ (C b j)
    rw [hg] at hat
    have hr : (List.range (n + 1)).map (fun i => S.ph (C b (j + i))) = S.ph (C b j) :: (List.range n).map (fun i => S.ph (C b (j + 1 + i))) := by
      rw [List.range_succ_eq_map, List.map_cons, List.map_map, Nat.add_zero]
      congr 1
      apply List.map_congr_left
      intro i _
      show S.ph (C b (j + (i + 1))) = _
      rw [show j + (i + 1) = j + 1 + i by omega]
    rw [hr]
    unfold rawOf at h ⊢
    split at h
    · rename_i v x hp
      rw [hp] at hat
      have h2 : storable (rawOf A b (j + 1) n) = true := by cases x <;> first | (simp [storable] at h; done) | simpa [storable] using h
      obtain ⟨h3, h4⟩ := rawOf_ok K hg b n (j + 1) h2
      exact ⟨by simp [h3], hat, h4⟩
    · simp [storable] at h

theorem gput_dead (g : Nat → Nat × Sv) (b m : Nat) (p : Nat) : gput g b 0 (List.replicate m .dead) p = if C b 0 ≤ p ∧ p < C b 0 + m then ((g p).1 + 1, .one .dead) else g p := by
  unfold gput
  rw [List.length_replicate]
  split
  · rename_i h
    congr 2
    rw [List.getD_eq_getElem?_getD, List.getElem?_replicate]
    split <;> rfl
  · rfl

/-- A result that stands in a box. -/
theorem res_cell (hE : EnOk X E) (K : Okay X S a) (hg : S.g = get A) {x : Nat} (hx : Nat.blt x E.nt = true) {T : TypeId} {ti : TI} (hT : E.ti T = some ti) (hag : ti.ag = true) {t : Ty} (hsz : ti.ty.sz = t.sz) {l : List Lf} {us : List Up} (i : Nat)
    (h : resCell E.np A t (get A x).2 = some (l, us)) {y : t.den} (hy : mkW t l = some y) :
    ∃ S', Okay X S' a ∧ S'.g = get (ups A us) ∧ S'.w = S.w ∧ S'.ph = S.ph ∧ Later S S' ∧ (∀ n q z v, LfOk X.P S (.tm n q) z v → LfOk X.P S' (.tm n q) z v) ∧
      ∃ vs, (resRun a (.cell x T)).run X.P S.w = .ok (.agg vs.toArray) S.w ∧ LfsOk X.P S' (fun n => .tm i [n]) 0 (leaves t y) vs := by
  have hop : opT E 0 A (.tmp x) = some (get A x).2 := by show (bif Nat.blt x E.nt then some (get A x).2 else none) = _; rw [hx]; rfl
  unfold resCell at h
  split at h
  · rename_i b v hs
    rw [hs] at hop
    split at h
    · rename_i n m hp
      cases hq : (Nat.beq n v && Nat.beq m t.sz && Nat.ble E.np b) with
      | false => rw [hq] at h; simp at h
      | true =>
        rw [hq] at h
        simp only [cond_true] at h
        simp only [Bool.and_eq_true] at hq
        obtain ⟨⟨q1, q2⟩, q3⟩ := hq
        have hnv : n = v := Nat.eq_of_beq_eq_true q1
        have hm : m = t.sz := Nat.eq_of_beq_eq_true q2
        subst hnv
        obtain ⟨pl, hl⟩ := opT_ex hE K hg hop
        have hlf : LfOk X.P S (.pl pl []) (.bp b n 0) (a.eval (.tmp x)) := hl
        have hu := hlf.2 (by rw [hg, hp])
        have hh : (S.g (H b)).2 = .one (.hd m) := by rw [hg, hp]
        obtain ⟨hm9, c, e, e1, e2, e3, e4⟩ := K.box b m hh
        have hcells : CellsAt S.w (S.bb b).1 (S.bb b).2 ((List.range m).map fun i => S.ph (C b (0 + i))) := by
          intro j u hj
          have hj' : j < m := by
            have := (List.getElem?_eq_some_iff.1 hj).1
            simpa using this
          have : u = S.ph (C b j) := by simpa [hj'] using hj.symm
          rw [this]
          simp [World.cell?, e1, e4 j hj']
        have hrun : (resRun a (.cell x T)).run X.P S.w = .ok (.agg ((List.range m).map fun i => S.ph (C b (0 + i))).toArray) S.w := by
          have hu' : a.tmps.getD x undef = .pointer (some ⟨(S.bb b).1, (S.bb b).2 + 0, none⟩) := hu
          unfold resRun
          simp only [hu', asAddr, Sem.run_bind, Sem.run_pure, Result.andThen_ok, Nat.add_zero]
          exact run_loadVar (hE.ti T ti hT) hag hcells (by rw [hsz, ← hm]; simp)
        cases hno : noOw t with
        | true =>
          rw [hno, cond_true] at h
          cases hst : storable ((cellsOf A b 0 m).map (kept A)) with
          | false => rw [hst] at h; simp at h
          | true =>
            rw [hst] at h
            simp only [cond_true, Option.some.injEq, Prod.mk.injEq] at h
            obtain ⟨rfl, rfl⟩ := h
            obtain ⟨S1, K1, g1, E1, F1, P1⟩ := costs_ok (X := X) (a := a) (A := A) (cellsOf A b 0 m) K hg (fun p => .inl rfl)
            obtain ⟨c1, c2, c3⟩ := cellsOf_ok K hg b m 0
            have hkept := kept_ok K hg K1 E1 P1 (fun _ => .fz) (fun n k hk => (E1.later.fz k hk).1) (cellsOf A b 0 m) (fun _ h => h) 0 _ (c3 (fun _ => .fz) 0)
            have hrep := rep_of_noOwn hst (kept_noOwn _ c2) hkept
            exact ⟨S1, K1, g1, E1.w, E1.ph, E1.later, fun n q z v hz => hz.later E1.later (fun k hk => ⟨E1.tm n q k hk, by rw [E1.w]⟩), _, hrun, shared_arg (G := fun k => S1.O k = .fz) (fun k hk => hk) hy hno hrep _ _⟩
        | false =>
          rw [hno, cond_false] at h
          cases hst : (noSl t && storable (rawOf A b 0 m)) with
          | false => rw [hst] at h; simp at h
          | true =>
            rw [hst] at h
            simp only [cond_true, Option.some.injEq, Prod.mk.injEq] at h
            obtain ⟨rfl, rfl⟩ := h
            simp only [Bool.and_eq_true] at hst
            obtain ⟨r1, r2⟩ := rawOf_ok K hg b m 0 hst.2
            have hgu : get (ups A (⟨H b, true, .one .dead⟩ :: putCells b 0 (List.replicate m .dead))) = fun p => if C b 0 ≤ p ∧ p < C b 0 + m then ((S.g p).1 + 1, .one .dead) else if p = H b then ((S.g p).1, .one .dead) else S.g p := by
              show get (ups (up A ⟨H b, true, .one .dead⟩) (putCells b 0 (List.replicate m .dead))) = _
              rw [get_putCells]
              funext p
              rw [gput_dead, get_up, ← hg]
              by_cases h1 : C b 0 ≤ p ∧ p < C b 0 + m
              · rw [if_pos h1, if_pos h1]
                have : p ≠ H b := fun e => heads_apart (b := b) (b' := b) (off := 0) (n := m) (by omega) (by rw [← e]; exact h1)
                rw [upd_ne _ _ this]
              · rw [if_neg h1, if_neg h1]
                by_cases h2 : p = H b
                · subst h2; rw [upd_same, if_pos rfl]; rfl
                · rw [upd_ne _ _ h2, if_neg h2]
            have L : Later S { S with O := cellH b m i S.O, g := get (ups A (⟨H b, true, .one .dead⟩ :: putCells b 0 (List.replicate m .dead))) } := by
              refine ⟨fun p => ?_, fun _ _ => rfl, fun p v e r xs' hp hv => ?_, fun _ _ => rfl, fun k hk => ⟨cellH_other hk (by simp), rfl⟩⟩
              · rw [hgu]; simp only; split
                · simp
                · split <;> simp
              · have hp' : get (ups A (⟨H b, true, .one .dead⟩ :: putCells b 0 (List.replicate m .dead))) p = (v, .one (.own e r xs')) := hp
                rw [hgu] at hp'
                simp only at hp'
                split at hp'
                · cases hp'
                · split at hp'
                  · cases hp'
                  · exact ⟨xs', hp', rfl⟩
            have keep : ∀ k o, S.O k = o → (∀ l, o = .pl l [] → ¬ (C b 0 ≤ l ∧ l < C b 0 + m)) → cellH b m i S.O k = o := fun k o h1 h2 => cellH_other h1 h2
            have K' : Okay X { S with O := cellH b m i S.O, g := get (ups A (⟨H b, true, .one .dead⟩ :: putCells b 0 (List.replicate m .dead))) } a := by
              refine K.ghost _ _ (fun k hk => keep k _ hk (by simp)) (fun k h1 h2 => h1 (keep k _ h2 (by simp))) (fun k hk => keep k _ hk (by simp)) (fun k b' hk => keep k _ hk (by simp)) (fun b' n' hb' => ?_) (fun l => ?_)
              · rw [hgu] at hb'
                simp only at hb'
                split at hb'
                · cases hb'
                · split at hb'
                  · cases hb'
                  · exact hb'
              · have hgl : get (ups A (⟨H b, true, .one .dead⟩ :: putCells b 0 (List.replicate m .dead))) l = if C b 0 ≤ l ∧ l < C b 0 + m then ((S.g l).1 + 1, .one .dead) else if l = H b then ((S.g l).1, .one .dead) else S.g l := by rw [hgu]
                rw [hgl]
                split
                · trivial
                · rename_i hnl
                  split
                  · trivial
                  · exact (K.at_ l).later L (fun p k hk => ⟨keep k _ hk (fun l' h' => by cases h'; exact hnl), rfl⟩)
            refine ⟨_, K', rfl, rfl, rfl, L, fun n q z v hz => hz.later L (fun k hk => ⟨keep k _ hk (by simp), rfl⟩), _, hrun, ?_⟩
            rw [← mkW_same hst.1 hy]
            refine r2.impAt (fun n _ h2 z u hz => hz.later L (fun k hk => ⟨cellH_in hk (by omega), rfl⟩))
    · cases h
  · cases h

def ptrLast : List (RK × Ty) → Bool
  | [] => true
  | (.ptr, _) :: ks => ks.isEmpty
  | _ :: ks => ptrLast ks

theorem ResOk.keep {P : Program} {n0 i : Nat} {k : RK} {l : List Lf} {u : Value} (hk : k ≠ .ptr) (hi : ∀ q z v, LfOk P S1 (.tm i q) z v → LfOk P S2 (.tm i q) z v) (h : ResOk P S1 n0 i k l u) : ResOk P S2 n0 i k l u := by
  cases k with
  | one => exact LfsOk.impM (fun x hx n u h => hi _ _ u h) h
  | agg =>
    obtain ⟨us, e, h⟩ := h
    exact ⟨us, e, h.impM (fun x hx n u h => hi _ _ u h)⟩
  | ptr => exact absurd rfl hk

/-- All results. -/
theorem resL_ok (hE : EnOk X E) (hb0 : ∀ k b, X.O0 k = .bx b → b < X.np) : ∀ (rs : List (RK × Ty)) (rv : List ResultVar) {S : Sit} {A : Ab} {ls ls' : List (List Lf)} {us : List Up} (i : Nat), Okay X S a → S.g = get A → ptrLast rs = true → resL E A rs rv = some (ls, us) → Mk (rs.map Prod.snd) ls ls' →
    ∃ S' vs, Okay X S' a ∧ S'.g = get (ups A us) ∧ S'.w = S.w ∧ Later S S' ∧ (∀ n q z v, n < i → LfOk X.P S (.tm n q) z v → LfOk X.P S' (.tm n q) z v) ∧ ResAll X.P S' X.w0.heap.size i rs ls' vs ∧ All2 (fun r v => (resRun a r).run X.P S.w = .ok v S.w) rv vs
  | [], [], S, A, ls, ls', us, i, K, hg, _, h, hm => by
    simp only [resL, Option.some.injEq, Prod.mk.injEq] at h
    obtain ⟨rfl, rfl⟩ := h
    refine ⟨S, [], K, hg, rfl, .refl S, fun _ _ _ _ _ h => h, ?_, .nil⟩
    cases ls' with
    | nil => rfl
    | cons => exact hm.elim
  | [], _ :: _, S, A, ls, ls', us, i, K, hg, _, h, hm => by simp [resL] at h
  | (k, t) :: ks, [], S, A, ls, ls', us, i, K, hg, _, h, hm => by cases k <;> simp [resL] at h
  | (k, t) :: ks, r :: rs, S, A, ls, ls', us, i, K, hg, hpl, h, hm => by
    -- a result that was shown, and the rest
    have rest : ∀ {l : List Lf} {u : List Up} {ls2 : List (List Lf)} {us2 : List Up} {S1 : Sit} {y : t.den} {v : Value}, mkW t l = some y → Okay X S1 a → S1.g = get (ups A u) → S1.w = S.w → Later S S1 → (∀ n q z v, n ≠ i → LfOk X.P S (.tm n q) z v → LfOk X.P S1 (.tm n q) z v) →
        ResOk X.P S1 X.w0.heap.size i k (leaves t y) v → (resRun a r).run X.P S.w = .ok v S.w → resL E (ups A u) ks rs = some (ls2, us2) → (∃ ls2', ls' = leaves t y :: ls2' ∧ Mk (ks.map Prod.snd) ls2 ls2') → us = u ++ us2 →
        ∃ S' vs, Okay X S' a ∧ S'.g = get (ups A us) ∧ S'.w = S.w ∧ Later S S' ∧ (∀ n q z v, n < i → LfOk X.P S (.tm n q) z v → LfOk X.P S' (.tm n q) z v) ∧ ResAll X.P S' X.w0.heap.size i ((k, t) :: ks) ls' vs ∧ All2 (fun r v => (resRun a r).run X.P S.w = .ok v S.w) (r :: rs) vs := by
      intro l u ls2 us2 S1 y v hy K1 g1 w1 L1 t1 hres hrun hr2 hmk hus
      obtain ⟨ls2', rfl, hmk⟩ := hmk
      subst hus
      by_cases hk : k = .ptr
      · subst hk
        have hks : ks = [] := by simpa [ptrLast] using hpl
        subst hks
        cases rs with
        | cons => simp [resL] at hr2
        | nil =>
          simp only [resL, Option.some.injEq, Prod.mk.injEq] at hr2
          obtain ⟨rfl, rfl⟩ := hr2
          have : ls2' = [] := by cases ls2' with | nil => rfl | cons => exact hmk.elim
          subst this
          exact ⟨S1, [v], K1, by rw [List.append_nil]; exact g1, w1, L1, fun n q z v hn => t1 n q z v (by omega), ⟨hres, rfl⟩, .cons hrun .nil⟩
      · have hpl' : ptrLast ks = true := by cases k <;> first | exact hpl | exact absurd rfl hk
        obtain ⟨S', vs, K', g', w', L', t', hall, hruns⟩ := resL_ok hE hb0 ks rs (i + 1) K1 g1 hpl' hr2 hmk
        refine ⟨S', v :: vs, K', by rw [ups_append]; exact g', w'.trans w1, L1.trans L', fun n q z v hn hz => t' n q z v (by omega) (t1 n q z v (by omega) hz), ⟨hres.keep hk (fun q z v => t' i q z v (by omega)), hall⟩, .cons hrun ?_⟩
        rw [w1] at hruns
        exact hruns
    cases ls' with
    | nil => cases ls <;> exact hm.elim
    | cons l' ls2' =>
      cases ls with
      | nil => exact hm.elim
      | cons l ls2 =>
        obtain ⟨⟨y, hy, rfl⟩, hmk⟩ := hm
        cases r with
        | tmp x =>
          have h' : (bif Nat.blt x E.nt then (match resOf E.np A k t (.tmp x) (get A x).2 with
            | some (l, u) => (match resL E (ups A u) ks rs with
              | some (ls, us) => some (l :: ls, u ++ us)
              | none => none)
            | none => none) else none) = some (l :: ls2, us) := by
            unfold resL at h
            cases k <;> exact h
          cases hx : Nat.blt x E.nt with
          | false => rw [hx] at h'; simp at h'
          | true =>
            rw [hx, cond_true] at h'
            split at h'
            · rename_i l1 u1 hr1
              split at h'
              · rename_i l2 u2 hr2
                simp only [Option.some.injEq, Prod.mk.injEq, List.cons.injEq] at h'
                obtain ⟨⟨rfl, rfl⟩, rfl⟩ := h'
                by_cases hk : k = .ptr
                · subst hk
                  obtain ⟨S1, K1, g1, w1, p1, L1, t1, hres⟩ := res_ptr hE K hg hb0 hx i hr1 hy
                  exact rest hy K1 g1 w1 L1 (fun n q z v _ => t1 n q z v) hres rfl hr2 ⟨ls2', rfl, hmk⟩ rfl
                · obtain ⟨S1, K1, g1, w1, b1, p1, L1, t1, vs, e1, e2⟩ := res_val hE K hg hx i hk hr1 hy
                  refine rest hy K1 g1 w1 L1 t1 ?_ (v := a.eval (.tmp x)) rfl hr2 ⟨ls2', rfl, hmk⟩ rfl
                  cases k with
                  | ptr => exact absurd rfl hk
                  | one =>
                    simp only [isAggK, Bool.false_eq_true, if_false] at e1 e2
                    subst e1
                    exact e2
                  | agg =>
                    simp only [isAggK, if_true] at e1 e2
                    exact ⟨vs, e1, e2⟩
              · cases h'
            · cases h'
        | cell x T =>
          cases k with
          | one => simp [resL] at h
          | ptr => simp [resL] at h
          | agg =>
            unfold resL at h
            cases hx : Nat.blt x E.nt with
            | false => rw [hx] at h; simp at h
            | true =>
              cases hT : E.ti T with
              | none => rw [hT] at h; simp at h
              | some ti =>
                cases hag : ti.ag && Nat.beq ti.ty.sz t.sz with
                | false => rw [hT, hx] at h; simp [hag] at h
                | true =>
                  rw [hT, hx] at h
                  simp only [hag, Bool.and_self, cond_true] at h
                  simp only [Bool.and_eq_true] at hag
                  split at h
                  · rename_i l1 u1 hr1
                    split at h
                    · rename_i l2 u2 hr2
                      simp only [Option.some.injEq, Prod.mk.injEq, List.cons.injEq] at h
                      obtain ⟨⟨rfl, rfl⟩, rfl⟩ := h
                      obtain ⟨S1, K1, g1, w1, p1, L1, t1, vs, hrun, e2⟩ := res_cell hE K hg hx hT hag.1 (Nat.eq_of_beq_eq_true hag.2) i hr1 hy
                      exact rest hy K1 g1 w1 L1 (fun n q z v _ => t1 n q z v) ⟨vs, rfl, e2⟩ hrun hr2 ⟨ls2', rfl, hmk⟩ rfl
                    · cases h
                  · cases h

/-- What goes back by the pointers. -/
theorem ptrL_ok (hE : EnOk X E) : ∀ (ps : List Par) {S : Sit} {A : Ab} {ls ls' la : List (List Lf)} {us : List Value} (i : Nat), Okay X S a → S.g = get A → i + ps.length = X.np → ptrL A i ps = some ls → Mk (ptrOuts ps) ls ls' →
    (∀ k b, X.O0 k = .bx b → ∀ k', X.O0 k' = .bx b → k' = k) → ArgsOk X.P (bare X.O0 X.w0) X.rg i ps la us →
    ∃ S', Okay X S' a ∧ S'.w = S.w ∧ Later S S' ∧ (∀ n q k, S.O k = .tm n q → S'.O k = .tm n q) ∧ Backs X.P S' i ps us ls'
  | [], S, A, ls, ls', la, us, i, K, hg, hn, h, hm, hu, ha => ⟨S, K, rfl, .refl S, fun _ _ _ h => h, trivial⟩
  | .val ag t :: ps, S, A, ls, ls', la, us, i, K, hg, hn, h, hm, hu, ha => by
    cases la with
    | nil => exact ha.elim
    | cons l0 la =>
      cases us with
      | nil => exact ha.elim
      | cons u us =>
        simp only [List.length_cons] at hn
        exact ptrL_ok hE ps (i + 1) K hg (by omega) h hm hu ha.2
  | .ptr t t' :: ps, S, A, ls, ls', la, us, i, K, hg, hn, h, hm, hu, ha => by
    cases la with
    | nil => exact ha.elim
    | cons l0 la =>
      cases us with
      | nil => exact ha.elim
      | cons u us =>
        simp only [List.length_cons] at hn
        obtain ⟨ha1, ha2⟩ := ha
        unfold ptrL at h
        split at h
        · rename_i n m hp
          cases hq : (Nat.beq m t.sz && Nat.beq m t'.sz && noOw t' && storable ((cellsOf A i 0 m).map (kept A))) with
          | false => rw [hq] at h; simp at h
          | true =>
            rw [hq, cond_true] at h
            split at h
            · rename_i ls2 h2
              cases h
              simp only [Bool.and_eq_true] at hq
              obtain ⟨⟨⟨q1, q2⟩, q3⟩, q4⟩ := hq
              have hm1 : m = t.sz := Nat.eq_of_beq_eq_true q1
              have hm2 : m = t'.sz := Nat.eq_of_beq_eq_true q2
              cases ls' with
              | nil => exact hm.elim
              | cons l' ls2' =>
                obtain ⟨⟨y, hy, rfl⟩, hmk⟩ := hm
                have hh : (S.g (H i)).2 = .one (.hd m) := by rw [hg, hp]
                obtain ⟨S1, K1, g1, E1, F1, P1⟩ := costs_ok (X := X) (a := a) (A := A) (cellsOf A i 0 m) K hg (fun p => .inl rfl)
                obtain ⟨c1, c2, c3⟩ := cellsOf_ok K hg i m 0
                have hkept := kept_ok K hg K1 E1 P1 (fun _ => .fz) (fun n k hk => (E1.later.fz k hk).1) (cellsOf A i 0 m) (fun _ h => h) 0 _ (c3 (fun _ => .fz) 0)
                have hrep := rep_of_noOwn q4 (kept_noOwn _ c2) hkept
                obtain ⟨S2, K2, w2, L2, t2, b2⟩ := ptrL_ok hE ps (i + 1) K1 g1 (by omega) h2 hmk hu ha2
                obtain ⟨hm9, c, e, e1, e2, e3, e4⟩ := K.box i m hh
                obtain ⟨r1, r2⟩ := K.rgn i m hh
                obtain ⟨r3, r4, r5⟩ := r1 (r2 (by omega))
                obtain ⟨k, o, c0, e0, vs, rfl, f2, f3, f4, f5, f6, f7, f8, f9⟩ := ha1
                have hk : (S.bb i).1 = k := hu k i f3 _ r3
                rw [f4] at r4 r5
                simp only at r4 r5
                have ho : (S.bb i).2 = o := by omega
                refine ⟨S2, K2, w2.trans E1.w, E1.later.trans L2, fun n q k hk => t2 n q k (E1.tm n q k hk), ⟨k, o, c, e, (List.range m).map (fun j => S.ph (C i (0 + j))), rfl, ?_, by rw [leaves_len], fun j hj => ?_, ?_⟩, b2⟩
                · rw [w2, E1.w, ← hk]; exact e1
                · rw [← hm2] at hj
                  rw [← ho, e4 j hj]
                  simp [hj]
                · have h3 := shared_arg (S := S1) (G := fun k => S1.O k = .fz) (fun k hk => hk) hy q3 hrep (fun j => .pl (C i j) []) 0
                  refine h3.impM (fun z hz n u hu => ?_)
                  rw [noOw_leaves t' y q3] at hz
                  have hno : z.isOwn = false := by
                    have hlv := lvs_rep (P := X.P) (G := fun k => S1.O k = .fz) (w := S1.w) t' y _ (mkW_rep hy hrep)
                    have h4 := rep_noOwn hlv
                    cases z <;> first | rfl | skip
                    exfalso
                    rename_i e r xs
                    clear hlv h3 hu
                    revert h4 hz
                    generalize lvs t' y = ll
                    intro h4 hz
                    induction ll with
                    | nil => simp at hz
                    | cons a l ih =>
                      rcases List.mem_cons.1 hz with rfl | hz
                      · simp [ownIn] at h4
                      · exact ih (by cases a <;> first | (simp [ownIn] at h4; done) | simpa [ownIn] using h4) hz
                  exact (LfOk.relab (lab' := .fz) hno hu).later (lab' := .fz) L2 (fun k hk => ⟨(L2.fz k hk).1, (L2.fz k hk).2⟩) |>.relab hno
            · cases h
        · cases h
end
end Go.Proofs.Ytehkignjdbkeiaa.Vf
