import Derived.Test.YtehkignjdbkeiaaMag
section
/- A function's end: results that stand in boxes; all results; what goes back by pointers. -/
set_option linter.unusedVariables false
set_option linter.unusedSimpArgs false
namespace Go.Proofs.Ytehkignjdbkeiaa.Vf
open Go
attribute [local irreducible] C H

theorem run_loadVar {P : Program} {w : World} {T : TypeId} {t : TI} {k o' : Nat} {cs : List Value} (ht : TOk P T t) (ha : t.ag = true) (hc : CellsAt w k o' cs) (hl : cs.length = t.ty.sz) :
    (loadVar T ⟨k, o', none⟩).run P w = .ok (.agg cs.toArray) w := by
  obtain ⟨d, hd, hagg⟩ := tok_agg ht
  rw [ha] at hagg
  have hc' : ∀ j v, cs[j]? = some v → w.cell? (Addr.add ⟨k, o', none⟩ j) = some v := fun j v hj => by rw [add_none]; exact hc j v hj
  have hlc := run_loadCells_list (P := P) w ⟨k, o', none⟩ cs hc'
  simp only [Sem.run_bind, Sem.run_pure, Result.andThen_ok, loadVar, isAgg_of hd hagg, if_true, info_size (tok_size ht), ← hl, hlc]

def resRun (a : Act) : ResultVar → Sem Value
  | .tmp t => pure (a.tmps.getD t undef)
  | .cell x t => do loadVar t (← asAddr (a.tmps.getD x undef))

def cellH (b m i : Nat) (O : Nat → Lab) : Nat → Lab := fun k => match O k with
  | .pl l [] => if C b 0 ≤ l ∧ l < C b 0 + m then .tm i [l - C b 0] else .pl l []
  | o => o

theorem cellH_other {b m i k : Nat} {O : Nat → Lab} {o : Lab} (h : O k = o) (ho : ∀ l, o = .pl l [] → ¬ (C b 0 ≤ l ∧ l < C b 0 + m)) : cellH b m i O k = o := by
  unfold cellH
  rw [h]
  cases o <;> first | rfl | skip
  rename_i l p
  cases p with
  | nil => exact if_neg (ho l rfl)
  | cons => rfl

theorem cellH_in {b m i k j : Nat} {O : Nat → Lab} (h : O k = .pl (C b j) []) (hj : j < m) : cellH b m i O k = .tm i [j] := by
  unfold cellH
  rw [h]
  have h1 : C b 0 ≤ C b j ∧ C b j < C b 0 + m := by unfold C; omega
  simp only
  rw [if_pos h1]
  have : C b j - C b 0 = j := by unfold C; omega
  rw [this]

section
variable {X : Cx} {S S1 S2 : Sit} {a : Act} {E : En} {A : Ab}

theorem rawOf_ok (K : Okay X S a) (hg : S.g = get A) (b : Nat) : ∀ (n j : Nat), storable (rawOf A b j n) = true → (rawOf A b j n).length = n ∧ LfsOk X.P S (fun i => .pl (C b i) []) j (rawOf A b j n) ((List.range n).map fun i => S.ph (C b (j + i)))
  | 0, j, _ => ⟨rfl, trivial⟩
  | n + 1, j, h => by
    have hat := K.at_ (C b j)
    rw [hg] at hat
    have hr : (List.range (n + 1)).map (fun i => S.ph (C b (j + i))) = S.ph (C b j) :: (List.range n).map (fun i => S.ph (C b (j + 1 + i))) := by
      rw [List.range_succ_eq_map, List.map_cons, List.map_map, Nat.add_zero]
      congr 1
      apply List.map_congr_left
      intro i _
      show S.ph (C b (j + (i + 1))) = _
      rw [show j + (i + 1) = j + 1 + i by omega]
    rw [hr]
    unfold rawOf at h ⊢
    split at h
    · rename_i v x hp
      rw [hp] at hat
      have h2 : storable (rawOf A b (j + 1) n) = true := by cases x <;> first | (simp [storable] at h; done) | simpa [storable] using h
      obtain ⟨h3, h4⟩ := rawOf_ok K hg b n (j + 1) h2
      exact ⟨by simp [h3], hat, h4⟩
    · simp [storable] at h

theorem gput_dead (g : Nat → Nat × Sv) (b m : Nat) (p : Nat) : gput g b 0 (List.replicate m .dead) p = if C b 0 ≤ p ∧ p < C b 0 + m then ((g p).1 + 1, .one .dead) else g p := by
  unfold gput
  rw [List.length_replicate]
  split
  · rename_i h
    congr 2
    rw [List.getD_eq_getElem?_getD, List.getElem?_replicate]
    split <;> rfl
  · rfl

/-- A result that stands in a box. -/
theorem res_cell (hE : EnOk X E) (K : Okay X S a) (hg : S.g = get A) {x : Nat} (hx : Nat.blt x E.nt = true) {T : TypeId} {ti : TI} (hT : E.ti T = some ti) (hag : ti.ag = true) {t : Ty} (hsz : ti.ty.sz = t.sz) {l : List Lf} {us : List Up} (i : Nat)
    (h : resCell E.np A t (get A x).2 = some (l, us)) {y : t.den} (hy : mkW t l = some y) :
    ∃ S', Okay X S' a ∧ S'.g = get (ups A us) ∧ S'.w = S.w ∧ S'.ph = S.ph ∧ Later S S' ∧ (∀ n q z v, LfOk X.P S (.tm n q) z v → LfOk X.P S' (.tm n q) z v) ∧
      ∃ vs, (resRun a (.cell x T)).run X.P S.w = .ok (.agg vs.toArray) S.w ∧ LfsOk X.P S' (fun n => .tm i [n]) 0 (leaves t y) vs := by
  have hop : opT E 0 A (.tmp x) = some (get A x).2 := by show (bif Nat.blt x E.nt then some (get A x).2 else none) = _; rw [hx]; rfl
  unfold resCell at h
  split at h
  · rename_i b v hs
    rw [hs] at hop
    split at h
    · rename_i n m hp
      cases hq : (Nat.beq n v && Nat.beq m t.sz && Nat.ble E.np b) with
      | false => rw [hq] at h; simp at h
      | true =>
        rw [hq] at h
        simp only [cond_true] at h
        simp only [Bool.and_eq_true] at hq
        obtain ⟨⟨q1, q2⟩, q3⟩ := hq
        have hnv : n = v := Nat.eq_of_beq_eq_true q1
        have hm : m = t.sz := Nat.eq_of_beq_eq_true q2
        subst hnv
        obtain ⟨pl, hl⟩ := opT_ex hE K hg hop
        have hlf : LfOk X.P S (.pl pl []) (.bp b n 0) (a.eval (.tmp x)) := hl
        have hu := hlf.2 (by rw [hg, hp])
        have hh : (S.g (H b)).2 = .one (.hd m) := by rw [hg, hp]
        obtain ⟨hm9, c, e, e1, e2, e3, e4⟩ := K.box b m hh
        have hcells : CellsAt S.w (S.bb b).1 (S.bb b).2 ((List.range m).map fun i => S.ph (C b (0 + i))) := by
          intro j u hj
          have hj' : j < m := by
            have := (List.getElem?_eq_some_iff.1 hj).1
            simpa using this
          have : u = S.ph (C b j) := by simpa [hj'] using hj.symm
          rw [this]
          simp [World.cell?, e1, e4 j hj']
        have hrun : (resRun a (.cell x T)).run X.P S.w = .ok (.agg ((List.range m).map fun i => S.ph (C b (0 + i))).toArray) S.w := by
          have hu' : a.tmps.getD x undef = .pointer (some ⟨(S.bb b).1, (S.bb b).2 + 0, none⟩) := hu
          unfold resRun
          simp only [hu', asAddr, Sem.run_bind, Sem.run_pure, Result.andThen_ok, Nat.add_zero]
          exact run_loadVar (hE.ti T ti hT) hag hcells (by rw [hsz, ← hm]; simp)
        cases hno : noOw t with
        | true =>
          rw [hno, cond_true] at h
          cases hst : storable ((cellsOf A b 0 m).map (kept A)) with
          | false => rw [hst] at h; simp at h
          | true =>
            rw [hst] at h
            simp only [cond_true, Option.some.injEq, Prod.mk.injEq] at h
            obtain ⟨rfl, rfl⟩ := h
            obtain ⟨S1, K1, g1, E1, F1, P1⟩ := costs_ok (X := X) (a := a) (A := A) (cellsOf A b 0 m) K hg (fun p => .inl rfl)
            obtain ⟨c1, c2, c3⟩ := cellsOf_ok K hg b m 0
            have hkept := kept_ok K hg K1 E1 P1 (fun _ => .fz) (fun n k hk => (E1.later.fz k hk).1) (cellsOf A b 0 m) (fun _ h => h) 0 _ (c3 (fun _ => .fz) 0)
            have hrep := rep_of_noOwn hst (kept_noOwn _ c2) hkept
            exact ⟨S1, K1, g1, E1.w, E1.ph, E1.later, fun n q z v hz => hz.later E1.later (fun k hk => ⟨E1.tm n q k hk, by rw [E1.w]⟩), _, hrun, shared_arg (G := fun k => S1.O k = .fz) (fun k hk => hk) hy hno hrep _ _⟩
        | false =>
          rw [hno, cond_false] at h
          cases hst : (noSl t && storable (rawOf A b 0 m)) with
          | false => rw [hst] at h; simp at h
          | true =>
            rw [hst] at h
            simp only [cond_true, Option.some.injEq, Prod.mk.injEq] at h
            obtain ⟨rfl, rfl⟩ := h
            simp only [Bool.and_eq_true] at hst
            obtain ⟨r1, r2⟩ := rawOf_ok K hg b m 0 hst.2
            have hgu : get (ups A (⟨H b, true, .one .dead⟩ :: putCells b 0 (List.replicate m .dead))) = fun p => if C b 0 ≤ p ∧ p < C b 0 + m then ((S.g p).1 + 1, .one .dead) else if p = H b then ((S.g p).1, .one .dead) else S.g p := by
              show get (ups (up A ⟨H b, true, .one .dead⟩) (putCells b 0 (List.replicate m .dead))) = _
              rw [get_putCells]
              funext p
              rw [gput_dead, get_up, ← hg]
              by_cases h1 : C b 0 ≤ p ∧ p < C b 0 + m
              · rw [if_pos h1, if_pos h1]
                have : p ≠ H b := fun e => heads_apart (b := b) (b' := b) (off := 0) (n := m) (by omega) (by rw [← e]; exact h1)
                rw [upd_ne _ _ this]
              · rw [if_neg h1, if_neg h1]
                by_cases h2 : p = H b
                · subst h2; rw [upd_same, if_pos rfl]; rfl
                · rw [upd_ne _ _ h2, if_neg h2]
            have L : Later S { S with O := cellH b m i S.O, g := get (ups A (⟨H b, true, .one .dead⟩ :: putCells b 0 (List.replicate m .dead))) } := by
              refine ⟨fun p => ?_, fun _ _ => rfl, fun p v e r xs' hp hv => ?_, fun _ _ => rfl, fun k hk => ⟨cellH_other hk (by simp), rfl⟩, fun p hv hd => ?_⟩
              · rw [hgu]; simp only; split
                · simp
                · split <;> simp
              · have hp' : get (ups A (⟨H b, true, .one .dead⟩ :: putCells b 0 (List.replicate m .dead))) p = (v, .one (.own e r xs')) := hp
                rw [hgu] at hp'
                simp only at hp'
                split at hp'
                · cases hp'
                · split at hp'
                  · cases hp'
                  · exact ⟨xs', hp', rfl⟩
              · have hgp : get (ups A (⟨H b, true, .one .dead⟩ :: putCells b 0 (List.replicate m .dead))) p = if C b 0 ≤ p ∧ p < C b 0 + m then ((S.g p).1 + 1, .one .dead) else if p = H b then ((S.g p).1, .one .dead) else S.g p := by rw [hgu]
                have hv' : (get (ups A (⟨H b, true, .one .dead⟩ :: putCells b 0 (List.replicate m .dead))) p).1 = (S.g p).1 := hv
                rw [hgp] at hv'
                have h1 : ¬ (C b 0 ≤ p ∧ p < C b 0 + m) := fun h => by rw [if_pos h] at hv'; simp at hv'
                have h2 : p ≠ H b := fun e => by subst e; rw [hh] at hd; simp [deepS, deepL] at hd
                rw [if_neg h1, if_neg h2] at hgp
                show deepS (get (ups A (⟨H b, true, .one .dead⟩ :: putCells b 0 (List.replicate m .dead))) p).2 = true ∧ (∀ E R XS, (get (ups A (⟨H b, true, .one .dead⟩ :: putCells b 0 (List.replicate m .dead))) p).2 = .one (.own E R XS) → _) ∧ _
                rw [hgp]
                exact ⟨hd, fun _ _ _ h => h, fun k hk => ⟨.inl (cellH_other hk (fun l h' => by cases h'; exact h1)), rfl⟩⟩
            have keep : ∀ k o, S.O k = o → (∀ l, o = .pl l [] → ¬ (C b 0 ≤ l ∧ l < C b 0 + m)) → cellH b m i S.O k = o := fun k o h1 h2 => cellH_other h1 h2
            have K' : Okay X { S with O := cellH b m i S.O, g := get (ups A (⟨H b, true, .one .dead⟩ :: putCells b 0 (List.replicate m .dead))) } a := by
              refine K.ghost _ _ (fun k hk => keep k _ hk (by simp)) (fun k h1 h2 => h1 (keep k _ h2 (by simp))) (fun k hk => keep k _ hk (by simp)) (fun k b' hk => keep k _ hk (by simp)) (fun b' n' hb' => ?_) (fun l => ?_)
              · rw [hgu] at hb'
                simp only at hb'
                split at hb'
                · cases hb'
                · split at hb'
                  · cases hb'
                  · exact hb'
              · have hgl : get (ups A (⟨H b, true, .one .dead⟩ :: putCells b 0 (List.replicate m .dead))) l = if C b 0 ≤ l ∧ l < C b 0 + m then ((S.g l).1 + 1, .one .dead) else if l = H b then ((S.g l).1, .one .dead) else S.g l := by rw [hgu]
                rw [hgl]
                split
                · trivial
                · rename_i hnl
                  split
                  · trivial
                  · exact (K.at_ l).later L (fun p k hk => ⟨keep k _ hk (fun l' h' => by cases h'; exact hnl), rfl⟩)
            refine ⟨_, K', rfl, rfl, rfl, L, fun n q z v hz => hz.later L (fun k hk => ⟨keep k _ hk (by simp), rfl⟩), _, hrun, ?_⟩
            refine mkW_lfs hst.1 hy ?_
            refine r2.impAt (fun n _ h2 z u hz => hz.later L (fun k hk => ⟨cellH_in hk (by omega), rfl⟩))
    · cases h
  · cases h

def ptrLast : List (RK × Ty) → Bool
  | [] => true
  | (.ptr, _) :: ks => ks.isEmpty
  | _ :: ks => ptrLast ks

theorem ResOk.keep {P : Program} {n0 i : Nat} {k : RK} {l : List Lf} {u : Value} (hk : k ≠ .ptr) (hi : ∀ q z v, LfOk P S1 (.tm i q) z v → LfOk P S2 (.tm i q) z v) (h : ResOk P S1 n0 i k l u) : ResOk P S2 n0 i k l u := by
  cases k with
  | one => exact LfsOk.impM (fun x hx n u h => hi _ _ u h) h
  | agg =>
    obtain ⟨us, e, h⟩ := h
    exact ⟨us, e, h.impM (fun x hx n u h => hi _ _ u h)⟩
  | ptr => exact absurd rfl hk

/-- All results. -/
theorem resL_ok (hE : EnOk X E) (hb0 : ∀ k b, X.O0 k = .bx b → b < X.np) : ∀ (rs : List (RK × Ty)) (rv : List ResultVar) {S : Sit} {A : Ab} {ls ls' : List (List Lf)} {us : List Up} (i : Nat), Okay X S a → S.g = get A → ptrLast rs = true → resL E A rs rv = some (ls, us) → Mk (rs.map Prod.snd) ls ls' →
    ∃ S' vs, Okay X S' a ∧ S'.g = get (ups A us) ∧ S'.w = S.w ∧ Later S S' ∧ (∀ n q z v, n < i → LfOk X.P S (.tm n q) z v → LfOk X.P S' (.tm n q) z v) ∧ ResAll X.P S' X.w0.heap.size i rs ls' vs ∧ All2 (fun r v => (resRun a r).run X.P S.w = .ok v S.w) rv vs
  | [], [], S, A, ls, ls', us, i, K, hg, _, h, hm => by
    simp only [resL, Option.some.injEq, Prod.mk.injEq] at h
    obtain ⟨rfl, rfl⟩ := h
    refine ⟨S, [], K, hg, rfl, .refl S, fun _ _ _ _ _ h => h, ?_, .nil⟩
    cases ls' with
    | nil => rfl
    | cons => exact hm.elim
  | [], _ :: _, S, A, ls, ls', us, i, K, hg, _, h, hm => by simp [resL] at h
  | (k, t) :: ks, [], S, A, ls, ls', us, i, K, hg, _, h, hm => by cases k <;> simp [resL] at h
  | (k, t) :: ks, r :: rs, S, A, ls, ls', us, i, K, hg, hpl, h, hm => by
    -- a result that was shown, and the rest
    have rest : ∀ {l : List Lf} {u : List Up} {ls2 : List (List Lf)} {us2 : List Up} {S1 : Sit} {y : t.den} {v : Value}, mkW t l = some y → Okay X S1 a → S1.g = get (ups A u) → S1.w = S.w → Later S S1 → (∀ n q z v, n ≠ i → LfOk X.P S (.tm n q) z v → LfOk X.P S1 (.tm n q) z v) →
        ResOk X.P S1 X.w0.heap.size i k (leaves t y) v → (resRun a r).run X.P S.w = .ok v S.w → resL E (ups A u) ks rs = some (ls2, us2) → (∃ ls2', ls' = leaves t y :: ls2' ∧ Mk (ks.map Prod.snd) ls2 ls2') → us = u ++ us2 →
        ∃ S' vs, Okay X S' a ∧ S'.g = get (ups A us) ∧ S'.w = S.w ∧ Later S S' ∧ (∀ n q z v, n < i → LfOk X.P S (.tm n q) z v → LfOk X.P S' (.tm n q) z v) ∧ ResAll X.P S' X.w0.heap.size i ((k, t) :: ks) ls' vs ∧ All2 (fun r v => (resRun a r).run X.P S.w = .ok v S.w) (r :: rs) vs := by
      intro l u ls2 us2 S1 y v hy K1 g1 w1 L1 t1 hres hrun hr2 hmk hus
      obtain ⟨ls2', rfl, hmk⟩ := hmk
      subst hus
      by_cases hk : k = .ptr
      · subst hk
        have hks : ks = [] := by simpa [ptrLast] using hpl
        subst hks
        cases rs with
        | cons => simp [resL] at hr2
        | nil =>
          simp only [resL, Option.some.injEq, Prod.mk.injEq] at hr2
          obtain ⟨rfl, rfl⟩ := hr2
          have : ls2' = [] := by cases ls2' with | nil => rfl | cons => exact hmk.elim
          subst this
          exact ⟨S1, [v], K1, by rw [List.append_nil]; exact g1, w1, L1, fun n q z v hn => t1 n q z v (by omega), ⟨hres, rfl⟩, .cons hrun .nil⟩
      · have hpl' : ptrLast ks = true := by cases k <;> first | exact hpl | exact absurd rfl hk
        obtain ⟨S', vs, K', g', w', L', t', hall, hruns⟩ := resL_ok hE hb0 ks rs (i + 1) K1 g1 hpl' hr2 hmk
        refine ⟨S', v :: vs, K', by rw [ups_append]; exact g', w'.trans w1, L1.trans L', fun n q z v hn hz => t' n q z v (by omega) (t1 n q z v (by omega) hz), ⟨hres.keep hk (fun q z v => t' i q z v (by omega)), hall⟩, .cons hrun ?_⟩
        rw [w1] at hruns
        exact hruns
    cases ls' with
    | nil => cases ls <;> exact hm.elim
    | cons l' ls2' =>
      cases ls with
      | nil => exact hm.elim
      | cons l ls2 =>
        obtain ⟨⟨y, hy, rfl⟩, hmk⟩ := hm
        cases r with
        | tmp x =>
          have h' : (bif Nat.blt x E.nt then (match resOf E.np A k t (.tmp x) (get A x).2 with
            | some (l, u) => (match resL E (ups A u) ks rs with
              | some (ls, us) => some (l :: ls, u ++ us)
              | none => none)
            | none => none) else none) = some (l :: ls2, us) := by
            unfold resL at h
            cases k <;> exact h
          cases hx : Nat.blt x E.nt with
          | false => rw [hx] at h'; simp at h'
          | true =>
            rw [hx, cond_true] at h'
            split at h'
            · rename_i l1 u1 hr1
              split at h'
              · rename_i l2 u2 hr2
                simp only [Option.some.injEq, Prod.mk.injEq, List.cons.injEq] at h'
                obtain ⟨⟨rfl, rfl⟩, rfl⟩ := h'
                by_cases hk : k = .ptr
                · subst hk
                  obtain ⟨S1, K1, g1, w1, p1, L1, t1, hres⟩ := res_ptr hE K hg hb0 hx i hr1 hy
                  exact rest hy K1 g1 w1 L1 (fun n q z v _ => t1 n q z v) hres rfl hr2 ⟨ls2', rfl, hmk⟩ rfl
                · obtain ⟨S1, K1, g1, w1, b1, p1, L1, t1, vs, e1, e2⟩ := res_val hE K hg hx i hk hr1 hy
                  refine rest hy K1 g1 w1 L1 t1 ?_ (v := a.eval (.tmp x)) rfl hr2 ⟨ls2', rfl, hmk⟩ rfl
                  cases k with
                  | ptr => exact absurd rfl hk
                  | one =>
                    simp only [isAggK, Bool.false_eq_true, if_false] at e1 e2
                    subst e1
                    exact e2
                  | agg =>
                    simp only [isAggK, if_true] at e1 e2
                    exact ⟨vs, e1, e2⟩
              · cases h'
            · cases h'
        | cell x T =>
          cases k with
          | one => simp [resL] at h
          | ptr => simp [resL] at h
          | agg =>
            unfold resL at h
            cases hx : Nat.blt x E.nt with
            | false => rw [hx] at h; simp at h
            | true =>
              cases hT : E.ti T with
              | none => rw [hT] at h; simp at h
              | some ti =>
                cases hag : ti.ag && Nat.beq ti.ty.sz t.sz with
                | false => rw [hT, hx] at h; simp [hag] at h
                | true =>
                  rw [hT, hx] at h
                  simp only [hag, Bool.and_self, cond_true] at h
                  simp only [Bool.and_eq_true] at hag
                  split at h
                  · rename_i l1 u1 hr1
                    split at h
                    · rename_i l2 u2 hr2
                      simp only [Option.some.injEq, Prod.mk.injEq, List.cons.injEq] at h
                      obtain ⟨⟨rfl, rfl⟩, rfl⟩ := h
                      obtain ⟨S1, K1, g1, w1, p1, L1, t1, vs, hrun, e2⟩ := res_cell hE K hg hx hT hag.1 (Nat.eq_of_beq_eq_true hag.2) i hr1 hy
                      exact rest hy K1 g1 w1 L1 (fun n q z v _ => t1 n q z v) ⟨vs, rfl, e2⟩ hrun hr2 ⟨ls2', rfl, hmk⟩ rfl
                    · cases h
                  · cases h

/-- What goes back by the pointers. -/
theorem ptrL_ok (hE : EnOk X E) : ∀ (ps : List Par) {S : Sit} {A : Ab} {ls ls' la : List (List Lf)} {us : List Value} (i : Nat), Okay X S a → S.g = get A → i + ps.length = X.np → ptrL A i ps = some ls → Mk (ptrOuts ps) ls ls' →
    (∀ k b, X.O0 k = .bx b → ∀ k', X.O0 k' = .bx b → k' = k) → ArgsOk X.P (bare X.O0 X.w0) X.rg i ps la us →
    ∃ S', Okay X S' a ∧ S'.w = S.w ∧ Later S S' ∧ (∀ n q k, S.O k = .tm n q → S'.O k = .tm n q) ∧ Backs X.P S' i ps us ls'
  | [], S, A, ls, ls', la, us, i, K, hg, hn, h, hm, hu, ha => ⟨S, K, rfl, .refl S, fun _ _ _ h => h, trivial⟩
  | .val ag t :: ps, S, A, ls, ls', la, us, i, K, hg, hn, h, hm, hu, ha => by
    cases la with
    | nil => exact ha.elim
    | cons l0 la =>
      cases us with
      | nil => exact ha.elim
      | cons u us =>
        simp only [List.length_cons] at hn
        exact ptrL_ok hE ps (i + 1) K hg (by omega) h hm hu ha.2
  | .ptr t t' :: ps, S, A, ls, ls', la, us, i, K, hg, hn, h, hm, hu, ha => by
    cases la with
    | nil => exact ha.elim
    | cons l0 la =>
      cases us with
      | nil => exact ha.elim
      | cons u us =>
        simp only [List.length_cons] at hn
        obtain ⟨ha1, ha2⟩ := ha
        unfold ptrL at h
        split at h
        · rename_i n m hp
          cases hq : (Nat.beq m t.sz && Nat.beq m t'.sz && noOw t' && storable ((cellsOf A i 0 m).map (kept A))) with
          | false => rw [hq] at h; simp at h
          | true =>
            rw [hq, cond_true] at h
            split at h
            · rename_i ls2 h2
              cases h
              simp only [Bool.and_eq_true] at hq
              obtain ⟨⟨⟨q1, q2⟩, q3⟩, q4⟩ := hq
              have hm1 : m = t.sz := Nat.eq_of_beq_eq_true q1
              have hm2 : m = t'.sz := Nat.eq_of_beq_eq_true q2
              cases ls' with
              | nil => exact hm.elim
              | cons l' ls2' =>
                obtain ⟨⟨y, hy, rfl⟩, hmk⟩ := hm
                have hh : (S.g (H i)).2 = .one (.hd m) := by rw [hg, hp]
                obtain ⟨S1, K1, g1, E1, F1, P1⟩ := costs_ok (X := X) (a := a) (A := A) (cellsOf A i 0 m) K hg (fun p => .inl rfl)
                obtain ⟨c1, c2, c3⟩ := cellsOf_ok K hg i m 0
                have hkept := kept_ok K hg K1 E1 P1 (fun _ => .fz) (fun n k hk => (E1.later.fz k hk).1) (cellsOf A i 0 m) (fun _ h => h) 0 _ (c3 (fun _ => .fz) 0)
                have hrep := rep_of_noOwn q4 (kept_noOwn _ c2) hkept
                obtain ⟨S2, K2, w2, L2, t2, b2⟩ := ptrL_ok hE ps (i + 1) K1 g1 (by omega) h2 hmk hu ha2
                obtain ⟨hm9, c, e, e1, e2, e3, e4⟩ := K.box i m hh
                obtain ⟨r1, r2⟩ := K.rgn i m hh
                obtain ⟨r3, r4, r5⟩ := r1 (r2 (by omega))
                obtain ⟨k, o, c0, e0, vs, rfl, f2, f3, f4, f5, f6, f7, f8, f9⟩ := ha1
                have hk : (S.bb i).1 = k := hu k i f3 _ r3
                rw [f4] at r4 r5
                simp only at r4 r5
                have ho : (S.bb i).2 = o := by omega
                refine ⟨S2, K2, w2.trans E1.w, E1.later.trans L2, fun n q k hk => t2 n q k (E1.tm n q k hk), ⟨k, o, c, e, (List.range m).map (fun j => S.ph (C i (0 + j))), rfl, ?_, by rw [leaves_len], fun j hj => ?_, ?_⟩, b2⟩
                · rw [w2, E1.w, ← hk]; exact e1
                · rw [← hm2] at hj
                  rw [← ho, e4 j hj]
                  simp [hj]
                · have h3 := shared_arg (S := S1) (G := fun k => S1.O k = .fz) (fun k hk => hk) hy q3 hrep (fun j => .pl (C i j) []) 0
                  refine h3.impM (fun z hz n u hu => ?_)
                  rw [noOw_leaves t' y q3] at hz
                  have hno : z.isOwn = false := by
                    have hlv := lvs_rep (P := X.P) (G := fun k => S1.O k = .fz) (w := S1.w) t' y _ (mkW_rep hy hrep)
                    have h4 := rep_noOwn hlv
                    cases z <;> first | rfl | skip
                    exfalso
                    rename_i e r xs
                    clear hlv h3 hu
                    revert h4 hz
                    generalize lvs t' y = ll
                    intro h4 hz
                    induction ll with
                    | nil => simp at hz
                    | cons a l ih =>
                      rcases List.mem_cons.1 hz with rfl | hz
                      · simp [ownIn] at h4
                      · exact ih (by cases a <;> first | (simp [ownIn] at h4; done) | simpa [ownIn] using h4) hz
                  exact (LfOk.relab (lab' := .fz) hno hu).later (lab' := .fz) L2 (fun k hk => ⟨(L2.fz k hk).1, (L2.fz k hk).2⟩) |>.relab hno
            · cases h
        · cases h
end
end Go.Proofs.Ytehkignjdbkeiaa.Vf
end

section
/- A function's body is sound. -/
set_option linter.unusedVariables false
set_option linter.unusedSimpArgs false
namespace Go.Proofs.Ytehkignjdbkeiaa.Vf
open Go
attribute [local irreducible] C H

theorem mapM_run {P : Program} {w : World} {a : Act} : ∀ {rv : List ResultVar} {vs : List Value}, All2 (fun r v => (resRun a r).run P w = .ok v w) rv vs → (rv.mapM (resRun a)).run P w = .ok vs w
  | _, _, .nil => rfl
  | _, _, .cons h hs => by
    rw [List.mapM_cons]
    simp only [Sem.run_bind, h, Result.andThen_ok, mapM_run hs, Sem.run_pure]

theorem results_run {P : Program} {w : World} {a : Act} {fn : Func} {vs : List Value} (h : All2 (fun r v => (resRun a r).run P w = .ok v w) fn.results.toList vs) :
    (results fn a.tmps).run P w = .ok (if h : vs.length = 1 then vs[0] else .tuple vs.toArray) w := by
  refine Eq.trans (b := (do let vs ← fn.results.mapM (resRun a); pure (if h : vs.size = 1 then vs[0] else .tuple vs) : Sem Value).run P w) ?_ ?_
  · unfold results
    refine congrArg (fun (f : ResultVar → Sem Value) => Sem.run P (do let vs ← fn.results.mapM f; pure (if h : vs.size = 1 then vs[0] else Value.tuple vs) : Sem Value) w) (?_ : _ = resRun a)
    funext x
    cases x <;> rfl
  rw [Array.mapM_eq_mapM_toList]
  simp only [map_eq_pure_bind, Sem.run_bind, mapM_run h, Result.andThen_ok, Sem.run_pure]
  simp

theorem leavesD_app : ∀ (ts us : List Ty) (x : Den (ts ++ us)) (ls ls' : List (List Lf)), ls.length = ts.length → Mk (ts ++ us) (ls ++ ls') (leavesD (ts ++ us) x) →
    Mk ts ls ((leavesD (ts ++ us) x).take ts.length) ∧ Mk us ls' ((leavesD (ts ++ us) x).drop ts.length)
  | [], us, x, [], ls', _, h => ⟨trivial, h⟩
  | [], us, x, _ :: _, ls', hl, h => by simp at hl
  | t :: ts, us, x, [], ls', hl, h => by simp at hl
  | t :: ts, us, x, l :: ls, ls', hl, h => by
    have key : ∀ (ts us : List Ty) (ls ls' lx : List (List Lf)), ls.length = ts.length → Mk (ts ++ us) (ls ++ ls') lx → Mk ts ls (lx.take ts.length) ∧ Mk us ls' (lx.drop ts.length) := by
      intro ts
      induction ts with
      | nil =>
        intro us ls ls' lx hl h
        cases ls with
        | nil => exact ⟨trivial, h⟩
        | cons => simp at hl
      | cons t ts ih =>
        intro us ls ls' lx hl h
        cases ls with
        | nil => simp at hl
        | cons l ls =>
          cases lx with
          | nil => exact h.elim
          | cons lx1 lx =>
            obtain ⟨h1, h2⟩ := ih us ls ls' lx (by simpa using hl) h.2
            exact ⟨⟨h.1, h1⟩, h2⟩
    exact key (t :: ts) us (l :: ls) ls' _ hl h

theorem resL_len {E : En} : ∀ (rs : List (RK × Ty)) (rv : List ResultVar) (A : Ab) (ls : List (List Lf)) (us : List Up), resL E A rs rv = some (ls, us) → ls.length = rs.length
  | [], [], A, ls, us, h => by
    simp only [resL, Option.some.injEq, Prod.mk.injEq] at h
    obtain ⟨rfl, rfl⟩ := h
    rfl
  | [], _ :: _, A, ls, us, h => by simp [resL] at h
  | (k, t) :: ks, [], A, ls, us, h => by cases k <;> simp [resL] at h
  | (k, t) :: ks, .tmp x :: rs, A, ls, us, h => by
    have h' : (bif Nat.blt x E.nt then (match resOf E.np A k t (.tmp x) (get A x).2 with
      | some (l, u) => (match resL E (ups A u) ks rs with
        | some (ls, us) => some (l :: ls, u ++ us)
        | none => none)
      | none => none) else none) = some (ls, us) := by
      unfold resL at h
      cases k <;> exact h
    cases hx : Nat.blt x E.nt with
    | false => rw [hx] at h'; simp at h'
    | true =>
      rw [hx, cond_true] at h'
      split at h'
      · split at h'
        · rename_i hr
          simp only [Option.some.injEq, Prod.mk.injEq] at h'
          obtain ⟨rfl, rfl⟩ := h'
          simp [resL_len ks rs _ _ _ hr]
        · cases h'
      · cases h'
  | (.agg, t) :: ks, .cell x T :: rs, A, ls, us, h => by
    unfold resL at h
    generalize (Nat.blt x E.nt && (match E.ti T with | some ti => ti.ag && Nat.beq ti.ty.sz t.sz | none => false)) = bb at h
    cases bb with
    | false => simp at h
    | true =>
      rw [cond_true] at h
      split at h
      · split at h
        · rename_i hr
          simp only [Option.some.injEq, Prod.mk.injEq] at h
          obtain ⟨rfl, rfl⟩ := h
          simp [resL_len ks rs _ _ _ hr]
        · cases h
      · cases h
  | (.one, t) :: ks, .cell x T :: rs, A, ls, us, h => by simp [resL] at h
  | (.ptr, t) :: ks, .cell x T :: rs, A, ls, us, h => by simp [resL] at h

theorem ResAll.imp2 {P : Program} {S1 S2 : Sit} {n0 : Nat} (hw : S2.w = S1.w) (hO : ∀ k i, S1.O k = .tm i [] → S2.O k = .tm i []) (hi : ∀ y, solid y = true → ∀ i q u, LfOk P S1 (.tm i q) y u → LfOk P S2 (.tm i q) y u) : ∀ {rs : List (RK × Ty)} {i : Nat} {ls : List (List Lf)} {us : List Value},
    (∀ l ∈ ls, ∀ y ∈ l, solid y = true) → ResAll P S1 n0 i rs ls us → ResAll P S2 n0 i rs ls us := by
  intro rs i ls us hs h
  exact h.imp hw hO (fun l hl y hy i q u hu => hi y (hs l hl y hy) i q u hu)

theorem Results.of {P : Program} {S : Sit} {n0 : Nat} {rs : List (RK × Ty)} {ls : List (List Lf)} {vs : List Value} (h : ResAll P S n0 0 rs ls vs) (ll : List (List Lf)) : Results P S n0 rs (ls ++ ll) (if h : vs.length = 1 then vs[0] else .tuple vs.toArray) := by
  have len : ∀ (rs : List (RK × Ty)) (i : Nat) (ls : List (List Lf)) (vs : List Value), ResAll P S n0 i rs ls vs → vs.length = rs.length := by
    intro rs
    induction rs with
    | nil => intro i ls vs h; have : vs = [] := by cases ls <;> exact h
             subst this; rfl
    | cons r rs ih =>
      intro i ls vs h
      cases ls with
      | nil => exact h.elim
      | cons l ls =>
        cases vs with
        | nil => exact h.elim
        | cons v vs => simp [ih _ _ _ h.2]
  have ext : ∀ (rs : List (RK × Ty)) (i : Nat) (ls : List (List Lf)) (vs : List Value), ResAll P S n0 i rs ls vs → ResAll P S n0 i rs (ls ++ ll) vs := by
    intro rs
    induction rs with
    | nil => intro i ls vs h; have : vs = [] := by cases ls <;> exact h
             subst this; cases (ls ++ ll) <;> rfl
    | cons r rs ih =>
      intro i ls vs h
      cases ls with
      | nil => exact h.elim
      | cons l ls =>
        cases vs with
        | nil => exact h.elim
        | cons v vs => exact ⟨h.1, ih _ _ _ h.2⟩
  have hl := len rs 0 ls vs h
  have he := ext rs 0 ls vs h
  unfold Results
  split
  · rename_i r
    have h1 : vs.length = 1 := hl
    obtain ⟨v, rfl⟩ := List.length_eq_one_iff.1 h1
    cases ls with
    | nil => exact h.elim
    | cons l ls => exact ⟨l, ls ++ ll, rfl, h.1⟩
  · rename_i hne
    refine ⟨vs, ?_, he⟩
    rw [dif_neg]
    intro h1
    rw [hl] at h1
    obtain ⟨r, hr⟩ := List.length_eq_one_iff.1 h1
    exact hne r hr

/-- A function whose body the evaluator reads is sound. -/
theorem body_sound {P : Program} {f : FuncId} {fn : Func} {c : Code} {en : Ent} {E : En} (hf : P.funcs[f]? = some fn) (hb : fn.body = some c) (hnt : fn.ntmps ≤ 1000) (hps : en.ps.length ≤ fn.ntmps)
    (hV : ∀ X : Cx, X.P = P → X.nt = fn.ntmps → X.np = en.ps.length → EnvOk X E) (hD : ∀ X : Cx, X.P = P → X.nt = fn.ntmps → X.np = en.ps.length → DrawOk X E) (hL : ∀ X : Cx, X.P = P → X.nt = fn.ntmps → X.np = en.ps.length → LoopsOk X E c)
    (hpl : ptrLast en.rs = true) (heq : ∀ x, evBody E c fn.results.toList en x = en.run x) : Sound P f en := by
  intro x r hr w O rg us hlt hbx hargs
  rw [← heq] at hr
  let X : Cx := ⟨P, O, w, rg, fn.ntmps, en.ps.length⟩
  have hsol := leavesD_solid (en.ps.map Par.ty) x
  have K0 : Okay X (S0 en.ps (leavesD _ x) us O w) ⟨us.toArray ++ Array.replicate (fn.ntmps - us.toArray.size) undef, []⟩ :=
    start_ok hnt hlt (fun k b h => ⟨(hbx k b h).1, (hbx k b h).2.1⟩) hargs hsol hps
  refine calls_of_wp hf hb ?_
  refine evCode_ok (X := X) (S := S0 en.ps (leavesD _ x) us O w) (hV X rfl rfl rfl) (hD X rfl rfl rfl) c (hL X rfl rfl rfl) K0 rfl hr ?_
  intro e S a A K hg h
  have hE := (hV X rfl rfl rfl).en
  have fin : (match resL E A en.rs fn.results.toList with
      | some (ls, us) => (match ptrL (ups A us) 0 en.ps with
        | some bs => mkDen (en.rs.map Prod.snd ++ ptrOuts en.ps) (ls ++ bs)
        | none => none)
      | none => none) = some r → bodyPost P fn (fun e w' => ∃ v O', e = .returned v ∧ Fr O w rg O' w' ∧ (∀ k, O' k ≠ .no → k < w'.heap.size) ∧ Results P (bare O' w') w.heap.size en.rs (leavesD _ r) v ∧ Backs P (bare O' w') 0 en.ps us ((leavesD _ r).drop en.rs.length)) .ret a S.w := by
    intro h
    split at h
    · rename_i ls1 us1 h1
      split at h
      · rename_i bs h2
        have hmk := mkDen_mk _ _ _ h
        have hlen := resL_len _ _ _ _ _ h1
        obtain ⟨m1, m2⟩ := leavesD_app (en.rs.map Prod.snd) (ptrOuts en.ps) r ls1 bs (by simpa using hlen) hmk
        rw [List.length_map] at m1 m2
        obtain ⟨S1, vs, K1, g1, w1, L1, _, hall, hruns⟩ := resL_ok hE (fun k b hk => (hbx k b hk).1) en.rs fn.results.toList 0 K hg hpl h1 m1
        obtain ⟨S2, K2, w2, L2, t2, hback⟩ := ptrL_ok hE en.ps 0 K1 g1 (Nat.zero_add _) h2 m2 (fun k b hk => (hbx k b hk).2.2) hargs
        have hsolr := leavesD_solid _ r
        have hall2 : ResAll P (bare S2.O S2.w) w.heap.size 0 en.rs ((leavesD _ r).take en.rs.length) vs := by
          refine ResAll.imp2 (S1 := S1) (S2 := bare S2.O S2.w) ?_ (fun k i hk => t2 _ _ _ hk) (fun y hy i q u hu => ?_) (fun l hl => hsolr l (List.mem_of_mem_take hl)) hall
          · exact w2
          · exact LfOk.bare (S1 := S2) hy rfl (fun k hk => hk) (fun k hk => hk) (hu.later L2 (fun k hk => ⟨t2 _ _ _ hk, by rw [w2]⟩))
        have hback2 : Backs P (bare S2.O S2.w) 0 en.ps us ((leavesD _ r).drop en.rs.length) := by
          have key : ∀ (ps : List Par) (i : Nat) (us : List Value) (ls : List (List Lf)), (∀ l ∈ ls, ∀ y ∈ l, solid y = true) → Backs P S2 i ps us ls → Backs P (bare S2.O S2.w) i ps us ls := by
            intro ps
            induction ps with
            | nil => intro i us ls _ _; trivial
            | cons p ps ih =>
              intro i us ls hs h
              cases p with
              | val ag t =>
                cases us with
                | nil => exact h.elim
                | cons u us => exact ih _ _ _ hs h
              | ptr t t' =>
                cases us with
                | nil => exact h.elim
                | cons u us =>
                  cases ls with
                  | nil => exact h.elim
                  | cons l ls =>
                    obtain ⟨⟨k, o, c, e, vs, q1, q2, q3, q4, q5⟩, h2⟩ := h
                    exact ⟨⟨k, o, c, e, vs, q1, q2, q3, q4, q5.impM (fun y hy n u hu => LfOk.bare (S1 := S2) (hs l (by simp) y hy) rfl (fun k hk => hk) (fun k hk => hk) hu)⟩, ih _ _ _ (fun l hl => hs l (List.mem_cons_of_mem _ hl)) h2⟩
          exact key _ _ _ _ (fun l hl => hsolr l (List.mem_of_mem_drop hl)) hback
        have hres := Results.of hall2 ((leavesD _ r).drop en.rs.length)
        rw [List.take_append_drop] at hres
        have hw : S2.w = S.w := w2.trans w1
        rw [hw] at hres hback2
        refine ⟨K.df, _, results_run hruns, _, S2.O, rfl, ?_, ?_, hres, hback2⟩
        · rw [← hw]; exact K2.fr
        · rw [← hw]; exact K2.lt
      · cases h
    · cases h
  cases e with
  | exit i => cases h
  | normal => exact fin h
  | ret => exact fin h
end Go.Proofs.Ytehkignjdbkeiaa.Vf
end

section
/- What an operation reads. -/
set_option linter.unusedVariables false
set_option linter.unusedSimpArgs false
namespace Go.Proofs.Ytehkignjdbkeiaa.Vf
open Go
attribute [local irreducible] C H

def Ag (A A' : Ab) (F : List Nat) : Prop := ∀ p ∈ F, get A' p = get A p

def RL (A : Ab) (F : List Nat) : Lf → Prop
  | .al p _ => p ∈ F
  | .ep p _ _ _ => p ∈ F
  | .da p _ _ _ _ _ => p ∈ F
  | .dp p _ _ _ _ _ _ _ => p ∈ F
  | .bp b _ _ => H b ∈ F ∧ ∀ n, (get A (H b)).2 = .one (.hd n) → ∀ j, j < n → C b j ∈ F ∧ ∀ p v, (get A (C b j)).2 = .one (.al p v) → p ∈ F
  | _ => True

def RX (A : Ab) (F : List Nat) : Operand → Prop
  | .tmp t => t ∈ F ∧ ∀ y ∈ parts (get A t).2, RL A F y
  | _ => True

def calmU (u : Up) : Prop := u.s = .one .dead ∨ ∃ e r, ∃ xs : List (Ty.den r), u.s = .one (.fz e r xs)

section
variable {E : En} {A A' : Ab} {F : List Nat} {o : Oper} {R : Type} {Kc : List Up → Option R} {r : R}

theorem rdC_mem {b : Nat} : ∀ {n j : Nat}, (∀ p ∈ rdC A b j n, p ∈ F) → ∀ i, i < n → C b (j + i) ∈ F ∧ ∀ p v, (get A (C b (j + i))).2 = .one (.al p v) → p ∈ F
  | 0, j, h, i, hi => by omega
  | n + 1, j, h, i, hi => by
    unfold rdC at h
    cases i with
    | zero =>
      refine ⟨h _ (by simp), fun p v hp => h p ?_⟩
      rw [Nat.add_zero] at hp
      rw [hp]
      simp
    | succ i =>
      rw [show j + (i + 1) = j + 1 + i by omega]
      exact rdC_mem (n := n) (j := j + 1) (fun p hp => h p (List.mem_cons_of_mem _ (List.mem_append_right _ hp))) i (by omega)

theorem rdL_RL {y : Lf} (h : ∀ p ∈ rdL A y, p ∈ F) : RL A F y := by
  cases y with
  | al p v => exact h p (by simp [rdL])
  | ep p v i off => exact h p (by simp [rdL])
  | da p v pi e r xs => exact h p (by simp [rdL])
  | dp p v pi e r xs i off => exact h p (by simp [rdL])
  | bp b v off =>
    have h : ∀ p ∈ H b :: (match (get A (H b)).2 with | .one (.hd n) => rdC A b 0 n | _ => []), p ∈ F := h
    refine ⟨h _ (by simp), fun n hn j hj => ?_⟩
    rw [hn] at h
    have := rdC_mem (A := A) (F := F) (b := b) (n := n) (j := 0) (fun p hp => h p (List.mem_cons_of_mem _ hp)) j hj
    rwa [Nat.zero_add] at this
  | _ => trivial

theorem rdLs_RL : ∀ {l : List Lf}, (∀ p ∈ rdLs A l, p ∈ F) → ∀ y ∈ l, RL A F y
  | [], _, y, hy => by simp at hy
  | z :: l, h, y, hy => by
    unfold rdLs at h
    rcases List.mem_cons.1 hy with rfl | hy
    · exact rdL_RL fun p hp => h p (List.mem_append_left _ hp)
    · exact rdLs_RL (fun p hp => h p (List.mem_append_right _ hp)) y hy

theorem rdO_RX {x : Operand} (h : ∀ p ∈ rdO A x, p ∈ F) : RX A F x := by
  cases x with
  | tmp t =>
    unfold rdO at h
    exact ⟨h t (by simp), rdLs_RL fun p hp => h p (List.mem_cons_of_mem _ hp)⟩
  | _ => trivial

theorem rdOs_RX : ∀ {l : List Operand}, (∀ p ∈ rdOs A l, p ∈ F) → ∀ x ∈ l, RX A F x
  | [], _, y, hy => by simp at hy
  | z :: l, h, y, hy => by
    unfold rdOs at h
    rcases List.mem_cons.1 hy with rfl | hy
    · exact rdO_RX fun p hp => h p (List.mem_append_left _ hp)
    · exact rdOs_RX (fun p hp => h p (List.mem_append_right _ hp)) y hy

/-! ### States that agree -/
theorem get_up1 (A : Ab) (u : Up) (p : Nat) : get (up A u) p = if p = u.l then ((bif u.keep then (get A u.l).1 else (get A u.l).1 + 1), u.s) else get A p := by
  rw [get_up]
  unfold upd
  rfl

theorem Ag.up (h : Ag A A' F) (u : Up) : Ag (up A u) (up A' u) F := by
  intro p hp
  rw [get_up1, get_up1]
  by_cases e : p = u.l
  · subst e
    rw [if_pos rfl, if_pos rfl, h _ hp]
  · rw [if_neg e, if_neg e, h _ hp]

theorem Ag.ups : ∀ {U : List Up} {A A' : Ab}, Ag A A' F → Ag (ups A U) (ups A' U) F
  | [], _, _, h => h
  | u :: U, _, _, h => Ag.ups (U := U) (h.up u)

theorem RL.up {y : Lf} (h : RL A F y) {u : Up} (hu : calmU u) : RL (Vf.up A u) F y := by
  have key : ∀ q, (get (Vf.up A u) q).2 = (get A q).2 ∨ (get (Vf.up A u) q).2 = u.s := by
    intro q
    rw [get_up1]
    by_cases e : q = u.l
    · rw [if_pos e]; exact .inr rfl
    · rw [if_neg e]; exact .inl rfl
  cases y with
  | al p v => exact h
  | ep p v i off => exact h
  | da p v pi e r xs => exact h
  | dp p v pi e r xs i off => exact h
  | bp b v off =>
    refine ⟨h.1, fun n hn j hj => ?_⟩
    have hn' : (get A (H b)).2 = .one (.hd n) := by
      rcases key (H b) with k | k
      · rw [← k]; exact hn
      · rw [k] at hn
        rcases hu with hu | ⟨e, r, xs, hu⟩ <;> rw [hu] at hn <;> cases hn
    obtain ⟨h1, h2⟩ := h.2 n hn' j hj
    refine ⟨h1, fun p v hp => ?_⟩
    rcases key (C b j) with k | k
    · exact h2 p v (by rw [← k]; exact hp)
    · rw [k] at hp
      rcases hu with hu | ⟨e, r, xs, hu⟩ <;> rw [hu] at hp <;> cases hp
  | _ => trivial

theorem RX.up {x : Operand} (h : RX A F x) {u : Up} (hu : calmU u) : RX (Vf.up A u) F x := by
  cases x with
  | tmp t =>
    refine ⟨h.1, fun y hy => ?_⟩
    rw [get_up1] at hy
    by_cases e : t = u.l
    · rw [if_pos e] at hy
      rcases hu with hu | ⟨e', r, xs, hu⟩
      · rw [hu] at hy
        simp only [parts, List.mem_singleton] at hy
        subst hy
        trivial
      · rw [hu] at hy
        simp only [parts, List.mem_singleton] at hy
        subst hy
        trivial
    · rw [if_neg e] at hy
      exact (h.2 y hy).up hu
  | _ => trivial

theorem RX.ups {x : Operand} : ∀ {U : List Up} {A : Ab}, RX A F x → (∀ u ∈ U, calmU u) → RX (Vf.ups A U) F x
  | [], _, h, _ => h
  | u :: U, _, h, hu => RX.ups (U := U) (h.up (hu u (by simp))) (fun v hv => hu v (List.mem_cons_of_mem _ hv))

theorem opT_ag {x : Operand} {T : TypeId} (h : Ag A A' F) (hx : RX A F x) : opT E T A' x = opT E T A x := by
  cases x with
  | tmp t => show (bif Nat.blt t E.nt then some (get A' t).2 else none) = (bif Nat.blt t E.nt then some (get A t).2 else none); rw [h t hx.1]
  | const v =>
    unfold opT
    cases v <;> first | rfl | skip
    rename_i a b c
    cases a <;> cases b <;> cases c <;> rfl
  | func f => rfl
  | global g => rfl

theorem opT_RL {x : Operand} {T : TypeId} {s : Sv} (hx : RX A F x) (h : opT E T A x = some s) : ∀ y ∈ parts s, RL A F y := by
  unfold opT at h
  split at h
  · rename_i t
    cases hb : Nat.blt t E.nt with
    | false => simp [hb] at h
    | true =>
      simp only [hb, cond_true, Option.some.injEq] at h
      rw [← h]
      exact hx.2
  · split at h
    · simp only [Option.some.injEq] at h
      subst h
      intro y hy
      simp only [parts, List.mem_singleton] at hy
      subst hy
      trivial
    · cases h
  · rename_i v _
    cases hs : isSc v with
    | false => simp [hs] at h
    | true =>
      simp only [hs, cond_true, Option.some.injEq] at h
      subst h
      intro y hy
      simp only [parts, List.mem_singleton] at hy
      subst hy
      trivial
  · simp only [Option.some.injEq] at h
    subst h
    intro y hy
    simp only [parts, List.mem_singleton] at hy
    subst hy
    trivial
  · cases h

theorem opT_one {x : Operand} {T : TypeId} {y : Lf} (hx : RX A F x) (h : opT E T A x = some (.one y)) : RL A F y := opT_RL hx h y (by simp [parts])

/-- An alias of one of these places. -/
def AL (F : List Nat) : Lf → Prop
  | .al p _ => p ∈ F
  | _ => True

theorem RL.al {y : Lf} (h : RL A F y) : AL F y := by
  cases y <;> first | trivial | exact h

theorem seen_ag {y : Lf} (h : Ag A A' F) (hy : AL F y) : seen A' y = seen A y := by
  cases y with
  | al p v => simp only [seen]; rw [h p hy]
  | _ => rfl

theorem view_ag {y : Lf} (h : Ag A A' F) (hy : RL A F y) : view A' y = view A y := by
  cases y with
  | da p v pi e r xs => simp only [view]; rw [h p hy]
  | _ => exact seen_ag h hy.al

theorem viewM_ag (h : Ag A A' F) {l : List Lf} (hy : ∀ y ∈ l, RL A F y) : l.map (fun y => calm (view A' y)) = l.map (fun y => calm (view A y)) := List.map_congr_left fun y hm => by rw [view_ag h (hy y hm)]

theorem srcOf_ag {y : Lf} (h : Ag A A' F) (hy : RL A F y) : srcOf A' y = srcOf A y := by
  cases y with
  | da p v pi e r xs => simp only [srcOf]; rw [h p hy]
  | _ => simp only [srcOf, seen_ag h hy.al]

theorem takeLs_ag : ∀ {l : List Lf} {A A' : Ab}, Ag A A' F → (∀ y ∈ l, AL F y) → takeLs A' l = takeLs A l
  | [], _, _, _, _ => rfl
  | y :: l, A, A', h, hy => by
    have h1 : AL F y := hy y (by simp)
    have h2 : ∀ z ∈ l, AL F z := fun z hz => hy z (List.mem_cons_of_mem _ hz)
    cases y with
    | al p v =>
      unfold takeLs
      rw [seen_ag h h1, takeLs_ag (h.up ⟨p, false, .one .dead⟩) h2]
    | _ => simp only [takeLs, takeLs_ag h h2]

theorem give_ag {x : Operand} {s : Sv} (h : Ag A A' F) (hy : ∀ y ∈ parts s, AL F y) : give A' x s = give A x s := by
  unfold give
  rw [takeLs_ag (h.ups (U := gone x s)) hy]

theorem kept_ag {y : Lf} (h : Ag A A' F) (hy : AL F y) : kept A' y = kept A y := by
  cases y with
  | al p v => show calm (seen A' (.al p v)) = calm (seen A (.al p v)); rw [seen_ag h hy]
  | _ => rfl

theorem cost_ag {y : Lf} (h : Ag A A' F) (hy : AL F y) : cost A' y = cost A y := by
  cases y with
  | al p v => simp only [cost]; rw [h p hy]
  | _ => rfl

theorem costs_ag (h : Ag A A' F) : ∀ {l : List Lf}, (∀ y ∈ l, AL F y) → costs A' l = costs A l
  | [], _ => rfl
  | y :: l, hy => by
    unfold costs
    rw [cost_ag h (hy y (by simp)), costs_ag h (fun z hz => hy z (List.mem_cons_of_mem _ hz))]

theorem keptM_ag (h : Ag A A' F) {l : List Lf} (hy : ∀ y ∈ l, AL F y) : l.map (kept A') = l.map (kept A) := List.map_congr_left fun y hm => kept_ag h (hy y hm)

theorem calmM_ag (h : Ag A A' F) {l : List Lf} (hy : ∀ y ∈ l, AL F y) : l.map (fun y => calm (kept A' y)) = l.map (fun y => calm (kept A y)) := List.map_congr_left fun y hm => by rw [kept_ag h (hy y hm)]

theorem seenM_ag (h : Ag A A' F) {l : List Lf} (hy : ∀ y ∈ l, AL F y) : l.map (fun y => calm (seen A' y)) = l.map (fun y => calm (seen A y)) := List.map_congr_left fun y hm => by rw [seen_ag h (hy y hm)]

theorem liveP_ag {y : Lf} (h : Ag A A' F) (hy : RL A F y) : liveP A' y = liveP A y := by
  cases y with
  | bp b v n => show Nat.beq (get A' (H b)).1 v = Nat.beq (get A (H b)).1 v; rw [h _ hy.1]
  | ep p v i n => simp only [liveP]; rw [h p hy]
  | dp p v pi e r xs i n => show Nat.beq (get A' p).1 v = Nat.beq (get A p).1 v; rw [h p hy]
  | _ => rfl

theorem cellsOf_ag (h : Ag A A' F) {b : Nat} : ∀ {n j : Nat}, (∀ i, i < n → C b (j + i) ∈ F) → cellsOf A' b j n = cellsOf A b j n
  | 0, _, _ => rfl
  | n + 1, j, hc => by
    unfold cellsOf
    rw [h (C b j) (by simpa using hc 0 (by omega)), cellsOf_ag h (fun i hi => by have := hc (i + 1) (by omega); rwa [show j + (i + 1) = j + 1 + i by omega] at this)]

theorem cellsOf_AL {b : Nat} : ∀ {n j : Nat}, (∀ i, i < n → C b (j + i) ∈ F ∧ ∀ p v, (get A (C b (j + i))).2 = .one (.al p v) → p ∈ F) → ∀ y ∈ cellsOf A b j n, AL F y
  | 0, _, _, y, hy => by simp [cellsOf] at hy
  | n + 1, j, hc, y, hy => by
    unfold cellsOf at hy
    rcases List.mem_cons.1 hy with hy | hy
    · obtain ⟨c1, c2⟩ := hc 0 (by omega)
      rw [Nat.add_zero] at c1 c2
      split at hy
      · subst hy; exact c1
      · rename_i v x _ hp
        subst hy
        cases y with
        | al p v => exact c2 p v (by rw [hp])
        | _ => trivial
      · subst hy; trivial
    · refine cellsOf_AL (n := n) (j := j + 1) (fun i hi => ?_) y hy
      have := hc (i + 1) (by omega)
      rwa [show j + (i + 1) = j + 1 + i by omega] at this
end
end Go.Proofs.Ytehkignjdbkeiaa.Vf
end

section
/- An operation does the same wherever it reads the same: numbers, moves, loads, stores. -/
set_option linter.unusedVariables false
set_option linter.unusedSimpArgs false
namespace Go.Proofs.Ytehkignjdbkeiaa.Vf
open Go
attribute [local irreducible] C H

def Loc {R : Type} (E : En) (o : Oper) (A : Ab) (F : List Nat) (Kc : List Up → Option R) (r : R) : Prop :=
  ∃ U, Kc U = some r ∧ ∀ A', Ag A A' F → ∀ {R' : Type} (K' : List Up → Option R'), step E o A' K' = K' U

section
variable {E : En} {A A' : Ab} {F : List Nat} {o : Oper} {R : Type} {Kc : List Up → Option R} {r : R}

theorem bopInt_par {op : BinOp} {k : IntKind} {x y : Int} {Kv : Value → Option R} (h : bopInt op k x y Kv = some r) : ∃ v, Kv v = some r ∧ ∀ {R' : Type} (K' : Value → Option R'), bopInt op k x y K' = K' v := by
  cases op
  case quo =>
    simp only [bopInt] at h ⊢
    cases hy : decide (y = 0) with
    | true => rw [hy] at h; simp at h
    | false => rw [hy] at h; exact ⟨_, h, fun K' => rfl⟩
  case rem =>
    simp only [bopInt] at h ⊢
    cases hy : decide (y = 0) with
    | true => rw [hy] at h; simp at h
    | false => rw [hy] at h; exact ⟨_, h, fun K' => rfl⟩
  all_goals first | exact ⟨_, h, fun K' => rfl⟩ | (simp [bopInt] at h; done)

theorem bopStr_par {op : BinOp} {x y : ByteArray} {Kv : Value → Option R} (h : bopStr op x y Kv = some r) : ∃ v, Kv v = some r ∧ ∀ {R' : Type} (K' : Value → Option R'), bopStr op x y K' = K' v := by
  cases op
  case add =>
    simp only [bopStr] at h ⊢
    cases hy : Nat.ble (x.size + y.size) 9223372036854775807 with
    | false => rw [hy] at h; simp at h
    | true => rw [hy] at h; exact ⟨_, h, fun K' => rfl⟩
  all_goals first | exact ⟨_, h, fun K' => rfl⟩ | (simp [bopStr] at h; done)

theorem bop_par {op : BinOp} {t : Option TI} {e : Bool} {x y : Sv} {Kv : Value → Option R} (h : bop op t e x y Kv = some r) : ∃ v, Kv v = some r ∧ ∀ {R' : Type} (K' : Value → Option R'), bop op t e x y K' = K' v := by
  unfold bop at h
  split at h
  · rename_i k a k' b
    split at h
    · cases hb : decide (b < 0) with
      | true => rw [hb] at h; simp at h
      | false => rw [hb] at h; exact ⟨_, h, fun K' => by unfold bop; simp only [hb, cond_false]⟩
    · cases hb : decide (b < 0) with
      | true => rw [hb] at h; simp at h
      | false => rw [hb] at h; exact ⟨_, h, fun K' => by unfold bop; simp only [hb, cond_false]⟩
    · rename_i n1 n2
      cases hb : decide (k = k') with
      | false => rw [hb] at h; simp at h
      | true =>
        rw [hb, cond_true] at h
        obtain ⟨v, h1, h2⟩ := bopInt_par h
        refine ⟨v, h1, fun K' => ?_⟩
        unfold bop
        cases op <;> first | exact (n1 rfl).elim | exact (n2 rfl).elim | (simp only [hb, cond_true]; exact h2 K')
  · obtain ⟨v, h1, h2⟩ := bopStr_par h
    exact ⟨v, h1, fun K' => h2 K'⟩
  · rename_i a b
    split at h
    · exact ⟨_, h, fun K' => rfl⟩
    · exact ⟨_, h, fun K' => rfl⟩
    · cases h
  · rename_i l l'
    cases hb : (e && allSc l && allSc l' && (kindsOk t l && kindsOk t l')) with
    | false => rw [hb] at h; simp at h
    | true =>
      rw [hb, cond_true] at h
      split at h
      · split at h
        · rename_i b he
          exact ⟨_, h, fun K' => by unfold bop; simp only [hb, cond_true, he]⟩
        · cases h
      · split at h
        · rename_i b he
          exact ⟨_, h, fun K' => by unfold bop; simp only [hb, cond_true, he]⟩
        · cases h
      · cases h
  · cases h

theorem uop_par {op : UnOp} {x : Sv} {Kv : Value → Option R} (h : uop op x Kv = some r) : ∃ v, Kv v = some r ∧ ∀ {R' : Type} (K' : Value → Option R'), uop op x K' = K' v := by
  unfold uop at h
  split at h
  · exact ⟨_, h, fun K' => rfl⟩
  · exact ⟨_, h, fun K' => rfl⟩
  · exact ⟨_, h, fun K' => rfl⟩
  · cases h

theorem conv_par {t t' : Option TI} {x : Sv} {Kv : Sv → Option R} (h : conv t t' x Kv = some r) : ∃ v, Kv v = some r ∧ ∀ {R' : Type} (K' : Sv → Option R'), conv t t' x K' = K' v := by
  unfold conv at h
  split at h
  · exact ⟨_, h, fun K' => rfl⟩
  · exact ⟨_, h, fun K' => rfl⟩
  · rename_i e _ _ _ _ e' xs
    cases hb : Nat.beq e e' with
    | false => rw [hb] at h; simp at h
    | true => rw [hb] at h; exact ⟨_, h, fun K' => by unfold conv; simp only [hb, cond_true]⟩
  · rename_i e _ _ _ _ e' xs
    cases hb : Nat.beq e e' with
    | false => rw [hb] at h; simp at h
    | true => rw [hb] at h; exact ⟨_, h, fun K' => by unfold conv; simp only [hb, cond_true]⟩
  · rename_i s
    cases hb : Nat.ble s.size 140737488355328 with
    | false => rw [hb] at h; simp at h
    | true => rw [hb] at h; exact ⟨_, h, fun K' => by unfold conv; simp only [hb, cond_true]⟩
  · cases h

theorem minMax_par {mx : Bool} : ∀ {l : List Sv} {k : IntKind} {x : Int} {Kv : Value → Option R}, minMax mx l k x Kv = some r → ∃ v, Kv v = some r ∧ ∀ {R' : Type} (K' : Value → Option R'), minMax mx l k x K' = K' v := by
  intro l
  induction l with
  | nil => intro k x Kv h; exact ⟨_, h, fun K' => rfl⟩
  | cons s l ih =>
    intro k x Kv h
    unfold minMax at h
    split at h
    · rename_i heq; cases heq
    · rename_i k0 x0 K0 l9 k9 x9 K9 k' y l0 heq
      cases heq
      cases hb : decide (k0 = k') with
      | false => rw [hb] at h; simp at h
      | true =>
        rw [hb, cond_true] at h
        obtain ⟨v, h1, h2⟩ := ih h
        exact ⟨v, h1, fun K' => by conv => { lhs; unfold minMax }; simp only [hb, cond_true]; exact h2 K'⟩
    · cases h

theorem bnds_par {lo hi : Option Int} {n : Nat} {Kv : Unit → Option R} (h : bnds lo hi n Kv = some r) : Kv () = some r ∧ ∀ {R' : Type} (K' : Unit → Option R'), bnds lo hi n K' = K' () := by
  unfold bnds at h
  split at h
  · exact ⟨h, fun K' => rfl⟩
  · rename_i l
    cases h1 : decide (0 ≤ l) with
    | false => rw [h1] at h; simp at h
    | true =>
      rw [h1, cond_true] at h
      cases h2 : decide (l ≤ (n : Int)) with
      | false => rw [h2] at h; simp at h
      | true => rw [h2, cond_true] at h; exact ⟨h, fun K' => by unfold bnds; simp only [h1, h2, cond_true]⟩
  · rename_i l
    cases h1 : decide (0 ≤ l) with
    | false => rw [h1] at h; simp at h
    | true =>
      rw [h1, cond_true] at h
      cases h2 : decide (l ≤ (n : Int)) with
      | false => rw [h2] at h; simp at h
      | true => rw [h2, cond_true] at h; exact ⟨h, fun K' => by unfold bnds; simp only [h1, h2, cond_true]⟩
  · rename_i l u
    cases h1 : decide (0 ≤ l) with
    | false => rw [h1] at h; simp at h
    | true =>
      rw [h1, cond_true] at h
      cases h2 : decide (l ≤ u) with
      | false => rw [h2] at h; simp at h
      | true =>
        rw [h2, cond_true] at h
        cases h3 : decide (u ≤ (n : Int)) with
        | false => rw [h3] at h; simp at h
        | true => rw [h3, cond_true] at h; exact ⟨h, fun K' => by unfold bnds; simp only [h1, h2, h3, cond_true]⟩

/-- What is wanted of every operand but of a pointer that is not followed. -/
def RXs (A : Ab) (F : List Nat) (o : Oper) : Prop := (∀ d, o.dst = some d → d ∈ F ∧ H d ∈ F) ∧ ∀ x ∈ opsOf o.op, RX A F x

theorem loc_binOp {op : BinOp} {T T' : TypeId} {x y : Operand} {d : Nat} (ho : o.op = .binOp op T x y T') (hod : o.dst = some d) (hx : RX A F x) (hy : RX A F y) (h : step E o A Kc = some r) : Loc E o A F Kc r := by
  unfold step at h
  rw [ho, hod] at h
  simp only at h
  split at h
  · rename_i s s' hs hs'
    obtain ⟨v, h1, h2⟩ := bop_par h
    refine ⟨_, h1, fun A' hA R' K' => ?_⟩
    unfold step
    rw [ho, hod]
    simp only [opT_ag hA hx, opT_ag hA hy, hs, hs']
    exact h2 _
  · cases h

theorem loc_unOp {op : UnOp} {T : TypeId} {x : Operand} {d : Nat} (ho : o.op = .unOp op T x) (hod : o.dst = some d) (hx : RX A F x) (h : step E o A Kc = some r) : Loc E o A F Kc r := by
  unfold step at h
  rw [ho, hod] at h
  simp only at h
  split at h
  · rename_i s hs
    obtain ⟨v, h1, h2⟩ := uop_par h
    refine ⟨_, h1, fun A' hA R' K' => ?_⟩
    unfold step
    rw [ho, hod]
    simp only [opT_ag hA hx, hs]
    exact h2 _
  · cases h

theorem loc_convert {T T' : TypeId} {x : Operand} {d : Nat} (ho : o.op = .convert T T' x) (hod : o.dst = some d) (hx : RX A F x) (h : step E o A Kc = some r) : Loc E o A F Kc r := by
  unfold step at h
  rw [ho, hod] at h
  simp only at h
  split at h
  · rename_i y hs
    obtain ⟨v, h1, h2⟩ := conv_par h
    refine ⟨_, h1, fun A' hA R' K' => ?_⟩
    unfold step
    rw [ho, hod]
    simp only [opT_ag hA hx, hs, view_ag hA (opT_one hx hs)]
    exact h2 _
  · cases h

theorem loc_move {x : Operand} {d : Nat} (ho : o.op = .move x) (hod : o.dst = some d) (hx : ∀ t, x = .tmp t → t ∈ F) (h : step E o A Kc = some r) : Loc E o A F Kc r := by
  have hag : ∀ A', Ag A A' F → ∀ T, opT E T A' x = opT E T A x := by
    intro A' hA T
    cases x with
    | tmp t => show (bif Nat.blt t E.nt then some (get A' t).2 else none) = (bif Nat.blt t E.nt then some (get A t).2 else none); rw [hA t (hx t rfl)]
    | const v => exact opT_ag hA (x := .const v) trivial
    | func f => rfl
    | global g => rfl
  unfold step at h
  rw [ho, hod] at h
  simp only at h
  split at h
  · rename_i s hs
    split at h
    · rename_i t e r' xs
      cases hn : (E.nm t && !(E.mv d)) with
      | true =>
        rw [hn, cond_true] at h
        refine ⟨_, h, fun A' hA R' K' => ?_⟩
        unfold step
        rw [ho, hod]
        simp only [hag A' hA, hs, hn, cond_true, hA t (hx t rfl)]
      | false =>
        rw [hn, cond_false] at h
        refine ⟨_, h, fun A' hA R' K' => ?_⟩
        unfold step
        rw [ho, hod]
        simp only [hag A' hA, hs, hn, cond_false]
    · rename_i hne
      refine ⟨_, h, fun A' hA R' K' => ?_⟩
      unfold step
      rw [ho, hod]
      simp only [hag A' hA, hs]
  · cases h

theorem loc_assign {x : Operand} {d : Nat} (ho : o.op = .assign x) (hod : o.dst = some d) (hx : RX A F x) (h : step E o A Kc = some r) : Loc E o A F Kc r := by
  unfold step at h
  rw [ho, hod] at h
  simp only at h
  split at h
  · rename_i p v hs
    have hp : p ∈ F := opT_one hx hs
    split at h
    · rename_i n e r' xs hg
      cases hn : Nat.beq n v with
      | false => rw [hn] at h; simp at h
      | true =>
        rw [hn, cond_true] at h
        cases hr : E.res d with
        | true =>
          rw [hr, cond_true] at h
          refine ⟨_, h, fun A' hA R' K' => ?_⟩
          unfold step
          rw [ho, hod]
          simp only [opT_ag hA hx, hs, hA p hp, hg, hn, hr, cond_true]
        | false =>
          rw [hr, cond_false] at h
          refine ⟨_, h, fun A' hA R' K' => ?_⟩
          unfold step
          rw [ho, hod]
          simp only [opT_ag hA hx, hs, hA p hp, hg, hn, hr, cond_true, cond_false]
    · rename_i n e r' xs hg
      cases hn : Nat.beq n v with
      | false => rw [hn] at h; simp at h
      | true =>
        rw [hn, cond_true] at h
        refine ⟨_, h, fun A' hA R' K' => ?_⟩
        unfold step
        rw [ho, hod]
        simp only [opT_ag hA hx, hs, hA p hp, hg, hn, cond_true]
    · cases h
  · rename_i s hne hs
    refine ⟨_, h, fun A' hA R' K' => ?_⟩
    unfold step
    rw [ho, hod]
    simp only [opT_ag hA hx, hs]
  · cases h

theorem loc_pick {c x y : Operand} {d : Nat} (ho : o.op = .pick c x y) (hod : o.dst = some d) (hc : RX A F c) (hx : RX A F x) (hy : RX A F y) (h : step E o A Kc = some r) : Loc E o A F Kc r := by
  unfold step at h
  rw [ho, hod] at h
  simp only at h
  split at h
  · rename_i b hs
    cases b with
    | true =>
      rw [cond_true] at h
      split at h
      · rename_i u hu
        refine ⟨_, h, fun A' hA R' K' => ?_⟩
        unfold step
        rw [ho, hod]
        simp only [opT_ag hA hc, opT_ag hA hx, hs, hu, cond_true]
      · cases h
    | false =>
      rw [cond_false] at h
      split at h
      · rename_i u hu
        refine ⟨_, h, fun A' hA R' K' => ?_⟩
        unfold step
        rw [ho, hod]
        simp only [opT_ag hA hc, opT_ag hA hy, hs, hu, cond_false]
      · cases h
  · cases h

/-- A pointer that is not followed. -/
def RP (A : Ab) (F : List Nat) : Operand → Prop
  | .tmp t => t ∈ F ∧ ∀ y ∈ parts (get A t).2, (∀ b v n, y = .bp b v n → H b ∈ F) ∧ (∀ p v i n, y = .ep p v i n → p ∈ F) ∧ (∀ p v pi e r, ∀ xs : List (Ty.den r), ∀ i n, y = .dp p v pi e r xs i n → p ∈ F)
  | _ => True

theorem rdHs_mem : ∀ {l : List Lf}, (∀ p ∈ rdHs l, p ∈ F) → ∀ y ∈ l, (∀ b v n, y = .bp b v n → H b ∈ F) ∧ (∀ p v i n, y = .ep p v i n → p ∈ F) ∧ (∀ p v pi e r, ∀ xs : List (Ty.den r), ∀ i n, y = .dp p v pi e r xs i n → p ∈ F)
  | [], _, y, hy => by simp at hy
  | z :: l, h, y, hy => by
    unfold rdHs at h
    rcases List.mem_cons.1 hy with rfl | hy
    · refine ⟨fun b v n e => h _ (List.mem_append_left _ ?_), fun p v i n e => h _ (List.mem_append_left _ ?_), fun p v pi e0 r xs i n e => h _ (List.mem_append_left _ ?_)⟩ <;> (subst e; simp [rdH])
    · exact rdHs_mem (fun p hp => h p (List.mem_append_right _ hp)) y hy

theorem rdP_RP {x : Operand} (h : ∀ p ∈ rdP A x, p ∈ F) : RP A F x := by
  cases x with
  | tmp t =>
    have h : ∀ p ∈ t :: rdHs (parts (get A t).2), p ∈ F := h
    exact ⟨h t (by simp), rdHs_mem fun p hp => h p (List.mem_cons_of_mem _ hp)⟩
  | _ => trivial

theorem RP.opT {x : Operand} {T : TypeId} (hA : Ag A A' F) (hx : RP A F x) : Vf.opT E T A' x = Vf.opT E T A x := by
  cases x with
  | tmp t => show (bif Nat.blt t E.nt then some (get A' t).2 else none) = (bif Nat.blt t E.nt then some (get A t).2 else none); rw [hA t hx.1]
  | const v => exact opT_ag hA (x := .const v) trivial
  | func f => rfl
  | global g => rfl

theorem RP.live {x : Operand} {T : TypeId} {y : Lf} (hA : Ag A A' F) (hx : RP A F x) (h : Vf.opT E T A x = some (.one y)) : liveP A' y = liveP A y := by
  cases x with
  | tmp t =>
    have h : (bif Nat.blt t E.nt then some (get A t).2 else none) = some (.one y) := h
    cases hb : Nat.blt t E.nt with
    | false => rw [hb] at h; simp at h
    | true =>
      rw [hb] at h
      simp only [cond_true, Option.some.injEq] at h
      obtain ⟨h1, h2, h3⟩ := hx.2 y (by rw [h]; simp [parts])
      cases y with
      | bp b v n => show Nat.beq (get A' (H b)).1 v = Nat.beq (get A (H b)).1 v; rw [hA _ (h1 b v n rfl)]
      | ep p v i n => simp only [liveP]; rw [hA _ (h2 p v i n rfl)]
      | dp p v pi e r xs i n => show Nat.beq (get A' p).1 v = Nat.beq (get A p).1 v; rw [hA _ (h3 p v pi e r xs i n rfl)]
      | _ => rfl
  | const v => exact liveP_ag hA (opT_one (x := .const v) (F := F) trivial h)
  | func f => exact liveP_ag hA (opT_one (x := .func f) (F := F) trivial h)
  | global g => exact liveP_ag hA (opT_one (x := .global g) (F := F) trivial h)

theorem loc_nilCheck {x : Operand} {d : Nat} (ho : o.op = .nilCheck x) (hod : o.dst = some d) (hx : RP A F x) (h : step E o A Kc = some r) : Loc E o A F Kc r := by
  unfold step at h
  rw [ho, hod] at h
  simp only at h
  split at h
  · rename_i y hs
    cases hl : liveP A y with
    | false => rw [hl] at h; simp at h
    | true =>
      rw [hl, cond_true] at h
      refine ⟨_, h, fun A' hA R' K' => ?_⟩
      unfold step
      rw [ho, hod]
      simp only [hx.opT hA, hs, hx.live hA hs, hl, cond_true]
  · cases h

theorem loc_fieldAddr {T : TypeId} {x : Operand} {j d : Nat} (ho : o.op = .fieldAddr T x j) (hod : o.dst = some d) (hx : RP A F x) (h : step E o A Kc = some r) : Loc E o A F Kc r := by
  unfold step at h
  rw [ho, hod] at h
  simp only at h
  split at h
  · rename_i ti y hT hs
    split at h
    · rename_i f hf
      cases hl : (ti.ag && liveP A y) with
      | false => rw [hl] at h; simp at h
      | true =>
        rw [hl, cond_true] at h
        refine ⟨_, h, fun A' hA R' K' => ?_⟩
        unfold step
        rw [ho, hod]
        simp only [hT, hx.opT hA, hs, hf, hx.live hA hs, hl, cond_true]
    · cases h
  · cases h

theorem loc_extract {t j d : Nat} (ho : o.op = .extract (.tmp t) j) (hod : o.dst = some d) (ht : t ∈ F) (h : step E o A Kc = some r) : Loc E o A F Kc r := by
  unfold step at h
  rw [ho, hod] at h
  simp only at h
  cases hb : Nat.blt t E.nt with
  | false => rw [hb] at h; simp at h
  | true =>
    rw [hb, cond_true] at h
    split at h
    · rename_i vs hg
      split at h
      · rename_i ag l hn
        split at h
        · rename_i s hs
          cases hw : ownIn l with
          | true =>
            rw [hw, cond_true] at h
            refine ⟨_, h, fun A' hA R' K' => ?_⟩
            unfold step
            rw [ho, hod]
            simp only [hb, cond_true, hA t ht, hg, hn, hs, hw]
          | false =>
            rw [hw, cond_false] at h
            refine ⟨_, h, fun A' hA R' K' => ?_⟩
            unfold step
            rw [ho, hod]
            simp only [hb, cond_true, hA t ht, hg, hn, hs, hw, cond_false]
        · cases h
      · cases h
    · cases h

theorem loc_field {T : TypeId} {t j d : Nat} (ho : o.op = .field T (.tmp t) j) (hod : o.dst = some d) (ht : t ∈ F) (h : step E o A Kc = some r) : Loc E o A F Kc r := by
  unfold step at h
  rw [ho, hod] at h
  simp only at h
  split at h
  · rename_i ti l hT hg
    split at h
    · rename_i off z ag hn
      split at h
      · rename_i s hs
        cases hb : (ti.ag && Nat.blt t E.nt && Nat.ble (off + z) l.length) with
        | false => rw [hb] at h; simp at h
        | true =>
          rw [hb, cond_true] at h
          cases hw : ownIn ((l.drop off).take z) with
          | true =>
            rw [hw, cond_true] at h
            refine ⟨_, h, fun A' hA R' K' => ?_⟩
            unfold step
            rw [ho, hod]
            simp only [hT, hA t ht, hg, hn, hs, hb, hw, cond_true]
          | false =>
            rw [hw, cond_false] at h
            refine ⟨_, h, fun A' hA R' K' => ?_⟩
            unfold step
            rw [ho, hod]
            simp only [hT, hA t ht, hg, hn, hs, hb, hw, cond_true, cond_false]
      · cases h
    · cases h
  · cases h

theorem loc_alloc {T : TypeId} {d : Nat} (ho : o.op = .alloc T) (hod : o.dst = some d) (hH : H d ∈ F) (h : step E o A Kc = some r) : Loc E o A F Kc r := by
  unfold step at h
  rw [ho, hod] at h
  simp only at h
  split at h
  · rename_i ti hT
    cases hb : (Nat.blt ti.ty.sz 999 && Nat.ble E.np d) with
    | false => rw [hb] at h; simp at h
    | true =>
      rw [hb, cond_true] at h
      refine ⟨_, h, fun A' hA R' K' => ?_⟩
      unfold step
      rw [ho, hod]
      simp only [hT, hb, cond_true, hA _ hH]
  · cases h

theorem RL.als {s : Sv} (h : ∀ y ∈ parts s, RL A F y) : ∀ y ∈ parts s, AL F y := fun y hy => (h y hy).al

theorem loc_box {T : TypeId} {x : Operand} {d : Nat} (ho : o.op = .box T x) (hod : o.dst = some d) (hH : H d ∈ F) (hx : RX A F x) (h : step E o A Kc = some r) : Loc E o A F Kc r := by
  unfold step at h
  rw [ho, hod] at h
  simp only at h
  split at h
  · rename_i ti s hT hs
    cases hb : (storable ((parts s).map (kept A)) && Nat.beq ((parts s).map (kept A)).length ti.ty.sz && Nat.blt ti.ty.sz 999 && Nat.ble E.np d) with
    | false => rw [hb] at h; simp at h
    | true =>
      rw [hb, cond_true] at h
      refine ⟨_, h, fun A' hA R' K' => ?_⟩
      have hal := RL.als (opT_RL hx hs)
      unfold step
      rw [ho, hod]
      simp only [hT, opT_ag hA hx, hs, keptM_ag hA hal, hb, cond_true, costs_ag hA hal, hA _ hH]
  · cases h

theorem loc_load {T : TypeId} {x : Operand} {d : Nat} (ho : o.op = .load T x) (hod : o.dst = some d) (hx : RX A F x) (h : step E o A Kc = some r) : Loc E o A F Kc r := by
  unfold step at h
  rw [ho, hod] at h
  simp only at h
  split at h
  · rename_i ti b v off hT hs
    obtain ⟨h1, h2⟩ : RL A F (.bp b v off) := opT_one hx hs
    split at h
    · rename_i n m hg
      cases hb : (Nat.beq n v && Nat.ble (off + ti.ty.sz) m) with
      | false => rw [hb] at h; simp at h
      | true =>
        rw [hb, cond_true] at h
        have hle : off + ti.ty.sz ≤ m := by
          simp only [Bool.and_eq_true] at hb
          exact Nat.le_of_ble_eq_true hb.2
        have hcell : ∀ i, i < ti.ty.sz → C b (off + i) ∈ F := fun i hi => (h2 m (by rw [hg]) (off + i) (by omega)).1
        split at h
        · rename_i s hp
          refine ⟨_, h, fun A' hA R' K' => ?_⟩
          unfold step
          rw [ho, hod]
          simp only [hT, opT_ag hA hx, hs, hA _ h1, hg, hb, cond_true, cellsOf_ag hA hcell, hp]
        · cases h
    · cases h
  · rename_i ti p v i off hT hs
    have hp : p ∈ F := opT_one hx hs
    split at h
    · rename_i n e r' xs hg
      cases hb : (Nat.beq n v && noOw r' && Nat.ble (off + ti.ty.sz) r'.sz) with
      | false => rw [hb] at h; simp at h
      | true =>
        rw [hb, cond_true] at h
        split at h
        · rename_i s hp2
          refine ⟨_, h, fun A' hA R' K' => ?_⟩
          unfold step
          rw [ho, hod]
          simp only [hT, opT_ag hA hx, hs, hA _ hp, hg, hb, cond_true, hp2]
        · cases h
    · cases h
  · rename_i ti p v pi e0 r' xs i off hT hs
    have hp : p ∈ F := opT_one hx hs
    cases hb : (Nat.beq (get A p).1 v && Nat.ble (off + ti.ty.sz) r'.sz) with
    | false => rw [hb] at h; simp at h
    | true =>
      rw [hb, cond_true] at h
      split at h
      · rename_i s hp2
        refine ⟨_, h, fun A' hA R' K' => ?_⟩
        unfold step
        rw [ho, hod]
        simp only [hT, opT_ag hA hx, hs, hA _ hp, hb, cond_true, hp2]
      · cases h
  · rename_i ti r' x' off hT hs
    cases hb : Nat.ble (off + ti.ty.sz) r'.sz with
    | false => rw [hb] at h; simp at h
    | true =>
      rw [hb, cond_true] at h
      split at h
      · rename_i s hp2
        refine ⟨_, h, fun A' hA R' K' => ?_⟩
        unfold step
        rw [ho, hod]
        simp only [hT, opT_ag hA hx, hs, hb, cond_true, hp2]
      · cases h
  · cases h

theorem loc_store {T : TypeId} {x y : Operand} (ho : o.op = .store T x y) (hod : o.dst = none) (hx : RX A F x) (hy : RX A F y) (h : step E o A Kc = some r) : Loc E o A F Kc r := by
  unfold step at h
  rw [ho, hod] at h
  simp only at h
  split at h
  · rename_i ti b v off s hT hs hs2
    obtain ⟨h1, h2⟩ : RL A F (.bp b v off) := opT_one hx hs
    have hal := RL.als (opT_RL hy hs2)
    cases hmv : mvO E y with
    | true =>
      rw [hmv, cond_true] at h
      split at h
      · rename_i m vs hgive
        split at h
        · rename_i n hd hg
          cases hb : (Nat.beq n v && owned m && Nat.beq m.length ti.ty.sz && Nat.ble (off + ti.ty.sz) hd) with
          | false => rw [hb] at h; simp at h
          | true =>
            rw [hb, cond_true] at h
            refine ⟨_, h, fun A' hA R' K' => ?_⟩
            unfold step
            rw [ho, hod]
            simp only [hT, opT_ag hA hx, hs, opT_ag hA hy, hs2, hmv, give_ag hA hal, hgive, hA _ h1, hg, hb, cond_true]
        · cases h
      · cases h
    | false =>
    rw [hmv, cond_false] at h
    split at h
    · rename_i n m hg
      cases hb : (Nat.beq n v && storable ((parts s).map (kept A)) && Nat.beq ((parts s).map (kept A)).length ti.ty.sz && Nat.ble (off + ti.ty.sz) m) with
      | false => rw [hb] at h; simp at h
      | true =>
        rw [hb, cond_true] at h
        refine ⟨_, h, fun A' hA R' K' => ?_⟩
        unfold step
        rw [ho, hod]
        simp only [hT, opT_ag hA hx, hs, opT_ag hA hy, hs2, hmv, cond_false, hA _ h1, hg, keptM_ag hA hal, hb, cond_true, costs_ag hA hal]
    · cases h
  · rename_i ti p v i off s hT hs hs2
    have hp : p ∈ F := opT_one hx hs
    have hal := RL.als (opT_RL hy hs2)
    split at h
    · rename_i n e r' xs hg
      cases hb : (Nat.beq n v && noOw r' && storable ((parts s).map (kept A)) && Nat.beq ((parts s).map (fun x => calm (kept A x))).length ti.ty.sz && Nat.ble (off + ((parts s).map (fun x => calm (kept A x))).length) r'.sz && apart p (costs A (parts s) ++ gone y s)) with
      | false => rw [hb] at h; simp at h
      | true =>
        rw [hb, cond_true] at h
        split at h
        · rename_i z hz
          refine ⟨_, h, fun A' hA R' K' => ?_⟩
          unfold step
          rw [ho, hod]
          simp only [hT, opT_ag hA hx, hs, opT_ag hA hy, hs2, hA _ hp, hg, keptM_ag hA hal, calmM_ag hA hal, hb, cond_true, costs_ag hA hal, hz]
        · cases h
    · cases h
  · rename_i ti p v q e r1 xs i off s hT hs hs2
    have hp : p ∈ F := opT_one hx hs
    have hal := RL.als (opT_RL hy hs2)
    split at h
    · rename_i m us hgive
      split at h
      · rename_i n E0 R0 XS hg
        cases hb : (Nat.beq n v && owned m && Nat.beq m.length ti.ty.sz && Nat.ble (off + m.length) r1.sz && apart p us && allOw R0) with
        | false => rw [hb] at h; simp at h
        | true =>
          rw [hb, cond_true] at h
          split at h
          · rename_i z hz
            split at h
            · rename_i XS' hput
              refine ⟨_, h, fun A' hA R' K' => ?_⟩
              unfold step
              rw [ho, hod]
              simp only [hT, opT_ag hA hx, hs, opT_ag hA hy, hs2, give_ag hA hal, hgive, hA _ hp, hg, hb, cond_true, hz, hput]
            · cases h
          · cases h
      · cases h
    · cases h
  · cases h
end
end Go.Proofs.Ytehkignjdbkeiaa.Vf
end
