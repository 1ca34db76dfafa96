/- Calls, whole. -/
import Derived.Test.YtehkignjdbkeiaaVx
set_option linter.unusedVariables false
set_option linter.unusedSimpArgs false
namespace Go.Proofs.Ytehkignjdbkeiaa.Vf
open Go
attribute [local irreducible] C H

def ptrAt : Nat → List Par → Nat
  | _, [] => 0
  | i, .ptr _ _ :: _ => i
  | i, .val _ _ :: ps => ptrAt (i + 1) ps

/-- The names of blocks, as the called function has them. -/
def calO (S : Sit) (bs : List Nat) (ip : Nat) : Nat → Lab := fun k => match S.O k with
  | .fz => .fz
  | .tm n q => if 10 ≤ n then .pl (n - 10) q else .no
  | .bx b => if bs = [b] ∧ k = (S.bb b).1 then .bx ip else .no
  | _ => .no

def calR (S : Sit) (bs : List Nat) : Nat → Nat × Nat := fun _ => match bs with
  | [b] => ((S.bb b).2, match (S.g (H b)).2 with | .one (.hd n) => n | _ => 0)
  | _ => (0, 0)

def isTm : Lab → Bool
  | .tm _ _ => true
  | _ => false

/-- What is left of the called function's names. -/
def nmO : Lab → Lab
  | .fz => .fz
  | .tm n q => .tm n q
  | .no => .no
  | _ => .tm 98 []

def aftO (S : Sit) (O' : Nat → Lab) : Nat → Lab := fun k => if k < S.w.heap.size ∧ isTm (S.O k) = false then S.O k else nmO (O' k)

section
variable {X : Cx} {S S1 S2 : Sit} {a : Act} {E : En} {A : Ab} {o : Oper} {R : Type} {Kc : List Up → Option R} {r : R}

theorem calO_fz {S : Sit} {bs : List Nat} {ip k : Nat} (h : S.O k = .fz) : calO S bs ip k = .fz := by simp [calO, h]

theorem mkW_own {e e' : TypeId} {r r' : Ty} {xs : List (Ty.den r')} {y : Ty.den (.ow e r)} (h : mkW (.ow e r) [.own e' r' xs] = some y) : Lf.own e r y = .own e' r' xs := by
  unfold mkW at h
  split at h
  · rename_i z hz
    cases h
    simp only [mkT] at hz
    cases hb : Nat.beq e e' with
    | false => rw [hb] at hz; simp at hz
    | true =>
      rw [hb, cond_true] at hz
      have he : e = e' := Nat.eq_of_beq_eq_true hb
      subst he
      split at hz
      · rename_i ys hys
        obtain ⟨e1, e2⟩ := castL_eq hys
        subst e1
        simp only [Option.some.injEq, Prod.mk.injEq, and_true] at hz
        rw [← hz, e2]
      · cases hz
  · cases h

theorem args_ok (K : Okay X S a) {bs : List Nat} {ip : Nat} : ∀ (ps : List Par) {i : Nat} {ls ls' : List (List Lf)} {us : List Value} {bs' : List Nat}, ArgsP X.P S i ps ls us bs' → Mk (ps.map Par.ty) ls ls' → (∀ b ∈ bs', bs = [b]) → (ptrs ps = 0 ∨ (ptrs ps = 1 ∧ ptrAt i ps = ip)) →
    ArgsOk X.P (bare (calO S bs ip) S.w) (calR S bs) i ps ls' us
  | [], i, [], [], [], bs', _, _, _, _ => trivial
  | [], i, [], _ :: _, _, bs', _, hm, _, _ => hm.elim
  | [], i, _ :: _, _, _, bs', h, _, _, _ => h.elim
  | [], i, [], [], _ :: _, bs', h, _, _, _ => h.elim
  | p :: ps, i, [], _, _, bs', h, _, _, _ => h.elim
  | p :: ps, i, _ :: _, _, [], bs', h, _, _, _ => h.elim
  | p :: ps, i, l :: ls, [], _ :: _, bs', _, hm, _, _ => hm.elim
  | p :: ps, i, l :: ls, l' :: ls', u :: us, bs', h, hm, hb, hip => by
    obtain ⟨b1, b2, rfl, h1, h2⟩ := h
    obtain ⟨⟨y, hy, rfl⟩, hm2⟩ := hm
    have hrest : (ptrs ps = 0 ∨ (ptrs ps = 1 ∧ ptrAt (i + 1) ps = ip)) := by
      cases p with
      | val ag t => simpa [ptrs, ptrAt] using hip
      | ptr t t' => left; simp only [ptrs] at hip; omega
    refine ⟨?_, args_ok K ps h2 hm2 (fun b hb' => hb b (List.mem_append_right _ hb')) hrest⟩
    cases p with
    | val ag t =>
      obtain ⟨_, hv⟩ := h1
      rcases hv with ⟨n1, vs, n2, n3⟩ | ⟨rfl, e, r', e', r'', xs, rfl, rfl, n3⟩
      · exact ⟨vs, n2, shared_arg (S := bare (calO S bs ip) S.w) (fun k hk => calO_fz hk) hy n1 n3 _ _⟩
      · refine ⟨[u], rfl, ?_⟩
        have e1 := mkW_own hy
        show LfsOk X.P _ _ 0 [.own e r' y] [u]
        rw [e1]
        exact ⟨LfOk.bare (S1 := S) (S2 := bare (calO S bs ip) S.w) (lab := .tm (10 + i) []) rfl rfl (fun k hk => calO_fz hk) (fun k hk => by
          show calO S bs ip k = _
          simp only [calO, hk]
          rw [if_pos (by omega), show 10 + i - 10 = i by omega]
          rfl) n3, trivial⟩
    | ptr t t' =>
      obtain ⟨b, rfl, n2, n3, n4, n5, n6, n7, n8⟩ := h1
      have hbs : bs = [b] := hb b (by simp)
      obtain ⟨g1, c, e, g2, g3, g4, g5⟩ := K.box b _ n3
      have hi : ip = i := by
        rcases hip with h | ⟨_, h⟩
        · simp only [ptrs] at h; omega
        · simp only [ptrAt] at h; exact h.symm
      refine ⟨(S.bb b).1, (S.bb b).2, c, e, _, n2, g2, ?_, ?_, g4, g1, by rw [leaves_len]; rfl, fun j hj => ?_, shared_arg (S := bare (calO S bs ip) S.w) (fun k hk => calO_fz hk) hy n4 n8 _ _⟩
      · show calO S bs ip _ = _
        simp [calO, g3, hbs, hi]
      · show calR S bs i = _
        rw [hbs]
        simp only [calR, n3]
      · rw [g5 j hj]
        simp [hj]

theorem args_bs {P : Program} {S : Sit} : ∀ (ps : List Par) {i : Nat} {ls : List (List Lf)} {us : List Value} {bs : List Nat}, ArgsP P S i ps ls us bs → bs.length = ptrs ps
  | [], i, [], [], bs, h => by
    have : bs = [] := h
    subst this
    rfl
  | [], i, _ :: _, _, _, h => h.elim
  | [], i, [], _ :: _, _, h => h.elim
  | p :: ps, i, [], _, _, h => h.elim
  | p :: ps, i, _ :: _, [], _, h => h.elim
  | p :: ps, i, l :: ls, u :: us, bs, h => by
    obtain ⟨b1, b2, rfl, h1, h2⟩ := h
    have := args_bs ps h2
    cases p with
    | val ag t =>
      obtain ⟨rfl, _⟩ := h1
      simpa [ptrs] using this
    | ptr t t' =>
      obtain ⟨b, rfl, _⟩ := h1
      simp only [ptrs, List.length_append, List.length_singleton]
      omega

theorem leavesD_drop : ∀ (ts us : List Ty) (x : Den (ts ++ us)), ∃ y, (leavesD (ts ++ us) x).drop ts.length = leavesD us y
  | [], us, x => ⟨x, rfl⟩
  | [t], [], x => ⟨(), rfl⟩
  | [t], u :: us, x => ⟨x.2, rfl⟩
  | t :: t2 :: ts, us, x => leavesD_drop (t2 :: ts) us x.2

/-- Of the pointer that was handed on: what is behind it now. -/
theorem back_ptr {P : Program} {S S' : Sit} : ∀ (ps : List Par) {i : Nat} {ls : List (List Lf)} {us : List Value} {b : Nat} {y : Den (ptrOuts ps)}, ptrs ps = 1 → ArgsP P S i ps ls us [b] → Backs P S' i ps us (leavesD (ptrOuts ps) y) →
    ∃ (t t' : Ty) (u : Value) (z : t'.den), leavesD (ptrOuts ps) y = [leaves t' z] ∧ u = .pointer (some ⟨(S.bb b).1, (S.bb b).2, none⟩) ∧ (S.g (H b)).2 = .one (.hd t.sz) ∧ noOw t' = true ∧ t'.sz = t.sz ∧ BackOk P S' (ptrAt i ps) t' (leaves t' z) u
  | [], _, _, _, _, _, hp, _, _ => by simp [ptrs] at hp
  | .val ag t :: ps, i, [], _, _, _, _, h, _ => h.elim
  | .val ag t :: ps, i, _ :: _, [], _, _, _, h, _ => h.elim
  | .val ag t :: ps, i, l :: ls, u :: us, b, y, hp, h, hb => by
    obtain ⟨b1, b2, e1, ⟨rfl, _⟩, h2⟩ := h
    simp only [List.nil_append] at e1
    subst e1
    exact back_ptr ps (i := i + 1) (y := y) hp h2 hb
  | .ptr t t' :: ps, i, [], _, _, _, _, h, _ => h.elim
  | .ptr t t' :: ps, i, _ :: _, [], _, _, _, h, _ => h.elim
  | .ptr t t' :: ps, i, l :: ls, u :: us, b, y, hp, h, hb => by
    obtain ⟨b1, b2, e1, ⟨b', rfl, n2, n3, n4, n5, n6, n7, n8⟩, h2⟩ := h
    simp only [List.singleton_append, List.cons.injEq] at e1
    obtain ⟨rfl, rfl⟩ := e1
    have hp0 : ptrs ps = 0 := by simp only [ptrs] at hp; omega
    have outs : ∀ ps : List Par, ptrs ps = 0 → ptrOuts ps = [] := by
      intro ps
      induction ps with
      | nil => intro _; rfl
      | cons p ps ih =>
        intro h
        cases p with
        | val ag t => exact ih (by simpa [ptrs] using h)
        | ptr t t' => simp [ptrs] at h
    have ho := outs ps hp0
    have key : ∀ (os : List Ty) (y : Den (t' :: os)), os = [] → ∃ z : t'.den, leavesD (t' :: os) y = [leaves t' z] := by
      intro os y h
      subst h
      exact ⟨y, rfl⟩
    obtain ⟨z, hz⟩ := key (ptrOuts ps) y ho
    refine ⟨t, t', u, z, hz, n2, n3, n5, n6, ?_⟩
    have hb' : Backs P S' i (.ptr t t' :: ps) (u :: us) (leavesD (t' :: ptrOuts ps) y) := hb
    rw [hz] at hb'
    exact hb'.1

theorem nmO_tm {n : Nat} {q : List Nat} : nmO (.tm n q) = .tm n q := rfl

/-- What has become of the blocks behind a call. -/
theorem after_call {S : Sit} {bs : List Nat} {ip : Nat} {rg : Nat → Nat × Nat} {O' : Nat → Lab} {w' : World} (hF : Fr (calO S bs ip) S.w rg O' w') :
    (∀ k, k < S.w.heap.size → isTm (S.O k) = false → aftO S O' k = S.O k ∧ ((∀ b, bs = [b] → k ≠ (S.bb b).1) → w'.heap[k]? = S.w.heap[k]?)) ∧
    (∀ k, O' k = .fz → aftO S O' k = .fz) ∧ (∀ k n q, O' k = .tm n q → aftO S O' k = .tm n q) := by
  have cases3 : ∀ k, k < S.w.heap.size → isTm (S.O k) = false → (O' k = .fz ∧ S.O k = .fz ∧ w'.heap[k]? = S.w.heap[k]?) ∨ (O' k = .no ∧ w'.heap[k]? = S.w.heap[k]?) ∨ (O' k = .bx ip ∧ ∃ b, bs = [b] ∧ k = (S.bb b).1) := by
    intro k hk ht
    cases hO : S.O k with
    | fz =>
      have := hF.fz k hk (calO_fz hO)
      exact .inl ⟨this.1, rfl, this.2⟩
    | no =>
      have := hF.no k hk (by simp [calO, hO])
      exact .inr (.inl this)
    | pl l p =>
      have := hF.no k hk (by simp [calO, hO])
      exact .inr (.inl this)
    | tm n q => rw [hO] at ht; simp [isTm] at ht
    | bx b =>
      by_cases hb : bs = [b] ∧ k = (S.bb b).1
      · have h2 : calO S bs ip k = .bx ip := by simp only [calO, hO]; rw [if_pos hb]
        exact .inr (.inr ⟨(hF.bx k ip hk h2).1, b, hb⟩)
      · have h2 : calO S bs ip k = .no := by simp only [calO, hO]; rw [if_neg hb]
        exact .inr (.inl (hF.no k hk h2))
  refine ⟨fun k hk ht => ⟨by unfold aftO; rw [if_pos ⟨hk, ht⟩], fun hnb => ?_⟩, fun k hk => ?_, fun k n q hk => ?_⟩
  · rcases cases3 k hk ht with h | h | ⟨_, b, h1, h2⟩
    · exact h.2.2
    · exact h.2
    · exact absurd h2 (hnb b h1)
  · unfold aftO
    split
    · rename_i hc
      rcases cases3 k hc.1 hc.2 with h | h | h
      · exact h.2.1
      · rw [hk] at h; cases h.1
      · rw [hk] at h; cases h.1
    · rw [hk]; rfl
  · unfold aftO
    split
    · rename_i hc
      rcases cases3 k hc.1 hc.2 with h | h | h <;> (rw [hk] at h; cases h.1)
    · rw [hk]; rfl

theorem solid_storable : ∀ l : List Lf, (∀ y ∈ l, solid y = true) → storable l = true
  | [], _ => rfl
  | x :: l, h => by
    have h1 := h x (by simp)
    have h2 := solid_storable l (fun y hy => h y (List.mem_cons_of_mem _ hy))
    cases x <;> first | (simp [solid] at h1; done) | simpa [storable] using h2

theorem ptrAt_lt : ∀ (ps : List Par) (i : Nat), ptrs ps ≠ 0 → ptrAt i ps < i + ps.length
  | [], i, h => by simp [ptrs] at h
  | .val _ _ :: ps, i, h => by
    have := ptrAt_lt ps (i + 1) (by simpa [ptrs] using h)
    simp only [ptrAt, List.length_cons]
    omega
  | .ptr _ _ :: ps, i, h => by simp only [ptrAt, List.length_cons]; omega

theorem ptr_box {P : Program} {S : Sit} : ∀ (ps : List Par) {i : Nat} {ls : List (List Lf)} {us : List Value} {bs : List Nat}, ArgsP P S i ps ls us bs → ∀ b ∈ bs, ∃ n, (S.g (H b)).2 = .one (.hd n)
  | [], i, [], [], bs, h => by
    have : bs = [] := h
    subst this
    simp
  | [], i, _ :: _, _, _, h => h.elim
  | [], i, [], _ :: _, _, h => h.elim
  | p :: ps, i, [], _, _, h => h.elim
  | p :: ps, i, _ :: _, [], _, h => h.elim
  | p :: ps, i, l :: ls, u :: us, bs, h => by
    obtain ⟨b1, b2, rfl, h1, h2⟩ := h
    intro b hb
    rcases List.mem_append.1 hb with hb | hb
    · cases p with
      | val ag t => obtain ⟨rfl, _⟩ := h1; cases hb
      | ptr t t' =>
        obtain ⟨b', rfl, _, n3, _⟩ := h1
        simp at hb
        subst hb
        exact ⟨_, n3⟩
    · exact ptr_box ps h2 b hb

theorem cal_bx (K : Okay X S a) {ps : List Par} {ls : List (List Lf)} {us : List Value} {bs : List Nat} (h : ArgsP X.P S 0 ps ls us bs) (hbs : bs = [] ∨ ∃ b, bs = [b]) : ∀ k b, calO S bs (ptrAt 0 ps) k = .bx b → b < ps.length ∧ (∃ c e f, S.w.heap[k]? = some (.cells c e f)) ∧ ∀ k', calO S bs (ptrAt 0 ps) k' = .bx b → k' = k := by
  intro k b hk
  unfold calO at hk
  split at hk
  · cases hk
  · split at hk <;> cases hk
  · rename_i b' hb'
    split at hk
    · rename_i hc
      cases hk
      obtain ⟨hc1, hc2⟩ := hc
      subst hc1
      have hl := args_bs ps h
      obtain ⟨n, hn⟩ := ptr_box ps h b' (by simp)
      obtain ⟨_, c, e, g2, _⟩ := K.box b' n hn
      refine ⟨by have := ptrAt_lt ps 0 (by simp at hl; omega); omega, ⟨c, e, (0, 0), by rw [hc2]; exact g2⟩, fun k' hk' => ?_⟩
      unfold calO at hk'
      split at hk'
      · cases hk'
      · split at hk' <;> cases hk'
      · rename_i b2 _
        split at hk'
        · rename_i hc3
          obtain ⟨hc4, hc5⟩ := hc3
          simp only [List.cons.injEq, and_true] at hc4
          subst hc4
          rw [hc5, hc2]
        · cases hk'
      · cases hk'
    · cases hk
  · cases hk

theorem st_call (hE : EnOk X E) (hcall : ∀ f en, E.call f = some en → CallOk X.P f en) (K : Okay X S a) (hg : S.g = get A) {c : Call} {f : FuncId} (ho : o.op = .call c) (hc : c.callee = .value (.func f)) (hd : ∀ d, o.dst = some d → d < X.nt)
    (h : step E o A Kc = some r) : After X o a S.w A Kc r := by
  unfold step at h
  rw [ho] at h
  simp only [hc] at h
  split at h
  · rename_i en ss he hss
    unfold callF at h
    cases hl : (lends en.ps && news en.rs) with
    | true =>
      rw [hl, cond_true] at h
      simp only [Bool.and_eq_true] at hl
      exact st_lend hE hcall K hg ho hc hd he hss hl.1 hl.2 h
    | false =>
      rw [hl, cond_false] at h
      cases hp : (Nat.ble (ptrs en.ps) 1 && okPtr E en.rs o.dst) with
      | false => rw [hp] at h; simp at h
      | true =>
        rw [hp, cond_true] at h
        simp only [Bool.and_eq_true] at hp
        have hple : ptrs en.ps ≤ 1 := Nat.le_of_ble_eq_true hp.1
        have hnp : ∀ d', o.dst = some d' → anyPtr en.rs = true → X.np ≤ d' := fun d' h1 h2 => by
          have := hp.2
          unfold okPtr at this
          rw [h1, h2] at this
          exact hE.np ▸ (Nat.le_of_ble_eq_true (by simpa using this))
        split at h
        · cases h
        · rename_i ls us bs hargs
          split at h
          · cases h
          · rename_i x hx
            cases hrun : en.run x with
            | none => rw [hrun] at h; simp at h
            | some y =>
              rw [hrun] at h
              simp only [Option.bind_some] at h
              split at h
              · cases h
              · rename_i ws hws
                split at h
                · cases h
                · rename_i rs hrs
                  have hco := hcall f en he
                  obtain ⟨S1, K1, g1, st1, p1⟩ := args_step (X := X) (a := a) hE en.ps 0 K hg hargs
                  have hbl := args_bs en.ps p1
                  have hbs : bs = [] ∨ ∃ b, bs = [b] := by
                    cases bs with
                    | nil => exact .inl rfl
                    | cons b bs =>
                      cases bs with
                      | nil => exact .inr ⟨b, rfl⟩
                      | cons b2 bs => simp only [List.length_cons] at hbl; omega
                  have hok := args_ok (bs := bs) (ip := ptrAt 0 en.ps) K1 en.ps p1 (mkDen_mk _ _ _ hx) (by
                    intro b hb
                    rcases hbs with rfl | ⟨b', rfl⟩
                    · cases hb
                    · simp at hb; rw [hb]) (by
                    rcases hbs with rfl | ⟨b', rfl⟩
                    · left; simpa using hbl.symm
                    · right; exact ⟨by simpa using hbl.symm, rfl⟩)
                  have hs := hco.sound x y hrun S1.w (calO S1 bs (ptrAt 0 en.ps)) (calR S1 bs) _ (fun k hk => K1.lt k (fun e => hk (by simp [calO, e]))) (cal_bx K1 p1 hbs) hok
                  refine ⟨_, h, goes_enter (run_enter ho hc hco) (calls_mono (by rw [← st1.w]; exact hs) ?_)⟩
                  rintro e w' ⟨v, O', rfl, hF, hlt, hres, hback⟩
                  refine ⟨v, rfl, ?_⟩
                  obtain ⟨a1, a2, a3⟩ := after_call hF
                  have hlt2 : ∀ k, aftO S1 O' k ≠ .no → k < w'.heap.size := fun k hk => by
                    by_cases hkl : k < S1.w.heap.size
                    · exact Nat.lt_of_lt_of_le hkl hF.size
                    · refine hlt k (fun e => hk ?_)
                      unfold aftO
                      rw [if_neg (fun h => hkl h.1), e]
                      rfl
                  have hnt : ∀ k, (∀ n q, S1.O k ≠ .tm n q) → isTm (S1.O k) = false := fun k hk => by
                    cases hO : S1.O k <;> first | rfl | exact absurd hO (hk _ _)
                  -- behind the call
                  have key : ∃ S2, Okay X S2 a ∧ S2.g = get (ups (ups A us) ws) ∧ S2.w = w' ∧ S2.O = aftO S1 O' := by
                    rcases hbs with rfl | ⟨b, rfl⟩
                    · simp only [backs, Option.some.injEq] at hws
                      subst hws
                      obtain ⟨K2, L2⟩ := K1.world (w' := w') (O' := aftO S1 O') (fun k hk ht => by
                        obtain ⟨b1, b2⟩ := a1 k hk (hnt k ht)
                        exact ⟨b1, b2 (fun b hb => by cases hb)⟩) hF.os hF.tape hF.out hF.size hlt2
                      exact ⟨_, K2, g1, rfl, rfl⟩
                    · have hp1 : ptrs en.ps = 1 := by simpa using hbl.symm
                      obtain ⟨yb, hyb⟩ := leavesD_drop (en.rs.map Prod.snd) (ptrOuts en.ps) y
                      rw [List.length_map] at hyb
                      rw [hyb] at hback hws
                      obtain ⟨t, t', u, z, e1, e2, e3, e4, e5, e6⟩ := back_ptr en.ps hp1 p1 hback
                      rw [e1] at hws
                      simp only [backs, Option.some.injEq] at hws
                      subst hws
                      obtain ⟨k, o', c', e, vs, f1, f2, f3, f4, f5⟩ := e6
                      rw [e2] at f1
                      cases f1
                      obtain ⟨g0, c0, e0, g2, g3, g4, g5⟩ := K1.box b _ e3
                      have hcb : calO S1 [b] (ptrAt 0 en.ps) (S1.bb b).1 = .bx (ptrAt 0 en.ps) := by simp [calO, g3]
                      obtain ⟨h1, c1, c2, e7, ff, h2, h3, h4, h5⟩ := hF.bx _ _ (K1.lt _ (by rw [g3]; simp)) hcb
                      rw [g2] at h2
                      cases h2
                      have f2' : w'.heap[(S1.bb b).1]? = some (.cells c' e) := f2
                      rw [h3] at f2'
                      cases f2'
                      have hml : (leaves t' z).length = t.sz := by rw [leaves_len, e5]
                      have hul := f5.len
                      have hrg : calR S1 [b] (ptrAt 0 en.ps) = ((S1.bb b).2, t.sz) := by simp only [calR, e3]
                      rw [hrg] at h5
                      have hno : ownIn (leaves t' z) = false := by
                        rw [noOw_leaves t' z e4]
                        have : ∀ (t : Ty) (x : t.den), ownIn (lvs t x) = false := by
                          intro t
                          induction t with
                          | pr x y ihx ihy =>
                            intro p
                            have app : ∀ l m, ownIn l = false → ownIn m = false → ownIn (l ++ m) = false := by
                              intro l m hl hm
                              induction l with
                              | nil => exact hm
                              | cons x l ih => cases x <;> first | (simp [ownIn] at hl; done) | exact ih (by simpa [ownIn] using hl)
                            exact app _ _ (ihx p.1) (ihy p.2)
                          | _ => intro x; rfl
                        exact this t' z
                      obtain ⟨K2, L2⟩ := K1.worldBox (b := b) (m := leaves t' z) (us := vs) (O' := aftO S1 O') (w' := w') (c := c0) (c' := c') (e := e) (by rw [hml]; exact e3) g2 h3 h4 (fun i hi => h5 i (by rw [hml] at hi; exact hi)) (fun j hj => f4 j (by rw [leaves_len] at hj; exact hj)) hul (leaves_solid t' z)
                        (fun f => LfsOk.ofRep (S := bare (aftO S1 O') w') ((rep_of_noOwn (solid_storable _ (leaves_solid t' z)) hno f5).imp (fun x u hx => hx.mono (fun k hk => a2 k hk) (fun _ _ => rfl))) f 0)
                        (fun k hk ht => by
                          obtain ⟨b1, b2⟩ := a1 k hk (hnt k ht)
                          exact ⟨b1, fun hne => b2 (fun b' hb' => by cases hb'; exact hne)⟩) hF.os hF.tape hF.out hF.size hlt2
                      refine ⟨_, K2, ?_, rfl, rfl⟩
                      show gput S1.g b 0 _ = _
                      rw [List.append_nil, get_putCells, ← g1]
                  obtain ⟨S2, K2, g2, w2, o2⟩ := key
                  have hres1 : Results X.P S2 S1.w.heap.size en.rs (leavesD _ y) v := Results.imp (S1 := bare O' w') (S2 := S2) w2 (fun k i hk => by rw [o2]; exact a3 k i [] hk)
                    (fun l hl' z hz i q u hu => LfOk.bare (S1 := bare O' w') (S2 := S2) (leavesD_solid _ y l hl' z hz) w2 (fun k hk => by rw [o2]; exact a2 k hk) (fun k hk => by rw [o2]; exact a3 k i q hk) hu) hres
                  obtain ⟨S3, K3, w3, g3⟩ := put_res K2 g2 hd K1.fr.size (leavesD_solid _ y) hnp hres1 hrs
                  refine ⟨S3, w3.trans w2, K3, ?_⟩
                  rw [g3, ups_append, ups_append]
  · cases h
end
end Go.Proofs.Ytehkignjdbkeiaa.Vf
