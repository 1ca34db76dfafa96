import Derived.Test.YtehkignjdbkeiaaMaf
section
/- Calls, whole. -/
set_option linter.unusedVariables false
set_option linter.unusedSimpArgs false
namespace Go.Proofs.Ytehkignjdbkeiaa.Vf
open Go
attribute [local irreducible] C H

def ptrAt : Nat → List Par → Nat
  | _, [] => 0
  | i, .ptr _ _ :: _ => i
  | i, .val _ _ :: ps => ptrAt (i + 1) ps

/-- The names of blocks, as the called function has them. -/
def calO (S : Sit) (bs : List Nat) (ip : Nat) : Nat → Lab := fun k => match S.O k with
  | .fz => .fz
  | .tm n q => if 10 ≤ n then .pl (n - 10) q else .no
  | .bx b => if bs = [b] ∧ k = (S.bb b).1 then .bx ip else .no
  | _ => .no

def calR (S : Sit) (bs : List Nat) : Nat → Nat × Nat := fun _ => match bs with
  | [b] => ((S.bb b).2, match (S.g (H b)).2 with | .one (.hd n) => n | _ => 0)
  | _ => (0, 0)

def isTm : Lab → Bool
  | .tm _ _ => true
  | _ => false

/-- What is left of the called function's names. -/
def nmO : Lab → Lab
  | .fz => .fz
  | .tm n q => .tm n q
  | .no => .no
  | _ => .tm 98 []

def aftO (S : Sit) (O' : Nat → Lab) : Nat → Lab := fun k => if k < S.w.heap.size ∧ isTm (S.O k) = false then S.O k else nmO (O' k)

section
variable {X : Cx} {S S1 S2 : Sit} {a : Act} {E : En} {A : Ab} {o : Oper} {R : Type} {Kc : List Up → Option R} {r : R}

theorem calO_fz {S : Sit} {bs : List Nat} {ip k : Nat} (h : S.O k = .fz) : calO S bs ip k = .fz := by simp [calO, h]

/-- Where every slice is its holder's own, a value's leaves hold what the leaves held that it is made of. -/
theorem mkT_lfs {P : Program} {S : Sit} {f : Nat → Lab} : ∀ (t : Ty) (l l' : List Lf) (x : t.den) (j : Nat) (us : List Value), noSl t = true → mkT t l = some (x, l') → LfsOk P S f j l us → LfsOk P S f j (leaves t x ++ l') us := by
  intro t
  induction t with
  | sl e r _ => intro l l' x j us h; simp [noSl] at h
  | pr p q ihp ihq =>
    intro l l' x j us h hm hl
    simp only [noSl, Bool.and_eq_true] at h
    simp only [mkT] at hm
    split at hm
    · rename_i y l1 h1
      split at hm
      · rename_i z l2 h2
        simp only [Option.some.injEq, Prod.mk.injEq] at hm
        obtain ⟨rfl, rfl⟩ := hm
        have h3 := ihp _ _ _ j us h.1 h1 hl
        have key : ∀ (a : List Lf) (j : Nat) (us : List Value), LfsOk P S f j (a ++ l1) us → LfsOk P S f j (a ++ (leaves q z ++ l2)) us := by
          intro a
          induction a with
          | nil => intro j us h4; exact ihq _ _ _ j us h.2 h2 h4
          | cons b a ih =>
            intro j us h4
            cases us with
            | nil => exact h4.elim
            | cons u us => exact ⟨h4.1, ih (j + 1) us h4.2⟩
        have h5 := key _ j us h3
        rw [← List.append_assoc] at h5
        exact h5
      · cases hm
    · cases hm
  | ow e r _ =>
    intro l l' x j us _ hm hl
    cases l with
    | nil => simp [mkT] at hm
    | cons z l =>
      cases us with
      | nil => exact hl.elim
      | cons u us =>
        cases z <;> first | (simp [mkT] at hm; done) | skip
        rename_i e' r' xs
        simp only [mkT] at hm
        cases hb : Nat.beq e e' with
        | false => rw [hb] at hm; simp at hm
        | true =>
          rw [hb, cond_true] at hm
          have he : e = e' := Nat.eq_of_beq_eq_true hb
          subst he
          split at hm
          · rename_i ys hys
            simp only [Option.some.injEq, Prod.mk.injEq] at hm
            obtain ⟨rfl, rfl⟩ := hm
            exact ⟨OwnOk.cast hys hl.1, hl.2⟩
          · cases hm
  | i k =>
    intro l l' x j us _ hm hl
    cases l with
    | nil => simp [mkT] at hm
    | cons z l =>
      cases z <;> first | (simp [mkT] at hm; done) | skip
      rename_i v
      cases v <;> first | (simp [mkT] at hm; done) | skip
      rename_i k' n
      simp only [mkT] at hm
      by_cases hk : k = k'
      · subst hk
        simp at hm
        obtain ⟨rfl, rfl⟩ := hm
        exact hl
      · simp [hk] at hm
  | b =>
    intro l l' x j us _ hm hl
    cases l with
    | nil => simp [mkT] at hm
    | cons z l =>
      cases z <;> first | (simp [mkT] at hm; done) | skip
      rename_i v
      cases v <;> first | (simp [mkT] at hm; done) | skip
      simp [mkT] at hm
      obtain ⟨rfl, rfl⟩ := hm
      exact hl
  | s =>
    intro l l' x j us _ hm hl
    cases l with
    | nil => simp [mkT] at hm
    | cons z l =>
      cases z <;> first | (simp [mkT] at hm; done) | skip
      rename_i v
      cases v <;> first | (simp [mkT] at hm; done) | skip
      simp [mkT] at hm
      obtain ⟨rfl, rfl⟩ := hm
      exact hl

theorem mkW_lfs {P : Program} {S : Sit} {f : Nat → Lab} {t : Ty} {l : List Lf} {x : t.den} {j : Nat} {us : List Value} (hn : noSl t = true) (h : mkW t l = some x) (hl : LfsOk P S f j l us) : LfsOk P S f j (leaves t x) us := by
  unfold mkW at h
  split at h
  · rename_i y hy
    cases h
    have := mkT_lfs t l [] _ j us hn hy hl
    rwa [List.append_nil] at this
  · cases h

theorem owned_solid : ∀ {m : List Lf}, owned m = true → ∀ y ∈ m, solid y = true
  | [], _ => by simp
  | x :: m, h => by
    intro y hy
    rcases List.mem_cons.1 hy with rfl | hy
    · cases y <;> first | (simp [owned] at h; done) | rfl
    · exact owned_solid (by cases x <;> first | (simp [owned] at h; done) | simpa [owned] using h) y hy

theorem args_ok (K : Okay X S a) {bs : List Nat} {ip : Nat} : ∀ (ps : List Par) {i : Nat} {ls ls' : List (List Lf)} {us : List Value} {bs' : List Nat}, ArgsP X.P S i ps ls us bs' → Mk (ps.map Par.ty) ls ls' → (∀ b ∈ bs', bs = [b]) → (ptrs ps = 0 ∨ (ptrs ps = 1 ∧ ptrAt i ps = ip)) →
    ArgsOk X.P (bare (calO S bs ip) S.w) (calR S bs) i ps ls' us
  | [], i, [], [], [], bs', _, _, _, _ => trivial
  | [], i, [], _ :: _, _, bs', _, hm, _, _ => hm.elim
  | [], i, _ :: _, _, _, bs', h, _, _, _ => h.elim
  | [], i, [], [], _ :: _, bs', h, _, _, _ => h.elim
  | p :: ps, i, [], _, _, bs', h, _, _, _ => h.elim
  | p :: ps, i, _ :: _, _, [], bs', h, _, _, _ => h.elim
  | p :: ps, i, l :: ls, [], _ :: _, bs', _, hm, _, _ => hm.elim
  | p :: ps, i, l :: ls, l' :: ls', u :: us, bs', h, hm, hb, hip => by
    obtain ⟨b1, b2, rfl, h1, h2⟩ := h
    obtain ⟨⟨y, hy, rfl⟩, hm2⟩ := hm
    have hrest : (ptrs ps = 0 ∨ (ptrs ps = 1 ∧ ptrAt (i + 1) ps = ip)) := by
      cases p with
      | val ag t => simpa [ptrs, ptrAt] using hip
      | ptr t t' => left; simp only [ptrs] at hip; omega
    refine ⟨?_, args_ok K ps h2 hm2 (fun b hb' => hb b (List.mem_append_right _ hb')) hrest⟩
    cases p with
    | val ag t =>
      obtain ⟨_, hv⟩ := h1
      rcases hv with ⟨n1, vs, n2, n3⟩ | ⟨rfl, e, r', e', r'', xs, rfl, rfl, n3⟩ | ⟨rfl, n1, n2, vs, n3, n4⟩
      · exact ⟨vs, n2, shared_arg (S := bare (calO S bs ip) S.w) (fun k hk => calO_fz hk) hy n1 n3 _ _⟩
      · refine ⟨[u], rfl, ?_⟩
        refine mkW_lfs (t := .ow e r') rfl hy ?_
        exact ⟨LfOk.bare (S1 := S) (S2 := bare (calO S bs ip) S.w) (lab := .tm (10 + i) []) rfl rfl (fun k hk => calO_fz hk) (fun k hk => by
          show calO S bs ip k = _
          simp only [calO, hk]
          rw [if_pos (by omega), show 10 + i - 10 = i by omega]
          rfl) n3, trivial⟩
      · refine ⟨vs, n3, mkW_lfs n1 hy ?_⟩
        refine LfsOk.impS (S1 := S) (owned_solid n2) (fun n x u hx h => LfOk.bare (S1 := S) (S2 := bare (calO S bs ip) S.w) (lab := .tm (10 + i) [n]) hx rfl (fun k hk => calO_fz hk) (fun k hk => by
          show calO S bs ip k = _
          simp only [calO, hk]
          rw [if_pos (by omega), show 10 + i - 10 = i by omega]
          rfl) h) n4
    | ptr t t' =>
      obtain ⟨b, rfl, n2, n3, n4, n5, n6, n7, n8⟩ := h1
      have hbs : bs = [b] := hb b (by simp)
      obtain ⟨g1, c, e, g2, g3, g4, g5⟩ := K.box b _ n3
      have hi : ip = i := by
        rcases hip with h | ⟨_, h⟩
        · simp only [ptrs] at h; omega
        · simp only [ptrAt] at h; exact h.symm
      refine ⟨(S.bb b).1, (S.bb b).2, c, e, _, n2, g2, ?_, ?_, g4, g1, by rw [leaves_len]; rfl, fun j hj => ?_, shared_arg (S := bare (calO S bs ip) S.w) (fun k hk => calO_fz hk) hy n4 n8 _ _⟩
      · show calO S bs ip _ = _
        simp [calO, g3, hbs, hi]
      · show calR S bs i = _
        rw [hbs]
        simp only [calR, n3]
      · rw [g5 j hj]
        simp [hj]

theorem args_bs {P : Program} {S : Sit} : ∀ (ps : List Par) {i : Nat} {ls : List (List Lf)} {us : List Value} {bs : List Nat}, ArgsP P S i ps ls us bs → bs.length = ptrs ps
  | [], i, [], [], bs, h => by
    have : bs = [] := h
    subst this
    rfl
  | [], i, _ :: _, _, _, h => h.elim
  | [], i, [], _ :: _, _, h => h.elim
  | p :: ps, i, [], _, _, h => h.elim
  | p :: ps, i, _ :: _, [], _, h => h.elim
  | p :: ps, i, l :: ls, u :: us, bs, h => by
    obtain ⟨b1, b2, rfl, h1, h2⟩ := h
    have := args_bs ps h2
    cases p with
    | val ag t =>
      obtain ⟨rfl, _⟩ := h1
      simpa [ptrs] using this
    | ptr t t' =>
      obtain ⟨b, rfl, _⟩ := h1
      simp only [ptrs, List.length_append, List.length_singleton]
      omega

theorem leavesD_drop : ∀ (ts us : List Ty) (x : Den (ts ++ us)), ∃ y, (leavesD (ts ++ us) x).drop ts.length = leavesD us y
  | [], us, x => ⟨x, rfl⟩
  | [t], [], x => ⟨(), rfl⟩
  | [t], u :: us, x => ⟨x.2, rfl⟩
  | t :: t2 :: ts, us, x => leavesD_drop (t2 :: ts) us x.2

/-- Of the pointer that was handed on: what is behind it now. -/
theorem back_ptr {P : Program} {S S' : Sit} : ∀ (ps : List Par) {i : Nat} {ls : List (List Lf)} {us : List Value} {b : Nat} {y : Den (ptrOuts ps)}, ptrs ps = 1 → ArgsP P S i ps ls us [b] → Backs P S' i ps us (leavesD (ptrOuts ps) y) →
    ∃ (t t' : Ty) (u : Value) (z : t'.den), leavesD (ptrOuts ps) y = [leaves t' z] ∧ u = .pointer (some ⟨(S.bb b).1, (S.bb b).2, none⟩) ∧ (S.g (H b)).2 = .one (.hd t.sz) ∧ noOw t' = true ∧ t'.sz = t.sz ∧ BackOk P S' (ptrAt i ps) t' (leaves t' z) u
  | [], _, _, _, _, _, hp, _, _ => by simp [ptrs] at hp
  | .val ag t :: ps, i, [], _, _, _, _, h, _ => h.elim
  | .val ag t :: ps, i, _ :: _, [], _, _, _, h, _ => h.elim
  | .val ag t :: ps, i, l :: ls, u :: us, b, y, hp, h, hb => by
    obtain ⟨b1, b2, e1, ⟨rfl, _⟩, h2⟩ := h
    simp only [List.nil_append] at e1
    subst e1
    exact back_ptr ps (i := i + 1) (y := y) hp h2 hb
  | .ptr t t' :: ps, i, [], _, _, _, _, h, _ => h.elim
  | .ptr t t' :: ps, i, _ :: _, [], _, _, _, h, _ => h.elim
  | .ptr t t' :: ps, i, l :: ls, u :: us, b, y, hp, h, hb => by
    obtain ⟨b1, b2, e1, ⟨b', rfl, n2, n3, n4, n5, n6, n7, n8⟩, h2⟩ := h
    simp only [List.singleton_append, List.cons.injEq] at e1
    obtain ⟨rfl, rfl⟩ := e1
    have hp0 : ptrs ps = 0 := by simp only [ptrs] at hp; omega
    have outs : ∀ ps : List Par, ptrs ps = 0 → ptrOuts ps = [] := by
      intro ps
      induction ps with
      | nil => intro _; rfl
      | cons p ps ih =>
        intro h
        cases p with
        | val ag t => exact ih (by simpa [ptrs] using h)
        | ptr t t' => simp [ptrs] at h
    have ho := outs ps hp0
    have key : ∀ (os : List Ty) (y : Den (t' :: os)), os = [] → ∃ z : t'.den, leavesD (t' :: os) y = [leaves t' z] := by
      intro os y h
      subst h
      exact ⟨y, rfl⟩
    obtain ⟨z, hz⟩ := key (ptrOuts ps) y ho
    refine ⟨t, t', u, z, hz, n2, n3, n5, n6, ?_⟩
    have hb' : Backs P S' i (.ptr t t' :: ps) (u :: us) (leavesD (t' :: ptrOuts ps) y) := hb
    rw [hz] at hb'
    exact hb'.1

theorem nmO_tm {n : Nat} {q : List Nat} : nmO (.tm n q) = .tm n q := rfl

/-- What has become of the blocks behind a call. -/
theorem after_call {S : Sit} {bs : List Nat} {ip : Nat} {rg : Nat → Nat × Nat} {O' : Nat → Lab} {w' : World} (hF : Fr (calO S bs ip) S.w rg O' w') :
    (∀ k, k < S.w.heap.size → isTm (S.O k) = false → aftO S O' k = S.O k ∧ ((∀ b, bs = [b] → k ≠ (S.bb b).1) → w'.heap[k]? = S.w.heap[k]?)) ∧
    (∀ k, O' k = .fz → aftO S O' k = .fz) ∧ (∀ k n q, O' k = .tm n q → aftO S O' k = .tm n q) := by
  have cases3 : ∀ k, k < S.w.heap.size → isTm (S.O k) = false → (O' k = .fz ∧ S.O k = .fz ∧ w'.heap[k]? = S.w.heap[k]?) ∨ (O' k = .no ∧ w'.heap[k]? = S.w.heap[k]?) ∨ (O' k = .bx ip ∧ ∃ b, bs = [b] ∧ k = (S.bb b).1) := by
    intro k hk ht
    cases hO : S.O k with
    | fz =>
      have := hF.fz k hk (calO_fz hO)
      exact .inl ⟨this.1, rfl, this.2⟩
    | no =>
      have := hF.no k hk (by simp [calO, hO])
      exact .inr (.inl this)
    | pl l p =>
      have := hF.no k hk (by simp [calO, hO])
      exact .inr (.inl this)
    | tm n q => rw [hO] at ht; simp [isTm] at ht
    | bx b =>
      by_cases hb : bs = [b] ∧ k = (S.bb b).1
      · have h2 : calO S bs ip k = .bx ip := by simp only [calO, hO]; rw [if_pos hb]
        exact .inr (.inr ⟨(hF.bx k ip hk h2).1, b, hb⟩)
      · have h2 : calO S bs ip k = .no := by simp only [calO, hO]; rw [if_neg hb]
        exact .inr (.inl (hF.no k hk h2))
  refine ⟨fun k hk ht => ⟨by unfold aftO; rw [if_pos ⟨hk, ht⟩], fun hnb => ?_⟩, fun k hk => ?_, fun k n q hk => ?_⟩
  · rcases cases3 k hk ht with h | h | ⟨_, b, h1, h2⟩
    · exact h.2.2
    · exact h.2
    · exact absurd h2 (hnb b h1)
  · unfold aftO
    split
    · rename_i hc
      rcases cases3 k hc.1 hc.2 with h | h | h
      · exact h.2.1
      · rw [hk] at h; cases h.1
      · rw [hk] at h; cases h.1
    · rw [hk]; rfl
  · unfold aftO
    split
    · rename_i hc
      rcases cases3 k hc.1 hc.2 with h | h | h <;> (rw [hk] at h; cases h.1)
    · rw [hk]; rfl

theorem solid_storable : ∀ l : List Lf, (∀ y ∈ l, solid y = true) → storable l = true
  | [], _ => rfl
  | x :: l, h => by
    have h1 := h x (by simp)
    have h2 := solid_storable l (fun y hy => h y (List.mem_cons_of_mem _ hy))
    cases x <;> first | (simp [solid] at h1; done) | simpa [storable] using h2

theorem ptrAt_lt : ∀ (ps : List Par) (i : Nat), ptrs ps ≠ 0 → ptrAt i ps < i + ps.length
  | [], i, h => by simp [ptrs] at h
  | .val _ _ :: ps, i, h => by
    have := ptrAt_lt ps (i + 1) (by simpa [ptrs] using h)
    simp only [ptrAt, List.length_cons]
    omega
  | .ptr _ _ :: ps, i, h => by simp only [ptrAt, List.length_cons]; omega

theorem ptr_box {P : Program} {S : Sit} : ∀ (ps : List Par) {i : Nat} {ls : List (List Lf)} {us : List Value} {bs : List Nat}, ArgsP P S i ps ls us bs → ∀ b ∈ bs, ∃ n, (S.g (H b)).2 = .one (.hd n)
  | [], i, [], [], bs, h => by
    have : bs = [] := h
    subst this
    simp
  | [], i, _ :: _, _, _, h => h.elim
  | [], i, [], _ :: _, _, h => h.elim
  | p :: ps, i, [], _, _, h => h.elim
  | p :: ps, i, _ :: _, [], _, h => h.elim
  | p :: ps, i, l :: ls, u :: us, bs, h => by
    obtain ⟨b1, b2, rfl, h1, h2⟩ := h
    intro b hb
    rcases List.mem_append.1 hb with hb | hb
    · cases p with
      | val ag t => obtain ⟨rfl, _⟩ := h1; cases hb
      | ptr t t' =>
        obtain ⟨b', rfl, _, n3, _⟩ := h1
        simp at hb
        subst hb
        exact ⟨_, n3⟩
    · exact ptr_box ps h2 b hb

theorem cal_bx (K : Okay X S a) {ps : List Par} {ls : List (List Lf)} {us : List Value} {bs : List Nat} (h : ArgsP X.P S 0 ps ls us bs) (hbs : bs = [] ∨ ∃ b, bs = [b]) : ∀ k b, calO S bs (ptrAt 0 ps) k = .bx b → b < ps.length ∧ (∃ c e f, S.w.heap[k]? = some (.cells c e f)) ∧ ∀ k', calO S bs (ptrAt 0 ps) k' = .bx b → k' = k := by
  intro k b hk
  unfold calO at hk
  split at hk
  · cases hk
  · split at hk <;> cases hk
  · rename_i b' hb'
    split at hk
    · rename_i hc
      cases hk
      obtain ⟨hc1, hc2⟩ := hc
      subst hc1
      have hl := args_bs ps h
      obtain ⟨n, hn⟩ := ptr_box ps h b' (by simp)
      obtain ⟨_, c, e, g2, _⟩ := K.box b' n hn
      refine ⟨by have := ptrAt_lt ps 0 (by simp at hl; omega); omega, ⟨c, e, (0, 0), by rw [hc2]; exact g2⟩, fun k' hk' => ?_⟩
      unfold calO at hk'
      split at hk'
      · cases hk'
      · split at hk' <;> cases hk'
      · rename_i b2 _
        split at hk'
        · rename_i hc3
          obtain ⟨hc4, hc5⟩ := hc3
          simp only [List.cons.injEq, and_true] at hc4
          subst hc4
          rw [hc5, hc2]
        · cases hk'
      · cases hk'
    · cases hk
  · cases hk

theorem st_call (hE : EnOk X E) (hcall : ∀ f en, E.call f = some en → CallOk X.P f en) (K : Okay X S a) (hg : S.g = get A) {c : Call} {f : FuncId} (ho : o.op = .call c) (hc : c.callee = .value (.func f)) (hd : ∀ d, o.dst = some d → d < X.nt)
    (h : step E o A Kc = some r) : After X o a S.w A Kc r := by
  unfold step at h
  rw [ho] at h
  simp only [hc] at h
  split at h
  · rename_i en ss he hss
    unfold callF at h
    cases hl : (lends en.ps && news en.rs) with
    | true =>
      rw [hl, cond_true] at h
      simp only [Bool.and_eq_true] at hl
      exact st_lend hE hcall K hg ho hc hd he hss hl.1 hl.2 h
    | false =>
      rw [hl, cond_false] at h
      cases hp : (Nat.ble (ptrs en.ps) 1 && okPtr E en.rs o.dst) with
      | false => rw [hp] at h; simp at h
      | true =>
        rw [hp, cond_true] at h
        simp only [Bool.and_eq_true] at hp
        have hple : ptrs en.ps ≤ 1 := Nat.le_of_ble_eq_true hp.1
        have hnp : ∀ d', o.dst = some d' → anyPtr en.rs = true → X.np ≤ d' := fun d' h1 h2 => by
          have := hp.2
          unfold okPtr at this
          rw [h1, h2] at this
          exact hE.np ▸ (Nat.le_of_ble_eq_true (by simpa using this))
        split at h
        · cases h
        · rename_i ls us bs hargs
          split at h
          · cases h
          · rename_i x hx
            cases hrun : en.run x with
            | none => rw [hrun] at h; simp at h
            | some y =>
              rw [hrun] at h
              simp only [Option.bind_some] at h
              split at h
              · cases h
              · rename_i ws hws
                split at h
                · cases h
                · rename_i rs hrs
                  have hco := hcall f en he
                  obtain ⟨S1, K1, g1, st1, p1⟩ := args_step (X := X) (a := a) hE en.ps 0 K hg hargs
                  have hbl := args_bs en.ps p1
                  have hbs : bs = [] ∨ ∃ b, bs = [b] := by
                    cases bs with
                    | nil => exact .inl rfl
                    | cons b bs =>
                      cases bs with
                      | nil => exact .inr ⟨b, rfl⟩
                      | cons b2 bs => simp only [List.length_cons] at hbl; omega
                  have hok := args_ok (bs := bs) (ip := ptrAt 0 en.ps) K1 en.ps p1 (mkDen_mk _ _ _ hx) (by
                    intro b hb
                    rcases hbs with rfl | ⟨b', rfl⟩
                    · cases hb
                    · simp at hb; rw [hb]) (by
                    rcases hbs with rfl | ⟨b', rfl⟩
                    · left; simpa using hbl.symm
                    · right; exact ⟨by simpa using hbl.symm, rfl⟩)
                  have hs := hco.sound x y hrun S1.w (calO S1 bs (ptrAt 0 en.ps)) (calR S1 bs) _ (fun k hk => K1.lt k (fun e => hk (by simp [calO, e]))) (cal_bx K1 p1 hbs) hok
                  refine ⟨_, h, goes_enter (run_enter ho hc hco) (calls_mono (by rw [← st1.w]; exact hs) ?_)⟩
                  rintro e w' ⟨v, O', rfl, hF, hlt, hres, hback⟩
                  refine ⟨v, rfl, ?_⟩
                  obtain ⟨a1, a2, a3⟩ := after_call hF
                  have hlt2 : ∀ k, aftO S1 O' k ≠ .no → k < w'.heap.size := fun k hk => by
                    by_cases hkl : k < S1.w.heap.size
                    · exact Nat.lt_of_lt_of_le hkl hF.size
                    · refine hlt k (fun e => hk ?_)
                      unfold aftO
                      rw [if_neg (fun h => hkl h.1), e]
                      rfl
                  have hnt : ∀ k, (∀ n q, S1.O k ≠ .tm n q) → isTm (S1.O k) = false := fun k hk => by
                    cases hO : S1.O k <;> first | rfl | exact absurd hO (hk _ _)
                  -- behind the call
                  have key : ∃ S2, Okay X S2 a ∧ S2.g = get (ups (ups A us) ws) ∧ S2.w = w' ∧ S2.O = aftO S1 O' := by
                    rcases hbs with rfl | ⟨b, rfl⟩
                    · simp only [backs, Option.some.injEq] at hws
                      subst hws
                      obtain ⟨K2, L2⟩ := K1.world (w' := w') (O' := aftO S1 O') (fun k hk ht => by
                        obtain ⟨b1, b2⟩ := a1 k hk (hnt k ht)
                        exact ⟨b1, b2 (fun b hb => by cases hb)⟩) hF.os hF.tape hF.out hF.size hlt2
                      exact ⟨_, K2, g1, rfl, rfl⟩
                    · have hp1 : ptrs en.ps = 1 := by simpa using hbl.symm
                      obtain ⟨yb, hyb⟩ := leavesD_drop (en.rs.map Prod.snd) (ptrOuts en.ps) y
                      rw [List.length_map] at hyb
                      rw [hyb] at hback hws
                      obtain ⟨t, t', u, z, e1, e2, e3, e4, e5, e6⟩ := back_ptr en.ps hp1 p1 hback
                      rw [e1] at hws
                      simp only [backs, Option.some.injEq] at hws
                      subst hws
                      obtain ⟨k, o', c', e, vs, f1, f2, f3, f4, f5⟩ := e6
                      rw [e2] at f1
                      cases f1
                      obtain ⟨g0, c0, e0, g2, g3, g4, g5⟩ := K1.box b _ e3
                      have hcb : calO S1 [b] (ptrAt 0 en.ps) (S1.bb b).1 = .bx (ptrAt 0 en.ps) := by simp [calO, g3]
                      obtain ⟨h1, c1, c2, e7, ff, h2, h3, h4, h5⟩ := hF.bx _ _ (K1.lt _ (by rw [g3]; simp)) hcb
                      rw [g2] at h2
                      cases h2
                      have f2' : w'.heap[(S1.bb b).1]? = some (.cells c' e) := f2
                      rw [h3] at f2'
                      cases f2'
                      have hml : (leaves t' z).length = t.sz := by rw [leaves_len, e5]
                      have hul := f5.len
                      have hrg : calR S1 [b] (ptrAt 0 en.ps) = ((S1.bb b).2, t.sz) := by simp only [calR, e3]
                      rw [hrg] at h5
                      have hno : ownIn (leaves t' z) = false := by
                        rw [noOw_leaves t' z e4]
                        have : ∀ (t : Ty) (x : t.den), ownIn (lvs t x) = false := by
                          intro t
                          induction t with
                          | pr x y ihx ihy =>
                            intro p
                            have app : ∀ l m, ownIn l = false → ownIn m = false → ownIn (l ++ m) = false := by
                              intro l m hl hm
                              induction l with
                              | nil => exact hm
                              | cons x l ih => cases x <;> first | (simp [ownIn] at hl; done) | exact ih (by simpa [ownIn] using hl)
                            exact app _ _ (ihx p.1) (ihy p.2)
                          | _ => intro x; rfl
                        exact this t' z
                      obtain ⟨K2, L2⟩ := K1.worldBox (b := b) (m := leaves t' z) (us := vs) (O' := aftO S1 O') (w' := w') (c := c0) (c' := c') (e := e) (by rw [hml]; exact e3) g2 h3 h4 (fun i hi => h5 i (by rw [hml] at hi; exact hi)) (fun j hj => f4 j (by rw [leaves_len] at hj; exact hj)) hul (leaves_solid t' z)
                        (fun f => LfsOk.ofRep (S := bare (aftO S1 O') w') ((rep_of_noOwn (solid_storable _ (leaves_solid t' z)) hno f5).imp (fun x u hx => hx.mono (fun k hk => a2 k hk) (fun _ _ => rfl))) f 0)
                        (fun k hk ht => by
                          obtain ⟨b1, b2⟩ := a1 k hk (hnt k ht)
                          exact ⟨b1, fun hne => b2 (fun b' hb' => by cases hb'; exact hne)⟩) hF.os hF.tape hF.out hF.size hlt2
                      refine ⟨_, K2, ?_, rfl, rfl⟩
                      show gput S1.g b 0 _ = _
                      rw [List.append_nil, get_putCells, ← g1]
                  obtain ⟨S2, K2, g2, w2, o2⟩ := key
                  have hres1 : Results X.P S2 S1.w.heap.size en.rs (leavesD _ y) v := Results.imp (S1 := bare O' w') (S2 := S2) w2 (fun k i hk => by rw [o2]; exact a3 k i [] hk)
                    (fun l hl' z hz i q u hu => LfOk.bare (S1 := bare O' w') (S2 := S2) (leavesD_solid _ y l hl' z hz) w2 (fun k hk => by rw [o2]; exact a2 k hk) (fun k hk => by rw [o2]; exact a3 k i q hk) hu) hres
                  obtain ⟨S3, K3, w3, g3⟩ := put_res K2 g2 hd K1.fr.size (leavesD_solid _ y) hnp hres1 hrs
                  refine ⟨S3, w3.trans w2, K3, ?_⟩
                  rw [g3, ups_append, ups_append]
  · cases h
end
end Go.Proofs.Ytehkignjdbkeiaa.Vf
end

section
/- Every operation; regions in text order. -/
set_option linter.unusedVariables false
set_option linter.unusedSimpArgs false
namespace Go.Proofs.Ytehkignjdbkeiaa.Vf
open Go
attribute [local irreducible] C H

structure EnvOk (X : Cx) (E : En) : Prop where
  en : EnOk X E
  call : ∀ f en, E.call f = some en → CallOk X.P f en

section
variable {X : Cx} {S S1 S2 : Sit} {a : Act} {E : En} {A : Ab} {o : Oper} {R : Type} {Kc : List Up → Option R} {r : R}

theorem step_ok (hV : EnvOk X E) (K : Okay X S a) (hg : S.g = get A) (hd : ∀ d, o.dst = some d → d < X.nt) (h : step E o A Kc = some r) : After X o a S.w A Kc r := by
  have hE := hV.en
  cases ho : o.op with
  | call c =>
    cases hc : c.callee with
    | builtin b =>
      cases b with
      | len => exact st_len hE K hg ho hc hd h
      | min => exact st_minMax hE K hg false ho hc hd h
      | max => exact st_minMax hE K hg true ho hc hd h
      | append => exact st_append hE K hg ho hc hd h
      | _ => unfold step at h; rw [ho] at h; simp only [hc] at h; cases h
    | value f =>
      cases f with
      | func f => exact st_call hE hV.call K hg ho hc hd h
      | _ => unfold step at h; rw [ho] at h; simp only [hc] at h; cases h
    | invoke x m => unfold step at h; rw [ho] at h; simp only [hc] at h; cases h
  | store T x y =>
    cases hod : o.dst with
    | none => exact st_store hE K hg ho hod h
    | some d => unfold step at h; rw [ho, hod] at h; cases h
  | move x => cases hod : o.dst with
    | none => unfold step at h; rw [ho, hod] at h; cases h
    | some d => exact st_move hE K hg ho hod (hd d hod) h
  | assign x => cases hod : o.dst with
    | none => unfold step at h; rw [ho, hod] at h; cases h
    | some d => exact st_assign hE K hg ho hod (hd d hod) h
  | pick c x y => cases hod : o.dst with
    | none => unfold step at h; rw [ho, hod] at h; cases h
    | some d => exact st_pick hE K hg ho hod (hd d hod) h
  | binOp op T x y T' => cases hod : o.dst with
    | none => unfold step at h; rw [ho, hod] at h; cases h
    | some d => exact st_binOp hE K hg ho hod (hd d hod) h
  | unOp op T x => cases hod : o.dst with
    | none => unfold step at h; rw [ho, hod] at h; cases h
    | some d => exact st_unOp hE K hg ho hod (hd d hod) h
  | convert T T' x => cases hod : o.dst with
    | none => unfold step at h; rw [ho, hod] at h; cases h
    | some d => exact st_convert hE K hg ho hod (hd d hod) h
  | nilCheck x => cases hod : o.dst with
    | none => unfold step at h; rw [ho, hod] at h; cases h
    | some d => exact st_nilCheck hE K hg ho hod (hd d hod) h
  | extract x j => cases hod : o.dst with
    | none => unfold step at h; rw [ho, hod] at h; cases x <;> cases h
    | some d => cases x with
      | tmp t => exact st_extract hE K hg ho hod (hd d hod) h
      | _ => unfold step at h; rw [ho, hod] at h; cases h
  | field T x j => cases hod : o.dst with
    | none => unfold step at h; rw [ho, hod] at h; cases x <;> cases h
    | some d => cases x with
      | tmp t => exact st_field hE K hg ho hod (hd d hod) h
      | _ => unfold step at h; rw [ho, hod] at h; cases h
  | build T ps => cases hod : o.dst with
    | none => unfold step at h; rw [ho, hod] at h; cases h
    | some d => exact st_build hE K hg ho hod (hd d hod) h
  | alloc T => cases hod : o.dst with
    | none => unfold step at h; rw [ho, hod] at h; cases h
    | some d => exact st_alloc hE K hg ho hod (hd d hod) h
  | box T x => cases hod : o.dst with
    | none => unfold step at h; rw [ho, hod] at h; cases h
    | some d => exact st_box hE K hg ho hod (hd d hod) h
  | load T x => cases hod : o.dst with
    | none => unfold step at h; rw [ho, hod] at h; cases h
    | some d => exact st_load hE K hg ho hod (hd d hod) h
  | fieldAddr T x j => cases hod : o.dst with
    | none => unfold step at h; rw [ho, hod] at h; cases h
    | some d => exact st_fieldAddr hE K hg ho hod (hd d hod) h
  | indexAddr T x i => cases hod : o.dst with
    | none => unfold step at h; rw [ho, hod] at h; cases h
    | some d => exact st_indexAddr hE K hg ho hod (hd d hod) h
  | index T x i => cases hod : o.dst with
    | none => unfold step at h; rw [ho, hod] at h; cases h
    | some d => exact st_index hE K hg ho hod (hd d hod) h
  | slice T x lo hi mx => cases hod : o.dst with
    | none => unfold step at h; rw [ho, hod] at h; cases mx <;> cases h
    | some d => cases mx with
      | none => exact st_slice hE K hg ho hod (hd d hod) h
      | some m => unfold step at h; rw [ho, hod] at h; cases h
  | buildSlice T n ps => cases hod : o.dst with
    | none => unfold step at h; rw [ho, hod] at h; cases h
    | some d => exact st_buildSlice hE K hg ho hod (hd d hod) h
  | makeSlice T x y => cases hod : o.dst with
    | none => unfold step at h; rw [ho, hod] at h; cases h
    | some d => exact st_makeSlice hE K hg ho hod (hd d hod) h
  | _ => unfold step at h; rw [ho] at h; cases hod : o.dst <;> (rw [hod] at h; cases h)

/-- An operation that is skipped. -/
theorem put_un (hE : EnOk X E) (K : Okay X S a) (hg : S.g = get A) (hd : dstIn E o = true) : ∃ S', Okay X S' (a.put o.dst undef) ∧ S'.g = get (skipO o A) ∧ S'.w = S.w := by
  unfold skipO
  unfold dstIn at hd
  cases hod : o.dst with
  | none => exact ⟨S, K, hg, rfl⟩
  | some d =>
    rw [hod] at hd
    have hdl : d < X.nt := hE.nt ▸ (Nat.le_of_ble_eq_true hd : d + 1 ≤ E.nt)
    refine ⟨_, K.put0 hdl (.one .un) undef 0 rfl rfl, ?_, rfl⟩
    show upd S.g d _ = _
    rw [get_up, ← hg]
    rfl

def Done (X : Cx) (Q : Exit → Act → World → Prop) (K : Ab → Option R) (r : R) : Prop := ∀ S a A, Okay X S a → S.g = get A → K A = some r → Q .normal a S.w

theorem get_lit {A : Ab} {d n : Nat} {v : Bool} (h : get A d = (n, .one (.sc (.bool v)))) : get (lit A d n v) = get A := by
  funext k
  unfold lit
  simp only [get]
  by_cases hk : k = d
  · subst hk; simp [h]
  · have : Nat.beq d k = false := by
      cases hb : Nat.beq d k with
      | false => rfl
      | true => exact absurd (Nat.eq_of_beq_eq_true hb).symm hk
    simp [this]

theorem evOps_ok (hV : EnvOk X E) {ops : Array Oper} {Q : Exit → Act → World → Prop} : ∀ (l : List Nat) {S : Sit} {a : Act} {A : Ab} {K : Ab → Option R} {r : R}, Okay X S a → S.g = get A → evOps E ops.toList l A K = some r → Done X Q K r → wpOps X.P ops Q l a S.w
  | [], S, a, A, K, r, hK, hg, h, hQ => hQ S a A hK hg h
  | i :: l, S, a, A, K, r, hK, hg, h, hQ => by
    rw [wpOps_cons]
    unfold evOps at h
    rw [nth_eq] at h
    unfold wpOp
    split at h
    · cases h
    · rename_i o ho
      have ho' : ops[i]? = some o := by simpa using ho
      rw [ho']
      simp only
      cases hd : dstIn E o with
      | false => rw [hd] at h; simp at h
      | true =>
        rw [hd, cond_true] at h
        have hdl : ∀ d, o.dst = some d → d < X.nt := fun d hod => by
          unfold dstIn at hd
          rw [hod] at hd
          exact hV.en.nt ▸ (Nat.le_of_ble_eq_true hd : d + 1 ≤ E.nt)
        have go : ∀ {A : Ab}, S.g = get A → step E o A (fun U => evOps E ops.toList l (ups A U) K) = some r → o.wp X.P a S.w (wpOps X.P ops Q l) Q := by
          intro A hg h
          obtain ⟨U, hU, hgo⟩ := step_ok hV hK hg hdl h
          exact hgo _ _ (fun S' a' K' g' => evOps_ok hV l K' g' hU hQ)
        have skip : ∀ {A : Ab}, S.g = get A → evOps E ops.toList l (skipO o A) K = some r → wpOps X.P ops Q l (a.put o.dst undef) S.w := by
          intro A hg h
          obtain ⟨S', K', g', w'⟩ := put_un hV.en hK hg hd
          rw [← w']
          exact evOps_ok hV l K' g' h hQ
        split at h
        · rename_i hgd
          have hw : Region.wanted o (yielded ops a.tmps) = true := by unfold Region.wanted; rw [hgd]
          rw [if_pos hw]
          exact .inl (go hg h)
        · rename_i j want hgd
          split at h
          · cases h
          · rename_i dj hdj
            have hdj' : (ops[j]?).bind (·.dst) = some dj := by
              unfold dstAt at hdj
              rw [nth_eq] at hdj
              have : ops.toList[j]? = ops[j]? := by simp
              rw [this] at hdj
              cases hj : ops[j]? with
              | none => rw [hj] at hdj; cases hdj
              | some oj => rw [hj] at hdj; simpa using hdj
            cases hb : Nat.blt dj E.nt with
            | false => rw [hb] at h; simp at h
            | true =>
              rw [hb, cond_true] at h
              have hjl : dj < X.nt := hV.en.nt ▸ (Nat.le_of_ble_eq_true hb : dj + 1 ≤ E.nt)
              have htm : a.tmps[dj]? = some (S.ph dj) := by
                have h1 := hK.sl dj hjl
                have h2 : dj < a.tmps.size := by rw [hK.sz]; exact hjl
                rw [← h1, Array.getD_eq_getD_getElem?, Array.getElem?_eq_getElem h2]
                rfl
              have hy : yielded ops a.tmps j = (match S.ph dj with | .bool b => some b | _ => none) := by
                unfold yielded
                rw [hdj', Option.bind_some, htm]
                cases S.ph dj <;> rfl
              have hwd : Region.wanted o (yielded ops a.tmps) = ((match S.ph dj with | .bool b => some b | _ => none) == some want) := by
                unfold Region.wanted
                rw [hgd]
                simp only
                rw [hy]
              split at h
              · rename_i n b hgt
                have hph : S.ph dj = .bool b := by
                  have := hK.at_ dj
                  rw [hg, hgt] at this
                  exact this.1
                rw [hph] at hwd
                have hgl : S.g = get (lit A dj n b) := by rw [get_lit hgt]; exact hg
                cases b with
                | true =>
                  rw [cond_true] at h
                  cases want with
                  | true =>
                    rw [cond_true] at h
                    rw [if_pos (by rw [hwd]; rfl)]
                    exact .inl (go hgl h)
                  | false =>
                    rw [cond_false] at h
                    rw [if_neg (by rw [hwd]; decide)]
                    exact skip hgl h
                | false =>
                  rw [cond_false] at h
                  cases want with
                  | true =>
                    rw [cond_true] at h
                    rw [if_neg (by rw [hwd]; decide)]
                    exact skip hgl h
                  | false =>
                    rw [cond_false] at h
                    rw [if_pos (by rw [hwd]; rfl)]
                    exact .inl (go hgl h)
              · rename_i n hgt
                have hph : S.ph dj = undef := by
                  have := hK.at_ dj
                  rw [hg, hgt] at this
                  exact this
                rw [hph] at hwd
                rw [if_neg (by rw [hwd]; simp [undef])]
                exact skip hg h
              · cases h
end
end Go.Proofs.Ytehkignjdbkeiaa.Vf
end

section
/- Code: regions, branches, blocks, loops. -/
set_option linter.unusedVariables false
set_option linter.unusedSimpArgs false
namespace Go.Proofs.Ytehkignjdbkeiaa.Vf
open Go
attribute [local irreducible] C H

def toExit : Ex → Exit
  | .normal => .normal
  | .exit i => .exit i
  | .ret => .ret

/-! ### A loop whose rounds are numbered -/
theorem least {J : Nat → Prop} : ∀ n, J n → ∃ m, J m ∧ (∀ k, J k → m ≤ k) := by
  intro n
  induction n using Nat.strongRecOn with
  | _ n ih =>
    intro hn
    by_cases h : ∃ m, m < n ∧ J m
    · obtain ⟨m, hm, hj⟩ := h
      exact ih m hm hj
    · exact ⟨n, hn, fun k hk => Nat.le_of_not_lt (fun hlt => h ⟨k, hlt, hk⟩)⟩

open Classical in
theorem wp_loop_ix {P : Program} {c : Code} {Q : Exit → Act → World → Prop} (J : Nat → Act → World → Prop) {n : Nat} {a : Act} {w : World} (h0 : J n a w)
    (round : ∀ n a w, J n a w → c.wp P (Exit.then (fun a' w' => ∃ m, m < n ∧ J m a' w') Q) a w) : (Code.loop c).wp P Q a w := by
  let μ : Act → World → Nat := fun a w => if h : ∃ m, J m a w ∧ (∀ k, J k a w → m ≤ k) then Classical.choose h else 0
  have hμ : ∀ a w n, J n a w → J (μ a w) a w ∧ (∀ k, J k a w → μ a w ≤ k) := by
    intro a w n hn
    have h := least (J := fun m => J m a w) n hn
    have e : μ a w = Classical.choose h := by simp only [μ]; rw [dif_pos h]
    rw [e]
    exact Classical.choose_spec h
  refine wp_loop (fun a w => ∃ n, J n a w) μ ⟨n, h0⟩ ?_
  rintro a w ⟨n, hn⟩
  obtain ⟨h1, h2⟩ := hμ a w n hn
  refine wp_mono (round (μ a w) a w h1) ?_
  intro e a' w' hq
  cases e <;> first | exact hq | skip
  obtain ⟨m, hm, hj⟩ := hq
  refine ⟨⟨m, hj⟩, Nat.lt_of_le_of_lt ((hμ a' w' m hj).2 m hj) hm⟩

section
variable {X : Cx} {S S1 S2 : Sit} {a : Act} {E : En} {A : Ab} {o : Oper} {R : Type} {Kc : List Up → Option R} {r : R}

/-! ### What is forgotten at a loop's head -/
def forgO (O : Nat → Lab) (vs : List (Nat × Ty)) : Nat → Lab := fun k => match O k with
  | .pl p [] => if keptOw vs p then .pl p [] else .fz
  | o => o

theorem forgO_other {O : Nat → Lab} {vs : List (Nat × Ty)} {k : Nat} {o : Lab} (h : O k = o) (ho : ∀ p, o ≠ .pl p []) : forgO O vs k = o := by
  unfold forgO
  rw [h]
  cases o <;> first | rfl | skip
  rename_i l p
  cases p <;> first | rfl | exact absurd rfl (ho _)

/-- A value out of one leaf. -/
theorem mkW_one {P : Program} {S : Sit} {lab : Lab} {t : Ty} {z : Lf} {x : t.den} {y : Lf} {u : Value} (hw : mkW t [z] = some x) (hy : leaves t x = [y]) (hz : LfOk P S lab z u) (ho : isOw t = true ∨ z.isOwn = false) : LfOk P S lab y u := by
  cases t with
  | pr p q =>
    have h1 := leaves_len (.pr p q) x
    rw [hy] at h1
    have := sz_pos p
    have := sz_pos q
    have h2 : 1 = p.sz + q.sz := h1
    omega
  | ow e r =>
    have h1 : LfsOk P S (fun _ => lab) 0 (leaves (.ow e r) x) [u] := mkW_lfs rfl hw ⟨hz, trivial⟩
    rw [hy] at h1
    exact h1.1
  | i k =>
    cases z <;> first | (simp [mkW, mkT] at hw; done) | skip
    rename_i v
    cases v <;> first | (simp [mkW, mkT] at hw; done) | skip
    rename_i k' n
    unfold mkW at hw
    simp only [mkT] at hw
    by_cases hk : k = k'
    · subst hk
      simp only [decide_true, cond_true, Option.some.injEq] at hw
      subst hw
      simp only [leaves, List.cons.injEq, and_true] at hy
      subst hy
      exact hz
    · simp [hk] at hw
  | b =>
    cases z <;> first | (simp [mkW, mkT] at hw; done) | skip
    rename_i v
    cases v <;> first | (simp [mkW, mkT] at hw; done) | skip
    unfold mkW at hw
    simp only [mkT, Option.some.injEq] at hw
    subst hw
    simp only [leaves, List.cons.injEq, and_true] at hy
    subst hy
    exact hz
  | s =>
    cases z <;> first | (simp [mkW, mkT] at hw; done) | skip
    rename_i v
    cases v <;> first | (simp [mkW, mkT] at hw; done) | skip
    unfold mkW at hw
    simp only [mkT, Option.some.injEq] at hw
    subst hw
    simp only [leaves, List.cons.injEq, and_true] at hy
    subst hy
    exact hz
  | sl e r =>
    simp only [leaves, List.cons.injEq, and_true] at hy
    subst hy
    cases z <;> first | (simp [mkW, mkT] at hw; done) | skip
    · rename_i e' r' xs
      unfold mkW at hw
      simp only [mkT] at hw
      cases hb : Nat.beq e e' with
      | false => rw [hb] at hw; simp at hw
      | true =>
        rw [hb, cond_true] at hw
        have he : e = e' := Nat.eq_of_beq_eq_true hb
        subst he
        cases hc : castL r r' xs with
        | none => rw [hc] at hw; simp at hw
        | some ys =>
          rw [hc] at hw
          simp only [Option.some.injEq] at hw
          subst hw
          exact castL_rep hc hz
    · simp [isOw, Lf.isOwn] at ho

theorem keptOw_mem {vs : List (Nat × Ty)} {l : Nat} {t : Ty} (hm : (l, t) ∈ vs) (ht : isOw t = true) : keptOw vs l = true := by
  unfold keptOw
  rw [List.any_eq_true]
  refine ⟨(l, t), hm, ?_⟩
  cases t <;> first | (simp [isOw] at ht; done) | simp

/-- An entry that is kept. -/
theorem absV_ok (K : Okay X S a) (hg : S.g = get A) {all : List (Nat × Ty)} {l : Nat} {t : Ty} {x : t.den} (hm : (l, t) ∈ all) (h : absV A all l t = some x) :
    ∀ y, leaves t x = [y] → LfOk X.P { S with O := forgO S.O all } (.pl l []) y (S.ph l) := by
  intro y hy
  have hfz : ∀ k, S.O k = .fz → forgO S.O all k = .fz := fun k hk => forgO_other hk (by simp)
  have L : Later S { S with O := forgO S.O all } := ⟨fun _ => Nat.le_refl _, fun _ _ => rfl, fun p v e r xs' h _ => ⟨xs', h, rfl⟩, fun _ _ => rfl, fun k hk => ⟨hfz k hk, rfl⟩, fun p _ hd => ⟨hd, fun _ _ _ h => h, fun k hk => by
    refine ⟨?_, rfl⟩
    cases hkp : keptOw all p with
    | true => exact .inl (by show forgO S.O all k = _; unfold forgO; rw [hk]; simp [hkp])
    | false => exact .inr (by show forgO S.O all k = _; unfold forgO; rw [hk]; simp [hkp])⟩⟩
  have hat := K.at_ l
  rw [hg] at hat
  -- an owned content that is read by all from now on
  have frz : ∀ (p : Nat) (e : TypeId) (r : Ty) (xs : List r.den), keptOw all p = false → OwnOk X.P S.O S.w (.pl p []) e r xs (S.ph p) → LfOk X.P { S with O := forgO S.O all } .fz (.fz e r xs) (S.ph p) := by
    intro p e r xs hk ho
    exact ho.reads (O' := forgO S.O all) hfz (fun k hkk => by
      unfold forgO
      rw [hkk]
      simp [hk])
  unfold absV at h
  split at h
  · rename_i p v hgl
    rw [hgl] at hat
    have hat' : LfOk X.P S (.pl l []) (.al p v) (S.ph l) := hat
    cases hk : keptOw all p with
    | true => rw [hk] at h; simp at h
    | false =>
      rw [hk, cond_false] at h
      have hz : LfOk X.P { S with O := forgO S.O all } .fz (calm (seen A (.al p v))) (S.ph l) := by
        simp only [seen]
        split
        · rename_i n e r xs hp
          cases hb : Nat.beq n v with
          | false => exact trivial
          | true =>
            have hnv : n = v := by simpa using hb
            subst hnv
            rw [cond_true, hat'.2 (by rw [hg, hp])]
            have h3 := K.at_ p
            rw [hg, hp] at h3
            exact frz p e r xs hk h3
        · rename_i n e r xs hp
          cases hb : Nat.beq n v with
          | false => exact trivial
          | true =>
            have hnv : n = v := by simpa using hb
            subst hnv
            rw [cond_true, hat'.2 (by rw [hg, hp])]
            have h3 := K.at_ p
            rw [hg, hp] at h3
            exact Ty.rep_mono (t := .sl e r) hfz (fun _ _ => rfl) _ _ h3
        · exact trivial
      have hno : (calm (seen A (.al p v))).isOwn = false := by cases seen A (.al p v) <;> rfl
      have := mkW_one h hy hz (.inr hno)
      have hyo : y.isOwn = false := by
        cases t <;> first | (simp [leaves] at hy; subst hy; rfl) | skip
        · cases hs : calm (seen A (.al p v)) with
          | own e r xs => rw [hs] at hno; simp [Lf.isOwn] at hno
          | _ => rw [hs] at h; simp [mkW, mkT] at h
        · rename_i p q
          have h1 := leaves_len (.pr p q) x
          rw [hy] at h1
          have := sz_pos p
          have := sz_pos q
          have h2 : 1 = p.sz + q.sz := h1
          omega
      exact this.relab hyo
  · rename_i e r xs hgl
    rw [hgl] at hat
    have hat' : OwnOk X.P S.O S.w (.pl l []) e r xs (S.ph l) := hat
    cases hot : isOw t with
    | true =>
      rw [hot, cond_true] at h
      have hkl := keptOw_mem hm hot
      have hz : LfOk X.P { S with O := forgO S.O all } (.pl l []) (.own e r xs) (S.ph l) := LfOk.later (x := .own e r xs) L hat (fun k hk => ⟨by show forgO S.O all k = _; unfold forgO; rw [hk]; simp [hkl], rfl⟩)
      exact mkW_one h hy hz (.inl hot)
    | false =>
      rw [hot, cond_false] at h
      cases hk : keptOw all l with
      | true => rw [hk] at h; simp at h
      | false =>
        rw [hk, cond_false] at h
        have := mkW_one h hy (LfOk.relab (lab' := .pl l []) rfl (frz l e r xs hk hat')) (.inr rfl)
        exact this
  · rename_i z _ hno hgl
    rw [hgl] at hat
    have hat' : LfOk X.P S (.pl l []) z (S.ph l) := hat
    have hzo : z.isOwn = false := by cases z <;> first | rfl | exact (hno _ _ _ rfl).elim
    have hz : LfOk X.P { S with O := forgO S.O all } (.pl l []) z (S.ph l) := (LfOk.relab (lab' := .fz) hzo hat').later (lab' := .fz) L (fun k hk => ⟨hfz k hk, rfl⟩) |>.relab hzo
    exact mkW_one h hy hz (.inr hzo)
  · cases h
end
end Go.Proofs.Ytehkignjdbkeiaa.Vf
end

section
/- What is forgotten at a loop's head; code. -/
set_option linter.unusedVariables false
set_option linter.unusedSimpArgs false
namespace Go.Proofs.Ytehkignjdbkeiaa.Vf
open Go
attribute [local irreducible] C H

section
variable {X : Cx} {S S1 S2 : Sit} {a : Act} {E : En} {A : Ab} {o : Oper} {R : Type} {Kc : List Up → Option R} {r : R}

/-- A list of entries: what holds of each holds of what is found. -/
theorem get_all {Q : Nat → Nat × Sv → Prop} (h0 : ∀ l, Q l (0, .one .dead)) : ∀ (B : Ab), (∀ e ∈ B, Q e.1 e.2) → ∀ l, Q l (get B l)
  | [], _, l => h0 l
  | (k, n, s) :: B, h, l => by
    simp only [get]
    cases hb : Nat.beq k l with
    | true =>
      have : k = l := Nat.eq_of_beq_eq_true hb
      subst this
      exact h (k, n, s) (by simp)
    | false => exact get_all h0 B (fun e he => h e (List.mem_cons_of_mem _ he)) l

theorem absVs_mem : ∀ (vs : List (Nat × Ty)) (all : List (Nat × Ty)) (x : Den (vs.map Prod.snd)), absVs A all vs = some x →
    ∀ e ∈ concVs vs x, ∃ t, ∃ z : t.den, ∃ y, (e.1, t) ∈ vs ∧ absV A all e.1 t = some z ∧ leaves t z = [y] ∧ e.2 = (0, .one y)
  | [], _, _, _ => by simp [concVs]
  | [v], all, x, h => by
    intro e he
    simp only [concVs] at he
    split at he
    · rename_i y hy
      simp at he
      subst he
      exact ⟨v.2, x, y, by simp, h, hy, rfl⟩
    · simp at he
  | v :: w :: l, all, x, h => by
    simp only [absVs] at h
    split at h
    · rename_i x1 hx1
      split at h
      · rename_i x2 hx2
        cases h
        intro e he
        simp only [concVs] at he
        rcases List.mem_append.1 he with he | he
        · split at he
          · rename_i y hy
            simp at he
            subst he
            exact ⟨v.2, x1, y, by simp, hx1, hy, rfl⟩
          · simp at he
        · obtain ⟨t, z, y, h1, h2, h3, h4⟩ := absVs_mem (w :: l) all x2 hx2 e he
          exact ⟨t, z, y, List.mem_cons_of_mem _ h1, h2, h3, h4⟩
      · cases h
    · cases h

theorem absC_mem : ∀ (cs : List (Nat × Lf)), absC A cs = true → ∀ c ∈ cs,
    (∃ b off v, c.2 = .bp b 0 off ∧ (get A c.1).2 = .one (.bp b v off) ∧ (get A (H b)).1 = v) ∨ (∃ m, c.2 = .hd m ∧ (get A c.1).2 = .one (.hd m))
  | [], _, c, hc => by simp at hc
  | (l, z) :: cs, h, c, hc => by
    cases z with
    | bp b v0 off =>
      simp only [absC, Bool.and_eq_true] at h
      obtain ⟨h1, h2⟩ := h
      rcases List.mem_cons.1 hc with rfl | hc
      · split at h1
        · rename_i n b' v off' hg
          simp only [Bool.and_eq_true] at h1
          obtain ⟨⟨⟨e1, e2⟩, e3⟩, e4⟩ := h1
          have e1 : v0 = 0 := Nat.eq_of_beq_eq_true e1
          have e2 : b = b' := Nat.eq_of_beq_eq_true e2
          have e3 : off = off' := Nat.eq_of_beq_eq_true e3
          subst e1 e2 e3
          split at e4
          · rename_i n' m' hh
            have : n' = v := Nat.eq_of_beq_eq_true e4
            refine .inl ⟨b, off, v, rfl, by rw [hg], by rw [hh, this]⟩
          · cases e4
        · cases h1
      · exact absC_mem cs h2 c hc
    | hd m =>
      simp only [absC, Bool.and_eq_true] at h
      obtain ⟨h1, h2⟩ := h
      rcases List.mem_cons.1 hc with rfl | hc
      · split at h1
        · rename_i n m' hg
          have : m = m' := Nat.eq_of_beq_eq_true h1
          subst this
          exact .inr ⟨m, rfl, by rw [hg]⟩
        · cases h1
      · exact absC_mem cs h2 c hc
    | _ => simp [absC] at h

theorem concL_mem {v : Live} {x : v.den} {e : Nat × Nat × Sv} (h : e ∈ concL v x) : e ∈ concVs v.vs x ∨ ∃ c ∈ v.cs, e = (c.1, 0, .one c.2) := by
  rcases List.mem_append.1 h with h | h
  · exact .inl h
  · obtain ⟨c, hc, rfl⟩ := List.mem_map.1 h
    exact .inr ⟨c, hc, rfl⟩

/-- All that is not kept is forgotten. -/
theorem forget (K : Okay X S a) (hg : S.g = get A) {v : Live} {x : v.den} (h : absL v A = some x) : ∃ S', Okay X S' a ∧ S'.g = get (concL v x) ∧ S'.w = S.w := by
  unfold absL at h
  cases hc : absC A v.cs with
  | false => rw [hc] at h; simp at h
  | true =>
    rw [hc, cond_true] at h
    have hfz : ∀ k, S.O k = .fz → forgO S.O v.vs k = .fz := fun k hk => forgO_other hk (by simp)
    have hmem := absVs_mem v.vs v.vs x h
    have hcm := absC_mem v.cs hc
    refine ⟨{ S with O := forgO S.O v.vs, g := get (concL v x) }, K.ghost _ _ (fun k e => forgO_other e (by simp)) (fun k e1 e2 => e1 (forgO_other e2 (by simp))) hfz (fun k b e => forgO_other e (by simp)) (fun b n hb => ?_) ?_, rfl, rfl⟩
    · -- a box that is kept was one
      have key : ∀ l, (∀ n, (get (concL v x) l).2 = .one (.hd n) → (S.g l).2 = .one (.hd n)) := by
        refine get_all (Q := fun l s => ∀ n, s.2 = .one (.hd n) → (S.g l).2 = .one (.hd n)) (fun l n hn => by cases hn) _ (fun e he n hn => ?_)
        rcases concL_mem he with he | ⟨c, hcc, rfl⟩
        · obtain ⟨t, z, y, _, _, h3, h4⟩ := hmem e he
          rw [h4] at hn
          have hy := leaves_solid t z y (by rw [h3]; simp)
          simp only [Sv.one.injEq] at hn
          rw [hn] at hy
          simp [solid] at hy
        · rcases hcm c hcc with ⟨b', off, v', e1, _⟩ | ⟨m, e1, e2⟩
          · rw [e1] at hn; cases hn
          · rw [e1] at hn
            cases hn
            rw [hg]
            exact e2
      exact key _ n hb
    · refine get_all (Q := fun l s => SvOk X.P { S with O := forgO S.O v.vs, g := get (concL v x) } l s.2 (S.ph l)) (fun l => trivial) _ (fun e he => ?_)
      rcases concL_mem he with he | ⟨c, hcc, rfl⟩
      · obtain ⟨t, z, y, h1, h2, h3, h4⟩ := hmem e he
        rw [h4]
        have hy := leaves_solid t z y (by rw [h3]; simp)
        exact LfOk.bare (S1 := { S with O := forgO S.O v.vs }) hy rfl (fun k hk => hk) (fun k hk => hk) (absV_ok K hg h1 h2 y h3)
      · rcases hcm c hcc with ⟨b', off, v', e1, e2, e3⟩ | ⟨m, e1, e2⟩
        · rw [e1]
          have hat := K.at_ c.1
          rw [hg, e2] at hat
          have hat' : LfOk X.P S (.pl c.1 []) (.bp b' v' off) (S.ph c.1) := hat
          refine ⟨Nat.zero_le _, fun _ => hat'.2 (by rw [hg]; exact e3)⟩
        · rw [e1]
          trivial

/-! ### Code -/
def DoneE (X : Cx) (Q : Exit → Act → World → Prop) (K : Ex → Ab → Option R) (r : R) : Prop := ∀ e S a A, Okay X S a → S.g = get A → K e A = some r → Q (toExit e) a S.w

/-- What holds of a loop, where it is met: from its head it comes to one of its ends. -/
def LoopOk (X : Cx) (L : Lp) (c : Code) : Prop := ∀ x y, L.run x = some y → ∀ S a, Okay X S a → S.g = get (concL L.ins x) → ∀ Q : Exit → Act → World → Prop,
  (∀ e A S' a', altK (fun e A => some (e, A)) L.alts y = some (e, A) → Okay X S' a' → S'.g = get A → Q (toExit e) a' S'.w) → (Code.loop c).wp X.P Q a S.w

/-- Every loop in this code. -/
def LoopsOk (X : Cx) (E : En) : Code → Prop
  | .seq a b => LoopsOk X E a ∧ LoopsOk X E b
  | .cond _ a b => LoopsOk X E a ∧ LoopsOk X E b
  | .block _ c => LoopsOk X E c
  | .loop c => ∀ L, E.lp (first c) = some L → LoopOk X L c
  | _ => True

/-- Regions whose order is drawn. -/
def DrawOk (X : Cx) (E : En) : Prop := ∀ {R : Type} (id : Nat) (ops : Array Oper) (Q : Exit → Act → World → Prop) (S : Sit) (a : Act) (A : Ab) (K : Ab → Option R) (r : R), Okay X S a → S.g = get A → evDraw E ops.toList A K = some r → Done X Q K r → (Code.region id ops true).wp X.P Q a S.w

theorem altK_bind {K : Ex → Ab → Option R} : ∀ (l : List (Ex × Live)) (y : AltD l) (r : R), altK K l y = some r → ∃ e A, altK (fun e A => some (e, A)) l y = some (e, A) ∧ K e A = some r
  | [], y, _, _ => nomatch y
  | [b], y, r, h => ⟨_, _, rfl, h⟩
  | b :: b2 :: l, .inl y, r, h => ⟨_, _, rfl, h⟩
  | b :: b2 :: l, .inr z, r, h => altK_bind (b2 :: l) z r h

theorem evCode_ok (hV : EnvOk X E) (hD : DrawOk X E) : ∀ (c : Code) {S : Sit} {a : Act} {A : Ab} {Q : Exit → Act → World → Prop} {R : Type} {K : Ex → Ab → Option R} {r : R}, LoopsOk X E c → Okay X S a → S.g = get A → evCode E c A K = some r → DoneE X Q K r → c.wp X.P Q a S.w := by
  intro c
  induction c with
  | skip => intro S a A Q R K r hL hK hg h hQ; exact wp_skip (hQ .normal S a A hK hg h)
  | region id ops draw =>
    intro S a A Q R K r hL hK hg h hQ
    unfold evCode at h
    cases draw with
    | true => exact hD id ops Q S a A _ r hK hg h (fun S' a' A' K' g' h' => hQ .normal S' a' A' K' g' h')
    | false => exact wp_region (evOps_ok hV _ hK hg h (fun S' a' A' K' g' h' => hQ .normal S' a' A' K' g' h'))
  | seq x y ihx ihy =>
    intro S a A Q R K r hL hK hg h hQ
    unfold evCode at h
    refine wp_seq (ihx hL.1 hK hg h (fun e S' a' A' K' g' h' => ?_))
    cases e with
    | normal => exact ihy hL.2 K' g' h' hQ
    | exit i => exact hQ (.exit i) S' a' A' K' g' h'
    | ret => exact hQ .ret S' a' A' K' g' h'
  | cond x y z ihy ihz =>
    intro S a A Q R K r hL hK hg h hQ
    unfold evCode at h
    split at h
    · rename_i b hx
      have e1 := (opT_sc hV.en hK hg hx).1
      cases b with
      | true => exact wp_cond_true e1 (ihy hL.1 hK hg h hQ)
      | false => exact wp_cond_false e1 (ihz hL.2 hK hg h hQ)
    · cases h
  | block id c ih =>
    intro S a A Q R K r hL hK hg h hQ
    unfold evCode at h
    refine wp_block (ih hL hK hg h (fun e S' a' A' K' g' h' => ?_))
    cases e with
    | normal => exact hQ .normal S' a' A' K' g' h'
    | exit i =>
      show (if i = id then Q .normal a' S'.w else Q (.exit i) a' S'.w)
      simp only at h'
      cases hb : Nat.beq i id with
      | true =>
        rw [hb, cond_true] at h'
        rw [if_pos (Nat.eq_of_beq_eq_true hb)]
        exact hQ .normal S' a' A' K' g' h'
      | false =>
        rw [hb, cond_false] at h'
        rw [if_neg (fun e => by rw [e] at hb; simp at hb)]
        exact hQ (.exit i) S' a' A' K' g' h'
    | ret => exact hQ .ret S' a' A' K' g' h'
  | loop c ih =>
    intro S a A Q R K r hL hK hg h hQ
    unfold evCode at h
    split at h
    · rename_i L hLp
      split at h
      · rename_i x hx
        cases hr : L.run x with
        | none => rw [hr] at h; simp at h
        | some y =>
          rw [hr] at h
          simp only [Option.bind_some] at h
          obtain ⟨S1, K1, g1, w1⟩ := forget hK hg hx
          rw [← w1]
          obtain ⟨e0, A0, h0, h1⟩ := altK_bind L.alts y r h
          refine hL L hLp x y hr S1 a K1 g1 Q (fun e A' S' a' h2 K' g' => ?_)
          rw [h0] at h2
          cases h2
          exact hQ _ S' a' _ K' g' h1
      · cases h
    · cases h
  | exit id => intro S a A Q R K r hL hK hg h hQ; exact wp_exit (hQ (.exit id) S a A hK hg h)
  | ret => intro S a A Q R K r hL hK hg h hQ; exact wp_ret (hQ .ret S a A hK hg h)
  | _ => intro S a A Q R K r hL hK hg h hQ; unfold evCode at h; cases h
end
end Go.Proofs.Ytehkignjdbkeiaa.Vf
end

section
/- Loops by fuel. -/
set_option linter.unusedVariables false
set_option linter.unusedSimpArgs false
namespace Go.Proofs.Ytehkignjdbkeiaa.Vf
open Go
attribute [local irreducible] C H

section
variable {X : Cx} {E : En} {A : Ab}

theorem exB_eq {e e' : Ex} (h : exB e e' = true) : e = e' := by
  cases e <;> cases e' <;> first | rfl | (simp [exB] at h; done) | skip
  simp only [exB] at h
  rw [Nat.eq_of_beq_eq_true h]

theorem altOf_ok {e : Ex} {A : Ab} : ∀ (l : List (Ex × Live)) (y : AltD l), altOf e A l = some y → ∃ v, ∃ z : v.den, altK (fun e A => some (e, A)) l y = some (e, concL v z) ∧ absL v A = some z
  | [], y, _ => nomatch y
  | [b], y, h => by
    simp only [altOf] at h
    cases hb : exB e b.1 with
    | false => rw [hb] at h; simp at h
    | true =>
      rw [hb, cond_true] at h
      exact ⟨b.2, y, by rw [exB_eq hb]; rfl, h⟩
  | b :: b2 :: l, y, h => by
    simp only [altOf] at h
    cases hb : exB e b.1 with
    | true =>
      rw [hb, cond_true] at h
      split at h
      · rename_i x hx
        cases h
        exact ⟨b.2, x, by rw [exB_eq hb]; rfl, hx⟩
      · cases h
    | false =>
      rw [hb, cond_false] at h
      split at h
      · rename_i x hx
        cases h
        exact altOf_ok (b2 :: l) x hx
      · cases h

theorem loop_ok {ins : Live} {alts : List (Ex × Live)} {f : Nat → ins.den → Option (AltD alts)} {En' : Nat → En} {c : Code} (h0 : ∀ x, f 0 x = none) (hs : ∀ k x, evLoop (En' k) ⟨ins, alts, f k⟩ c x = f (k + 1) x)
    (hV : ∀ k, EnvOk X (En' k)) (hD : ∀ k, DrawOk X (En' k)) (hL : ∀ k, LoopsOk X (En' k) c) : ∀ k, LoopOk X ⟨ins, alts, f k⟩ c := by
  intro k x y hy S a K hg Q hQ
  let J : Nat → Act → World → Prop := fun n a w => ∃ x y S, f n x = some y ∧ Okay X S a ∧ S.g = get (concL ins x) ∧ S.w = w ∧
    (∀ e A S' a', altK (fun e A => some (e, A)) alts y = some (e, A) → Okay X S' a' → S'.g = get A → Q (toExit e) a' S'.w)
  refine wp_loop_ix J (n := k) ⟨x, y, S, hy, K, hg, rfl, hQ⟩ ?_
  rintro n a w ⟨x, y, S, hy, K, hg, rfl, hQ⟩
  cases n with
  | zero => rw [h0] at hy; cases hy
  | succ m =>
    rw [← hs] at hy
    unfold evLoop at hy
    refine evCode_ok (hV m) (hD m) c (hL m) K hg hy (fun e S' a' A' K' g' h' => ?_)
    have ends : ∀ {e : Ex}, altOf e A' alts = some y → Q (toExit e) a' S'.w := by
      intro e h
      obtain ⟨v, z, h1, h2⟩ := altOf_ok alts y h
      obtain ⟨S1, K1, g1, w1⟩ := forget K' g' h2
      rw [← w1]
      exact hQ e _ S1 a' h1 K1 g1
    cases e with
    | normal =>
      simp only at h'
      split at h'
      · rename_i x' hx'
        obtain ⟨S1, K1, g1, w1⟩ := forget K' g' hx'
        exact ⟨m, Nat.lt_succ_self m, x', y, S1, h', K1, g1, w1, hQ⟩
      · cases h'
    | exit i => exact ends h'
    | ret => exact ends h'
end
end Go.Proofs.Ytehkignjdbkeiaa.Vf
end

section
/- A function's start. -/
set_option linter.unusedVariables false
set_option linter.unusedSimpArgs false
namespace Go.Proofs.Ytehkignjdbkeiaa.Vf
open Go

def bbS (us : List Value) : Nat → Nat × Nat := fun i => match us[i]? with
  | some (.pointer (some ad)) => (ad.block, ad.off)
  | _ => (0, 0)
def phS (us : List Value) (w : World) : Nat → Value := fun p => if p < 1000 then us.getD p undef else (w.cell? ⟨(bbS us (p / 1000 - 1)).1, (bbS us (p / 1000 - 1)).2 + p % 1000, none⟩).getD undef
def S0 (ps : List Par) (ls : List (List Lf)) (us : List Value) (O : Nat → Lab) (w : World) : Sit := ⟨O, bbS us, get (startP 0 ps ls), phS us w, w⟩

theorem C_div {b j : Nat} (h : j < 999) : C b j / 1000 - 1 = b ∧ C b j % 1000 = j ∧ ¬ C b j < 1000 := by unfold C; omega

theorem ups_mem : ∀ (b j : Nat) (l : List Lf) (A : Ab), ∀ e ∈ ups A (putCells b j l), e ∈ A ∨ ∃ n v x, l[n]? = some x ∧ e = (C b (j + n), v, .one x)
  | b, j, [], A, e, h => .inl h
  | b, j, x :: l, A, e, h => by
    rcases ups_mem b (j + 1) l (up A ⟨C b j, false, .one x⟩) e h with h | ⟨n, v, y, h1, h2⟩
    · rcases List.mem_cons.1 h with h | h
      · exact .inr ⟨0, _, x, rfl, by rw [Nat.add_zero]; exact h⟩
      · exact .inl h
    · exact .inr ⟨n + 1, v, y, by simpa using h1, by rw [show j + (n + 1) = j + 1 + n by omega]; exact h2⟩

/-- What a start's entries are. -/
theorem start_mem {P : Program} {S : Sit} {rg : Nat → Nat × Nat} : ∀ (ps : List Par) (i : Nat) (ls : List (List Lf)) (us : List Value), ArgsOk P S rg i ps ls us → ∀ e ∈ startP i ps ls,
    ∃ j p l u, us[j]? = some u ∧ j < ps.length ∧ l ∈ ls ∧ ArgOk P S rg (i + j) p l u ∧
      ((∃ ag t, p = .val ag t ∧ e = (i + j, 0, (bif ag then .agg l else .one (oneL l)))) ∨
       (∃ t t', p = .ptr t t' ∧ (e = (i + j, 0, .one (.bp (i + j) 0 0)) ∨ e = (H (i + j), 0, .one (.hd t.sz)) ∨ ∃ n v x, l[n]? = some x ∧ e = (C (i + j) n, v, .one x))))
  | [], i, [], [], _, e, he => by simp [startP] at he
  | [], i, [], _ :: _, h, _, _ => h.elim
  | [], i, _ :: _, _, h, _, _ => h.elim
  | _ :: _, i, [], _, h, _, _ => h.elim
  | _ :: _, i, _ :: _, [], h, _, _ => h.elim
  | p :: ps, i, l :: ls, u :: us, h, e, he => by
    obtain ⟨h1, h2⟩ := h
    have rest : e ∈ startP (i + 1) ps ls → ∃ j p' l' u', (u :: us)[j]? = some u' ∧ j < (p :: ps).length ∧ l' ∈ l :: ls ∧ ArgOk P S rg (i + j) p' l' u' ∧
      ((∃ ag t, p' = .val ag t ∧ e = (i + j, 0, (bif ag then .agg l' else .one (oneL l')))) ∨
       (∃ t t', p' = .ptr t t' ∧ (e = (i + j, 0, .one (.bp (i + j) 0 0)) ∨ e = (H (i + j), 0, .one (.hd t.sz)) ∨ ∃ n v x, l'[n]? = some x ∧ e = (C (i + j) n, v, .one x)))) := fun he => by
      obtain ⟨j, p', l', u', g1, g2, g3, g4, g5⟩ := start_mem ps (i + 1) ls us h2 e he
      refine ⟨j + 1, p', l', u', by simpa using g1, by simp only [List.length_cons]; omega, List.mem_cons_of_mem _ g3, ?_⟩
      rw [show i + (j + 1) = i + 1 + j by omega]
      exact ⟨g4, g5⟩
    cases p with
    | val ag t =>
      have he' : e = (i, 0, (bif ag then .agg l else .one (oneL l))) ∨ e ∈ startP (i + 1) ps ls := List.mem_cons.1 he
      rcases he' with he | he
      · exact ⟨0, .val ag t, l, u, rfl, by simp, by simp, h1, .inl ⟨ag, t, rfl, he⟩⟩
      · exact rest he
    | ptr t t' =>
      have he' : e ∈ (i, 0, .one (.bp i 0 0)) :: (H i, 0, .one (.hd t.sz)) :: (ups [] (putCells i 0 l) ++ startP (i + 1) ps ls) := he
      rcases List.mem_cons.1 he' with he | he
      · exact ⟨0, .ptr t t', l, u, rfl, by simp, by simp, h1, .inr ⟨t, t', rfl, .inl he⟩⟩
      · rcases List.mem_cons.1 he with he | he
        · exact ⟨0, .ptr t t', l, u, rfl, by simp, by simp, h1, .inr ⟨t, t', rfl, .inr (.inl he)⟩⟩
        · rcases List.mem_append.1 he with he | he
          · rcases ups_mem i 0 l [] e he with he | ⟨n, v, x, g1, g2⟩
            · cases he
            · exact ⟨0, .ptr t t', l, u, rfl, by simp, by simp, h1, .inr ⟨t, t', rfl, .inr (.inr ⟨n, v, x, g1, by rw [g2, Nat.zero_add, Nat.add_zero]⟩)⟩⟩
          · exact rest he

theorem args_len {P : Program} {S : Sit} {rg : Nat → Nat × Nat} : ∀ (ps : List Par) (i : Nat) (ls : List (List Lf)) (us : List Value), ArgsOk P S rg i ps ls us → us.length = ps.length
  | [], i, [], [], _ => rfl
  | [], i, [], _ :: _, h => h.elim
  | [], i, _ :: _, _, h => h.elim
  | _ :: _, i, [], _, h => h.elim
  | _ :: _, i, _ :: _, [], h => h.elim
  | _ :: ps, i, _ :: ls, _ :: us, h => by simp [args_len ps (i + 1) ls us h.2]

theorem LfsOk.get {P : Program} {S : Sit} {f : Nat → Lab} {l : List Lf} {us : List Value} {n : Nat} {x : Lf} (h : LfsOk P S f 0 l us) (hx : l[n]? = some x) : ∃ u, us[n]? = some u ∧ LfOk P S (f n) x u := by
  have hn : n < l.length := (List.getElem?_eq_some_iff.1 hx).1
  obtain ⟨x', u', e1, _, e3, e4⟩ := h.at n hn
  rw [List.getD_eq_getElem?_getD, hx] at e1
  simp only [Option.getD_some] at e1
  subst e1
  rw [Nat.zero_add] at e4
  exact ⟨u', e3, e4⟩

/-- A header among a start's entries is a pointer's. -/
theorem head_mem {P : Program} {O : Nat → Lab} {w : World} {rg : Nat → Nat × Nat} {ps : List Par} {ls : List (List Lf)} {us : List Value}
    (hmem : ∀ e ∈ startP 0 ps ls, ∃ j p l u, us[j]? = some u ∧ j < ps.length ∧ l ∈ ls ∧ ArgOk P (bare O w) rg (0 + j) p l u ∧
      ((∃ ag t, p = .val ag t ∧ e = (0 + j, 0, (bif ag then .agg l else .one (oneL l)))) ∨
       (∃ t t', p = .ptr t t' ∧ (e = (0 + j, 0, .one (.bp (0 + j) 0 0)) ∨ e = (H (0 + j), 0, .one (.hd t.sz)) ∨ ∃ n v x, l[n]? = some x ∧ e = (C (0 + j) n, v, .one x)))))
    (hsol : ∀ l ∈ ls, ∀ y ∈ l, solid y = true) (e : Nat × Nat × Sv) (he : e ∈ startP 0 ps ls) (b n : Nat) (hb : e.1 = H b) (hn : e.2.2 = .one (.hd n)) :
    ∃ (k o : Nat) (c : Array Value) (e0 : TypeId) (vs : List Value), bbS us b = (k, o) ∧ w.heap[k]? = some (.cells c e0 (0, 0)) ∧ O k = .bx b ∧ rg b = (o, n) ∧ o + n ≤ c.size ∧ n < 999 ∧ (∀ i, i < n → c[o + i]? = vs[i]?) ∧ n ≤ vs.length := by
  obtain ⟨j, p, l, u, g1, g2, g3, g4, g5⟩ := hmem e he
  simp only [Nat.zero_add] at g4 g5
  rcases g5 with ⟨ag, t, rfl, rfl⟩ | ⟨t, t', rfl, g5⟩
  · cases ag with
    | true => cases hn
    | false =>
      simp only [cond_false, Sv.one.injEq] at hn
      cases l with
      | nil => cases hn
      | cons x l =>
        cases l with
        | cons y l => cases hn
        | nil =>
          have := hsol _ g3 x (by simp)
          have hx : x = .hd n := hn
          rw [hx] at this
          simp [solid] at this
  · obtain ⟨k, o, c, e0, vs, rfl, f2, f3, f4, f5, f6, f7, f8, f9⟩ := g4
    have hbb : bbS us j = (k, o) := by unfold bbS; rw [g1]
    rcases g5 with rfl | rfl | ⟨i, v, x, hx, rfl⟩
    · cases hn
    · have hjb : j = b := H_inj hb
      subst hjb
      simp only [Sv.one.injEq, Lf.hd.injEq] at hn
      subst hn
      have hvl := f9.len
      exact ⟨k, o, c, e0, vs, hbb, f2, f3, f4, f5, f6, f8, by omega⟩
    · have := hsol _ g3 x (List.mem_of_getElem? hx)
      simp only [Sv.one.injEq] at hn
      rw [hn] at this
      simp [solid] at this

theorem start_ok {P : Program} {O : Nat → Lab} {w : World} {rg : Nat → Nat × Nat} {nt np : Nat} {ps : List Par} {ls : List (List Lf)} {us : List Value} (hnt : nt ≤ 1000) (hlt : ∀ k, O k ≠ .no → k < w.heap.size) (hbx : ∀ k b, O k = .bx b → b < ps.length ∧ ∃ c e f, w.heap[k]? = some (.cells c e f))
    (hargs : ArgsOk P (bare O w) rg 0 ps ls us) (hsol : ∀ l ∈ ls, ∀ y ∈ l, solid y = true) (hps : ps.length ≤ nt) :
    Okay ⟨P, O, w, rg, nt, np⟩ (S0 ps ls us O w) ⟨us.toArray ++ Array.replicate (nt - us.toArray.size) undef, []⟩ := by
  have hul := args_len ps 0 ls us hargs
  have hmem := start_mem ps 0 ls us hargs
  have hph : ∀ t, t < 1000 → phS us w t = us.getD t undef := fun t ht => by unfold phS; rw [if_pos ht]
  have hus : ∀ {j : Nat} {u : Value}, us[j]? = some u → us.getD j undef = u := fun h => by rw [List.getD_eq_getElem?_getD, h]; rfl
  refine ⟨hnt, hlt, ?_, ?_, ?_, fun t ht => ?_, ?_, rfl, ⟨rfl, rfl, rfl, Nat.le_refl _, fun k _ h => ⟨h, rfl⟩, fun k _ h => ⟨h, rfl⟩, fun k b hk h => ?_⟩⟩
  · refine get_all (Q := fun l s => SvOk P (S0 ps ls us O w) l s.2 (phS us w l)) (fun l => trivial) _ (fun e he => ?_)
    obtain ⟨j, p, l, u, g1, g2, g3, g4, g5⟩ := hmem e he
    simp only [Nat.zero_add] at g4 g5
    have hj : j < 1000 := by omega
    have hpj : phS us w j = u := by rw [hph j hj]; exact hus g1
    rcases g5 with ⟨ag, t, rfl, rfl⟩ | ⟨t, t', rfl, g5⟩
    · obtain ⟨vs, e1, e2⟩ := g4
      show SvOk P (S0 ps ls us O w) j _ (phS us w j)
      rw [hpj]
      have e3 := LfsOk.impM (S1 := bare O w) (S2 := S0 ps ls us O w) (f' := fun n => .pl j (if ag then [n] else [])) (fun x hx n u hu => LfOk.bare (S1 := bare O w) (S2 := S0 ps ls us O w) (hsol l g3 x hx) rfl (fun k hk => hk) (fun k hk => hk) hu) e2
      cases ag with
      | true => exact ⟨vs, e1, e3⟩
      | false =>
        simp only [Bool.false_eq_true, if_false] at e1
        subst e1
        cases l with
        | nil => exact e3.elim
        | cons x l =>
          cases l with
          | nil => exact e3.1
          | cons y l => exact e3.2.elim
    · obtain ⟨k, o, c, e0, vs, rfl, f2, f3, f4, f5, f6, f7, f8, f9⟩ := g4
      have hbb : bbS us j = (k, o) := by unfold bbS; rw [g1]
      rcases g5 with rfl | rfl | ⟨n, v, x, hx, rfl⟩
      · show LfOk P (S0 ps ls us O w) (.pl j []) (.bp j 0 0) (phS us w j)
        refine ⟨Nat.zero_le _, fun _ => ?_⟩
        rw [hpj]
        show _ = Value.pointer (some ⟨(bbS us j).1, (bbS us j).2 + 0, none⟩)
        rw [hbb]
        rfl
      · trivial
      · have hn : n < t.sz := by have := (List.getElem?_eq_some_iff.1 hx).1; omega
        obtain ⟨d1, d2, d3⟩ := C_div (b := j) (j := n) (by omega)
        obtain ⟨v', h1, h2⟩ := f9.get hx
        have hpc : phS us w (C j n) = v' := by
          unfold phS
          rw [if_neg d3, d1, d2, hbb]
          have f2' : w.heap[k]? = some (.cells c e0) := f2
          simp [World.cell?, f2', f8 n hn, h1]
        show LfOk P (S0 ps ls us O w) _ x (phS us w (C j n))
        rw [hpc]
        exact LfOk.bare (S1 := bare O w) (S2 := S0 ps ls us O w) (lab := .pl (C j n) []) (lab' := .pl (C j n) []) (hsol l g3 x (List.mem_of_getElem? hx)) rfl (fun k hk => hk) (fun k hk => hk) h2
  · have key := get_all (Q := fun l s => ∀ b n, l = H b → s.2 = .one (.hd n) → n < 999 ∧ ∃ c e, w.heap[(bbS us b).1]? = some (.cells c e (0, 0)) ∧ O (bbS us b).1 = .bx b ∧ (bbS us b).2 + n ≤ c.size ∧ ∀ j, j < n → c[(bbS us b).2 + j]? = some (phS us w (C b j)))
      (fun l b n _ h => by cases h) (startP 0 ps ls) (fun e he b n hb hn => by
        obtain ⟨k, o, c, e0, vs, k1, f2, f3, f4, f5, f6, f8, hvl⟩ := head_mem hmem hsol e he b n hb hn
        refine ⟨f6, c, e0, by rw [k1]; exact f2, by rw [k1]; exact f3, by rw [k1]; exact f5, fun i hi => ?_⟩
        obtain ⟨d1, d2, d3⟩ := C_div (b := b) (j := i) (by omega)
        have : phS us w (C b i) = vs.getD i undef := by
          unfold phS
          rw [if_neg d3, d1, d2, k1]
          simp [World.cell?, f2, f8 i hi]
        rw [this, k1, f8 i hi, List.getD_eq_getElem?_getD, List.getElem?_eq_getElem (by omega)]
        rfl)
    exact fun b n h => key (H b) b n rfl h
  · have key := get_all (Q := fun l s => ∀ b n, l = H b → s.2 = .one (.hd n) → ((bbS us b).1 < w.heap.size → O (bbS us b).1 = .bx b ∧ (rg b).1 ≤ (bbS us b).2 ∧ (bbS us b).2 + n ≤ (rg b).1 + (rg b).2) ∧ (b < np → (bbS us b).1 < w.heap.size))
      (fun l b n _ h => by cases h) (startP 0 ps ls) (fun e he b n hb hn => by
        obtain ⟨k, o, c, e0, vs, k1, f2, f3, f4, f5, f6, f8, hvl⟩ := head_mem hmem hsol e he b n hb hn
        rw [k1, f4]
        exact ⟨fun _ => ⟨f3, Nat.le_refl _, Nat.le_refl _⟩, fun _ => (Array.getElem?_eq_some_iff.1 f2).1⟩)
    exact fun b n h => key (H b) b n rfl h
  · show (us.toArray ++ Array.replicate (nt - us.toArray.size) undef).getD t undef = phS us w t
    have ht' : t < nt := ht
    rw [hph t (by omega)]
    by_cases h : t < us.length
    · simp [Array.getD_eq_getD_getElem?, Array.getElem?_append, h, List.getD_eq_getElem?_getD]
    · have h2 : us.getD t undef = undef := by rw [List.getD_eq_getElem?_getD, List.getElem?_eq_none (by omega)]; rfl
      rw [h2]
      simp [Array.getD_eq_getD_getElem?, Array.getElem?_append, h, Array.getElem?_replicate]
      split <;> rfl
  · simp; omega
  · obtain ⟨_, c, e, f, h1⟩ := hbx k b h
    exact ⟨h, c, c, e, f, h1, h1, rfl, fun _ _ => rfl⟩
end Go.Proofs.Ytehkignjdbkeiaa.Vf
end

section
/- A function's end: its results. -/
set_option linter.unusedVariables false
set_option linter.unusedSimpArgs false
namespace Go.Proofs.Ytehkignjdbkeiaa.Vf
open Go
attribute [local irreducible] C H

section
variable {X : Cx} {S S1 S2 : Sit} {a : Act} {E : En} {A : Ab}

/-- A result that is one value or one struct: what is given back, at the result's own name; or read by all. -/
theorem res_val (hE : EnOk X E) (K : Okay X S a) (hg : S.g = get A) {x : Nat} (hx : Nat.blt x E.nt = true) {k : RK} {t : Ty} {l : List Lf} {us : List Up} (i : Nat) (hk : k ≠ .ptr) (h : resOf E.np A k t (.tmp x) (get A x).2 = some (l, us)) {y : t.den} (hy : mkW t l = some y) :
    ∃ S', Okay X S' a ∧ S'.g = get (ups A us) ∧ S'.w = S.w ∧ S'.bb = S.bb ∧ S'.ph = S.ph ∧ Later S S' ∧ (∀ n q z v, n ≠ i → LfOk X.P S (.tm n q) z v → LfOk X.P S' (.tm n q) z v) ∧
      ∃ vs, (if isAggK k then a.eval (.tmp x) = .agg vs.toArray else vs = [a.eval (.tmp x)]) ∧ LfsOk X.P S' (fun n => .tm i (if isAggK k then [n] else [])) 0 (leaves t y) vs := by
  have hop : opT E 0 A (.tmp x) = some (get A x).2 := by show (bif Nat.blt x E.nt then some (get A x).2 else none) = _; rw [hx]; rfl
  have hpth : formOk (isAggK k) (get A x).2 = true → ∀ n, pth (get A x).2 n = if isAggK k then [n] else [] := by
    intro q1 n
    cases hs : (get A x).2 with
    | tup vs => rw [hs] at q1; simp [formOk, form] at q1
    | one z => rw [hs] at q1; cases hk' : isAggK k <;> simp [formOk, form, hk'] at q1 ⊢; rfl
    | agg z => rw [hs] at q1; cases hk' : isAggK k <;> simp [formOk, form, hk'] at q1 ⊢; rfl
  have h' : (bif noOw t then (bif formOk (isAggK k) (get A x).2 && storable ((parts (get A x).2).map (kept A)) then some (((parts (get A x).2).map (kept A)).map calm, costs A (parts (get A x).2) ++ gone (.tmp x) (get A x).2) else none)
    else bif noSl t && formOk (isAggK k) (get A x).2 then (match give A (.tmp x) (get A x).2 with
      | some (m, us) => bif owned m then some (m, us) else none
      | none => none) else none) = some (l, us) := by
    unfold resOf at h
    cases k <;> first | exact h | exact absurd rfl hk
  cases hno : noOw t with
  | true =>
    rw [hno, cond_true] at h'
    cases hq : (formOk (isAggK k) (get A x).2 && storable ((parts (get A x).2).map (kept A))) with
    | false => rw [hq] at h'; simp at h'
    | true =>
      rw [hq] at h'
      simp only [cond_true, Option.some.injEq, Prod.mk.injEq] at h'
      obtain ⟨rfl, rfl⟩ := h'
      simp only [Bool.and_eq_true] at hq
      obtain ⟨q1, q2⟩ := hq
      obtain ⟨S1, K1, g1, w1, b1, p1, L1, x1, heads, tms, vs, hsh, hls⟩ := taken hE K hg hop (form_nt q1) i
      have hsh' := form_shape q1 hsh
      obtain ⟨K2, L2⟩ := K1.names (frzH i) (by intro n q; unfold frzH; split <;> simp)
      exact ⟨_, K2, g1, w1, b1, p1, L1.trans L2, fun n q z v hn hz => (tms n q z v hz).later L2 (fun k hk => ⟨atO_keep hk (by unfold frzH; rw [if_neg hn]), rfl⟩), vs, hsh', shared_arg (fun k hk => hk) hy hno (calm_rep q2 hls) _ _⟩
  | false =>
    rw [hno, cond_false] at h'
    cases hq : (noSl t && formOk (isAggK k) (get A x).2) with
    | false => rw [hq] at h'; simp at h'
    | true =>
      rw [hq, cond_true] at h'
      simp only [Bool.and_eq_true] at hq
      obtain ⟨q3, q1⟩ := hq
      split at h'
      · rename_i m vs hgive
        cases q4 : owned m with
        | false => rw [q4] at h'; simp at h'
        | true =>
          rw [q4] at h'
          simp only [cond_true, Option.some.injEq, Prod.mk.injEq] at h'
          obtain ⟨rfl, rfl⟩ := h'
          obtain ⟨S1, K1, g1, G1, us, hsh, hl⟩ := give_ok hE K hg hop (form_nt q1) hgive i
          have hsh' := form_shape q1 hsh
          refine ⟨S1, K1, g1, G1.w, G1.bb, G1.ph, G1.later, fun n q z v _ hz => G1.tms n q z v hz, us, hsh', ?_⟩
          simp only [hpth q1] at hl
          exact mkW_lfs q3 hy hl
      · cases h'

/-- A box that is given back: its block gets a name, its head is gone. -/
theorem Okay.unbox (K : Okay X S a) (hb0 : ∀ k b, X.O0 k = .bx b → b < X.np) {b n : Nat} (hh : (S.g (H b)).2 = .one (.hd n)) (hnp : X.np ≤ b) (j : Nat) :
    Okay X { S with O := fun k => if k = (S.bb b).1 then .tm j [] else S.O k, g := upd S.g (H b) ((S.g (H b)).1, .one .dead) } a ∧
    Later S { S with O := fun k => if k = (S.bb b).1 then .tm j [] else S.O k, g := upd S.g (H b) ((S.g (H b)).1, .one .dead) } := by
  obtain ⟨hn, c, e, e1, e2, e3, e4⟩ := K.box b n hh
  have hnew : X.w0.heap.size ≤ (S.bb b).1 := by
    rcases Nat.lt_or_ge (S.bb b).1 X.w0.heap.size with h | h
    · have := hb0 _ _ ((K.rgn b n hh).1 h).1
      omega
    · exact h
  have keep : ∀ k o, S.O k = o → o ≠ .bx b → (if k = (S.bb b).1 then Lab.tm j [] else S.O k) = o := fun k o' h ho => by
    rw [if_neg (fun e => ho (by rw [← h, e, e2]))]
    exact h
  have L : Later S { S with O := fun k => if k = (S.bb b).1 then .tm j [] else S.O k, g := upd S.g (H b) ((S.g (H b)).1, .one .dead) } := by
    refine ⟨fun p => ?_, fun _ _ => rfl, fun p v e r xs' hp hv => ?_, fun _ _ => rfl, fun k hk => ⟨keep k _ hk (by simp), rfl⟩, fun p hv hd => ?_⟩
    · show _ ≤ (upd S.g (H b) _ p).1
      by_cases h : p = H b
      · subst h; rw [upd_same]; exact Nat.le_refl _
      · rw [upd_ne _ _ h]; exact Nat.le_refl _
    · have hp' : upd S.g (H b) ((S.g (H b)).1, .one .dead) p = (v, .one (.own e r xs')) := hp
      by_cases h : p = H b
      · subst h; rw [upd_same] at hp'; cases hp'
      · rw [upd_ne _ _ h] at hp'; exact ⟨xs', hp', rfl⟩
    · have h : p ≠ H b := fun e => by subst e; rw [hh] at hd; simp [deepS, deepL] at hd
      have e1 : ({ S with O := fun k => if k = (S.bb b).1 then .tm j [] else S.O k, g := upd S.g (H b) ((S.g (H b)).1, .one .dead) } : Sit).g p = S.g p := upd_ne _ _ h
      rw [e1]
      exact ⟨hd, fun _ _ _ h => h, fun k hk => ⟨.inl (keep k _ hk (by simp)), rfl⟩⟩
  have F := K.fr
  refine ⟨⟨K.nt, fun k hk => ?_, fun l => ?_, fun b' n' hb' => ?_, fun b' n' hb' => ?_, K.sl, K.sz, K.df, ⟨F.os, F.tape, F.out, F.size, fun k hk h0 => ?_, fun k hk h0 => ?_, fun k b' hk h0 => ?_⟩⟩, L⟩
  · by_cases h : k = (S.bb b).1
    · exact K.lt k (by rw [h, e2]; simp)
    · have hk' : (if k = (S.bb b).1 then Lab.tm j [] else S.O k) ≠ .no := hk
      rw [if_neg h] at hk'
      exact K.lt k hk'
  · show SvOk X.P _ l (upd S.g (H b) _ l).2 _
    by_cases h : l = H b
    · subst h; rw [upd_same]; trivial
    · rw [upd_ne _ _ h]
      exact (K.at_ l).later L (fun p k hk => ⟨keep k _ hk (by simp), rfl⟩)
  · have hne : b' ≠ b := fun e => by subst e; have : (upd S.g (H b') ((S.g (H b')).1, .one .dead) (H b')).2 = .one (.hd n') := hb'; rw [upd_same] at this; cases this
    have hb2 : (S.g (H b')).2 = .one (.hd n') := by
      have : (upd S.g (H b) ((S.g (H b)).1, .one .dead) (H b')).2 = .one (.hd n') := hb'
      rwa [upd_ne _ _ (fun e => hne (H_inj e))] at this
    obtain ⟨g1, c1, g2, g3, g4, g5, g6⟩ := K.box b' n' hb2
    exact ⟨g1, c1, g2, g3, keep _ _ g4 (by simp [hne]), g5, g6⟩
  · have hne : b' ≠ b := fun e => by subst e; have : (upd S.g (H b') ((S.g (H b')).1, .one .dead) (H b')).2 = .one (.hd n') := hb'; rw [upd_same] at this; cases this
    have hb2 : (S.g (H b')).2 = .one (.hd n') := by
      have : (upd S.g (H b) ((S.g (H b)).1, .one .dead) (H b')).2 = .one (.hd n') := hb'
      rwa [upd_ne _ _ (fun e => hne (H_inj e))] at this
    exact K.rgn b' n' hb2
  · obtain ⟨f1, f2⟩ := F.no k hk h0
    exact ⟨keep k _ f1 (by simp), f2⟩
  · obtain ⟨f1, f2⟩ := F.fz k hk h0
    exact ⟨keep k _ f1 (by simp), f2⟩
  · obtain ⟨f1, rest⟩ := F.bx k b' hk h0
    refine ⟨?_, rest⟩
    show (if k = (S.bb b).1 then Lab.tm j [] else S.O k) = _
    rw [if_neg (by omega)]
    exact f1

/-- A pointer to a new box is given back. -/
theorem res_ptr (hE : EnOk X E) (K : Okay X S a) (hg : S.g = get A) (hb0 : ∀ k b, X.O0 k = .bx b → b < X.np) {x : Nat} (hx : Nat.blt x E.nt = true) {t : Ty} {l : List Lf} {us : List Up} (i : Nat) (h : resOf E.np A .ptr t (.tmp x) (get A x).2 = some (l, us)) {y : t.den} (hy : mkW t l = some y) :
    ∃ S', Okay X S' a ∧ S'.g = get (ups A us) ∧ S'.w = S.w ∧ S'.ph = S.ph ∧ Later S S' ∧ (∀ n q z v, LfOk X.P S (.tm n q) z v → LfOk X.P S' (.tm n q) z v) ∧ ResOk X.P S' X.w0.heap.size i .ptr (leaves t y) (a.eval (.tmp x)) := by
  have hop : opT E 0 A (.tmp x) = some (get A x).2 := by show (bif Nat.blt x E.nt then some (get A x).2 else none) = _; rw [hx]; rfl
  unfold resOf at h
  simp only at h
  split at h
  · rename_i b v hs
    rw [hs] at hop
    split at h
    · rename_i n m hp
      cases hq : (Nat.beq n v && Nat.ble E.np b && noOw t && Nat.beq m t.sz && Nat.blt m 999 && storable ((cellsOf A b 0 m).map (kept A))) with
      | false => rw [hq] at h; simp at h
      | true =>
        rw [hq] at h
        simp only [cond_true, Option.some.injEq, Prod.mk.injEq] at h
        obtain ⟨rfl, rfl⟩ := h
        simp only [Bool.and_eq_true] at hq
        obtain ⟨⟨⟨⟨⟨q1, q2⟩, q3⟩, q4⟩, q5⟩, q6⟩ := hq
        have hnv : n = v := by simpa using q1
        have hm : m = t.sz := Nat.eq_of_beq_eq_true q4
        have hlt : m < 999 := Nat.le_of_ble_eq_true q5
        have hnp : X.np ≤ b := hE.np ▸ (Nat.le_of_ble_eq_true q2)
        subst hnv
        obtain ⟨pl, hl⟩ := opT_ex hE K hg hop
        have hlf : LfOk X.P S (.pl pl []) (.bp b n 0) (a.eval (.tmp x)) := hl
        have hu := hlf.2 (by rw [hg, hp])
        obtain ⟨S1, K1, g1, E1, F1, P1⟩ := costs_ok (X := X) (a := a) (A := A) (cellsOf A b 0 m) K hg (fun p => .inl rfl)
        obtain ⟨c1, c2, c3⟩ := cellsOf_ok K hg b m 0
        have hkept := kept_ok K hg K1 E1 P1 (fun _ => .fz) (fun n k hk => (E1.later.fz k hk).1) (cellsOf A b 0 m) (fun _ h => h) 0 _ (c3 (fun _ => .fz) 0)
        have hrep := rep_of_noOwn q6 (kept_noOwn _ c2) hkept
        have hh : (S.g (H b)).2 = .one (.hd m) := by rw [hg, hp]
        have hh1 : (S1.g (H b)).2 = .one (.hd m) := by
          rcases F1 (H b) with h1 | ⟨n', e, r', xs, h1, h2⟩
          · rw [h1, hp]
          · rw [hp] at h1; cases h1
        obtain ⟨_, c, e, e1, e2, e3, e4⟩ := K1.box b m hh1
        have hnew : X.w0.heap.size ≤ (S1.bb b).1 := by
          rcases Nat.lt_or_ge (S1.bb b).1 X.w0.heap.size with h | h
          · have := hb0 _ _ ((K1.rgn b m hh1).1 h).1
            omega
          · exact h
        obtain ⟨K2, L2⟩ := K1.unbox hb0 hh1 hnp (i + 500)
        have hll : (leaves t y).length = m := by rw [leaves_len, hm]
        refine ⟨_, K2, ?_, E1.w, E1.ph, E1.later.trans L2, fun n q z v hz => (hz.later E1.later (fun k hk => ⟨E1.tm n q k hk, by rw [E1.w]⟩)).later L2 (fun k hk => ⟨?_, rfl⟩), (S1.bb b).1, (S1.bb b).2, c, e, (List.range m).map (fun j => S.ph (C b (0 + j))), ?_, e1, hnew, if_pos rfl, by rw [hll]; exact e3, by rw [hll]; exact hlt, fun j hj => ?_, ?_⟩
        · show upd S1.g (H b) _ = _
          rw [ups_append, get_keep, ← g1]
        · show (if k = (S1.bb b).1 then Lab.tm (i + 500) [] else S1.O k) = _
          rw [if_neg (fun e => by rw [e, e2] at hk; cases hk)]
          exact hk
        · rw [E1.bb]; exact hu
        · rw [hll] at hj
          rw [e4 j hj, E1.ph]
          simp [hj]
        · exact shared_arg (G := fun k => S1.O k = .fz) (fun k hk => (L2.fz k hk).1) hy q3 hrep _ _
    · cases h
  · cases h
end
end Go.Proofs.Ytehkignjdbkeiaa.Vf
end
