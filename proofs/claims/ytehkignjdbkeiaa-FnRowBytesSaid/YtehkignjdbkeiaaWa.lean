/- Code: regions, branches, blocks, loops. -/
import Derived.Test.YtehkignjdbkeiaaVz
set_option linter.unusedVariables false
set_option linter.unusedSimpArgs false
namespace Go.Proofs.Ytehkignjdbkeiaa.Vf
open Go
attribute [local irreducible] C H

def toExit : Ex → Exit
  | .normal => .normal
  | .exit i => .exit i
  | .ret => .ret

/-! ### A loop whose rounds are numbered -/
theorem least {J : Nat → Prop} : ∀ n, J n → ∃ m, J m ∧ (∀ k, J k → m ≤ k) := by
  intro n
  induction n using Nat.strongRecOn with
  | _ n ih =>
    intro hn
    by_cases h : ∃ m, m < n ∧ J m
    · obtain ⟨m, hm, hj⟩ := h
      exact ih m hm hj
    · exact ⟨n, hn, fun k hk => Nat.le_of_not_lt (fun hlt => h ⟨k, hlt, hk⟩)⟩

open Classical in
theorem wp_loop_ix {P : Program} {c : Code} {Q : Exit → Act → World → Prop} (J : Nat → Act → World → Prop) {n : Nat} {a : Act} {w : World} (h0 : J n a w)
    (round : ∀ n a w, J n a w → c.wp P (Exit.then (fun a' w' => ∃ m, m < n ∧ J m a' w') Q) a w) : (Code.loop c).wp P Q a w := by
  let μ : Act → World → Nat := fun a w => if h : ∃ m, J m a w ∧ (∀ k, J k a w → m ≤ k) then Classical.choose h else 0
  have hμ : ∀ a w n, J n a w → J (μ a w) a w ∧ (∀ k, J k a w → μ a w ≤ k) := by
    intro a w n hn
    have h := least (J := fun m => J m a w) n hn
    have e : μ a w = Classical.choose h := by simp only [μ]; rw [dif_pos h]
    rw [e]
    exact Classical.choose_spec h
  refine wp_loop (fun a w => ∃ n, J n a w) μ ⟨n, h0⟩ ?_
  rintro a w ⟨n, hn⟩
  obtain ⟨h1, h2⟩ := hμ a w n hn
  refine wp_mono (round (μ a w) a w h1) ?_
  intro e a' w' hq
  cases e <;> first | exact hq | skip
  obtain ⟨m, hm, hj⟩ := hq
  refine ⟨⟨m, hj⟩, Nat.lt_of_le_of_lt ((hμ a' w' m hj).2 m hj) hm⟩

section
variable {X : Cx} {S S1 S2 : Sit} {a : Act} {E : En} {A : Ab} {o : Oper} {R : Type} {Kc : List Up → Option R} {r : R}

/-! ### What is forgotten at a loop's head -/
def forgO (O : Nat → Lab) (vs : List (Nat × Ty)) : Nat → Lab := fun k => match O k with
  | .pl p [] => if keptOw vs p then .pl p [] else .fz
  | o => o

theorem forgO_other {O : Nat → Lab} {vs : List (Nat × Ty)} {k : Nat} {o : Lab} (h : O k = o) (ho : ∀ p, o ≠ .pl p []) : forgO O vs k = o := by
  unfold forgO
  rw [h]
  cases o <;> first | rfl | skip
  rename_i l p
  cases p <;> first | rfl | exact absurd rfl (ho _)

/-- A value out of one leaf. -/
theorem mkW_one {P : Program} {S : Sit} {lab : Lab} {t : Ty} {z : Lf} {x : t.den} {y : Lf} {u : Value} (hw : mkW t [z] = some x) (hy : leaves t x = [y]) (hz : LfOk P S lab z u) (ho : isOw t = true ∨ z.isOwn = false) : LfOk P S lab y u := by
  cases t with
  | pr p q =>
    have h1 := leaves_len (.pr p q) x
    rw [hy] at h1
    have := sz_pos p
    have := sz_pos q
    have h2 : 1 = p.sz + q.sz := h1
    omega
  | ow e r =>
    cases z <;> first | (simp [mkW, mkT] at hw; done) | skip
    rename_i e' r' xs
    have := mkW_own hw
    simp only [leaves, List.cons.injEq, and_true] at hy
    rw [← hy, this]
    exact hz
  | i k =>
    cases z <;> first | (simp [mkW, mkT] at hw; done) | skip
    rename_i v
    cases v <;> first | (simp [mkW, mkT] at hw; done) | skip
    rename_i k' n
    unfold mkW at hw
    simp only [mkT] at hw
    by_cases hk : k = k'
    · subst hk
      simp only [decide_true, cond_true, Option.some.injEq] at hw
      subst hw
      simp only [leaves, List.cons.injEq, and_true] at hy
      subst hy
      exact hz
    · simp [hk] at hw
  | b =>
    cases z <;> first | (simp [mkW, mkT] at hw; done) | skip
    rename_i v
    cases v <;> first | (simp [mkW, mkT] at hw; done) | skip
    unfold mkW at hw
    simp only [mkT, Option.some.injEq] at hw
    subst hw
    simp only [leaves, List.cons.injEq, and_true] at hy
    subst hy
    exact hz
  | s =>
    cases z <;> first | (simp [mkW, mkT] at hw; done) | skip
    rename_i v
    cases v <;> first | (simp [mkW, mkT] at hw; done) | skip
    unfold mkW at hw
    simp only [mkT, Option.some.injEq] at hw
    subst hw
    simp only [leaves, List.cons.injEq, and_true] at hy
    subst hy
    exact hz
  | sl e r =>
    simp only [leaves, List.cons.injEq, and_true] at hy
    subst hy
    cases z <;> first | (simp [mkW, mkT] at hw; done) | skip
    · rename_i e' r' xs
      unfold mkW at hw
      simp only [mkT] at hw
      cases hb : Nat.beq e e' with
      | false => rw [hb] at hw; simp at hw
      | true =>
        rw [hb, cond_true] at hw
        have he : e = e' := Nat.eq_of_beq_eq_true hb
        subst he
        cases hc : castL r r' xs with
        | none => rw [hc] at hw; simp at hw
        | some ys =>
          rw [hc] at hw
          obtain ⟨e1, e2⟩ := castL_eq hc
          subst e1 e2
          simp only [Option.some.injEq] at hw
          subst hw
          exact hz
    · simp [isOw, Lf.isOwn] at ho

theorem keptOw_mem {vs : List (Nat × Ty)} {l : Nat} {t : Ty} (hm : (l, t) ∈ vs) (ht : isOw t = true) : keptOw vs l = true := by
  unfold keptOw
  rw [List.any_eq_true]
  refine ⟨(l, t), hm, ?_⟩
  cases t <;> first | (simp [isOw] at ht; done) | simp

/-- An entry that is kept. -/
theorem absV_ok (K : Okay X S a) (hg : S.g = get A) {all : List (Nat × Ty)} {l : Nat} {t : Ty} {x : t.den} (hm : (l, t) ∈ all) (h : absV A all l t = some x) :
    ∀ y, leaves t x = [y] → LfOk X.P { S with O := forgO S.O all } (.pl l []) y (S.ph l) := by
  intro y hy
  have hfz : ∀ k, S.O k = .fz → forgO S.O all k = .fz := fun k hk => forgO_other hk (by simp)
  have L : Later S { S with O := forgO S.O all } := ⟨fun _ => Nat.le_refl _, fun _ _ => rfl, fun p v e r xs' h _ => ⟨xs', h, rfl⟩, fun _ _ => rfl, fun k hk => ⟨hfz k hk, rfl⟩⟩
  have hat := K.at_ l
  rw [hg] at hat
  -- an owned content that is read by all from now on
  have frz : ∀ (p : Nat) (e : TypeId) (r : Ty) (xs : List r.den), keptOw all p = false → OwnOk X.P S.O S.w (.pl p []) e r xs (S.ph p) → LfOk X.P { S with O := forgO S.O all } .fz (.fz e r xs) (S.ph p) := by
    intro p e r xs hk ho
    exact own_reads (O' := forgO S.O all) ho hfz (fun k hkk => by
      have := ho.2.choose_spec.2.2 k hkk
      unfold forgO
      rw [this]
      simp [hk])
  unfold absV at h
  split at h
  · rename_i p v hgl
    rw [hgl] at hat
    have hat' : LfOk X.P S (.pl l []) (.al p v) (S.ph l) := hat
    cases hk : keptOw all p with
    | true => rw [hk] at h; simp at h
    | false =>
      rw [hk, cond_false] at h
      have hz : LfOk X.P { S with O := forgO S.O all } .fz (calm (seen A (.al p v))) (S.ph l) := by
        simp only [seen]
        split
        · rename_i n e r xs hp
          cases hb : Nat.beq n v with
          | false => exact trivial
          | true =>
            have hnv : n = v := by simpa using hb
            subst hnv
            rw [cond_true, hat'.2 (by rw [hg, hp])]
            have h3 := K.at_ p
            rw [hg, hp] at h3
            exact frz p e r xs hk h3
        · rename_i n e r xs hp
          cases hb : Nat.beq n v with
          | false => exact trivial
          | true =>
            have hnv : n = v := by simpa using hb
            subst hnv
            rw [cond_true, hat'.2 (by rw [hg, hp])]
            have h3 := K.at_ p
            rw [hg, hp] at h3
            exact Ty.rep_mono (t := .sl e r) hfz (fun _ _ => rfl) _ _ h3
        · exact trivial
      have hno : (calm (seen A (.al p v))).isOwn = false := by cases seen A (.al p v) <;> rfl
      have := mkW_one h hy hz (.inr hno)
      have hyo : y.isOwn = false := by
        cases t <;> first | (simp [leaves] at hy; subst hy; rfl) | skip
        · cases hs : calm (seen A (.al p v)) with
          | own e r xs => rw [hs] at hno; simp [Lf.isOwn] at hno
          | _ => rw [hs] at h; simp [mkW, mkT] at h
        · rename_i p q
          have h1 := leaves_len (.pr p q) x
          rw [hy] at h1
          have := sz_pos p
          have := sz_pos q
          have h2 : 1 = p.sz + q.sz := h1
          omega
      exact this.relab hyo
  · rename_i e r xs hgl
    rw [hgl] at hat
    have hat' : OwnOk X.P S.O S.w (.pl l []) e r xs (S.ph l) := hat
    cases hot : isOw t with
    | true =>
      rw [hot, cond_true] at h
      have hkl := keptOw_mem hm hot
      have hz : LfOk X.P { S with O := forgO S.O all } (.pl l []) (.own e r xs) (S.ph l) := LfOk.later (x := .own e r xs) L hat (fun k hk => ⟨by show forgO S.O all k = _; unfold forgO; rw [hk]; simp [hkl], rfl⟩)
      exact mkW_one h hy hz (.inl hot)
    | false =>
      rw [hot, cond_false] at h
      cases hk : keptOw all l with
      | true => rw [hk] at h; simp at h
      | false =>
        rw [hk, cond_false] at h
        have := mkW_one h hy (LfOk.relab (lab' := .pl l []) rfl (frz l e r xs hk hat')) (.inr rfl)
        exact this
  · rename_i z _ hno hgl
    rw [hgl] at hat
    have hat' : LfOk X.P S (.pl l []) z (S.ph l) := hat
    have hzo : z.isOwn = false := by cases z <;> first | rfl | exact (hno _ _ _ rfl).elim
    have hz : LfOk X.P { S with O := forgO S.O all } (.pl l []) z (S.ph l) := (LfOk.relab (lab' := .fz) hzo hat').later (lab' := .fz) L (fun k hk => ⟨hfz k hk, rfl⟩) |>.relab hzo
    exact mkW_one h hy hz (.inr hzo)
  · cases h
end
end Go.Proofs.Ytehkignjdbkeiaa.Vf
