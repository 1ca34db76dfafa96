/- Loops by fuel. -/
import Derived.Test.YtehkignjdbkeiaaWb
set_option linter.unusedVariables false
set_option linter.unusedSimpArgs false
namespace Go.Proofs.Ytehkignjdbkeiaa.Vf
open Go
attribute [local irreducible] C H

section
variable {X : Cx} {E : En} {A : Ab}

theorem exB_eq {e e' : Ex} (h : exB e e' = true) : e = e' := by
  cases e <;> cases e' <;> first | rfl | (simp [exB] at h; done) | skip
  simp only [exB] at h
  rw [Nat.eq_of_beq_eq_true h]

theorem altOf_ok {e : Ex} {A : Ab} : ∀ (l : List (Ex × Live)) (y : AltD l), altOf e A l = some y → ∃ v, ∃ z : v.den, altK (fun e A => some (e, A)) l y = some (e, concL v z) ∧ absL v A = some z
  | [], y, _ => nomatch y
  | [b], y, h => by
    simp only [altOf] at h
    cases hb : exB e b.1 with
    | false => rw [hb] at h; simp at h
    | true =>
      rw [hb, cond_true] at h
      exact ⟨b.2, y, by rw [exB_eq hb]; rfl, h⟩
  | b :: b2 :: l, y, h => by
    simp only [altOf] at h
    cases hb : exB e b.1 with
    | true =>
      rw [hb, cond_true] at h
      split at h
      · rename_i x hx
        cases h
        exact ⟨b.2, x, by rw [exB_eq hb]; rfl, hx⟩
      · cases h
    | false =>
      rw [hb, cond_false] at h
      split at h
      · rename_i x hx
        cases h
        exact altOf_ok (b2 :: l) x hx
      · cases h

theorem loop_ok {ins : Live} {alts : List (Ex × Live)} {f : Nat → ins.den → Option (AltD alts)} {En' : Nat → En} {c : Code} (h0 : ∀ x, f 0 x = none) (hs : ∀ k x, evLoop (En' k) ⟨ins, alts, f k⟩ c x = f (k + 1) x)
    (hV : ∀ k, EnvOk X (En' k)) (hD : ∀ k, DrawOk X (En' k)) (hL : ∀ k, LoopsOk X (En' k) c) : ∀ k, LoopOk X ⟨ins, alts, f k⟩ c := by
  intro k x y hy S a K hg Q hQ
  let J : Nat → Act → World → Prop := fun n a w => ∃ x y S, f n x = some y ∧ Okay X S a ∧ S.g = get (concL ins x) ∧ S.w = w ∧
    (∀ e A S' a', altK (fun e A => some (e, A)) alts y = some (e, A) → Okay X S' a' → S'.g = get A → Q (toExit e) a' S'.w)
  refine wp_loop_ix J (n := k) ⟨x, y, S, hy, K, hg, rfl, hQ⟩ ?_
  rintro n a w ⟨x, y, S, hy, K, hg, rfl, hQ⟩
  cases n with
  | zero => rw [h0] at hy; cases hy
  | succ m =>
    rw [← hs] at hy
    unfold evLoop at hy
    refine evCode_ok (hV m) (hD m) c (hL m) K hg hy (fun e S' a' A' K' g' h' => ?_)
    have ends : ∀ {e : Ex}, altOf e A' alts = some y → Q (toExit e) a' S'.w := by
      intro e h
      obtain ⟨v, z, h1, h2⟩ := altOf_ok alts y h
      obtain ⟨S1, K1, g1, w1⟩ := forget K' g' h2
      rw [← w1]
      exact hQ e _ S1 a' h1 K1 g1
    cases e with
    | normal =>
      simp only at h'
      split at h'
      · rename_i x' hx'
        obtain ⟨S1, K1, g1, w1⟩ := forget K' g' hx'
        exact ⟨m, Nat.lt_succ_self m, x', y, S1, h', K1, g1, w1, hQ⟩
      · cases h'
    | exit i => exact ends h'
    | ret => exact ends h'
end
end Go.Proofs.Ytehkignjdbkeiaa.Vf
