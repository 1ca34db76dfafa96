/- What a function comes to, given enough rounds; numbers that fit. -/
import Derived.Test.YtehkignjdbkeiaaVs
import Derived.IntWalk
set_option linter.unusedVariables false
set_option linter.unusedSimpArgs false
namespace Go.Proofs.Ytehkignjdbkeiaa.Vf
open Go

/-- With enough rounds this comes to a value that Q tells of. -/
def Tot {α : Type} (f : Nat → Option α) (Q : α → Prop) : Prop := ∃ r K, (∀ k, K ≤ k → f k = some r) ∧ Q r

section
variable {α β : Type} {f g : Nat → Option α} {Q Q' : α → Prop}

theorem Tot.mono (h : Tot f Q) (hq : ∀ a, Q a → Q' a) : Tot f Q' := by
  obtain ⟨r, K, h1, h2⟩ := h
  exact ⟨r, K, h1, hq r h2⟩

theorem Tot.pure {a : α} (h : Q a) : Tot (fun _ => some a) Q := ⟨a, 0, fun _ _ => rfl, h⟩

theorem Tot.of {o : Option α} {a : α} (e : o = some a) (h : Q a) : Tot (fun _ => o) Q := ⟨a, 0, fun _ _ => e, h⟩

theorem Tot.bind {h : Nat → α → Option β} {R : β → Prop} (hf : Tot f Q) (hh : ∀ a, Q a → Tot (fun k => h k a) R) : Tot (fun k => (f k).bind (h k)) R := by
  obtain ⟨a, K, h1, h2⟩ := hf
  obtain ⟨b, L, h3, h4⟩ := hh a h2
  exact ⟨b, max K L, fun k hk => by show (f k).bind (h k) = _; rw [h1 k (by omega)]; exact h3 k (by omega), h4⟩

theorem Tot.yes {c : Bool} (hc : c = true) (h : Tot f Q) : Tot (fun k => cond c (f k) (g k)) Q := by subst hc; exact h
theorem Tot.no {c : Bool} (hc : c = false) (h : Tot g Q) : Tot (fun k => cond c (f k) (g k)) Q := by subst hc; exact h
theorem Tot.ite {c : Bool} (h1 : c = true → Tot f Q) (h2 : c = false → Tot g Q) : Tot (fun k => cond c (f k) (g k)) Q := by
  cases hc : c with
  | true => exact h1 hc
  | false => exact h2 hc
theorem Tot.dec {p : Prop} [Decidable p] (hp : p) (h : Tot f Q) : Tot (fun k => cond (decide p) (f k) (g k)) Q := Tot.yes (decide_eq_true hp) h
theorem Tot.ndec {p : Prop} [Decidable p] (hp : ¬ p) (h : Tot g Q) : Tot (fun k => cond (decide p) (f k) (g k)) Q := Tot.no (decide_eq_false hp) h
theorem Tot.dite {p : Prop} [Decidable p] (h1 : p → Tot f Q) (h2 : ¬ p → Tot g Q) : Tot (fun k => cond (decide p) (f k) (g k)) Q :=
  Tot.ite (fun h => h1 (of_decide_eq_true h)) (fun h => h2 (of_decide_eq_false h))
theorem Tot.ble {m n : Nat} (hp : m ≤ n) (h : Tot f Q) : Tot (fun k => cond (Nat.ble m n) (f k) (g k)) Q := Tot.yes (Nat.ble_eq_true_of_le hp) h

/-- One round more. -/
theorem Tot.succ (h : Tot (fun k => f (k + 1)) Q) : Tot f Q := by
  obtain ⟨r, K, h1, h2⟩ := h
  exact ⟨r, K + 1, fun k hk => by obtain ⟨m, rfl⟩ : ∃ m, k = m + 1 := ⟨k - 1, by omega⟩; exact h1 m (by omega), h2⟩

theorem Tot.and (h : Tot f Q) (h' : Tot f Q') : Tot f (fun a => Q a ∧ Q' a) := by
  obtain ⟨r, K, h1, h2⟩ := h
  obtain ⟨r', K', h1', h2'⟩ := h'
  have e : r = r' := by
    have a1 := h1 (max K K') (by omega)
    have a2 := h1' (max K K') (by omega)
    rw [a1] at a2
    exact Option.some.inj a2
  subst e
  exact ⟨r, K, h1, h2, h2'⟩

theorem Tot.law {f : Nat → Option Bool} (h : Tot f (fun b => b = true)) : ∃ k, f k = some true := by
  obtain ⟨r, K, h1, h2⟩ := h
  subst h2
  exact ⟨K, h1 K (Nat.le_refl _)⟩
end

/-! ### Numbers -/
theorem w64 {n : Int} (h1 : -9223372036854775808 ≤ n) (h2 : n ≤ 9223372036854775807) : IntKind.wrap .i64 n = n := Go.IntWalk.i64_in n ⟨h1, h2⟩

theorem w64_bounds (n : Int) : -9223372036854775808 ≤ IntKind.wrap .i64 n ∧ IntKind.wrap .i64 n ≤ 9223372036854775807 := by
  rw [IntKind.wrap_i64]
  omega

theorem w8_bounds (n : Int) : 0 ≤ IntKind.wrap .u8 n ∧ IntKind.wrap .u8 n ≤ 255 := by
  simp only [IntKind.wrap, IntKind.signed, IntKind.bits]
  simp
  omega

/-- 'and' with a mask that is not negative. -/
theorem and_mask (x m : Int) (h0 : 0 ≤ m) (h1 : m < 9223372036854775808) : 0 ≤ IntKind.wrap .i64 ((BitVec.ofInt (IntKind.bits .i64) x &&& BitVec.ofInt (IntKind.bits .i64) m).toNat) ∧ IntKind.wrap .i64 ((BitVec.ofInt (IntKind.bits .i64) x &&& BitVec.ofInt (IntKind.bits .i64) m).toNat) ≤ m := by
  have hm : (BitVec.ofInt (IntKind.bits .i64) m).toNat = m.toNat := by
    rw [BitVec.toNat_ofInt]
    show (m % ((2 ^ 64 : Nat) : Int)).toNat = m.toNat
    rw [Int.emod_eq_of_lt h0 (by omega)]
  have hle : (BitVec.ofInt (IntKind.bits .i64) x &&& BitVec.ofInt (IntKind.bits .i64) m).toNat ≤ m.toNat := by
    rw [BitVec.toNat_and, hm]
    exact Nat.and_le_right
  rw [w64 (by omega) (by omega)]
  omega

theorem tmod_lt {x n : Int} (hx : 0 ≤ x) (hn : 0 < n) : 0 ≤ Int.tmod x n ∧ Int.tmod x n < n := by
  rw [Int.tmod_eq_emod_of_nonneg hx]
  exact ⟨Int.emod_nonneg _ (by omega), Int.emod_lt_of_pos _ hn⟩
end Go.Proofs.Ytehkignjdbkeiaa.Vf
