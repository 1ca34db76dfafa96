/- Numbers and texts as bytes, and back. -/
import Derived.Test.YtehkignjdbkeiaaYe
set_option linter.unusedVariables false
set_option linter.unusedSimpArgs false
namespace Go.Proofs.Ytehkignjdbkeiaa.Vf
open Go

def encF : Nat → Nat → List Int
  | 0, n => [(n : Int)]
  | f + 1, n => if n ≤ 127 then [(n : Int)] else ((n % 128 + 128 : Nat) : Int) :: encF f (n / 128)
/-- A number's bytes (up to 2^35). -/
def encN (n : Nat) : List Int := encF 4 n

def decF : Nat → Nat → Nat → List Int → Option (Nat × Nat)
  | 0, _, _, _ => none
  | _ + 1, _, _, [] => none
  | f + 1, k, acc, x :: l => if 128 ≤ x then decF f (k + 1) (acc + x.toNat % 128 * 128 ^ k) l
    else if (x = 0 ∧ 0 < k) ∨ 1000000000 < acc + x.toNat % 128 * 128 ^ k then none else some (acc + x.toNat % 128 * 128 ^ k, k + 1)

/-- A number read at a place, and the place behind it. -/
def getN (l : List Int) (p : Nat) : Option (Nat × Nat) := match decF 5 0 0 (l.drop p) with
  | some (n, c) => some (n, p + c)
  | none => none

theorem encF_le : ∀ (f n : Nat), (encF f n).length ≤ f + 1 ∧ 0 < (encF f n).length
  | 0, n => by simp [encF]
  | f + 1, n => by
    unfold encF
    split
    · simp
    · have := encF_le f (n / 128)
      simp only [List.length_cons]
      omega

theorem decF_bounds : ∀ (f k acc : Nat) (l : List Int) (n c : Nat), BytesOk l → decF f k acc l = some (n, c) → acc < 128 ^ k → k < c ∧ c ≤ k + f ∧ c - k ≤ l.length ∧ n ≤ 1000000000
  | 0, _, _, _, _, _, _, h, _ => by simp [decF] at h
  | _ + 1, _, _, [], _, _, _, h, _ => by simp [decF] at h
  | f + 1, k, acc, x :: l, n, c, hb, h, ha => by
    have hx := hb x (by simp)
    unfold decF at h
    split at h
    · have h1 : acc + x.toNat % 128 * 128 ^ k < 128 ^ (k + 1) := by
        have h2 : x.toNat % 128 ≤ 127 := by omega
        have h3 := Nat.mul_le_mul_right (128 ^ k) h2
        rw [Nat.pow_succ]
        omega
      have := decF_bounds f (k + 1) _ l n c (fun y hy => hb y (List.mem_cons_of_mem _ hy)) h h1
      simp only [List.length_cons]
      omega
    · split at h
      · cases h
      · simp only [Option.some.injEq, Prod.mk.injEq] at h
        obtain ⟨rfl, rfl⟩ := h
        simp only [List.length_cons]
        omega

/-- What is read has these bytes. -/
theorem dec_enc : ∀ (f k acc : Nat) (l : List Int) (n c : Nat), BytesOk l → decF (f + 1) k acc l = some (n, c) → acc < 128 ^ k → ∃ m, n = acc + m * 128 ^ k ∧ l = encF f m ++ l.drop (c - k) ∧ (m = 0 → c = k + 1 ∧ (0 < k → False)) ∧ m < 128 ^ (f + 1)
  | 0, k, acc, [], n, c, hb, h, ha => by simp [decF] at h
  | _ + 1, k, acc, [], n, c, hb, h, ha => by simp [decF] at h
  | 0, k, acc, x :: l, n, c, hb, h, ha => by
    have hx := hb x (by simp)
    unfold decF at h
    split at h
    · simp [decF] at h
    · rename_i h128
      split at h
      · cases h
      · rename_i hz
        simp only [Option.some.injEq, Prod.mk.injEq] at h
        obtain ⟨rfl, rfl⟩ := h
        have hm : x.toNat % 128 = x.toNat := Nat.mod_eq_of_lt (by omega)
        refine ⟨x.toNat, by rw [hm], ?_, fun h0 => ⟨rfl, fun hk => hz (.inl ⟨by omega, hk⟩)⟩, by omega⟩
        rw [show k + 1 - k = 1 by omega]
        show x :: l = [((x.toNat : Nat) : Int)] ++ l
        rw [show ((x.toNat : Nat) : Int) = x by omega]
        rfl
  | f + 1, k, acc, x :: l, n, c, hb, h, ha => by
    have hx := hb x (by simp)
    have hb' : BytesOk l := fun y hy => hb y (List.mem_cons_of_mem _ hy)
    unfold decF at h
    split at h
    · rename_i h128
      have h1 : acc + x.toNat % 128 * 128 ^ k < 128 ^ (k + 1) := by
        have h2 : x.toNat % 128 ≤ 127 := by omega
        have h3 := Nat.mul_le_mul_right (128 ^ k) h2
        rw [Nat.pow_succ]
        omega
      obtain ⟨m, e1, e2, e3, e4⟩ := dec_enc f (k + 1) _ l n c hb' h h1
      have hbd := decF_bounds (f + 1) (k + 1) _ l n c hb' h h1
      have hm0 : m ≠ 0 := fun h0 => (e3 h0).2 (by omega)
      refine ⟨x.toNat % 128 + m * 128, ?_, ?_, fun h0 => by omega, ?_⟩
      · rw [e1, Nat.pow_succ, Nat.add_mul]
        have : m * 128 * 128 ^ k = m * (128 ^ k * 128) := by rw [Nat.mul_assoc, Nat.mul_comm 128]
        omega
      · unfold encF
        rw [if_neg (by omega), show (x.toNat % 128 + m * 128) / 128 = m by omega, show (x.toNat % 128 + m * 128) % 128 = x.toNat % 128 by omega, show c - k = (c - (k + 1)) + 1 by omega, List.drop_succ_cons, List.cons_append, ← e2]
        congr 1
        omega
      · rw [Nat.pow_succ]
        omega
    · rename_i h128
      split at h
      · cases h
      · rename_i hz
        simp only [Option.some.injEq, Prod.mk.injEq] at h
        obtain ⟨rfl, rfl⟩ := h
        have hm : x.toNat % 128 = x.toNat := Nat.mod_eq_of_lt (by omega)
        have hp : 128 ≤ 128 ^ (f + 1 + 1) := by
          have := Nat.pow_le_pow_right (show 0 < 128 by decide) (show 1 ≤ f + 1 + 1 by omega)
          simpa using this
        refine ⟨x.toNat, by rw [hm], ?_, fun h0 => ⟨rfl, fun hk => hz (.inl ⟨by omega, hk⟩)⟩, by omega⟩
        rw [show k + 1 - k = 1 by omega]
        unfold encF
        rw [if_pos (by omega)]
        show x :: l = [((x.toNat : Nat) : Int)] ++ l
        rw [show ((x.toNat : Nat) : Int) = x by omega]
        rfl

/-- A number's bytes are read as it. -/
theorem enc_dec : ∀ (f k acc m : Nat) (rest : List Int), m < 128 ^ (f + 1) → (0 < k → 0 < m) → acc + m * 128 ^ k ≤ 1000000000 → decF (f + 1) k acc (encF f m ++ rest) = some (acc + m * 128 ^ k, k + (encF f m).length)
  | 0, k, acc, m, rest, hm, hk, hn => by
    show decF 1 k acc ((m : Int) :: rest) = _
    unfold decF
    have h1 : m < 128 := by simpa using hm
    rw [if_neg (by omega), if_neg (by
      rw [show (m : Int).toNat % 128 = m by rw [Int.toNat_natCast]; exact Nat.mod_eq_of_lt h1]
      omega)]
    rw [show (m : Int).toNat % 128 = m by rw [Int.toNat_natCast]; exact Nat.mod_eq_of_lt h1]
    rfl
  | f + 1, k, acc, m, rest, hm, hk, hn => by
    unfold encF
    by_cases h : m ≤ 127
    · rw [if_pos h]
      show decF (f + 2) k acc ((m : Int) :: rest) = _
      unfold decF
      rw [if_neg (by omega), if_neg (by
        rw [show (m : Int).toNat % 128 = m by rw [Int.toNat_natCast]; exact Nat.mod_eq_of_lt (by omega)]
        omega)]
      rw [show (m : Int).toNat % 128 = m by rw [Int.toNat_natCast]; exact Nat.mod_eq_of_lt (by omega)]
      rfl
    · rw [if_neg h]
      show decF (f + 2) k acc (((m % 128 + 128 : Nat) : Int) :: (encF f (m / 128) ++ rest)) = _
      unfold decF
      have e1 : (((m % 128 + 128 : Nat) : Int)).toNat % 128 = m % 128 := by rw [Int.toNat_natCast]; omega
      rw [if_pos (by omega), e1]
      have hmod : m = m % 128 + m / 128 * 128 := by omega
      have hm2 : m / 128 < 128 ^ (f + 1) := by rw [Nat.pow_succ] at hm; omega
      have e2 : acc + m % 128 * 128 ^ k + m / 128 * 128 ^ (k + 1) = acc + m * 128 ^ k := by
        have h2 : m * 128 ^ k = (m % 128 + m / 128 * 128) * 128 ^ k := by rw [← hmod]
        rw [h2, Nat.add_mul, Nat.pow_succ]
        have : m / 128 * 128 * 128 ^ k = m / 128 * (128 ^ k * 128) := by rw [Nat.mul_assoc, Nat.mul_comm 128]
        omega
      rw [enc_dec f (k + 1) (acc + m % 128 * 128 ^ k) (m / 128) rest hm2 (fun _ => by omega) (by rw [e2]; exact hn), e2, List.length_cons]
      simp only [Option.some.injEq, Prod.mk.injEq, true_and]
      omega

theorem getN_enc (pre : List Int) (n : Nat) (rest : List Int) (hn : n ≤ 1000000000) : getN (pre ++ (encN n ++ rest)) pre.length = some (n, pre.length + (encN n).length) := by
  unfold getN
  rw [List.drop_left]
  have := enc_dec 4 0 0 n rest (by omega) (by omega) (by omega)
  unfold encN
  rw [this]
  simp

theorem getN_ok {l : List Int} {p n q : Nat} (hb : BytesOk l) (h : getN l p = some (n, q)) : l.drop p = encN n ++ l.drop q ∧ n ≤ 1000000000 ∧ p < q ∧ q ≤ l.length := by
  unfold getN at h
  split at h
  · rename_i m c hd
    simp only [Option.some.injEq, Prod.mk.injEq] at h
    obtain ⟨rfl, rfl⟩ := h
    have hb' : BytesOk (l.drop p) := fun y hy => hb y (List.mem_of_mem_drop hy)
    have hbd := decF_bounds 5 0 0 _ _ _ hb' hd (by decide)
    obtain ⟨m', e1, e2, _, _⟩ := dec_enc 4 0 0 _ _ _ hb' hd (by decide)
    have e3 : m = m' := by rw [e1]; simp
    subst e3
    rw [List.length_drop] at hbd
    refine ⟨?_, hbd.2.2.2, by omega, by omega⟩
    rw [Nat.sub_zero, List.drop_drop] at e2
    exact e2
  · cases h

/-! ### The program's reading of numbers -/
theorem pow7 (i : Nat) (hi : i < 5) : (2 : Int) ^ (min (Int.toNat (IntKind.wrap .i64 (7 * (i : Int)))) (IntKind.bits .i64)) = ((128 ^ i : Nat) : Int) := by
  have : i = 0 ∨ i = 1 ∨ i = 2 ∨ i = 3 ∨ i = 4 := by omega
  rcases this with rfl | rfl | rfl | rfl | rfl <;> decide

theorem pow7u (i : Nat) (hi : i < 5) : (2 : Int) ^ (min (Int.toNat (IntKind.wrap .u64 (IntKind.wrap .i64 (7 * (i : Int))))) (IntKind.bits .i64)) = ((128 ^ i : Nat) : Int) := by
  have : i = 0 ∨ i = 1 ∨ i = 2 ∨ i = 3 ∨ i = 4 := by omega
  rcases this with rfl | rfl | rfl | rfl | rfl <;> decide

theorem sh7 (i : Nat) (hi : i < 5) : ¬ (IntKind.wrap .i64 (7 * (i : Int)) < 0) ∧ ¬ (IntKind.wrap .u64 (IntKind.wrap .i64 (7 * (i : Int))) < 0) := by
  have : i = 0 ∨ i = 1 ∨ i = 2 ∨ i = 3 ∨ i = 4 := by omega
  rcases this with rfl | rfl | rfl | rfl | rfl <;> decide

theorem pow128_le (i : Nat) (hi : i ≤ 5) : 128 ^ i ≤ 34359738368 := by
  have := Nat.pow_le_pow_right (show 0 < 128 by decide) hi
  simpa using this

theorem ofInt_nat (n : Nat) (h : n < 18446744073709551616) : (BitVec.ofInt (IntKind.bits .i64) (n : Int)).toNat = n := by
  rw [BitVec.toNat_ofInt]
  show ((n : Int) % ((2 ^ 64 : Nat) : Int)).toNat = n
  rw [Int.emod_eq_of_lt (by omega) (by omega)]
  exact Int.toNat_natCast n

theorem and127 (n : Nat) (h : n < 9223372036854775808) : IntKind.wrap .i64 ((BitVec.ofInt (IntKind.bits .i64) (n : Int) &&& BitVec.ofInt (IntKind.bits .i64) 127).toNat) = ((n % 128 : Nat) : Int) := by
  rw [BitVec.toNat_and, ofInt_nat n (by omega), show (BitVec.ofInt (IntKind.bits .i64) 127).toNat = 127 from by decide, show (127 : Nat) = 2 ^ 7 - 1 from rfl, Nat.and_two_pow_sub_one_eq_mod]
  exact w64 (by omega) (by omega)

theorem or_shift (a m i : Nat) (ha : a < 128 ^ i) (hm : m < 128) (hi : i < 5) : IntKind.wrap .i64 ((BitVec.ofInt (IntKind.bits .i64) (a : Int) ||| BitVec.ofInt (IntKind.bits .i64) ((m * 128 ^ i : Nat) : Int)).toNat) = ((a + m * 128 ^ i : Nat) : Int) := by
  have hp := pow128_le i (by omega)
  have hmul : m * 128 ^ i ≤ 127 * 34359738368 := Nat.mul_le_mul (by omega) hp
  rw [BitVec.toNat_or, ofInt_nat a (by omega), ofInt_nat _ (by omega), Nat.or_comm]
  have e : (128 : Nat) ^ i = 2 ^ (7 * i) := by rw [Nat.pow_mul]
  have h2 := Nat.two_pow_add_eq_or_of_lt (i := 7 * i) (b := a) (by rw [← e]; exact ha) m
  rw [← e, Nat.mul_comm] at h2
  rw [← h2, Nat.add_comm]
  exact w64 (by omega) (by omega)

/-- What the program has of a number that is read: the number, the place behind it; or neither. -/
def numR (l : List Int) (p : Int) : Int × Int × Bool := if p < 0 then (0, 0, false) else match getN l p.toNat with
  | some (n, q) => ((n : Int), (q : Int), true)
  | none => (0, 0, false)

def decR (p : Nat) : Option (Nat × Nat) → Int × Int × Bool
  | some (n, c) => ((n : Int), ((p + c : Nat) : Int), true)
  | none => (0, 0, false)

def numEnd (r : Sum (Int × Int × Bool) Unit) : Int × Int × Bool := Sum.elim (fun y => y) (fun _ => (0, 0, false)) r

theorem drop_getD {l : List Int} {p : Nat} (h : p < l.length) : l.drop p = l.getD p 0 :: l.drop (p + 1) := drop_cons h

theorem implNum_l3 (l : List Int) (hb : BytesOk l) (hl : l.length ≤ 1000000000000) (p : Nat) (hp : p ≤ 1000000000000) : ∀ (f i acc : Nat), f + i = 5 → acc < 128 ^ i →
    Tot (fun k => impl_GetNum_l3 k l (p : Int) (acc : Int) (i : Int)) (fun r => numEnd r = decR p (decF f i acc (l.drop (p + i)))) := by
  intro f
  induction f with
  | zero =>
    intro i acc hi ha
    refine Tot.succ ?_
    simp only [impl_GetNum_l3]
    exact Tot.ndec (by omega) (Tot.pure rfl)
  | succ f ih =>
    intro i acc hi ha
    have hi5 : i < 5 := by omega
    refine Tot.succ ?_
    simp only [impl_GetNum_l3]
    refine Tot.dec (by omega) (Tot.dec (by omega) ?_)
    rw [w64 (n := (l.length : Int) - (i : Int)) (by omega) (by omega), w64 (n := (p : Int) + (i : Int)) (by omega) (by omega), show Int.toNat ((p : Int) + (i : Int)) = p + i by omega]
    refine Tot.dite (fun h => ?_) (fun h => ?_)
    · have hlt : p + i < l.length := by omega
      refine Tot.dec (by omega) (Tot.dec (by omega) ?_)
      have hx := hb (l.getD (p + i) 0) (getD_mem' hlt)
      rw [drop_getD hlt, pow7 i hi5]
      have he : decF (f + 1) i acc (l.getD (p + i) 0 :: l.drop (p + i + 1)) = if 128 ≤ l.getD (p + i) 0 then decF f (i + 1) (acc + (l.getD (p + i) 0).toNat % 128 * 128 ^ i) (l.drop (p + i + 1)) else if (l.getD (p + i) 0 = 0 ∧ 0 < i) ∨ 1000000000 < acc + (l.getD (p + i) 0).toNat % 128 * 128 ^ i then none else some (acc + (l.getD (p + i) 0).toNat % 128 * 128 ^ i, i + 1) := rfl
      rw [he]
      generalize l.getD (p + i) 0 = x at hx ⊢
      obtain ⟨v, rfl⟩ : ∃ v : Nat, x = (v : Int) := ⟨x.toNat, by omega⟩
      rw [Int.toNat_natCast]
      have hp1 := pow128_le i (by omega)
      have hmul : v % 128 * 128 ^ i ≤ 127 * 34359738368 := Nat.mul_le_mul (by omega) hp1
      rw [w64 (n := (v : Int)) (by omega) (by omega)]
      have e1 : Int.tmod (v : Int) 128 * ((128 ^ i : Nat) : Int) = ((v % 128 * 128 ^ i : Nat) : Int) := by
        rw [Int.tmod_eq_emod_of_nonneg (by omega)]
        push_cast
        rfl
      rw [e1, w64 (n := ((v % 128 * 128 ^ i : Nat) : Int)) (by omega) (by omega), ← Int.natCast_add, w64 (n := ((acc + v % 128 * 128 ^ i : Nat) : Int)) (by omega) (by omega), w64 (n := (i : Int) + 1) (by omega) (by omega), w64 (n := (p : Int) + (i : Int) + 1) (by omega) (by omega)]
      refine Tot.ndec (sh7 i hi5).1 ?_
      refine Tot.dite (fun h128 => ?_) (fun h128 => ?_)
      · rw [if_pos (by omega)]
        have h1 : acc + v % 128 * 128 ^ i < 128 ^ (i + 1) := by
          have h2 : v % 128 ≤ 127 := by omega
          have h3 := Nat.mul_le_mul_right (128 ^ i) h2
          rw [Nat.pow_succ]
          omega
        have := ih (i + 1) (acc + v % 128 * 128 ^ i) (by omega) h1
        rw [show p + (i + 1) = p + i + 1 by omega] at this
        exact this
      · rw [if_neg (by omega)]
        have big : Tot (fun _ : Nat => cond (decide (((acc + v % 128 * 128 ^ i : Nat) : Int) > 1000000000)) (some (Sum.inl ((0 : Int), (0 : Int), false))) (some (Sum.inl (((acc + v % 128 * 128 ^ i : Nat) : Int), (p : Int) + (i : Int) + 1, true))) : Nat → Option (Sum (Int × Int × Bool) Unit))
            (fun r => numEnd r = if 1000000000 < acc + v % 128 * 128 ^ i then (0, 0, false) else (((acc + v % 128 * 128 ^ i : Nat) : Int), ((p + (i + 1) : Nat) : Int), true)) := by
          refine Tot.dite (fun hbig => ?_) (fun hbig => ?_)
          · rw [if_pos (by omega)]; exact Tot.pure rfl
          · rw [if_neg (by omega)]
            refine Tot.pure ?_
            show (_, _, _) = _
            rw [show (p : Int) + (i : Int) + 1 = ((p + (i + 1) : Nat) : Int) by omega]
        have goal : ∀ c : Prop, [Decidable c] → (if c ∨ 1000000000 < acc + v % 128 * 128 ^ i then none else some (acc + v % 128 * 128 ^ i, i + 1)) = if c then none else if 1000000000 < acc + v % 128 * 128 ^ i then (none : Option (Nat × Nat)) else some (acc + v % 128 * 128 ^ i, i + 1) := by
          intro c _
          by_cases h1 : c <;> by_cases h2 : 1000000000 < acc + v % 128 * 128 ^ i <;> simp [h1, h2]
        rw [goal]
        have fin : (decR p (if 1000000000 < acc + v % 128 * 128 ^ i then (none : Option (Nat × Nat)) else some (acc + v % 128 * 128 ^ i, i + 1))) = if 1000000000 < acc + v % 128 * 128 ^ i then (0, 0, false) else (((acc + v % 128 * 128 ^ i : Nat) : Int), ((p + (i + 1) : Nat) : Int), true) := by
          split <;> rfl
        refine Tot.ite (fun h0 => ?_) (fun h0 => ?_)
        · have hv : v = 0 := by
            have := beq_iff_eq.1 h0
            omega
          refine Tot.dite (fun hi0 => ?_) (fun hi0 => ?_)
          · rw [if_pos ⟨by omega, by omega⟩]; exact Tot.pure rfl
          · rw [if_neg (by omega), fin]; exact big
        · have hv : v ≠ 0 := by
            intro e
            subst e
            simp at h0
          rw [if_neg (by omega), fin]; exact big
    · refine Tot.pure ?_
      rw [List.drop_of_length_le (by omega)]
      rfl

theorem implNum (l : List Int) (hb : BytesOk l) (hl : l.length ≤ 1000000000000) (p : Int) (hp : p ≤ 1000000000000) : Tot (fun k => impl_GetNum k l p) (fun r => r = numR l p) := by
  unfold impl_GetNum numR
  by_cases h0 : p < 0
  · rw [if_pos h0]
    refine Tot.bind (Q := fun r => r = .inr ()) ?_ ?_
    · refine Tot.succ ?_
      simp only [impl_GetNum_l3]
      exact Tot.dec (by omega) (Tot.ndec (by omega) (Tot.pure rfl))
    · rintro r rfl
      exact Tot.pure rfl
  · rw [if_neg h0]
    obtain ⟨n, rfl⟩ : ∃ n : Nat, p = (n : Int) := ⟨p.toNat, by omega⟩
    rw [Int.toNat_natCast]
    refine Tot.bind (implNum_l3 l hb hl n (by omega) 5 0 0 rfl (by decide)) ?_
    intro r hr
    unfold getN
    rw [Nat.add_zero] at hr
    have hr' : numEnd r = (match (match decF 5 0 0 (l.drop n) with | some (m, c) => some (m, n + c) | none => none) with | some (m, q) => ((m : Int), (q : Int), true) | none => ((0 : Int), (0 : Int), false)) := by
      rw [hr]
      cases decF 5 0 0 (l.drop n) with
      | none => rfl
      | some mc => rfl
    rw [← hr']
    cases r with
    | inl y => exact Tot.pure rfl
    | inr z => exact Tot.pure rfl
end Go.Proofs.Ytehkignjdbkeiaa.Vf
