import Derived.Test.YtehkignjdbkeiaaMap
section
set_option linter.unusedVariables false
set_option linter.unusedSimpArgs false
namespace Go.Proofs.Ytehkignjdbkeiaa.Vf
open Go
def encF : Nat → Nat → List Int
 | 0, n => [(n : Int)]
 | f + 1, n => if n ≤ 127 then [(n : Int)] else ((n % 128 + 128 : Nat) : Int) :: encF f (n / 128)
def encN (n : Nat) : List Int := encF 4 n
def decF : Nat → Nat → Nat → List Int → Option (Nat × Nat)
 | 0, _, _, _ => none
 | _ + 1, _, _, [] => none
 | f + 1, k, acc, x :: l => if 128 ≤ x then decF f (k + 1) (acc + x.toNat % 128 * 128 ^ k) l
  else if (x = 0 ∧ 0 < k) ∨ 1000000000 < acc + x.toNat % 128 * 128 ^ k then none else some (acc + x.toNat % 128 * 128 ^ k, k + 1)
def getN (l : List Int) (p : Nat) : Option (Nat × Nat) := match decF 5 0 0 (l.drop p) with
 | some (n, c) => some (n, p + c)
 | none => none
theorem encF_le : ∀ (f n : Nat), (encF f n).length ≤ f + 1 ∧ 0 < (encF f n).length
 | 0, n => by simp [encF]
 | f + 1, n => by
  unfold encF
  split
  ·simp
  ·have := encF_le f (n / 128)
   simp only [List.length_cons]
   omega
theorem decF_bounds : ∀ (f k acc : Nat) (l : List Int) (n c : Nat), BytesOk l → decF f k acc l = some (n, c) → acc < 128 ^ k → k < c ∧ c ≤ k + f ∧ c - k ≤ l.length ∧ n ≤ 1000000000
 | 0, _, _, _, _, _, _, h, _ => by simp [decF] at h
 | _ + 1, _, _, [], _, _, _, h, _ => by simp [decF] at h
 | f + 1, k, acc, x :: l, n, c, hb, h, ha => by
  have hx := hb x (by simp)
  unfold decF at h
  split at h
  ·have h1 : acc + x.toNat % 128 * 128 ^ k < 128 ^ (k + 1) := by
    have h2 : x.toNat % 128 ≤ 127 := by omega
    have h3 := Nat.mul_le_mul_right (128 ^ k) h2
    rw [Nat.pow_succ]
    omega
   have := decF_bounds f (k + 1) _ l n c (fun y hy => hb y (List.mem_cons_of_mem _ hy)) h h1
   simp only [List.length_cons]
   omega
  ·split at h
   ·cases h
   ·simp only [Option.some.injEq, Prod.mk.injEq] at h
    obtain ⟨rfl, rfl⟩ := h
    simp only [List.length_cons]
    omega
theorem dec_enc : ∀ (f k acc : Nat) (l : List Int) (n c : Nat), BytesOk l → decF (f + 1) k acc l = some (n, c) → acc < 128 ^ k → ∃ m, n = acc + m * 128 ^ k ∧ l = encF f m ++ l.drop (c - k) ∧ (m = 0 → c = k + 1 ∧ (0 < k → False)) ∧ m < 128 ^ (f + 1)
 | 0, k, acc, [], n, c, hb, h, ha => by simp [decF] at h
 | _ + 1, k, acc, [], n, c, hb, h, ha => by simp [decF] at h
 | 0, k, acc, x :: l, n, c, hb, h, ha => by
  have hx := hb x (by simp)
  unfold decF at h
  split at h
  ·simp [decF] at h
  ·rename_i h128
   split at h
   ·cases h
   ·rename_i hz
    simp only [Option.some.injEq, Prod.mk.injEq] at h
    obtain ⟨rfl, rfl⟩ := h
    have hm : x.toNat % 128 = x.toNat := Nat.mod_eq_of_lt (by omega)
    refine ⟨x.toNat, by rw [hm], ?_, fun h0 => ⟨rfl, fun hk => hz (.inl ⟨by omega, hk⟩)⟩, by omega⟩
    rw [show k + 1 - k = 1 by omega]
    show x :: l = [((x.toNat : Nat) : Int)] ++ l
    rw [show ((x.toNat : Nat) : Int) = x by omega]
    rfl
 | f + 1, k, acc, x :: l, n, c, hb, h, ha => by
  have hx := hb x (by simp)
  have hb' : BytesOk l := fun y hy => hb y (List.mem_cons_of_mem _ hy)
  unfold decF at h
  split at h
  ·rename_i h128
   have h1 : acc + x.toNat % 128 * 128 ^ k < 128 ^ (k + 1) := by
    have h2 : x.toNat % 128 ≤ 127 := by omega
    have h3 := Nat.mul_le_mul_right (128 ^ k) h2
    rw [Nat.pow_succ]
    omega
   obtain ⟨m, e1, e2, e3, e4⟩ := dec_enc f (k + 1) _ l n c hb' h h1
   have hbd := decF_bounds (f + 1) (k + 1) _ l n c hb' h h1
   have hm0 : m ≠ 0 := fun h0 => (e3 h0).2 (by omega)
   refine ⟨x.toNat % 128 + m * 128, ?_, ?_, fun h0 => by omega, ?_⟩
   ·rw [e1, Nat.pow_succ, Nat.add_mul]
    have : m * 128 * 128 ^ k = m * (128 ^ k * 128) := by rw [Nat.mul_assoc, Nat.mul_comm 128]
    omega
   ·unfold encF
    rw [if_neg (by omega), show (x.toNat % 128 + m * 128) / 128 = m by omega, show (x.toNat % 128 + m * 128) % 128 = x.toNat % 128 by omega, show c - k = (c - (k + 1)) + 1 by omega, List.drop_succ_cons, List.cons_append, ← e2]
    congr 1
    omega
   ·rw [Nat.pow_succ]
    omega
  ·rename_i h128
   split at h
   ·cases h
   ·rename_i hz
    simp only [Option.some.injEq, Prod.mk.injEq] at h
    obtain ⟨rfl, rfl⟩ := h
    have hm : x.toNat % 128 = x.toNat := Nat.mod_eq_of_lt (by omega)
    have hp : 128 ≤ 128 ^ (f + 1 + 1) := by
     have := Nat.pow_le_pow_right (show 0 < 128 by decide) (show 1 ≤ f + 1 + 1 by omega)
     simpa using this
    refine ⟨x.toNat, by rw [hm], ?_, fun h0 => ⟨rfl, fun hk => hz (.inl ⟨by omega, hk⟩)⟩, by omega⟩
    rw [show k + 1 - k = 1 by omega]
    unfold encF
    rw [if_pos (by omega)]
    show x :: l = [((x.toNat : Nat) : Int)] ++ l
    rw [show ((x.toNat : Nat) : Int) = x by omega]
    rfl
theorem enc_dec : ∀ (f k acc m : Nat) (rest : List Int), m < 128 ^ (f + 1) → (0 < k → 0 < m) → acc + m * 128 ^ k ≤ 1000000000 → decF (f + 1) k acc (encF f m ++ rest) = some (acc + m * 128 ^ k, k + (encF f m).length)
 | 0, k, acc, m, rest, hm, hk, hn => by
  show decF 1 k acc ((m : Int) :: rest) = _
  unfold decF
  have h1 : m < 128 := by simpa using hm
  rw [if_neg (by omega), if_neg (by
   rw [show (m : Int).toNat % 128 = m by rw [Int.toNat_natCast]; exact Nat.mod_eq_of_lt h1]
   omega)]
  rw [show (m : Int).toNat % 128 = m by rw [Int.toNat_natCast]; exact Nat.mod_eq_of_lt h1]
  rfl
 | f + 1, k, acc, m, rest, hm, hk, hn => by
  unfold encF
  by_cases h : m ≤ 127
  ·rw [if_pos h]
   show decF (f + 2) k acc ((m : Int) :: rest) = _
   unfold decF
   rw [if_neg (by omega), if_neg (by
    rw [show (m : Int).toNat % 128 = m by rw [Int.toNat_natCast]; exact Nat.mod_eq_of_lt (by omega)]
    omega)]
   rw [show (m : Int).toNat % 128 = m by rw [Int.toNat_natCast]; exact Nat.mod_eq_of_lt (by omega)]
   rfl
  ·rw [if_neg h]
   show decF (f + 2) k acc (((m % 128 + 128 : Nat) : Int) :: (encF f (m / 128) ++ rest)) = _
   unfold decF
   have e1 : (((m % 128 + 128 : Nat) : Int)).toNat % 128 = m % 128 := by rw [Int.toNat_natCast]; omega
   rw [if_pos (by omega), e1]
   have hmod : m = m % 128 + m / 128 * 128 := by omega
   have hm2 : m / 128 < 128 ^ (f + 1) := by rw [Nat.pow_succ] at hm; omega
   have e2 : acc + m % 128 * 128 ^ k + m / 128 * 128 ^ (k + 1) = acc + m * 128 ^ k := by
    have h2 : m * 128 ^ k = (m % 128 + m / 128 * 128) * 128 ^ k := by rw [← hmod]
    rw [h2, Nat.add_mul, Nat.pow_succ]
    have : m / 128 * 128 * 128 ^ k = m / 128 * (128 ^ k * 128) := by rw [Nat.mul_assoc, Nat.mul_comm 128]
    omega
   rw [enc_dec f (k + 1) (acc + m % 128 * 128 ^ k) (m / 128) rest hm2 (fun _ => by omega) (by rw [e2]; exact hn), e2, List.length_cons]
   simp only [Option.some.injEq, Prod.mk.injEq, true_and]
   omega
theorem getN_enc (pre : List Int) (n : Nat) (rest : List Int) (hn : n ≤ 1000000000) : getN (pre ++ (encN n ++ rest)) pre.length = some (n, pre.length + (encN n).length) := by
 unfold getN
 rw [List.drop_left]
 have := enc_dec 4 0 0 n rest (by omega) (by omega) (by omega)
 unfold encN
 rw [this]
 simp
theorem getN_ok {l : List Int} {p n q : Nat} (hb : BytesOk l) (h : getN l p = some (n, q)) : l.drop p = encN n ++ l.drop q ∧ n ≤ 1000000000 ∧ p < q ∧ q ≤ l.length := by
 unfold getN at h
 split at h
 ·rename_i m c hd
  simp only [Option.some.injEq, Prod.mk.injEq] at h
  obtain ⟨rfl, rfl⟩ := h
  have hb' : BytesOk (l.drop p) := fun y hy => hb y (List.mem_of_mem_drop hy)
  have hbd := decF_bounds 5 0 0 _ _ _ hb' hd (by decide)
  obtain ⟨m', e1, e2, _, _⟩ := dec_enc 4 0 0 _ _ _ hb' hd (by decide)
  have e3 : m = m' := by rw [e1]; simp
  subst e3
  rw [List.length_drop] at hbd
  refine ⟨?_, hbd.2.2.2, by omega, by omega⟩
  rw [Nat.sub_zero, List.drop_drop] at e2
  exact e2
 ·cases h
theorem pow7 (i : Nat) (hi : i < 5) : (2 : Int) ^ (min (Int.toNat (IntKind.wrap .i64 (7 * (i : Int)))) (IntKind.bits .i64)) = ((128 ^ i : Nat) : Int) := by
 have : i = 0 ∨ i = 1 ∨ i = 2 ∨ i = 3 ∨ i = 4 := by omega
 rcases this with rfl | rfl | rfl | rfl | rfl <;> decide
theorem pow7u (i : Nat) (hi : i < 5) : (2 : Int) ^ (min (Int.toNat (IntKind.wrap .u64 (IntKind.wrap .i64 (7 * (i : Int))))) (IntKind.bits .i64)) = ((128 ^ i : Nat) : Int) := by
 have : i = 0 ∨ i = 1 ∨ i = 2 ∨ i = 3 ∨ i = 4 := by omega
 rcases this with rfl | rfl | rfl | rfl | rfl <;> decide
theorem sh7 (i : Nat) (hi : i < 5) : ¬ (IntKind.wrap .i64 (7 * (i : Int)) < 0) ∧ ¬ (IntKind.wrap .u64 (IntKind.wrap .i64 (7 * (i : Int))) < 0) := by
 have : i = 0 ∨ i = 1 ∨ i = 2 ∨ i = 3 ∨ i = 4 := by omega
 rcases this with rfl | rfl | rfl | rfl | rfl <;> decide
theorem pow128_le (i : Nat) (hi : i ≤ 5) : 128 ^ i ≤ 34359738368 := by
 have := Nat.pow_le_pow_right (show 0 < 128 by decide) hi
 simpa using this
theorem ofInt_nat (n : Nat) (h : n < 18446744073709551616) : (BitVec.ofInt (IntKind.bits .i64) (n : Int)).toNat = n := by
 rw [BitVec.toNat_ofInt]
 show ((n : Int) % ((2 ^ 64 : Nat) : Int)).toNat = n
 rw [Int.emod_eq_of_lt (by omega) (by omega)]
 exact Int.toNat_natCast n
theorem and127 (n : Nat) (h : n < 9223372036854775808) : IntKind.wrap .i64 ((BitVec.ofInt (IntKind.bits .i64) (n : Int) &&& BitVec.ofInt (IntKind.bits .i64) 127).toNat) = ((n % 128 : Nat) : Int) := by
 rw [BitVec.toNat_and, ofInt_nat n (by omega), show (BitVec.ofInt (IntKind.bits .i64) 127).toNat = 127 from by decide, show (127 : Nat) = 2 ^ 7 - 1 from rfl, Nat.and_two_pow_sub_one_eq_mod]
 exact w64 (by omega) (by omega)
theorem or_shift (a m i : Nat) (ha : a < 128 ^ i) (hm : m < 128) (hi : i < 5) : IntKind.wrap .i64 ((BitVec.ofInt (IntKind.bits .i64) (a : Int) ||| BitVec.ofInt (IntKind.bits .i64) ((m * 128 ^ i : Nat) : Int)).toNat) = ((a + m * 128 ^ i : Nat) : Int) := by
 have hp := pow128_le i (by omega)
 have hmul : m * 128 ^ i ≤ 127 * 34359738368 := Nat.mul_le_mul (by omega) hp
 rw [BitVec.toNat_or, ofInt_nat a (by omega), ofInt_nat _ (by omega), Nat.or_comm]
 have e : (128 : Nat) ^ i = 2 ^ (7 * i) := by rw [Nat.pow_mul]
 have h2 := Nat.two_pow_add_eq_or_of_lt (i := 7 * i) (b := a) (by rw [← e]; exact ha) m
 rw [← e, Nat.mul_comm] at h2
 rw [← h2, Nat.add_comm]
 exact w64 (by omega) (by omega)
def numR (l : List Int) (p : Int) : Int × Int × Bool := if p < 0 then (0, 0, false) else match getN l p.toNat with
 | some (n, q) => ((n : Int), (q : Int), true)
 | none => (0, 0, false)
def decR (p : Nat) : Option (Nat × Nat) → Int × Int × Bool
 | some (n, c) => ((n : Int), ((p + c : Nat) : Int), true)
 | none => (0, 0, false)
def numEnd (r : Sum (Int × Int × Bool) Unit) : Int × Int × Bool := Sum.elim (fun y => y) (fun _ => (0, 0, false)) r
theorem drop_getD {l : List Int} {p : Nat} (h : p < l.length) : l.drop p = l.getD p 0 :: l.drop (p + 1) := drop_cons h
theorem implNum_l3 (l : List Int) (hb : BytesOk l) (hl : l.length ≤ 1000000000000) (p : Nat) (hp : p ≤ 1000000000000) : ∀ (f i acc : Nat), f + i = 5 → acc < 128 ^ i →
  Tot (fun k => impl_GetNum_l3 k l (p : Int) (acc : Int) (i : Int)) (fun r => numEnd r = decR p (decF f i acc (l.drop (p + i)))) := by
 intro f
 induction f with
 | zero =>
  intro i acc hi ha
  refine Tot.succ ?_
  simp only [impl_GetNum_l3]
  exact Tot.ndec (by omega) (Tot.pure rfl)
 | succ f ih =>
  intro i acc hi ha
  have hi5 : i < 5 := by omega
  refine Tot.succ ?_
  simp only [impl_GetNum_l3]
  refine Tot.dec (by omega) (Tot.dec (by omega) ?_)
  rw [w64 (n := (l.length : Int) - (i : Int)) (by omega) (by omega), w64 (n := (p : Int) + (i : Int)) (by omega) (by omega), show Int.toNat ((p : Int) + (i : Int)) = p + i by omega]
  refine Tot.dite (fun h => ?_) (fun h => ?_)
  ·have hlt : p + i < l.length := by omega
   refine Tot.dec (by omega) (Tot.dec (by omega) ?_)
   have hx := hb (l.getD (p + i) 0) (getD_mem' hlt)
   rw [drop_getD hlt, pow7 i hi5]
   have he : decF (f + 1) i acc (l.getD (p + i) 0 :: l.drop (p + i + 1)) = if 128 ≤ l.getD (p + i) 0 then decF f (i + 1) (acc + (l.getD (p + i) 0).toNat % 128 * 128 ^ i) (l.drop (p + i + 1)) else if (l.getD (p + i) 0 = 0 ∧ 0 < i) ∨ 1000000000 < acc + (l.getD (p + i) 0).toNat % 128 * 128 ^ i then none else some (acc + (l.getD (p + i) 0).toNat % 128 * 128 ^ i, i + 1) := rfl
   rw [he]
   generalize l.getD (p + i) 0 = x at hx ⊢
   obtain ⟨v, rfl⟩ : ∃ v : Nat, x = (v : Int) := ⟨x.toNat, by omega⟩
   rw [Int.toNat_natCast]
   have hp1 := pow128_le i (by omega)
   have hmul : v % 128 * 128 ^ i ≤ 127 * 34359738368 := Nat.mul_le_mul (by omega) hp1
   rw [w64 (n := (v : Int)) (by omega) (by omega)]
   have e1 : Int.tmod (v : Int) 128 * ((128 ^ i : Nat) : Int) = ((v % 128 * 128 ^ i : Nat) : Int) := by
    rw [Int.tmod_eq_emod_of_nonneg (by omega)]
    push_cast
    rfl
   rw [e1, w64 (n := ((v % 128 * 128 ^ i : Nat) : Int)) (by omega) (by omega), ← Int.natCast_add, w64 (n := ((acc + v % 128 * 128 ^ i : Nat) : Int)) (by omega) (by omega), w64 (n := (i : Int) + 1) (by omega) (by omega), w64 (n := (p : Int) + (i : Int) + 1) (by omega) (by omega)]
   refine Tot.ndec (sh7 i hi5).1 ?_
   refine Tot.dite (fun h128 => ?_) (fun h128 => ?_)
   ·rw [if_pos (by omega)]
    have h1 : acc + v % 128 * 128 ^ i < 128 ^ (i + 1) := by
     have h2 : v % 128 ≤ 127 := by omega
     have h3 := Nat.mul_le_mul_right (128 ^ i) h2
     rw [Nat.pow_succ]
     omega
    have := ih (i + 1) (acc + v % 128 * 128 ^ i) (by omega) h1
    rw [show p + (i + 1) = p + i + 1 by omega] at this
    exact this
   ·rw [if_neg (by omega)]
    have big : Tot (fun _ : Nat => cond (decide (((acc + v % 128 * 128 ^ i : Nat) : Int) > 1000000000)) (some (Sum.inl ((0 : Int), (0 : Int), false))) (some (Sum.inl (((acc + v % 128 * 128 ^ i : Nat) : Int), (p : Int) + (i : Int) + 1, true))) : Nat → Option (Sum (Int × Int × Bool) Unit))
      (fun r => numEnd r = if 1000000000 < acc + v % 128 * 128 ^ i then (0, 0, false) else (((acc + v % 128 * 128 ^ i : Nat) : Int), ((p + (i + 1) : Nat) : Int), true)) := by
     refine Tot.dite (fun hbig => ?_) (fun hbig => ?_)
     ·rw [if_pos (by omega)]; exact Tot.pure rfl
     ·rw [if_neg (by omega)]
      refine Tot.pure ?_
      show (_, _, _) = _
      rw [show (p : Int) + (i : Int) + 1 = ((p + (i + 1) : Nat) : Int) by omega]
    have goal : ∀ c : Prop, [Decidable c] → (if c ∨ 1000000000 < acc + v % 128 * 128 ^ i then none else some (acc + v % 128 * 128 ^ i, i + 1)) = if c then none else if 1000000000 < acc + v % 128 * 128 ^ i then (none : Option (Nat × Nat)) else some (acc + v % 128 * 128 ^ i, i + 1) := by
     intro c _
     by_cases h1 : c <;> by_cases h2 : 1000000000 < acc + v % 128 * 128 ^ i <;> simp [h1, h2]
    rw [goal]
    have fin : (decR p (if 1000000000 < acc + v % 128 * 128 ^ i then (none : Option (Nat × Nat)) else some (acc + v % 128 * 128 ^ i, i + 1))) = if 1000000000 < acc + v % 128 * 128 ^ i then (0, 0, false) else (((acc + v % 128 * 128 ^ i : Nat) : Int), ((p + (i + 1) : Nat) : Int), true) := by
     split <;> rfl
    refine Tot.ite (fun h0 => ?_) (fun h0 => ?_)
    ·have hv : v = 0 := by
      have := beq_iff_eq.1 h0
      omega
     refine Tot.dite (fun hi0 => ?_) (fun hi0 => ?_)
     ·rw [if_pos ⟨by omega, by omega⟩]; exact Tot.pure rfl
     ·rw [if_neg (by omega), fin]; exact big
    ·have hv : v ≠ 0 := by
      intro e
      subst e
      simp at h0
     rw [if_neg (by omega), fin]; exact big
  ·refine Tot.pure ?_
   rw [List.drop_of_length_le (by omega)]
   rfl
theorem implNum (l : List Int) (hb : BytesOk l) (hl : l.length ≤ 1000000000000) (p : Int) (hp : p ≤ 1000000000000) : Tot (fun k => impl_GetNum k l p) (fun r => r = numR l p) := by
 unfold impl_GetNum numR
 by_cases h0 : p < 0
 ·rw [if_pos h0]
  refine Tot.bind (Q := fun r => r = .inr ()) ?_ ?_
  ·refine Tot.succ ?_
   simp only [impl_GetNum_l3]
   exact Tot.dec (by omega) (Tot.ndec (by omega) (Tot.pure rfl))
  ·rintro r rfl
   exact Tot.pure rfl
 ·rw [if_neg h0]
  obtain ⟨n, rfl⟩ : ∃ n : Nat, p = (n : Int) := ⟨p.toNat, by omega⟩
  rw [Int.toNat_natCast]
  refine Tot.bind (implNum_l3 l hb hl n (by omega) 5 0 0 rfl (by decide)) ?_
  intro r hr
  unfold getN
  rw [Nat.add_zero] at hr
  have hr' : numEnd r = (match (match decF 5 0 0 (l.drop n) with | some (m, c) => some (m, n + c) | none => none) with | some (m, q) => ((m : Int), (q : Int), true) | none => ((0 : Int), (0 : Int), false)) := by
   rw [hr]
   cases decF 5 0 0 (l.drop n) with
   | none => rfl
   | some mc => rfl
  rw [← hr']
  cases r with
  | inl y => exact Tot.pure rfl
  | inr z => exact Tot.pure rfl
end Go.Proofs.Ytehkignjdbkeiaa.Vf
end
section
set_option linter.unusedVariables false
set_option linter.unusedSimpArgs false
namespace Go.Proofs.Ytehkignjdbkeiaa.Vf
open Go
theorem specNum_l3 (l : List Int) (hb : BytesOk l) (hl : l.length ≤ 1000000000000) (p : Nat) (hp : p < l.length) : ∀ (f i acc : Nat), f + i = 5 → acc < 128 ^ i →
  Tot (fun k => spec_GetNum_l3 k l (p : Int) (acc : Int) (i : Int)) (fun r => numEnd r = decR p (decF f i acc (l.drop (p + i)))) := by
 intro f
 induction f with
 | zero =>
  intro i acc hi ha
  refine Tot.succ ?_
  simp only [spec_GetNum_l3]
  exact Tot.ndec (by omega) (Tot.pure rfl)
 | succ f ih =>
  intro i acc hi ha
  have hi5 : i < 5 := by omega
  refine Tot.succ ?_
  simp only [spec_GetNum_l3]
  refine Tot.dec (by omega) (Tot.dec (by omega) (Tot.dec (by omega) ?_))
  rw [w64 (n := (p : Int) + (i : Int)) (by omega) (by omega), show Int.toNat ((p : Int) + (i : Int)) = p + i by omega]
  refine Tot.dite (fun h => ?_) (fun h => ?_)
  ·have hlt : p + i < l.length := by omega
   refine Tot.dec (by omega) (Tot.dec (by omega) ?_)
   have hx := hb (l.getD (p + i) 0) (getD_mem' hlt)
   rw [drop_getD hlt, pow7u i hi5]
   have he : decF (f + 1) i acc (l.getD (p + i) 0 :: l.drop (p + i + 1)) = if 128 ≤ l.getD (p + i) 0 then decF f (i + 1) (acc + (l.getD (p + i) 0).toNat % 128 * 128 ^ i) (l.drop (p + i + 1)) else if (l.getD (p + i) 0 = 0 ∧ 0 < i) ∨ 1000000000 < acc + (l.getD (p + i) 0).toNat % 128 * 128 ^ i then none else some (acc + (l.getD (p + i) 0).toNat % 128 * 128 ^ i, i + 1) := rfl
   rw [he]
   generalize l.getD (p + i) 0 = x at hx ⊢
   obtain ⟨v, rfl⟩ : ∃ v : Nat, x = (v : Int) := ⟨x.toNat, by omega⟩
   rw [Int.toNat_natCast]
   have hp1 := pow128_le i (by omega)
   have hmul : v % 128 * 128 ^ i ≤ 127 * 34359738368 := Nat.mul_le_mul (by omega) hp1
   rw [w64 (n := (v : Int)) (by omega) (by omega), and127 v (by omega)]
   have e1 : ((v % 128 : Nat) : Int) * ((128 ^ i : Nat) : Int) = ((v % 128 * 128 ^ i : Nat) : Int) := by push_cast; rfl
   rw [e1, w64 (n := ((v % 128 * 128 ^ i : Nat) : Int)) (by omega) (by omega), or_shift acc (v % 128) i ha (by omega) hi5, w64 (n := (i : Int) + 1) (by omega) (by omega), w64 (n := (p : Int) + (i : Int) + 1) (by omega) (by omega)]
   refine Tot.ndec (sh7 i hi5).2 ?_
   refine Tot.dite (fun h128 => ?_) (fun h128 => ?_)
   ·rw [if_pos (by omega)]
    have h1 : acc + v % 128 * 128 ^ i < 128 ^ (i + 1) := by
     have h2 : v % 128 ≤ 127 := by omega
     have h3 := Nat.mul_le_mul_right (128 ^ i) h2
     rw [Nat.pow_succ]
     omega
    have := ih (i + 1) (acc + v % 128 * 128 ^ i) (by omega) h1
    rw [show p + (i + 1) = p + i + 1 by omega] at this
    exact this
   ·rw [if_neg (by omega)]
    have big : Tot (fun _ : Nat => cond (decide (((acc + v % 128 * 128 ^ i : Nat) : Int) > 1000000000)) (some (Sum.inl ((0 : Int), (0 : Int), false))) (some (Sum.inl (((acc + v % 128 * 128 ^ i : Nat) : Int), (p : Int) + (i : Int) + 1, true))) : Nat → Option (Sum (Int × Int × Bool) Unit))
      (fun r => numEnd r = if 1000000000 < acc + v % 128 * 128 ^ i then (0, 0, false) else (((acc + v % 128 * 128 ^ i : Nat) : Int), ((p + (i + 1) : Nat) : Int), true)) := by
     refine Tot.dite (fun hbig => ?_) (fun hbig => ?_)
     ·rw [if_pos (by omega)]; exact Tot.pure rfl
     ·rw [if_neg (by omega)]
      refine Tot.pure ?_
      show (_, _, _) = _
      rw [show (p : Int) + (i : Int) + 1 = ((p + (i + 1) : Nat) : Int) by omega]
    have goal : ∀ c : Prop, [Decidable c] → (if c ∨ 1000000000 < acc + v % 128 * 128 ^ i then none else some (acc + v % 128 * 128 ^ i, i + 1)) = if c then none else if 1000000000 < acc + v % 128 * 128 ^ i then (none : Option (Nat × Nat)) else some (acc + v % 128 * 128 ^ i, i + 1) := by
     intro c _
     by_cases h1 : c <;> by_cases h2 : 1000000000 < acc + v % 128 * 128 ^ i <;> simp [h1, h2]
    rw [goal]
    have fin : (decR p (if 1000000000 < acc + v % 128 * 128 ^ i then (none : Option (Nat × Nat)) else some (acc + v % 128 * 128 ^ i, i + 1))) = if 1000000000 < acc + v % 128 * 128 ^ i then (0, 0, false) else (((acc + v % 128 * 128 ^ i : Nat) : Int), ((p + (i + 1) : Nat) : Int), true) := by
     split <;> rfl
    refine Tot.dite (fun hi0 => ?_) (fun hi0 => ?_)
    ·refine Tot.ite (fun h0 => ?_) (fun h0 => ?_)
     ·have hv : v = 0 := by
       have := beq_iff_eq.1 h0
       omega
      rw [if_pos ⟨by omega, by omega⟩]; exact Tot.pure rfl
     ·have hv : v ≠ 0 := by
       intro e
       subst e
       simp at h0
      rw [if_neg (by omega), fin]; exact big
    ·rw [if_neg (by omega), fin]; exact big
  ·refine Tot.pure ?_
   rw [List.drop_of_length_le (by omega)]
   rfl
theorem specNum (l : List Int) (hb : BytesOk l) (hl : l.length ≤ 1000000000000) (p : Int) : Tot (fun k => spec_GetNum k l p) (fun r => r = numR l p) := by
 unfold spec_GetNum numR
 by_cases h0 : p < 0
 ·rw [if_pos h0]
  refine Tot.bind (Q := fun r => r = .inr ()) ?_ ?_
  ·refine Tot.succ ?_
   simp only [spec_GetNum_l3]
   exact Tot.dec (by omega) (Tot.ndec (by omega) (Tot.pure rfl))
  ·rintro r rfl
   exact Tot.pure rfl
 ·rw [if_neg h0]
  by_cases h1 : p < (l.length : Int)
  ·obtain ⟨n, rfl⟩ : ∃ n : Nat, p = (n : Int) := ⟨p.toNat, by omega⟩
   rw [Int.toNat_natCast]
   refine Tot.bind (specNum_l3 l hb hl n (by omega) 5 0 0 rfl (by decide)) ?_
   intro r hr
   unfold getN
   rw [Nat.add_zero] at hr
   have hr' : numEnd r = (match (match decF 5 0 0 (l.drop n) with | some (m, c) => some (m, n + c) | none => none) with | some (m, q) => ((m : Int), (q : Int), true) | none => ((0 : Int), (0 : Int), false)) := by
    rw [hr]
    cases decF 5 0 0 (l.drop n) with
    | none => rfl
    | some mc => rfl
   refine Tot.mono (Q := fun y => y = numEnd r) ?_ (fun y hy => hy.trans hr')
   cases r with
   | inl y => exact Tot.pure rfl
   | inr z => exact Tot.pure rfl
  ·have e : getN l p.toNat = none := by
    unfold getN
    rw [List.drop_of_length_le (by omega)]
    rfl
   rw [e]
   refine Tot.bind (Q := fun r => r = .inr ()) ?_ ?_
   ·refine Tot.succ ?_
    simp only [spec_GetNum_l3]
    exact Tot.dec (by omega) (Tot.dec (by omega) (Tot.ndec h1 (Tot.pure rfl)))
   ·rintro r rfl
    exact Tot.pure rfl
def clampN (n : Int) : Nat := (max 0 (min n 1000000000)).toNat
theorem clampN_le (n : Int) : clampN n ≤ 1000000000 := by unfold clampN; omega
theorem clampN_in {n : Int} (h0 : 0 ≤ n) (h1 : n ≤ 1000000000) : (clampN n : Int) = n := by unfold clampN; omega
theorem u8_low (n : Nat) (h : n ≤ 255) : IntKind.wrap .u8 (n : Int) = (n : Int) := by
 rw [IntKind.wrap_u8]
 omega
theorem implAdd_l2 : ∀ (f n : Nat) (out : List Int), n < 128 ^ (f + 1) → f ≤ 4 → out.length + f ≤ 1000000000010 →
  Tot (fun k => impl_addNum_l2 k out (n : Int)) (fun r => ∃ m : Nat, r.2 = (m : Int) ∧ m ≤ 127 ∧ r.1 ++ [(m : Int)] = out ++ encF f n ∧ r.1.length ≤ out.length + f) := by
 intro f
 induction f with
 | zero =>
  intro n out hn hf hl
  refine Tot.succ ?_
  simp only [impl_addNum_l2]
  have : n < 128 := by simpa using hn
  exact Tot.ndec (by omega) (Tot.pure ⟨n, rfl, by omega, rfl, by simp⟩)
 | succ f ih =>
  intro n out hn hf hl
  have hp := pow128_le (f + 1 + 1 - 1) (by omega)
  refine Tot.succ ?_
  simp only [impl_addNum_l2]
  refine Tot.dite (fun h => ?_) (fun h => ?_)
  ·have hn2 : n / 128 < 128 ^ (f + 1) := by rw [Nat.pow_succ] at hn; omega
   have hn3 : n < 4398046511104 := by
    have := pow128_le (f + 1) (by omega)
    rw [Nat.pow_succ] at hn
    omega
   have e1 : Int.tmod (n : Int) 128 + 128 = ((n % 128 + 128 : Nat) : Int) := by
    rw [Int.tmod_eq_emod_of_nonneg (by omega)]
    omega
   have e2 : Int.tdiv (n : Int) 128 = ((n / 128 : Nat) : Int) := by
    rw [Int.tdiv_eq_ediv_of_nonneg (by omega)]
    omega
   rw [e1, e2, w64 (n := ((n % 128 + 128 : Nat) : Int)) (by omega) (by omega), w64 (n := ((n / 128 : Nat) : Int)) (by omega) (by omega), u8_low _ (by omega)]
   refine Tot.ble (by simp only [List.length_cons, List.length_nil]; omega) ?_
   refine (ih (n / 128) (out ++ [((n % 128 + 128 : Nat) : Int)]) hn2 (by omega) (by simp only [List.length_append, List.length_cons, List.length_nil]; omega)).mono ?_
   rintro r ⟨m, h1, h2, h3, h4⟩
   refine ⟨m, h1, h2, ?_, by simp only [List.length_append, List.length_cons, List.length_nil] at h4; omega⟩
   rw [h3, List.append_assoc]
   congr 1
   conv => { rhs; unfold encF }
   rw [if_neg (by omega)]
   rfl
  ·refine Tot.pure ⟨n, rfl, by omega, ?_, by show out.length ≤ out.length + (f + 1); omega⟩
   unfold encF
   rw [if_pos (by omega)]
theorem implAdd (out : List Int) (n : Int) (hl : out.length ≤ 1000000000000) : Tot (fun k => impl_addNum k out n) (fun r => r = out ++ encN (clampN n)) := by
 unfold impl_addNum
 have e : (if (0 : Int) < (if (1000000000 : Int) < n then 1000000000 else n) then (if (1000000000 : Int) < n then 1000000000 else n) else 0) = ((clampN n : Nat) : Int) := by
  unfold clampN
  split <;> split <;> omega
 simp only
 rw [e]
 have hc := clampN_le n
 refine Tot.bind (implAdd_l2 4 (clampN n) out (by omega) (by omega) (by omega)) ?_
 rintro r ⟨m, h1, h2, h3, h4⟩
 rw [h1, u8_low m (by omega)]
 refine Tot.ble (by simp only [List.length_cons, List.length_nil]; omega) (Tot.pure h3)
theorem specAdd_l6 : ∀ (f n : Nat) (out : List Int), n < 128 ^ (f + 1) → f ≤ 4 → out.length + f ≤ 1000000000010 →
  Tot (fun k => spec_PutNum_l6 k (n : Int) out) (fun r => ∃ m : Nat, r.1 = (m : Int) ∧ m ≤ 127 ∧ r.2 ++ [(m : Int)] = out ++ encF f n ∧ r.2.length ≤ out.length + f) := by
 intro f
 induction f with
 | zero =>
  intro n out hn hf hl
  refine Tot.succ ?_
  simp only [spec_PutNum_l6]
  have : n < 128 := by simpa using hn
  exact Tot.ndec (by omega) (Tot.pure ⟨n, rfl, by omega, rfl, by simp⟩)
 | succ f ih =>
  intro n out hn hf hl
  refine Tot.succ ?_
  simp only [spec_PutNum_l6]
  refine Tot.dite (fun h => ?_) (fun h => ?_)
  ·have hn2 : n / 128 < 128 ^ (f + 1) := by rw [Nat.pow_succ] at hn; omega
   have hn3 : n < 4398046511104 := by
    have := pow128_le (f + 1) (by omega)
    rw [Nat.pow_succ] at hn
    omega
   have e1 : IntKind.wrap .i64 ((BitVec.ofInt (IntKind.bits .i64) ((n % 128 : Nat) : Int) ||| BitVec.ofInt (IntKind.bits .i64) 128).toNat) = ((n % 128 + 128 : Nat) : Int) := by
    have := or_shift (n % 128) 1 1 (by omega) (by omega) (by omega)
    exact this
   have e2 : Int.fdiv (n : Int) (2 ^ (min (Int.toNat 7) (IntKind.bits .i64))) = ((n / 128 : Nat) : Int) := by
    have : (2 : Int) ^ (min (Int.toNat 7) (IntKind.bits .i64)) = 128 := by decide
    rw [this, Int.fdiv_eq_ediv_of_nonneg _ (by omega)]
    omega
   rw [and127 n (by omega), e1, e2, u8_low _ (by omega)]
   refine Tot.ble (by simp only [List.length_cons, List.length_nil]; omega) ?_
   refine (ih (n / 128) (out ++ [((n % 128 + 128 : Nat) : Int)]) hn2 (by omega) (by simp only [List.length_append, List.length_cons, List.length_nil]; omega)).mono ?_
   rintro r ⟨m, h1, h2, h3, h4⟩
   refine ⟨m, h1, h2, ?_, by simp only [List.length_append, List.length_cons, List.length_nil] at h4; omega⟩
   rw [h3, List.append_assoc]
   congr 1
   conv => { rhs; unfold encF }
   rw [if_neg (by omega)]
   rfl
  ·refine Tot.pure ⟨n, rfl, by omega, ?_, by show out.length ≤ out.length + (f + 1); omega⟩
   unfold encF
   rw [if_pos (by omega)]
theorem specAdd (out : List Int) (n : Int) (hl : out.length ≤ 1000000000000) : Tot (fun k => spec_PutNum k out n) (fun r => r = out ++ encN (clampN n)) := by
 have hc := clampN_le n
 have fin : Tot (fun k => (spec_PutNum_l6 k ((clampN n : Nat) : Int) (([] : List Int) ++ out)).bind fun r1 => cond (Nat.ble ((List.length r1.2 + List.length [IntKind.wrap .u8 r1.1]) * 1) 140737488355328) (some (r1.2 ++ [IntKind.wrap .u8 r1.1])) none) (fun r => r = out ++ encN (clampN n)) := by
  rw [List.nil_append]
  refine Tot.bind (specAdd_l6 4 (clampN n) out (by omega) (by omega) (by omega)) ?_
  rintro r ⟨m, h1, h2, h3, h4⟩
  rw [h1, u8_low m (by omega)]
  exact Tot.ble (by simp only [List.length_cons, List.length_nil]; omega) (Tot.pure h3)
 unfold spec_PutNum
 refine Tot.ble (by simp only [List.length_nil]; omega) ?_
 refine Tot.dite (fun h1 => ?_) (fun h1 => ?_)
 ·refine Tot.ndec (by omega) ?_
  have e : ((clampN n : Nat) : Int) = 1000000000 := by unfold clampN; omega
  rw [e] at fin
  exact fin
 ·refine Tot.dite (fun h2 => ?_) (fun h2 => ?_)
  ·have e : ((clampN n : Nat) : Int) = 0 := by unfold clampN; omega
   rw [e] at fin
   exact fin
  ·have e : ((clampN n : Nat) : Int) = n := by unfold clampN; omega
   rw [e] at fin
   exact fin
theorem encN_len (n : Nat) : (encN n).length ≤ 5 ∧ 0 < (encN n).length := encF_le 4 n
theorem encF_bytes : ∀ (f n : Nat), n < 128 ^ (f + 1) → BytesOk (encF f n)
 | 0, n, hn => by
  intro x hx
  simp only [encF, List.mem_singleton] at hx
  have : n < 128 := by simpa using hn
  omega
 | f + 1, n, hn => by
  unfold encF
  split
  ·intro x hx
   simp only [List.mem_singleton] at hx
   omega
  ·intro x hx
   rcases List.mem_cons.1 hx with rfl | hx
   ·omega
   ·exact encF_bytes f (n / 128) (by rw [Nat.pow_succ] at hn; omega) x hx
theorem encN_bytes (n : Nat) (hn : n ≤ 1000000000) : BytesOk (encN n) := encF_bytes 4 n (by omega)
theorem bytesOf_ok (s : ByteArray) : BytesOk (bytesOf s) := by
 intro x hx
 unfold bytesOf at hx
 obtain ⟨b, _, rfl⟩ := List.mem_map.1 hx
 have := b.toNat_lt
 omega
theorem bytesOf_len (s : ByteArray) : (bytesOf s).length = s.size := by
 unfold bytesOf
 rw [List.length_map]
 exact Array.length_toList
theorem strOf_bytesOf (s : ByteArray) : strOf (bytesOf s) = s := by
 unfold strOf bytesOf
 rw [List.map_map]
 have : (fun n : Int => UInt8.ofNat n.toNat) ∘ (fun b : UInt8 => (b.toNat : Int)) = id := by
  funext b
  show UInt8.ofNat ((b.toNat : Int)).toNat = b
  rw [Int.toNat_natCast]
  exact UInt8.ofNat_toNat
 rw [this, List.map_id]
theorem bytesOf_strOf {l : List Int} (h : BytesOk l) : bytesOf (strOf l) = l := by
 unfold strOf bytesOf
 show List.map _ (List.map _ l) = l
 rw [List.map_map]
 have : ∀ x ∈ l, ((fun b : UInt8 => (b.toNat : Int)) ∘ (fun n : Int => UInt8.ofNat n.toNat)) x = x := by
  intro x hx
  have hb := h x hx
  show ((UInt8.ofNat x.toNat).toNat : Int) = x
  rw [UInt8.toNat_ofNat']
  omega
 exact (List.map_congr_left this).trans (List.map_id' l)
theorem strOf_size (l : List Int) : (strOf l).size = l.length := by
 unfold strOf
 show (List.map _ l).toArray.size = l.length
 simp
def txt (s : ByteArray) : List Int := encN (clampN (s.size : Int)) ++ bytesOf s
theorem implText (out : List Int) (s : ByteArray) (hl : out.length ≤ 1000000000000) (hs : s.size ≤ 1000000000000) : Tot (fun k => impl_addText k out s) (fun r => r = out ++ txt s) := by
 unfold impl_addText txt
 refine Tot.bind (implAdd out _ hl) ?_
 rintro r rfl
 have := (encN_len (clampN (s.size : Int))).1
 refine Tot.ble (by simp only [List.length_append]; omega) (Tot.pure ?_)
 rw [List.append_assoc]
theorem specText (out : List Int) (s : ByteArray) (hl : out.length ≤ 1000000000000) (hs : s.size ≤ 1000000000000) : Tot (fun k => spec_PutText k out s) (fun r => r = out ++ txt s) := by
 unfold spec_PutText txt
 refine Tot.bind (specAdd out _ hl) ?_
 rintro r rfl
 have := (encN_len (clampN (s.size : Int))).1
 refine Tot.ble (by simp only [List.length_append]; omega) (Tot.pure ?_)
 rw [List.append_assoc]
def getT (l : List Int) (p : Nat) : Option (ByteArray × Nat) := match getN l p with
 | some (n, q) => if q + n ≤ l.length then some (strOf ((l.drop q).take n), q + n) else none
 | none => none
def txtR (l : List Int) (p : Int) : ByteArray × Int × Bool := if p < 0 then ((⟨#[]⟩ : ByteArray), 0, false) else match getT l p.toNat with
 | some (s, q) => (s, (q : Int), true)
 | none => ((⟨#[]⟩ : ByteArray), 0, false)
theorem numR_cases (l : List Int) (hb : BytesOk l) (p : Int) : numR l p = (0, 0, false) ∨ ∃ n q, 0 ≤ p ∧ getN l p.toNat = some (n, q) ∧ numR l p = ((n : Int), (q : Int), true) ∧ n ≤ 1000000000 ∧ q ≤ l.length := by
 unfold numR
 by_cases h : p < 0
 ·rw [if_pos h]; exact .inl rfl
 ·rw [if_neg h]
  cases hg : getN l p.toNat with
  | none => exact .inl rfl
  | some nq =>
   obtain ⟨n, q⟩ := nq
   have := getN_ok hb hg
   exact .inr ⟨n, q, by omega, rfl, rfl, this.2.1, this.2.2.2⟩
theorem implGetT (l : List Int) (hb : BytesOk l) (hl : l.length ≤ 1000000000000) (p : Int) (hp : p ≤ 1000000000000) : Tot (fun k => impl_GetText k l p) (fun r => r = txtR l p) := by
 unfold impl_GetText
 refine Tot.bind (implNum l hb hl p hp) ?_
 rintro r rfl
 unfold txtR getT
 rcases numR_cases l hb p with h | ⟨n, q, h0, hg, h, hn, hq⟩
 ·rw [h]
  refine Tot.yes rfl (Tot.pure ?_)
  unfold numR at h
  split
  ·rfl
  ·rename_i h0
   rw [if_neg h0] at h
   cases hg : getN l p.toNat with
   | none => rfl
   | some nq => rw [hg] at h; simp at h
 ·rw [h]
  refine Tot.no rfl ?_
  rw [if_neg (by omega), hg]
  simp only
  rw [w64 (n := (l.length : Int) - (q : Int)) (by omega) (by omega), w64 (n := (q : Int) + (n : Int)) (by omega) (by omega)]
  refine Tot.dite (fun hgt => ?_) (fun hgt => ?_)
  ·rw [if_neg (by omega)]
   exact Tot.pure rfl
  ·rw [if_pos (by omega)]
   refine Tot.dec (by omega) (Tot.dec (by omega) (Tot.dec (by omega) (Tot.pure ?_)))
   rw [show Int.toNat ((q : Int) + (n : Int)) = q + n by omega, Int.toNat_natCast, List.drop_take, show q + n - q = n by omega]
   simp only [Prod.mk.injEq, true_and, and_true]
   push_cast
   rfl
theorem specGetT (l : List Int) (hb : BytesOk l) (hl : l.length ≤ 1000000000000) (p : Int) : Tot (fun k => spec_GetText k l p) (fun r => r = txtR l p) := by
 unfold spec_GetText
 refine Tot.bind (specNum l hb hl p) ?_
 rintro r rfl
 unfold txtR getT
 rcases numR_cases l hb p with h | ⟨n, q, h0, hg, h, hn, hq⟩
 ·rw [h]
  refine Tot.yes rfl (Tot.pure ?_)
  unfold numR at h
  split
  ·rfl
  ·rename_i h0
   rw [if_neg h0] at h
   cases hg : getN l p.toNat with
   | none => rfl
   | some nq => rw [hg] at h; simp at h
 ·rw [h]
  refine Tot.no rfl ?_
  rw [if_neg (by omega), hg]
  simp only
  rw [w64 (n := (l.length : Int) - (q : Int)) (by omega) (by omega), w64 (n := (q : Int) + (n : Int)) (by omega) (by omega)]
  refine Tot.dite (fun hgt => ?_) (fun hgt => ?_)
  ·rw [if_neg (by omega)]
   exact Tot.pure rfl
  ·rw [if_pos (by omega)]
   refine Tot.dec (by omega) (Tot.dec (by omega) (Tot.dec (by omega) (Tot.pure ?_)))
   rw [show Int.toNat ((q : Int) + (n : Int)) = q + n by omega, Int.toNat_natCast, List.drop_take, show q + n - q = n by omega]
   simp only [Prod.mk.injEq, true_and, and_true]
   push_cast
   rfl
theorem getT_ok {l : List Int} {p q : Nat} {s : ByteArray} (hb : BytesOk l) (h : getT l p = some (s, q)) : l.drop p = txt s ++ l.drop q ∧ s.size ≤ 1000000000 ∧ p < q ∧ q ≤ l.length := by
 unfold getT at h
 split at h
 ·rename_i n q0 hg
  obtain ⟨h1, h2, h3, h4⟩ := getN_ok hb hg
  split at h
  ·rename_i hle
   simp only [Option.some.injEq, Prod.mk.injEq] at h
   obtain ⟨rfl, rfl⟩ := h
   have hlen : ((l.drop q0).take n).length = n := by rw [List.length_take, List.length_drop]; omega
   have hbb : BytesOk ((l.drop q0).take n) := fun x hx => hb x (List.mem_of_mem_drop (List.mem_of_mem_take hx))
   refine ⟨?_, by rw [strOf_size, hlen]; exact h2, by omega, by omega⟩
   unfold txt
   rw [strOf_size, hlen, bytesOf_strOf hbb, h1, show clampN (n : Int) = n by unfold clampN; omega, List.append_assoc]
   congr 1
   rw [← List.drop_drop, List.take_append_drop]
  ·cases h
 ·cases h
theorem getT_txt (pre : List Int) (s : ByteArray) (rest : List Int) (hs : s.size ≤ 1000000000) : getT (pre ++ (txt s ++ rest)) pre.length = some (s, pre.length + (txt s).length) := by
 unfold getT txt
 have hc : clampN (s.size : Int) = s.size := by unfold clampN; omega
 rw [hc, List.append_assoc, getN_enc pre s.size _ hs]
 simp only
 rw [if_pos (by simp only [List.length_append, bytesOf_len]; omega)]
 have e : (pre ++ (encN s.size ++ (bytesOf s ++ rest))).drop (pre.length + (encN s.size).length) = bytesOf s ++ rest := by
  rw [← List.append_assoc, ← List.length_append, List.drop_left]
 rw [e, List.take_left' (bytesOf_len s), strOf_bytesOf]
 simp only [List.length_append, bytesOf_len, Option.some.injEq, Prod.mk.injEq, true_and]
 omega
end Go.Proofs.Ytehkignjdbkeiaa.Vf
end
section
set_option linter.unusedVariables false
set_option linter.unusedSimpArgs false
namespace Go.Proofs.Ytehkignjdbkeiaa.Vf
open Go
def bitN (b : Bool) : Int := bif b then 1 else 0
theorem implBit (b : Bool) : impl_bit b = some (bitN b) := by cases b <;> rfl
theorem specBool (b : Bool) : spec_l8Bool b = some (bitN b) := by cases b <;> rfl
def encS (s : Stp) : List Int := encN (clampN s.1) ++ (encN (clampN s.2.1) ++ encN (clampN s.2.2))
def encR (r : Row) : List Int := txt r.1 ++ (encS r.2.1 ++ (encN (clampN (bitN r.2.2.1)) ++ encN (clampN r.2.2.2)))
theorem encS_len (s : Stp) : (encS s).length ≤ 15 := by
 unfold encS
 have h1 := (encN_len (clampN s.1)).1
 have h2 := (encN_len (clampN s.2.1)).1
 have h3 := (encN_len (clampN s.2.2)).1
 simp only [List.length_append]
 omega
theorem implStampB (out : List Int) (s : Stp) (b : Bool) (hl : out.length ≤ 999999999900) : Tot (fun k => impl_addStamp k out s b) (fun r => r = out ++ (encS s ++ encN (clampN (bitN b)))) := by
 have h1 := (encN_len (clampN s.1)).1
 have h2 := (encN_len (clampN s.2.1)).1
 have h3 := (encN_len (clampN s.2.2)).1
 unfold impl_addStamp encS
 refine Tot.bind (implAdd out s.1 (by omega)) ?_
 rintro r rfl
 refine Tot.bind (implAdd _ s.2.1 (by simp only [List.length_append]; omega)) ?_
 rintro r rfl
 refine Tot.bind (implAdd _ s.2.2 (by simp only [List.length_append]; omega)) ?_
 rintro r rfl
 refine Tot.bind (Tot.of (Q := fun y => y = bitN b) (implBit b) rfl) ?_
 rintro y rfl
 refine Tot.bind (implAdd _ (bitN b) (by simp only [List.length_append]; omega)) ?_
 rintro r rfl
 exact Tot.pure (by simp only [List.append_assoc])
theorem specStampB (out : List Int) (s : Stp) (hl : out.length ≤ 999999999900) : Tot (fun k => spec_l8Stamp k out s) (fun r => r = out ++ encS s) := by
 have h1 := (encN_len (clampN s.1)).1
 have h2 := (encN_len (clampN s.2.1)).1
 unfold spec_l8Stamp encS
 refine Tot.bind (specAdd out s.1 (by omega)) ?_
 rintro r rfl
 refine Tot.bind (specAdd _ s.2.1 (by simp only [List.length_append]; omega)) ?_
 rintro r rfl
 refine Tot.bind (specAdd _ s.2.2 (by simp only [List.length_append]; omega)) ?_
 rintro r rfl
 exact Tot.pure (by simp only [List.append_assoc])
def encRs (l : List Row) : List Int := l.flatMap encR
def putRows (l : List Row) : List Int := bif rowsOk l then encN (clampN (l.length : Int)) ++ encRs l else []
theorem nameOk_size {s : ByteArray} (h : nameOk s = true) : 1 ≤ s.size ∧ s.size ≤ 20 := by
 unfold nameOk at h
 rw [Bool.and_eq_true, inR_iff] at h
 omega
theorem rowOk_name {r : Row} (h : rowOk r = true) : nameOk r.1 = true := by
 unfold rowOk at h
 rw [Bool.and_eq_true] at h
 exact h.1
theorem txt_len (s : ByteArray) : (txt s).length ≤ 5 + s.size := by
 have h1 := (encN_len (clampN (s.size : Int))).1
 unfold txt
 simp only [List.length_append, bytesOf_len]
 omega
theorem encR_len {r : Row} (h : nameOk r.1 = true) : (encR r).length ≤ 50 := by
 have h1 := txt_len r.1
 have h2 := nameOk_size h
 have h3 := encS_len r.2.1
 have h4 := (encN_len (clampN (bitN r.2.2.1))).1
 have h5 := (encN_len (clampN r.2.2.2)).1
 unfold encR
 simp only [List.length_append]
 omega
theorem encRs_len : ∀ (l : List Row), (∀ r ∈ l, nameOk r.1 = true) → (encRs l).length ≤ 50 * l.length
 | [], _ => by simp [encRs]
 | r :: l, h => by
  have h1 := encR_len (h r (by simp))
  have h2 := encRs_len l (fun q hq => h q (List.mem_cons_of_mem _ hq))
  unfold encRs at h2 ⊢
  rw [List.flatMap_cons, List.length_append, List.length_cons]
  omega
theorem implPut_l5 (l : List Row) (hn : ∀ r ∈ l, nameOk r.1 = true) (hl : l.length ≤ 60) : ∀ (n i : Nat) (out : List Int), l.length - i = n → i ≤ l.length → out.length + 50 * n ≤ 10000 →
  Tot (fun k => impl_PutRows_l5 k out l (l.length : Int) (i : Int)) (fun r => r = out ++ encRs (l.drop i)) := by
 intro n
 induction n with
 | zero =>
  intro i out hd hi ho
  refine Tot.succ ?_
  simp only [impl_PutRows_l5]
  refine Tot.ndec (by omega) (Tot.pure ?_)
  rw [List.drop_of_length_le (by omega)]
  simp [encRs]
 | succ n ih =>
  intro i out hd hi ho
  have hlt : i < l.length := by omega
  refine Tot.succ ?_
  simp only [impl_PutRows_l5]
  refine Tot.dec (by omega) (Tot.dec (by omega) (Tot.dec (by omega) ?_))
  rw [show Int.toNat (i : Int) = i from Int.toNat_natCast i, w64 (n := (i : Int) + 1) (by omega) (by omega), drop_cons (d := row0) hlt]
  have hm : l.getD i row0 ∈ l := getD_mem' hlt
  have hnm := hn _ hm
  have hsz := nameOk_size hnm
  have e0 : l.getD i ((⟨#[]⟩ : ByteArray), (((0 : Int), ((0 : Int), (0 : Int))), (false, (0 : Int)))) = l.getD i row0 := rfl
  rw [e0]
  generalize l.getD i row0 = r at hnm hsz
  have t1 := txt_len r.1
  have t2 := encS_len r.2.1
  have t3 := (encN_len (clampN (bitN r.2.2.1))).1
  have t4 := encR_len hnm
  refine Tot.bind (implText out r.1 (by omega) (by omega)) ?_
  rintro a rfl
  refine Tot.bind (implStampB _ r.2.1 r.2.2.1 (by simp only [List.length_append]; omega)) ?_
  rintro a rfl
  refine Tot.bind (implAdd _ r.2.2.2 (by simp only [List.length_append]; omega)) ?_
  rintro a rfl
  have e1 : (out ++ txt r.1 ++ (encS r.2.1 ++ encN (clampN (bitN r.2.2.1))) ++ encN (clampN r.2.2.2)) = out ++ encR r := by
   unfold encR
   simp only [List.append_assoc]
  rw [e1]
  refine (ih (i + 1) (out ++ encR r) (by omega) (by omega) (by simp only [List.length_append]; omega)).mono ?_
  rintro q rfl
  unfold encRs
  rw [List.flatMap_cons, List.append_assoc]
theorem implPut (l : List Row) (hf : Few l) (hs : AllShort l) : Tot (fun k => impl_PutRows k l) (fun r => r = putRows l) := by
 unfold impl_PutRows putRows
 refine Tot.bind (implRows l hf hs) ?_
 rintro b rfl
 refine Tot.ite (fun hb => ?_) (fun hb => ?_)
 ·rw [Bool.not_eq_true'] at hb
  rw [hb]
  exact Tot.pure rfl
 ·rw [Bool.not_eq_false'] at hb
  obtain ⟨_, h2, h3⟩ := rowsOk_iff.1 hb
  rw [hb, cond_true]
  have hc := (encN_len (clampN (l.length : Int))).1
  refine Tot.bind (implAdd [] (l.length : Int) (by simp)) ?_
  rintro a rfl
  rw [List.nil_append]
  refine Tot.bind (implPut_l5 l (fun r hr => rowOk_name (h2 r hr)) h3 _ 0 _ rfl (Nat.zero_le _) (by omega)) ?_
  rintro a rfl
  rw [List.drop_zero]
  exact Tot.pure rfl
theorem specPut_l5 (l : List Row) (hn : ∀ r ∈ l, nameOk r.1 = true) (hl : l.length ≤ 60) : ∀ (n i : Nat) (out : List Int), l.length - i = n → i ≤ l.length → out.length + 50 * n ≤ 10000 →
  Tot (fun k => spec_PutRows_l5 k l out (i : Int)) (fun r => r = out ++ encRs (l.drop i)) := by
 intro n
 induction n with
 | zero =>
  intro i out hd hi ho
  refine Tot.succ ?_
  simp only [spec_PutRows_l5]
  refine Tot.ndec (by omega) (Tot.pure ?_)
  rw [List.drop_of_length_le (by omega)]
  simp [encRs]
 | succ n ih =>
  intro i out hd hi ho
  have hlt : i < l.length := by omega
  refine Tot.succ ?_
  simp only [spec_PutRows_l5]
  refine Tot.dec (by omega) (Tot.dec (by omega) (Tot.dec (by omega) ?_))
  rw [show Int.toNat (i : Int) = i from Int.toNat_natCast i, w64 (n := (i : Int) + 1) (by omega) (by omega), drop_cons (d := row0) hlt]
  have hm : l.getD i row0 ∈ l := getD_mem' hlt
  have hnm := hn _ hm
  have hsz := nameOk_size hnm
  have e0 : l.getD i ((⟨#[]⟩ : ByteArray), (((0 : Int), ((0 : Int), (0 : Int))), (false, (0 : Int)))) = l.getD i row0 := rfl
  rw [e0]
  generalize l.getD i row0 = r at hnm hsz
  have t1 := txt_len r.1
  have t2 := encS_len r.2.1
  have t3 := (encN_len (clampN (bitN r.2.2.1))).1
  have t4 := encR_len hnm
  refine Tot.bind (specText out r.1 (by omega) (by omega)) ?_
  rintro a rfl
  refine Tot.dec (by omega) (Tot.dec (by omega) ?_)
  refine Tot.bind (specStampB _ r.2.1 (by simp only [List.length_append]; omega)) ?_
  rintro a rfl
  refine Tot.dec (by omega) (Tot.dec (by omega) ?_)
  refine Tot.bind (Tot.of (Q := fun y => y = bitN r.2.2.1) (specBool _) rfl) ?_
  rintro y rfl
  refine Tot.bind (specAdd _ (bitN r.2.2.1) (by simp only [List.length_append]; omega)) ?_
  rintro a rfl
  refine Tot.dec (by omega) (Tot.dec (by omega) ?_)
  refine Tot.bind (specAdd _ r.2.2.2 (by simp only [List.length_append]; omega)) ?_
  rintro a rfl
  have e1 : (out ++ txt r.1 ++ encS r.2.1 ++ encN (clampN (bitN r.2.2.1)) ++ encN (clampN r.2.2.2)) = out ++ encR r := by
   unfold encR
   simp only [List.append_assoc]
  rw [e1]
  refine (ih (i + 1) (out ++ encR r) (by omega) (by omega) (by simp only [List.length_append]; omega)).mono ?_
  rintro q rfl
  unfold encRs
  rw [List.flatMap_cons, List.append_assoc]
theorem specPut (l : List Row) (hf : Few l) (hs : AllShort l) : Tot (fun k => spec_PutRows k l) (fun r => r = putRows l) := by
 unfold spec_PutRows putRows
 refine Tot.bind (specRows l hf hs) ?_
 rintro b rfl
 refine Tot.ite (fun hb => ?_) (fun hb => ?_)
 ·rw [Bool.not_eq_true'] at hb
  rw [hb]
  exact Tot.pure rfl
 ·rw [Bool.not_eq_false'] at hb
  obtain ⟨_, h2, h3⟩ := rowsOk_iff.1 hb
  rw [hb, cond_true]
  have hc := (encN_len (clampN (l.length : Int))).1
  refine Tot.bind (specAdd [] (l.length : Int) (by simp)) ?_
  rintro a rfl
  rw [List.nil_append]
  refine Tot.bind (specPut_l5 l (fun r hr => rowOk_name (h2 r hr)) h3 _ 0 _ rfl (Nat.zero_le _) (by omega)) ?_
  rintro a rfl
  rw [List.drop_zero]
  exact Tot.pure rfl
def rowAt (l : List Int) (p : Nat) : Option (Row × Nat) :=
 (getT l p).bind fun a => (getN l a.2).bind fun b => (getN l b.2).bind fun c => (getN l c.2).bind fun d => (getN l d.2).bind fun e => bif decide (1 < e.1) then none else (getN l e.2).bind fun f =>
  some ((a.1, ((b.1 : Int), (c.1 : Int), (d.1 : Int)), (e.1 : Int) == 1, (f.1 : Int)), f.2)
def rowsAt (l : List Int) : Nat → Nat → Option (List Row × Nat)
 | 0, p => some ([], p)
 | n + 1, p => (rowAt l p).bind fun a => (rowsAt l n a.2).bind fun b => some (a.1 :: b.1, b.2)
def getRows (l : List Int) : Option (List Row) :=
 (getN l 0).bind fun a => (rowsAt l a.1 a.2).bind fun b => bif decide (b.2 = l.length) && rowsOk b.1 then some b.1 else none
theorem rowAt_ok {l : List Int} {p q : Nat} {r : Row} (hb : BytesOk l) (h : rowAt l p = some (r, q)) : l.drop p = encR r ++ l.drop q ∧ p < q ∧ q ≤ l.length ∧ r.1.size ≤ 1000000000 := by
 unfold rowAt at h
 simp only [Option.bind_eq_some_iff] at h
 obtain ⟨⟨s, p1⟩, h1, ⟨t, p2⟩, h2, ⟨c, p3⟩, h3, ⟨d, p4⟩, h4, ⟨e, p5⟩, h5, h⟩ := h
 obtain ⟨a1, a2, a3, a4⟩ := getT_ok hb h1
 obtain ⟨b1, b2, b3, b4⟩ := getN_ok hb h2
 obtain ⟨c1, c2, c3, c4⟩ := getN_ok hb h3
 obtain ⟨d1, d2, d3, d4⟩ := getN_ok hb h4
 obtain ⟨e1, e2, e3, e4⟩ := getN_ok hb h5
 cases hd : decide (1 < e) with
 | true => simp only [hd, cond_true] at h; cases h
 | false =>
  simp only [hd, cond_false, Option.bind_eq_some_iff] at h
  obtain ⟨⟨z, p6⟩, h6, h⟩ := h
  obtain ⟨f1, f2, f3, f4⟩ := getN_ok hb h6
  simp only [Option.some.injEq, Prod.mk.injEq] at h
  obtain ⟨rfl, rfl⟩ := h
  simp only at a1 a2 a3 a4 b1 b2 b3 b4 c1 c2 c3 c4 d1 d2 d3 d4 e1 e2 e3 e4
  have he : e ≤ 1 := by
   have := of_decide_eq_false hd
   omega
  have hbit : clampN (bitN ((e : Int) == 1)) = e := by
   have : e = 0 ∨ e = 1 := by omega
   rcases this with rfl | rfl <;> decide
  have k : ∀ n : Nat, n ≤ 1000000000 → clampN (n : Int) = n := fun n hn => by unfold clampN; omega
  refine ⟨?_, by omega, by omega, a2⟩
  unfold encR encS
  simp only
  rw [k t b2, k c c2, k d d2, k z f2, hbit, a1, b1, c1, d1, e1, f1]
  simp only [List.append_assoc]
theorem rowsAt_ok {l : List Int} (hb : BytesOk l) : ∀ (n p q : Nat) (rs : List Row), p ≤ l.length → rowsAt l n p = some (rs, q) → l.drop p = encRs rs ++ l.drop q ∧ p ≤ q ∧ q ≤ l.length ∧ rs.length = n ∧ n ≤ q - p
 | 0, p, q, rs, hp, h => by
  simp only [rowsAt, Option.some.injEq, Prod.mk.injEq] at h
  obtain ⟨rfl, rfl⟩ := h
  simp [encRs, hp]
 | n + 1, p, q, rs, hp, h => by
  simp only [rowsAt, Option.bind_eq_some_iff] at h
  obtain ⟨⟨r, p1⟩, h1, ⟨rs', q'⟩, h2, h⟩ := h
  simp only [Option.some.injEq, Prod.mk.injEq] at h
  obtain ⟨rfl, rfl⟩ := h
  obtain ⟨a1, a2, a3, _⟩ := rowAt_ok hb h1
  obtain ⟨b1, b2, b3, b4, b5⟩ := rowsAt_ok hb n p1 q' rs' a3 h2
  refine ⟨?_, by omega, b3, by simp [b4], by omega⟩
  unfold encRs at b1 ⊢
  rw [List.flatMap_cons, List.append_assoc, ← b1]
  exact a1
theorem getRows_ok {l : List Int} {rs : List Row} (hb : BytesOk l) (h : getRows l = some rs) : putRows rs = l ∧ rowsOk rs = true := by
 unfold getRows at h
 simp only [Option.bind_eq_some_iff] at h
 obtain ⟨⟨n, p⟩, h1, ⟨rs', q⟩, h2, h⟩ := h
 obtain ⟨a1, a2, a3, a4⟩ := getN_ok hb h1
 obtain ⟨b1, b2, b3, b4, _⟩ := rowsAt_ok hb n p q rs' a4 h2
 cases hc : (decide (q = l.length) && rowsOk rs') with
 | false => simp only [hc, cond_false] at h; cases h
 | true =>
  simp only [hc, cond_true, Option.some.injEq] at h
  subst h
  rw [Bool.and_eq_true] at hc
  have hq := of_decide_eq_true hc.1
  refine ⟨?_, hc.2⟩
  unfold putRows
  rw [hc.2, cond_true, b4, show clampN (n : Int) = n by unfold clampN; omega]
  rw [List.drop_zero] at a1
  rw [a1, b1, hq, List.drop_length, List.append_nil]
theorem rowAt_enc (pre : List Int) (r : Row) (rest : List Int) (h : rowOk r = true) : rowAt (pre ++ (encR r ++ rest)) pre.length = some (r, pre.length + (encR r).length) := by
 obtain ⟨s, ⟨t, c, d⟩, e, z⟩ := r
 unfold rowOk stampOk at h
 simp only [Bool.and_eq_true, inR_iff] at h
 obtain ⟨h1, ⟨⟨t0, t1⟩, ⟨c0, c1⟩, d0, d1⟩, ⟨z0, z1⟩, hz⟩ := h
 have hs := nameOk_size h1
 have ht := clampN_in t0 t1
 have hc := clampN_in c0 (show c ≤ 1000000000 by omega)
 have hd := clampN_in d0 (show d ≤ 1000000000 by omega)
 have hzz := clampN_in z0 (show z ≤ 1000000000 by omega)
 have hbit : (((clampN (bitN e) : Nat) : Int) == 1) = e := by cases e <;> decide
 have hbit2 : ¬ (1 < clampN (bitN e)) := by cases e <;> decide
 have k : ∀ (a : List Int) (n : Nat) (b : List Int), n ≤ 1000000000 → getN (a ++ (encN n ++ b)) a.length = some (n, (a ++ encN n).length) := fun a n b hn => by rw [getN_enc a n b hn, List.length_append]
 have e0 : pre ++ (encR (s, (t, c, d), e, z) ++ rest) = pre ++ (txt s ++ (encN (clampN t) ++ (encN (clampN c) ++ (encN (clampN d) ++ (encN (clampN (bitN e)) ++ (encN (clampN z) ++ rest)))))) := by
  unfold encR encS
  simp only [List.append_assoc]
 have el : (encR (s, (t, c, d), e, z)).length = (txt s).length + (encN (clampN t)).length + (encN (clampN c)).length + (encN (clampN d)).length + (encN (clampN (bitN e))).length + (encN (clampN z)).length := by
  unfold encR encS
  simp only [List.length_append]
  omega
 have g0 := getT_txt pre s (encN (clampN t) ++ (encN (clampN c) ++ (encN (clampN d) ++ (encN (clampN (bitN e)) ++ (encN (clampN z) ++ rest))))) (by omega)
 have g1 := k (pre ++ txt s) (clampN t) (encN (clampN c) ++ (encN (clampN d) ++ (encN (clampN (bitN e)) ++ (encN (clampN z) ++ rest)))) (clampN_le t)
 have g2 := k (pre ++ txt s ++ encN (clampN t)) (clampN c) (encN (clampN d) ++ (encN (clampN (bitN e)) ++ (encN (clampN z) ++ rest))) (clampN_le c)
 have g3 := k (pre ++ txt s ++ encN (clampN t) ++ encN (clampN c)) (clampN d) (encN (clampN (bitN e)) ++ (encN (clampN z) ++ rest)) (clampN_le d)
 have g4 := k (pre ++ txt s ++ encN (clampN t) ++ encN (clampN c) ++ encN (clampN d)) (clampN (bitN e)) (encN (clampN z) ++ rest) (clampN_le _)
 have g5 := k (pre ++ txt s ++ encN (clampN t) ++ encN (clampN c) ++ encN (clampN d) ++ encN (clampN (bitN e))) (clampN z) rest (clampN_le z)
 simp only [List.append_assoc] at g1 g2 g3 g4 g5
 simp only [List.length_append] at g0 g1 g2 g3 g4 g5
 unfold rowAt
 rw [e0, el]
 simp only [Nat.add_assoc] at g1 g2 g3 g4 g5 ⊢
 simp only [g0, g1, g2, g3, g4, g5, Option.bind_some, decide_eq_false hbit2, cond_false]
 rw [ht, hc, hd, hzz, hbit]
theorem rowsAt_enc : ∀ (rs : List Row) (pre rest : List Int), (∀ r ∈ rs, rowOk r = true) → rowsAt (pre ++ (encRs rs ++ rest)) rs.length pre.length = some (rs, pre.length + (encRs rs).length)
 | [], pre, rest, _ => by simp [rowsAt, encRs]
 | r :: rs, pre, rest, h => by
  have h1 := rowAt_enc pre r (encRs rs ++ rest) (h r (by simp))
  have h2 := rowsAt_enc rs (pre ++ encR r) rest (fun q hq => h q (List.mem_cons_of_mem _ hq))
  rw [List.append_assoc, List.length_append] at h2
  have e0 : encRs (r :: rs) ++ rest = encR r ++ (encRs rs ++ rest) := by unfold encRs; rw [List.flatMap_cons, List.append_assoc]
  have e1 : (encRs (r :: rs)).length = (encR r).length + (encRs rs).length := by unfold encRs; rw [List.flatMap_cons, List.length_append]
  rw [e0, e1, List.length_cons]
  simp only [rowsAt, h1, h2, Option.bind_some, Nat.add_assoc]
theorem getRows_put {l : List Row} (h : rowsOk l = true) : getRows (putRows l) = some l := by
 obtain ⟨h1, h2, h3⟩ := rowsOk_iff.1 h
 have hc : clampN (l.length : Int) = l.length := by unfold clampN; omega
 unfold putRows getRows
 rw [h, cond_true, hc]
 have g0 := getN_enc [] l.length (encRs l) (by omega)
 rw [List.nil_append, List.length_nil, Nat.zero_add] at g0
 have g1 := rowsAt_enc l (encN l.length) [] h2
 rw [List.append_nil] at g1
 simp only [g0, g1, Option.bind_some, List.length_append, h, decide_true, Bool.and_self, cond_true]
theorem putRows_bytes (l : List Row) : BytesOk (putRows l) := by
 have app : ∀ {a b : List Int}, BytesOk a → BytesOk b → BytesOk (a ++ b) := fun ha hb x hx => (List.mem_append.1 hx).elim (ha x) (hb x)
 have en : ∀ n, BytesOk (encN (clampN n)) := fun n => encN_bytes _ (clampN_le n)
 unfold putRows
 cases rowsOk l with
 | false => intro x hx; simp at hx
 | true =>
  rw [cond_true]
  refine app (en _) ?_
  intro x hx
  unfold encRs at hx
  obtain ⟨r, _, hx⟩ := List.mem_flatMap.1 hx
  have : BytesOk (encR r) := app (app (en _) (bytesOf_ok _)) (app (app (en _) (app (en _) (en _))) (app (en _) (en _)))
  exact this x hx
end Go.Proofs.Ytehkignjdbkeiaa.Vf
end
section
set_option linter.unusedVariables false
set_option linter.unusedSimpArgs false
namespace Go.Proofs.Ytehkignjdbkeiaa.Vf
open Go
theorem numR_nat (l : List Int) (p : Nat) : numR l (p : Int) = match getN l p with
 | some (n, q) => ((n : Int), (q : Int), true)
 | none => (0, 0, false) := by
 unfold numR
 rw [if_neg (by omega), Int.toNat_natCast]
 all_goals cases getN l p <;> rfl
theorem txtR_nat (l : List Int) (p : Nat) : txtR l (p : Int) = match getT l p with
 | some (s, q) => (s, (q : Int), true)
 | none => ((⟨#[]⟩ : ByteArray), 0, false) := by
 unfold txtR
 rw [if_neg (by omega), Int.toNat_natCast]
 all_goals cases getT l p <;> rfl
abbrev Rd := List Int × Int × Bool
theorem rdNum (l : List Int) (hb : BytesOk l) (hl : l.length ≤ 1000000000000) (p : Nat) (hp : p ≤ l.length) (bad : Bool) :
  Tot (fun k => impl_reader_num k (l, (p : Int), bad)) (fun r => (bad = false ∧ ∃ n q : Nat, getN l p = some (n, q) ∧ q ≤ l.length ∧ r = ((n : Int), l, (q : Int), false)) ∨ ((bad = true ∨ getN l p = none) ∧ r = (0, l, (p : Int), true))) := by
 unfold impl_reader_num
 refine Tot.bind (implNum l hb hl (p : Int) (by omega)) ?_
 rintro r rfl
 refine Tot.ite (fun h => Tot.pure (.inr ⟨.inl h, rfl⟩)) (fun h => ?_)
 rw [numR_nat]
 cases hg : getN l p with
 | none => exact Tot.yes rfl (Tot.pure (.inr ⟨.inr rfl, rfl⟩))
 | some nq =>
  obtain ⟨n, q⟩ := nq
  simp only at h
  subst h
  exact Tot.no rfl (Tot.pure (.inl ⟨rfl, n, q, rfl, (getN_ok hb hg).2.2.2, rfl⟩))
theorem rdTxt (l : List Int) (hb : BytesOk l) (hl : l.length ≤ 1000000000000) (p : Nat) (hp : p ≤ l.length) :
  Tot (fun k => impl_reader_text k (l, (p : Int), false)) (fun r => (∃ (s : ByteArray) (q : Nat), getT l p = some (s, q) ∧ q ≤ l.length ∧ r = (s, l, (q : Int), false)) ∨ (getT l p = none ∧ r = ((⟨#[]⟩ : ByteArray), l, (p : Int), true))) := by
 unfold impl_reader_text
 refine Tot.bind (implGetT l hb hl (p : Int) (by omega)) ?_
 rintro r rfl
 refine Tot.no rfl ?_
 rw [txtR_nat]
 cases hg : getT l p with
 | none => exact Tot.yes rfl (Tot.pure (.inr ⟨rfl, rfl⟩))
 | some nq =>
  obtain ⟨n, q⟩ := nq
  exact Tot.no rfl (Tot.pure (.inl ⟨n, q, rfl, (getT_ok hb hg).2.2.2, rfl⟩))
def stpAt (l : List Int) (p : Nat) : Option ((Stp × Bool) × Nat) :=
 (getN l p).bind fun b => (getN l b.2).bind fun c => (getN l c.2).bind fun d => (getN l d.2).bind fun e => bif decide (1 < e.1) then none else
  some ((((b.1 : Int), (c.1 : Int), (d.1 : Int)), (e.1 : Int) == 1), e.2)
theorem rowAt_eq (l : List Int) (p : Nat) : rowAt l p = (getT l p).bind fun a => (stpAt l a.2).bind fun b => (getN l b.2).bind fun f => some ((a.1, b.1.1, b.1.2, (f.1 : Int)), f.2) := by
 unfold rowAt stpAt
 cases getT l p with
 | none => rfl
 | some a =>
  simp only [Option.bind_some]
  cases getN l a.2 with
  | none => rfl
  | some b =>
   simp only [Option.bind_some]
   cases getN l b.2 with
   | none => rfl
   | some c =>
    simp only [Option.bind_some]
    cases getN l c.2 with
    | none => rfl
    | some d =>
     simp only [Option.bind_some]
     cases getN l d.2 with
     | none => rfl
     | some e =>
      simp only [Option.bind_some]
      cases decide (1 < e.1) with
      | true => rfl
      | false => rfl
theorem stpAt_le {l : List Int} (hb : BytesOk l) {p q : Nat} {x : Stp × Bool} (h : stpAt l p = some (x, q)) : q ≤ l.length := by
 unfold stpAt at h
 simp only [Option.bind_eq_some_iff] at h
 obtain ⟨⟨t, p2⟩, h2, ⟨c, p3⟩, h3, ⟨d, p4⟩, h4, ⟨e, p5⟩, h5, h⟩ := h
 cases hd : decide (1 < e) with
 | true => simp only [hd, cond_true] at h; cases h
 | false =>
  simp only [hd, cond_false, Option.some.injEq, Prod.mk.injEq] at h
  obtain ⟨_, rfl⟩ := h
  exact (getN_ok hb h5).2.2.2
theorem rdStp (l : List Int) (hb : BytesOk l) (hl : l.length ≤ 1000000000000) (p : Nat) (hp : p ≤ l.length) (bad : Bool) :
  Tot (fun k => impl_reader_stamp k (l, (p : Int), bad)) (fun r => (bad = false ∧ ∃ (x : Stp × Bool) (q : Nat), stpAt l p = some (x, q) ∧ q ≤ l.length ∧ r = (x.1, x.2, l, (q : Int), false)) ∨ ((bad = true ∨ stpAt l p = none) ∧ ∃ s b, ∃ q : Nat, q ≤ l.length ∧ r = (s, b, l, (q : Int), true))) := by
 unfold impl_reader_stamp
 have nx : ∀ {o : Option (Nat × Nat)} {f : Nat × Nat → Option ((Stp × Bool) × Nat)}, o = none → o.bind f = none := by
  intro o f h; rw [h]; rfl
 refine Tot.bind (rdNum l hb hl p hp bad) ?_
 rintro r (⟨h0, n1, p1, h1, l1, rfl⟩ | ⟨h1, rfl⟩)
 ·simp only
  refine Tot.bind (rdNum l hb hl p1 l1 false) ?_
  rintro r (⟨_, n2, p2, h2, l2, rfl⟩ | ⟨h2, rfl⟩)
  ·simp only
   refine Tot.bind (rdNum l hb hl p2 l2 false) ?_
   rintro r (⟨_, n3, p3, h3, l3, rfl⟩ | ⟨h3, rfl⟩)
   ·simp only
    refine Tot.bind (rdNum l hb hl p3 l3 false) ?_
    rintro r (⟨_, n4, p4, h4, l4, rfl⟩ | ⟨h4, rfl⟩)
    ·simp only
     refine Tot.no rfl (Tot.pure ?_)
     have e : stpAt l p = bif decide (1 < n4) then none else some ((((n1 : Int), (n2 : Int), (n3 : Int)), (n4 : Int) == 1), p4) := by
      unfold stpAt
      simp only [h1, h2, h3, h4, Option.bind_some]
     cases hd : decide (1 < n4) with
     | true =>
      rw [hd, cond_true] at e
      refine .inr ⟨.inr e, ((n1 : Int), (n2 : Int), (n3 : Int)), ((n4 : Int) == 1), p4, l4, ?_⟩
      have : decide ((n4 : Int) > 1) = true := decide_eq_true (by have := of_decide_eq_true hd; omega)
      rw [this]
     | false =>
      rw [hd, cond_false] at e
      refine .inl ⟨h0, _, p4, e, l4, ?_⟩
      have : decide ((n4 : Int) > 1) = false := decide_eq_false (by have := of_decide_eq_false hd; omega)
      rw [this]
    ·refine Tot.yes rfl (Tot.pure (.inr ⟨.inr ?_, _, _, p3, l3, rfl⟩))
     have h4' := h4.resolve_left (by simp)
     unfold stpAt
     simp only [h1, h2, h3, h4', Option.bind_some, Option.bind_none]
   ·simp only
    refine Tot.bind (rdNum l hb hl p2 l2 true) ?_
    rintro r (⟨hh, _⟩ | ⟨_, rfl⟩)
    ·cases hh
    ·refine Tot.yes rfl (Tot.pure (.inr ⟨.inr ?_, _, _, p2, l2, rfl⟩))
     have h3' := h3.resolve_left (by simp)
     unfold stpAt
     simp only [h1, h2, h3', Option.bind_some, Option.bind_none]
  ·simp only
   refine Tot.bind (rdNum l hb hl p1 l1 true) ?_
   rintro r (⟨hh, _⟩ | ⟨_, rfl⟩)
   ·cases hh
   ·refine Tot.bind (rdNum l hb hl p1 l1 true) ?_
    rintro r (⟨hh, _⟩ | ⟨_, rfl⟩)
    ·cases hh
    ·refine Tot.yes rfl (Tot.pure (.inr ⟨.inr ?_, _, _, p1, l1, rfl⟩))
     have h2' := h2.resolve_left (by simp)
     unfold stpAt
     simp only [h1, h2', Option.bind_some, Option.bind_none]
 ·simp only
  refine Tot.bind (rdNum l hb hl p hp true) ?_
  rintro r (⟨hh, _⟩ | ⟨_, rfl⟩)
  ·cases hh
  ·refine Tot.bind (rdNum l hb hl p hp true) ?_
   rintro r (⟨hh, _⟩ | ⟨_, rfl⟩)
   ·cases hh
   ·refine Tot.bind (rdNum l hb hl p hp true) ?_
    rintro r (⟨hh, _⟩ | ⟨_, rfl⟩)
    ·cases hh
    ·refine Tot.yes rfl (Tot.pure (.inr ⟨?_, _, _, p, hp, rfl⟩))
     rcases h1 with h1 | h1
     ·exact .inl h1
     ·refine .inr ?_
      unfold stpAt
      rw [h1]
      rfl
theorem implGet_l5 (l : List Int) (hb : BytesOk l) (hl : l.length ≤ 1000000000000) (n : Nat) (hn : n ≤ 1000000000) : ∀ (m i p : Nat) (acc : List Row), m + i = n → p ≤ l.length → acc.length ≤ p →
  Tot (fun k => impl_GetRows_l5 k l (n : Int) acc (i : Int) l (p : Int) false) (fun r => (∃ rs q, rowsAt l m p = some (rs, q) ∧ r = (l, acc ++ rs, l, (q : Int), false)) ∨ (rowsAt l m p = none ∧ ∃ a b c d, r = (a, b, c, d, true))) := by
 intro m
 induction m with
 | zero =>
  intro i p acc hi hp ha
  refine Tot.succ ?_
  simp only [impl_GetRows_l5]
  refine Tot.ndec (by omega) (Tot.pure (.inl ⟨[], p, rfl, ?_⟩))
  rw [List.append_nil]
 | succ m ih =>
  intro i p acc hi hp ha
  have bad : ∀ (acc : List Row) (j : Int) (q : Int), Tot (fun k => impl_GetRows_l5 k l (n : Int) acc j l q true) (fun r => ∃ a b c d, r = (a, b, c, d, true)) := by
   intro acc j q
   refine Tot.succ ?_
   simp only [impl_GetRows_l5]
   refine Tot.dite (fun _ => Tot.no rfl (Tot.pure ⟨_, _, _, _, rfl⟩)) (fun _ => Tot.pure ⟨_, _, _, _, rfl⟩)
  refine Tot.succ ?_
  simp only [impl_GetRows_l5]
  refine Tot.dec (by omega) (Tot.yes rfl ?_)
  have er : rowsAt l (m + 1) p = (rowAt l p).bind fun a => (rowsAt l m a.2).bind fun b => some (a.1 :: b.1, b.2) := rfl
  rw [er, rowAt_eq]
  refine Tot.bind (rdTxt l hb hl p hp) ?_
  rintro r (⟨s, p1, h1, l1, rfl⟩ | ⟨h1, rfl⟩)
  ·simp only
   refine Tot.bind (rdStp l hb hl p1 l1 false) ?_
   rintro r (⟨_, x, p2, h2, l2, rfl⟩ | ⟨h2, sx, bx, p2, l2, rfl⟩)
   ·simp only
    refine Tot.bind (rdNum l hb hl p2 l2 false) ?_
    rintro r (⟨_, z, p3, h3, l3, rfl⟩ | ⟨h3, rfl⟩)
    ·simp only
     have hrow : rowAt l p = some ((s, x.1, x.2, (z : Int)), p3) := by
      rw [rowAt_eq]
      simp only [h1, h2, h3, Option.bind_some]
     have hlt := (rowAt_ok hb hrow).2.1
     refine Tot.ble (by simp only [List.length_cons, List.length_nil]; omega) ?_
     rw [w64 (n := (i : Int) + 1) (by omega) (by omega)]
     refine (ih (i + 1) p3 (acc ++ [(s, x.1, x.2, (z : Int))]) (by omega) l3 (by simp only [List.length_append, List.length_cons, List.length_nil]; omega)).mono ?_
     simp only [h1, h2, h3, Option.bind_some]
     rintro r (⟨rs, q, e, rfl⟩ | ⟨e, hr⟩)
     ·refine .inl ⟨_, q, by rw [e]; rfl, ?_⟩
      rw [List.append_assoc]
      rfl
     ·exact .inr ⟨by rw [e]; rfl, hr⟩
    ·simp only
     have h3' := h3.resolve_left (by simp)
     refine Tot.ble (by simp only [List.length_cons, List.length_nil]; omega) ((bad _ _ _).mono ?_)
     intro r hr
     refine .inr ⟨?_, hr⟩
     simp only [h1, h2, h3', Option.bind_some, Option.bind_none]
   ·simp only
    have h2' := h2.resolve_left (by simp)
    refine Tot.bind (rdNum l hb hl p2 l2 true) ?_
    rintro r (⟨hh, _⟩ | ⟨_, rfl⟩)
    ·cases hh
    ·refine Tot.ble (by simp only [List.length_cons, List.length_nil]; omega) ((bad _ _ _).mono ?_)
     intro r hr
     refine .inr ⟨?_, hr⟩
     simp only [h1, h2', Option.bind_some, Option.bind_none]
  ·simp only
   refine Tot.bind (rdStp l hb hl p hp true) ?_
   rintro r (⟨hh, _⟩ | ⟨_, sx, bx, p2, l2, rfl⟩)
   ·cases hh
   ·refine Tot.bind (rdNum l hb hl p2 l2 true) ?_
    rintro r (⟨hh, _⟩ | ⟨_, rfl⟩)
    ·cases hh
    ·refine Tot.ble (by simp only [List.length_cons, List.length_nil]; omega) ((bad _ _ _).mono ?_)
     intro r hr
     refine .inr ⟨?_, hr⟩
     simp only [h1, Option.bind_none]
theorem rowsAt_short {l : List Int} (hb : BytesOk l) : ∀ (n p q : Nat) (rs : List Row), rowsAt l n p = some (rs, q) → AllShort rs
 | 0, p, q, rs, h => by
  simp only [rowsAt, Option.some.injEq, Prod.mk.injEq] at h
  obtain ⟨rfl, rfl⟩ := h
  intro r hr; cases hr
 | n + 1, p, q, rs, h => by
  simp only [rowsAt, Option.bind_eq_some_iff] at h
  obtain ⟨⟨r, p1⟩, h1, ⟨rs', q'⟩, h2, h⟩ := h
  simp only [Option.some.injEq, Prod.mk.injEq] at h
  obtain ⟨rfl, rfl⟩ := h
  intro x hx
  rcases List.mem_cons.1 hx with rfl | hx
  ·have := (rowAt_ok hb h1).2.2.2
   unfold Short
   omega
  ·exact rowsAt_short hb n p1 q' rs' h2 x hx
def rowsR (l : List Int) : List Row × Bool := match getRows l with
 | some rs => (rs, true)
 | none => ([], false)
theorem implGet (l : List Int) (hb : BytesOk l) (hl : l.length ≤ 1000000000000) : Tot (fun k => impl_GetRows k l) (fun r => r = rowsR l) := by
 unfold impl_GetRows rowsR getRows
 refine Tot.bind (rdNum l hb hl 0 (Nat.zero_le _) false) ?_
 rintro r (⟨_, n, p, h1, l1, rfl⟩ | ⟨h1, rfl⟩)
 ·obtain ⟨_, n1, _, _⟩ := getN_ok hb h1
  simp only [h1, Option.bind_some]
  refine Tot.bind (implGet_l5 l hb hl n n1 n 0 p [] rfl l1 (Nat.zero_le _)) ?_
  rintro r (⟨rs, q, e, rfl⟩ | ⟨e, a, b, c, d, rfl⟩)
  ·simp only [e, Option.bind_some, List.nil_append]
   obtain ⟨_, b2, b3, b4, b5⟩ := rowsAt_ok hb n p q rs l1 e
   have hsh := rowsAt_short hb n p q rs e
   refine Tot.no rfl ?_
   by_cases hq : q = l.length
   ·refine Tot.no (by rw [hq]; simp) ?_
    refine Tot.bind (implRows rs (by unfold Few; omega) hsh) ?_
    rintro x rfl
    rw [decide_eq_true hq, Bool.true_and]
    refine Tot.ite (fun h => Tot.pure ?_) (fun h => Tot.pure ?_)
    ·rw [Bool.not_eq_true'] at h
     rw [h]; rfl
    ·rw [Bool.not_eq_false'] at h
     rw [h]; rfl
   ·rw [decide_eq_false hq, Bool.false_and]
    refine Tot.yes ?_ (Tot.pure rfl)
    simp only [bne_iff_ne, ne_eq]
    omega
  ·simp only [e, Option.bind_none]
   exact Tot.yes rfl (Tot.pure rfl)
 ·have h1' := h1.resolve_left (by simp)
  rw [h1']
  simp only [Option.bind_none]
  refine Tot.bind (Q := fun r => r = (l, ([] : List Row), l, (0 : Int), true)) (Tot.succ ?_) ?_
  ·simp only [impl_GetRows_l5]
   exact Tot.ndec (by omega) (Tot.pure rfl)
  ·rintro r rfl
   exact Tot.yes rfl (Tot.pure rfl)
theorem specStp (l : List Int) (hb : BytesOk l) (hl : l.length ≤ 1000000000000) (p : Int) :
  Tot (fun k => spec_l8GetStamp k l p) (fun r => (∃ n1 p1 n2 p2 n3 p3, 0 ≤ p ∧ getN l p.toNat = some (n1, p1) ∧ getN l p1 = some (n2, p2) ∧ getN l p2 = some (n3, p3) ∧ r = (((n1 : Int), (n2 : Int), (n3 : Int)), (p3 : Int), true)) ∨ (((getN l p.toNat).bind fun a => (getN l a.2).bind fun b => getN l b.2) = none ∨ p < 0) ∧ r.2.2 = false) := by
 unfold spec_l8GetStamp
 refine Tot.bind (specNum l hb hl p) ?_
 rintro r1 rfl
 refine Tot.bind (specNum l hb hl _) ?_
 rintro r2 rfl
 refine Tot.bind (specNum l hb hl _) ?_
 rintro r3 rfl
 by_cases hp : p < 0
 ·have : (numR l p).2.2 = false := by unfold numR; rw [if_pos hp]
  exact Tot.no this (Tot.pure (.inr ⟨.inr hp, rfl⟩))
 ·have e1 : numR l p = match getN l p.toNat with | some (n, q) => ((n : Int), (q : Int), true) | none => (0, 0, false) := by
   unfold numR; rw [if_neg hp]; all_goals cases getN l p.toNat <;> rfl
  cases h1 : getN l p.toNat with
  | none =>
   rw [h1] at e1
   simp only [e1]
   exact Tot.no rfl (Tot.pure (.inr ⟨.inl rfl, rfl⟩))
  | some a =>
   obtain ⟨n1, p1⟩ := a
   rw [h1] at e1
   simp only [e1, numR_nat, Option.bind_some]
   refine Tot.yes rfl ?_
   cases h2 : getN l p1 with
   | none => exact Tot.no rfl (Tot.pure (.inr ⟨.inl rfl, rfl⟩))
   | some b =>
    obtain ⟨n2, p2⟩ := b
    refine Tot.yes rfl ?_
    simp only [numR_nat, Option.bind_some]
    cases h3 : getN l p2 with
    | none => exact Tot.pure (.inr ⟨.inl rfl, rfl⟩)
    | some c =>
     obtain ⟨n3, p3⟩ := c
     exact Tot.pure (.inl ⟨n1, p1, n2, p2, n3, p3, by omega, rfl, h2, h3, rfl⟩)
theorem stpAt_bad {l : List Int} {p : Nat} (h : ((getN l p).bind fun a => (getN l a.2).bind fun b => getN l b.2) = none) : stpAt l p = none := by
 unfold stpAt
 cases h1 : getN l p with
 | none => rfl
 | some a =>
  rw [h1] at h
  simp only [Option.bind_some] at h ⊢
  cases h2 : getN l a.2 with
  | none => rfl
  | some b =>
   rw [h2] at h
   simp only [Option.bind_some] at h ⊢
   rw [h]
   rfl
theorem specGet_l7 (l : List Int) (hb : BytesOk l) (hl : l.length ≤ 1000000000000) (n : Nat) (hn : n ≤ 1000000000) : ∀ (m i p : Nat) (acc : List Row), m + i = n → p ≤ l.length → acc.length ≤ p →
  Tot (fun k => spec_GetRows_l7 k l [] (n : Int) (p : Int) acc (i : Int)) (fun r => (∃ rs q, rowsAt l m p = some (rs, q) ∧ r = .inr (l, [], (q : Int), acc ++ rs)) ∨ (rowsAt l m p = none ∧ r = .inl ([], false))) := by
 intro m
 induction m with
 | zero =>
  intro i p acc hi hp ha
  refine Tot.succ ?_
  simp only [spec_GetRows_l7]
  refine Tot.ndec (by omega) (Tot.pure (.inl ⟨[], p, rfl, ?_⟩))
  rw [List.append_nil]
 | succ m ih =>
  intro i p acc hi hp ha
  refine Tot.succ ?_
  simp only [spec_GetRows_l7]
  refine Tot.dec (by omega) ?_
  have er : rowsAt l (m + 1) p = (rowAt l p).bind fun a => (rowsAt l m a.2).bind fun b => some (a.1 :: b.1, b.2) := rfl
  rw [er, rowAt_eq]
  refine Tot.bind (specGetT l hb hl p) ?_
  rintro r rfl
  rw [txtR_nat]
  cases h1 : getT l p with
  | none =>
   simp only [Option.bind_none]
   refine Tot.bind (specStp l hb hl _) (fun r2 _ => ?_)
   refine Tot.bind (specNum l hb hl _) (fun r3 _ => ?_)
   refine Tot.bind (specNum l hb hl _) (fun r4 _ => ?_)
   exact Tot.yes rfl (Tot.pure (.inr ⟨trivial, rfl⟩))
  | some a =>
   obtain ⟨s, p1⟩ := a
   simp only [Option.bind_some]
   refine Tot.bind (specStp l hb hl (p1 : Int)) (fun r2 hr2 => ?_)
   refine Tot.bind (specNum l hb hl _) ?_
   rintro r3 rfl
   refine Tot.bind (specNum l hb hl _) ?_
   rintro r4 rfl
   refine Tot.no rfl ?_
   rcases hr2 with ⟨n1, q1, n2, q2, n3, q3, _, e1, e2, e3, rfl⟩ | ⟨e1, e2⟩
   ·rw [Int.toNat_natCast] at e1
    refine Tot.no rfl ?_
    simp only [numR_nat]
    cases h3 : getN l q3 with
    | none =>
     refine Tot.yes rfl (Tot.pure (.inr ⟨?_, rfl⟩))
     have : stpAt l p1 = none := by
      unfold stpAt
      simp only [e1, e2, e3, h3, Option.bind_some, Option.bind_none]
     rw [this]
     rfl
    | some b =>
     obtain ⟨n4, p2⟩ := b
     have es : stpAt l p1 = bif decide (1 < n4) then none else some ((((n1 : Int), (n2 : Int), (n3 : Int)), (n4 : Int) == 1), p2) := by
      unfold stpAt
      simp only [e1, e2, e3, h3, Option.bind_some]
     refine Tot.no rfl ?_
     simp only [numR_nat]
     cases h4 : getN l p2 with
     | none =>
      refine Tot.yes rfl (Tot.pure (.inr ⟨?_, rfl⟩))
      rw [es]
      cases decide (1 < n4) with
      | true => rfl
      | false => simp only [cond_false, Option.bind_some, h4, Option.bind_none]
     | some c =>
      obtain ⟨z, p3⟩ := c
      refine Tot.no rfl ?_
      cases hd : decide (1 < n4) with
      | true =>
       rw [hd, cond_true] at es
       have := of_decide_eq_true hd
       refine Tot.dec (by omega) (Tot.pure (.inr ⟨?_, rfl⟩))
       rw [es]; rfl
      | false =>
       rw [hd, cond_false] at es
       have := of_decide_eq_false hd
       have hrow : rowAt l p = some ((s, ((n1 : Int), (n2 : Int), (n3 : Int)), (n4 : Int) == 1, (z : Int)), p3) := by
        rw [rowAt_eq]
        simp only [h1, es, h4, Option.bind_some]
       obtain ⟨_, hlt, hle, _⟩ := rowAt_ok hb hrow
       refine Tot.ndec (by omega) ?_
       refine Tot.ble (by simp only [List.length_cons, List.length_nil]; omega) ?_
       rw [w64 (n := (i : Int) + 1) (by omega) (by omega)]
       refine (ih (i + 1) p3 (acc ++ [(s, ((n1 : Int), (n2 : Int), (n3 : Int)), (n4 : Int) == 1, (z : Int))]) (by omega) hle (by simp only [List.length_append, List.length_cons, List.length_nil]; omega)).mono ?_
       simp only [es, h4, Option.bind_some]
       rintro r (⟨rs, q, e, rfl⟩ | ⟨e, hr⟩)
       ·refine .inl ⟨_, q, by rw [e]; rfl, ?_⟩
        rw [List.append_assoc]
        rfl
       ·exact .inr ⟨by rw [e]; rfl, hr⟩
   ·refine Tot.yes (by rw [e2]; rfl) (Tot.pure (.inr ⟨?_, rfl⟩))
    have e1' := e1.resolve_right (by omega)
    rw [Int.toNat_natCast] at e1'
    rw [stpAt_bad e1']
    rfl
theorem specGet (l : List Int) (hb : BytesOk l) (hl : l.length ≤ 1000000000000) : Tot (fun k => spec_GetRows k l) (fun r => r = rowsR l) := by
 unfold spec_GetRows rowsR getRows
 refine Tot.bind (specNum l hb hl 0) ?_
 rintro r rfl
 have e0 := numR_nat l 0
 simp only [Int.natCast_zero, Int.cast_ofNat_Int] at e0
 rw [e0]
 cases h1 : getN l 0 with
 | none => exact Tot.yes rfl (Tot.pure rfl)
 | some a =>
  obtain ⟨n, p⟩ := a
  obtain ⟨_, n1, _, l1⟩ := getN_ok hb h1
  refine Tot.no rfl ?_
  simp only [Option.bind_some]
  refine Tot.dite (fun h => Tot.pure ?_) (fun h => ?_)
  ·cases h2 : rowsAt l n p with
   | none => rfl
   | some b =>
    obtain ⟨rs, q⟩ := b
    obtain ⟨_, _, _, b4, _⟩ := rowsAt_ok hb n p q rs l1 h2
    have : rowsOk rs = false := by
     cases hc : rowsOk rs with
     | false => rfl
     | true => have := (rowsOk_iff.1 hc).2.2; omega
    simp only [Option.bind_some, this, Bool.and_false, cond_false]
  ·refine Tot.bind (specGet_l7 l hb hl n n1 n 0 p [] rfl l1 (Nat.zero_le _)) ?_
   rintro r (⟨rs, q, e, rfl⟩ | ⟨e, rfl⟩)
   ·simp only [e, Option.bind_some, List.nil_append, Sum.elim_inr]
    obtain ⟨_, b2, b3, b4, b5⟩ := rowsAt_ok hb n p q rs l1 e
    have hsh := rowsAt_short hb n p q rs e
    by_cases hq : q = l.length
    ·refine Tot.no (by rw [hq]; simp) ?_
     refine Tot.bind (specRows rs (by unfold Few; omega) hsh) ?_
     rintro x rfl
     rw [decide_eq_true hq, Bool.true_and]
     refine Tot.ite (fun h => Tot.pure ?_) (fun h => Tot.pure ?_)
     ·rw [Bool.not_eq_true'] at h
      rw [h]; rfl
     ·rw [Bool.not_eq_false'] at h
      rw [h]; rfl
    ·rw [decide_eq_false hq, Bool.false_and]
     refine Tot.yes ?_ (Tot.pure rfl)
     simp only [bne_iff_ne, ne_eq]
     omega
   ·simp only [e, Option.bind_none, Sum.elim_inl]
    exact Tot.pure rfl
theorem sameBytes_l4 (a b : List Int) (hf : a.length ≤ 1000000000000) (hl : a.length = b.length) : ∀ (n i : Nat), a.length - i = n → i ≤ a.length →
  Tot (fun k => laws_sameBytes_l4 k a b (i : Int)) (fun r => (r = .inr () ∧ a.drop i = b.drop i) ∨ (r = .inl false ∧ a.drop i ≠ b.drop i)) := by
 intro n
 induction n with
 | zero =>
  intro i hd hi
  refine Tot.succ ?_
  simp only [laws_sameBytes_l4]
  refine Tot.ndec (by omega) (Tot.pure (.inl ⟨rfl, ?_⟩))
  rw [List.drop_of_length_le (by omega), List.drop_of_length_le (by omega)]
 | succ n ih =>
  intro i hd hi
  have h1 : i < a.length := by omega
  refine Tot.succ ?_
  simp only [laws_sameBytes_l4]
  refine Tot.dec (by omega) (Tot.dec (by omega) (Tot.dec (by omega) (Tot.dec (by omega) (Tot.dec (by omega) ?_))))
  rw [show Int.toNat (i : Int) = i from Int.toNat_natCast i, w64 (n := (i : Int) + 1) (by omega) (by omega), drop_getD h1, drop_getD (l := b) (p := i) (by omega)]
  refine Tot.ite (fun h => Tot.pure (.inr ⟨rfl, ?_⟩)) (fun h => ?_)
  ·intro e
   injection e with e _
   rw [e] at h
   simp at h
  ·have e : a.getD i 0 = b.getD i 0 := by simpa using h
   refine (ih (i + 1) (by omega) (by omega)).mono ?_
   rintro r (⟨rfl, h⟩ | ⟨rfl, h⟩)
   ·exact .inl ⟨rfl, by rw [e, h]⟩
   ·refine .inr ⟨rfl, fun q => h ?_⟩
    injection q
theorem sameBytes_tot (a b : List Int) (hf : a.length ≤ 1000000000000) : Tot (fun k => laws_sameBytes k a b) (fun r => r = decide (a = b)) := by
 unfold laws_sameBytes
 refine Tot.ite (fun h => Tot.pure ?_) (fun h => ?_)
 ·have : a ≠ b := fun e => by subst e; simp at h
  rw [decide_eq_false this]
 ·have hl : a.length = b.length := by
   have : (a.length : Int) = b.length := by simpa using h
   omega
  refine Tot.bind (sameBytes_l4 a b hf hl _ 0 rfl (Nat.zero_le _)) ?_
  rintro r (⟨rfl, h⟩ | ⟨rfl, h⟩)
  ·rw [List.drop_zero, List.drop_zero] at h
   rw [decide_eq_true h]
   exact Tot.pure rfl
  ·rw [List.drop_zero, List.drop_zero] at h
   rw [decide_eq_false h]
   exact Tot.pure rfl
end Go.Proofs.Ytehkignjdbkeiaa.Vf
end
section
set_option linter.unusedVariables false
namespace Go.Proofs.Ytehkignjdbkeiaa.Vf
open Go
theorem drawn_short : ∀ s ∈ drawnNames, Short s ∧ nameOk s = true := by
 intro s hs
 simp only [drawnNames, List.mem_cons, List.not_mem_nil, or_false] at hs
 rcases hs with rfl | rfl | rfl | rfl | rfl | rfl <;> exact ⟨by unfold Short; decide, by decide⟩
theorem rowIn_ok {x : Row} (h : RowIn x) : rowOk x = true := by
 obtain ⟨h1, ⟨t0, t1, s0, s1, n0, n1⟩, h3, h4, h5⟩ := h
 unfold rowOk stampOk
 rw [(drawn_short x.1 h1).2, inR_iff.2 ⟨t0, t1⟩, inR_iff.2 ⟨s0, s1⟩, inR_iff.2 ⟨n0, n1⟩, inR_iff.2 ⟨h3, by omega⟩]
 cases hd : x.2.2.1 with
 | false => rfl
 | true => rw [h5 hd]; rfl
theorem l11Any_short (c : Cur) (hc : CurOk c) : Tot (fun k => spec_l11Any k c) (fun r => CurOk r.2 ∧ r.1.length ≤ 6 ∧ AllShort r.1) := by
 unfold spec_l11Any
 refine Tot.bind (l11Draw_tot c hc) (fun r hr => ?_)
 obtain ⟨k1, hr1, hl⟩ := hr
 have hsh : AllShort r.1 := fun q hq => (drawn_short q.1 (hr1.2 q hq).1).1
 obtain ⟨x, c', e, _, _, _, k2⟩ := l1Below_ok r.2 k1 8 (by decide)
 refine Tot.bind (Tot.of (Q := fun r => r = (x, c')) e rfl) ?_
 rintro y rfl
 refine Tot.ite (fun _ => ?_) (fun _ => ?_)
 ·refine Tot.bind (l11One_tot c' k2) (fun z hz => ?_)
  refine Tot.ble (by simp only [List.length_cons, List.length_nil]; omega) (Tot.pure ⟨hz.2, ?_, ?_⟩)
  ·show (r.1 ++ [z.1]).length ≤ 6
   simp only [List.length_append, List.length_cons, List.length_nil]
   omega
  ·intro q hq
   rcases List.mem_append.1 hq with hq | hq
   ·exact hsh q hq
   ·simp only [List.mem_singleton] at hq
    subst hq
    exact (drawn_short _ hz.1.1).1
 ·refine Tot.ite (fun _ => ?_) (fun _ => Tot.pure ⟨k2, by show r.1.length ≤ 6; omega, hsh⟩)
  refine Tot.dite (fun h => ?_) (fun h => Tot.pure ⟨k2, by show r.1.length ≤ 6; omega, hsh⟩)
  obtain ⟨v, c3, e3, _, k3⟩ := l1Int_ok c' k2 [(-1), 201, 200] (by decide) (by decide)
  refine Tot.bind (Tot.of (Q := fun r => r = (v, c3)) e3 rfl) ?_
  rintro z rfl
  refine Tot.dec (by omega) (Tot.pure ⟨k3, ?_, ?_⟩)
  ·show (List.set r.1 _ _).length ≤ 6
   rw [List.length_set]
   omega
  ·intro q hq
   rcases List.mem_or_eq_of_mem_set hq with hq | rfl
   ·exact hsh q hq
   ·have hpos : Int.toNat 0 < r.1.length := by show 0 < _; omega
    have h1 : Short (r.1.getD (Int.toNat 0) row0).1 := hsh _ (getD_mem' (d := row0) hpos)
    exact h1
end Go.Proofs.Ytehkignjdbkeiaa.Vf
end
section
set_option linter.unusedVariables false
set_option linter.unusedSimpArgs false
namespace Go.Proofs.Ytehkignjdbkeiaa.Vf
open Go
abbrev Nmd := ByteArray × List Int
abbrev Dsk := List Nmd × List Nmd
def nmd0 : Nmd := ((⟨#[]⟩ : ByteArray), [])
def NFew (l : List Nmd) : Prop := l.length ≤ 1000000000000 ∧ ∀ x ∈ l, x.2.length ≤ 1000000000000
def DFew (d : Dsk) : Prop := NFew d.1 ∧ NFew d.2
theorem implCopyBytes (l : List Int) (h : l.length ≤ 1000000000000) : impl_copyBytes l = some l := by
 unfold impl_copyBytes
 rw [show Nat.ble ((List.length ([] : List Int) + List.length l) * 1) 140737488355328 = true from Nat.ble_eq_true_of_le (by simp only [List.length_nil]; omega)]
 rfl
theorem implCopyNamed_l3 (l : List Nmd) (hf : NFew l) : ∀ (n i : Nat) (acc : List Nmd), l.length - i = n → i ≤ l.length → acc.length ≤ i →
  Tot (fun k => impl_copyNamed_l3 k acc l (l.length : Int) (i : Int)) (fun r => r = acc ++ l.drop i) := by
 obtain ⟨h1, h2⟩ := hf
 intro n
 induction n with
 | zero =>
  intro i acc hd hi ha
  refine Tot.succ ?_
  simp only [impl_copyNamed_l3]
  refine Tot.ndec (by omega) (Tot.pure ?_)
  rw [List.drop_of_length_le (by omega), List.append_nil]
 | succ n ih =>
  intro i acc hd hi ha
  have hlt : i < l.length := by omega
  refine Tot.succ ?_
  simp only [impl_copyNamed_l3]
  refine Tot.dec (by omega) (Tot.dec (by omega) (Tot.dec (by omega) ?_))
  rw [show Int.toNat (i : Int) = i from Int.toNat_natCast i, w64 (n := (i : Int) + 1) (by omega) (by omega), drop_cons (d := nmd0) hlt]
  have e0 : l.getD i ((⟨#[]⟩ : ByteArray), ([] : List Int)) = l.getD i nmd0 := rfl
  rw [e0]
  have hb := h2 _ (getD_mem' (d := nmd0) hlt)
  refine Tot.bind (Tot.of (Q := fun r => r = (l.getD i nmd0).2) (implCopyBytes _ hb) rfl) ?_
  rintro r rfl
  refine Tot.ble (by simp only [List.length_cons, List.length_nil]; omega) ?_
  refine (ih (i + 1) (acc ++ [l.getD i nmd0]) (by omega) (by omega) (by simp only [List.length_append, List.length_cons, List.length_nil]; omega)).mono ?_
  rintro r rfl
  rw [List.append_assoc]
  rfl
theorem implCopyNamed (l : List Nmd) (hf : NFew l) : Tot (fun k => impl_copyNamed k l) (fun r => r = l) := by
 unfold impl_copyNamed
 refine Tot.bind (implCopyNamed_l3 l hf _ 0 [] rfl (Nat.zero_le _) (Nat.zero_le _)) ?_
 intro r hr
 rw [List.drop_zero, List.nil_append] at hr
 exact Tot.pure hr
theorem implCopyDisk (d : Dsk) (hf : DFew d) : Tot (fun k => impl_copyDisk k d) (fun r => r = d) := by
 unfold impl_copyDisk
 refine Tot.bind (implCopyNamed d.1 hf.1) ?_
 rintro r rfl
 refine Tot.bind (implCopyNamed d.2 hf.2) ?_
 rintro r rfl
 exact Tot.pure rfl
def fnd (l : List Nmd) (s : ByteArray) : Option Nat := l.findIdx? (fun x => teq x.1 s)
def fndI (l : List Nmd) (s : ByteArray) : Int := match fnd l s with
 | some i => (i : Int)
 | none => -1
theorem implAt_l2 (l : List Nmd) (s : ByteArray) (hf : l.length ≤ 1000000000000) : ∀ (n i : Nat), l.length - i = n → i ≤ l.length →
  Tot (fun k => impl_at_l2 k s l (l.length : Int) (i : Int)) (fun r => r = match fnd (l.drop i) s with | some j => .inl ((i + j : Nat) : Int) | none => .inr ()) := by
 intro n
 induction n with
 | zero =>
  intro i hd hi
  refine Tot.succ ?_
  simp only [impl_at_l2]
  refine Tot.ndec (by omega) (Tot.pure ?_)
  rw [List.drop_of_length_le (by omega)]
  rfl
 | succ n ih =>
  intro i hd hi
  have hlt : i < l.length := by omega
  refine Tot.succ ?_
  simp only [impl_at_l2]
  refine Tot.dec (by omega) (Tot.dec (by omega) (Tot.dec (by omega) ?_))
  rw [show Int.toNat (i : Int) = i from Int.toNat_natCast i, w64 (n := (i : Int) + 1) (by omega) (by omega), drop_cons (d := nmd0) hlt]
  have e0 : l.getD i ((⟨#[]⟩ : ByteArray), ([] : List Int)) = l.getD i nmd0 := rfl
  rw [e0]
  have e1 : fnd (l.getD i nmd0 :: l.drop (i + 1)) s = if teq (l.getD i nmd0).1 s then some 0 else (fnd (l.drop (i + 1)) s).map (· + 1) := by
   unfold fnd
   rw [List.findIdx?_cons]
  rw [e1]
  refine Tot.ite (fun h => ?_) (fun h => ?_)
  ·have h' : teq (l.getD i nmd0).1 s = true := h
   rw [if_pos h']
   exact Tot.pure rfl
  ·have h' : ¬ (teq (l.getD i nmd0).1 s = true) := by
    have : teq (l.getD i nmd0).1 s = false := h
    rw [this]; simp
   rw [if_neg h']
   refine (ih (i + 1) (by omega) (by omega)).mono ?_
   rintro r rfl
   cases fnd (l.drop (i + 1)) s with
   | none => rfl
   | some j =>
    show Sum.inl _ = Sum.inl _
    rw [show i + 1 + j = i + (j + 1) by omega]
theorem implAt (l : List Nmd) (s : ByteArray) (hf : l.length ≤ 1000000000000) : Tot (fun k => impl_at k l s) (fun r => r = fndI l s) := by
 unfold impl_at fndI
 refine Tot.bind (implAt_l2 l s hf _ 0 rfl (Nat.zero_le _)) ?_
 rintro r rfl
 rw [List.drop_zero]
 cases fnd l s with
 | none => exact Tot.pure rfl
 | some j =>
  refine Tot.pure ?_
  rw [Nat.zero_add]
theorem fnd_lt {l : List Nmd} {s : ByteArray} {i : Nat} (h : fnd l s = some i) : i < l.length ∧ (l.getD i nmd0).1 = s := by
 unfold fnd at h
 rw [List.findIdx?_eq_some_iff_getElem] at h
 obtain ⟨h1, h2, _⟩ := h
 refine ⟨h1, ?_⟩
 rw [List.getD_eq_getElem?_getD, List.getElem?_eq_getElem h1]
 exact teq_iff.1 h2
def del (l : List Nmd) (s : ByteArray) : List Nmd := match fnd l s with
 | some i => l.take i ++ l.drop (i + 1)
 | none => l
theorem implDrop (l : List Nmd) (s : ByteArray) (hf : l.length ≤ 1000000000000) : Tot (fun k => impl_drop k l s) (fun r => r = del l s) := by
 unfold impl_drop del
 refine Tot.bind (implAt l s hf) ?_
 rintro r rfl
 unfold fndI
 cases h : fnd l s with
 | none => exact Tot.dec (by decide) (Tot.pure rfl)
 | some i =>
  have hl := (fnd_lt h).1
  dsimp only
  refine Tot.ndec (by omega) (Tot.dec (by omega) (Tot.dec (by omega) ?_))
  rw [w64 (n := (i : Int) + 1) (by omega) (by omega), show Int.toNat (i : Int) = i from Int.toNat_natCast i, show Int.toNat ((i : Int) + 1) = i + 1 by omega]
  refine Tot.ble (by simp only [List.length_nil, List.length_take]; omega) ?_
  refine Tot.dec (by omega) (Tot.dec (by omega) (Tot.ble (by simp only [List.length_append, List.length_nil, List.length_take, List.length_drop]; omega) (Tot.pure rfl)))
end Go.Proofs.Ytehkignjdbkeiaa.Vf
end
