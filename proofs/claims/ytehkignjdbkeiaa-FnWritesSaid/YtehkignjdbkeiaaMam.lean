import Derived.Test.YtehkignjdbkeiaaMal
import Derived.Laws.StructEq
section
set_option linter.unusedVariables false
set_option linter.unusedSimpArgs false
namespace Go.Proofs.Ytehkignjdbkeiaa.Vf
open Go
theorem bl_irrefl : ∀ (a : List UInt8), Op.bytesLess a a = false
 | [] => rfl
 | a :: l => by simp [Op.bytesLess, bl_irrefl l]
theorem bl_trans : ∀ (a b c : List UInt8), Op.bytesLess a b = true → Op.bytesLess b c = true → Op.bytesLess a c = true
 | _, [], _, h, _ => by simp [Op.bytesLess] at h
 | _, _ :: _, [], _, h => by simp [Op.bytesLess] at h
 | [], _ :: _, _ :: _, _, _ => rfl
 | a :: x, b :: y, c :: z, h1, h2 => by
  simp only [Op.bytesLess, Bool.or_eq_true, Bool.and_eq_true, decide_eq_true_eq, beq_iff_eq] at h1 h2 ⊢
  rcases h1 with h1 | ⟨rfl, h1⟩
  ·rcases h2 with h2 | ⟨rfl, h2⟩
   ·exact .inl (UInt8.lt_trans h1 h2)
   ·exact .inl h1
  ·rcases h2 with h2 | ⟨rfl, h2⟩
   ·exact .inl h2
   ·exact .inr ⟨rfl, bl_trans x y z h1 h2⟩
theorem bl_tri : ∀ (a b : List UInt8), Op.bytesLess a b = false → Op.bytesLess b a = false → a = b
 | [], [], _, _ => rfl
 | [], _ :: _, h, _ => by simp [Op.bytesLess] at h
 | _ :: _, [], _, h => by simp [Op.bytesLess] at h
 | a :: x, b :: y, h1, h2 => by
  simp only [Op.bytesLess, Bool.or_eq_false_iff, Bool.and_eq_false_iff, decide_eq_false_iff_not] at h1 h2
  have hab : a = b := by
   have h3 := UInt8.not_lt.1 h1.1
   have h4 := UInt8.not_lt.1 h2.1
   exact UInt8.le_antisymm h4 h3
  subst hab
  rw [bl_tri x y (h1.2.resolve_left (by simp)) (h2.2.resolve_left (by simp))]
def tlt (a b : ByteArray) : Bool := Op.bytesLess a.toList b.toList
def teq (a b : ByteArray) : Bool := a.toList == b.toList
theorem toList_inj {a b : ByteArray} (h : a.toList = b.toList) : a = b := by
 rw [ByteArray.toList_eq, ByteArray.toList_eq] at h
 obtain ⟨⟨x⟩⟩ := a
 obtain ⟨⟨y⟩⟩ := b
 simp only at h
 rw [h]
theorem teq_iff {a b : ByteArray} : teq a b = true ↔ a = b := by
 unfold teq
 rw [beq_iff_eq]
 exact ⟨toList_inj, fun h => by rw [h]⟩
theorem tlt_irrefl (a : ByteArray) : tlt a a = false := bl_irrefl _
theorem tlt_trans {a b c : ByteArray} (h : tlt a b = true) (h' : tlt b c = true) : tlt a c = true := bl_trans _ _ _ h h'
theorem tlt_tri {a b : ByteArray} (h : tlt a b = false) (h' : tlt b a = false) : a = b := toList_inj (bl_tri _ _ h h')
theorem tlt_asymm {a b : ByteArray} (h : tlt a b = true) : tlt b a = false := by
 cases hb : tlt b a with
 | false => rfl
 | true =>
  have := tlt_trans h hb
  rw [tlt_irrefl] at this
  cases this
def sle (a b : Stp) : Bool := cond (a.1 != b.1) (decide (a.1 < b.1)) (cond (a.2.1 != b.2.1) (decide (a.2.1 < b.2.1)) (decide (a.2.2 < b.2.2)))
def rless (a b : Row) : Bool := cond (!((a.2.1.1 == b.2.1.1) && ((a.2.1.2.1 == b.2.1.2.1) && (a.2.1.2.2 == b.2.1.2.2)))) (sle a.2.1 b.2.1) (cond (!(a.2.2.1 == b.2.2.1)) b.2.2.1 (decide (a.2.2.2 < b.2.2.2)))
theorem drop_cons {α : Type} {l : List α} {i : Nat} {d : α} (h : i < l.length) : l.drop i = l.getD i d :: l.drop (i + 1) := by
 rw [List.drop_eq_getElem_cons h, List.getD_eq_getElem?_getD, List.getElem?_eq_getElem h]
 rfl
end Go.Proofs.Ytehkignjdbkeiaa.Vf
end

section
set_option linter.unusedVariables false
set_option linter.unusedSimpArgs false
namespace Go.Proofs.Ytehkignjdbkeiaa.Vf
open Go
end Go.Proofs.Ytehkignjdbkeiaa.Vf
end

section
set_option linter.unusedVariables false
set_option linter.unusedSimpArgs false
namespace Go.Proofs.Ytehkignjdbkeiaa.Vf
open Go
def inR (n lo hi : Int) : Bool := decide (n ≥ lo) && decide (n ≤ hi)
theorem implIn (n lo hi : Int) : impl_in n lo hi = some (inR n lo hi) := by
 unfold impl_in inR
 cases decide (n ≥ lo) <;> rfl
theorem specIn (n lo hi : Int) : spec_l1In n lo hi = some (inR n lo hi) := by
 unfold spec_l1In inR
 cases decide (n ≥ lo) <;> rfl
theorem inR_iff {n lo hi : Int} : inR n lo hi = true ↔ lo ≤ n ∧ n ≤ hi := by
 unfold inR
 simp
def charOk (c : Int) : Bool := inR c 97 122 || (inR c 48 57 || (!(c != 45) || (!(c != 95) || !(c != 47))))
def Short (s : ByteArray) : Prop := s.size ≤ 4611686018427387904
theorem size_toList (s : ByteArray) : s.data.toList.length = s.size := Array.length_toList
theorem bt_bounds (s : ByteArray) (i : Int) : 0 ≤ bt s i ∧ bt s i ≤ 255 := by
 unfold bt
 have := (s.data.toList.getD i.toNat 0).toNat_lt
 omega
theorem bt_at (s : ByteArray) (i : Nat) (h : i < s.size) : bt s (i : Int) = ((s.data.toList[i]'(by rw [size_toList]; exact h)).toNat : Int) := by
 unfold bt
 rw [Int.toNat_natCast, List.getD_eq_getElem?_getD, List.getElem?_eq_getElem (by rw [size_toList]; exact h)]
 rfl
def bOk (b : UInt8) : Bool := charOk (b.toNat : Int)
theorem implName_l2 (s : ByteArray) (hs : Short s) : ∀ (n i : Nat), s.size - i = n → i ≤ s.size →
  Tot (fun k => impl_NameOk_l2 k s (i : Int)) (fun r => r = bif (s.data.toList.drop i).all bOk then .inr s else .inl false) := by
 unfold Short at hs
 have hsz := size_toList s
 intro n
 induction n with
 | zero =>
  intro i hn hi
  refine Tot.succ ?_
  simp only [impl_NameOk_l2]
  refine Tot.ndec (by omega) (Tot.pure ?_)
  rw [List.drop_of_length_le (by omega)]
  rfl
 | succ n ih =>
  intro i hn hi
  have hlt : i < s.size := by omega
  refine Tot.succ ?_
  simp only [impl_NameOk_l2]
  refine Tot.dec (by omega) (Tot.dec (by omega) (Tot.dec (by omega) ?_))
  rw [w64 (n := (i : Int) + 1) (by omega) (by omega)]
  have hb : bOk (s.data.toList[i]'(by omega)) = charOk (bt s (i : Int)) := by rw [bt_at s i hlt]; rfl
  rw [List.drop_eq_getElem_cons (by omega), List.all_cons, hb]
  generalize bt s (i : Int) = c
  have h1 := ih (i + 1) (by omega) (by omega)
  have e : (((i + 1 : Nat)) : Int) = (i : Int) + 1 := by omega
  rw [e] at h1
  cases hc : charOk c with
  | true =>
   rw [Bool.true_and]
   refine h1.mono (fun r hr => hr) |> fun h => ?_
   obtain ⟨r, K, h2, h3⟩ := h
   refine ⟨r, K, fun k hk => ?_, h3⟩
   rw [← h2 k hk]
   unfold charOk inR at hc
   revert hc
   cases decide (c ≥ 97) <;> cases decide (c ≤ 122) <;> cases decide (c ≥ 48) <;> cases decide (c ≤ 57) <;> cases (c != 45) <;> cases (c != 95) <;> cases (c != 47) <;> first | (intro _; rfl) | (intro hc; cases hc)
  | false =>
   rw [Bool.false_and]
   refine ⟨.inl false, 0, fun k _ => ?_, rfl⟩
   unfold charOk inR at hc
   revert hc
   cases decide (c ≥ 97) <;> cases decide (c ≤ 122) <;> cases decide (c ≥ 48) <;> cases decide (c ≤ 57) <;> cases (c != 45) <;> cases (c != 95) <;> cases (c != 47) <;> first | (intro _; rfl) | (intro hc; cases hc)
theorem specName_l2 (s : ByteArray) (hs : Short s) : ∀ (n i : Nat), s.size - i = n → i ≤ s.size →
  Tot (fun k => spec_NameOk_l2 k s (i : Int)) (fun r => r = bif (s.data.toList.drop i).all bOk then .inr s else .inl false) := by
 unfold Short at hs
 have hsz := size_toList s
 intro n
 induction n with
 | zero =>
  intro i hn hi
  refine Tot.succ ?_
  simp only [spec_NameOk_l2]
  refine Tot.ndec (by omega) (Tot.pure ?_)
  rw [List.drop_of_length_le (by omega)]
  rfl
 | succ n ih =>
  intro i hn hi
  have hlt : i < s.size := by omega
  have hbb := bt_bounds s (i : Int)
  refine Tot.succ ?_
  simp only [spec_NameOk_l2]
  refine Tot.dec (by omega) (Tot.dec (by omega) (Tot.dec (by omega) ?_))
  rw [w64 (n := (i : Int) + 1) (by omega) (by omega), w64 (n := bt s (i : Int)) (by omega) (by omega)]
  have hb : bOk (s.data.toList[i]'(by omega)) = charOk (bt s (i : Int)) := by rw [bt_at s i hlt]; rfl
  rw [List.drop_eq_getElem_cons (by omega), List.all_cons, hb]
  generalize bt s (i : Int) = c
  have h1 := ih (i + 1) (by omega) (by omega)
  have e : (((i + 1 : Nat)) : Int) = (i : Int) + 1 := by omega
  rw [e] at h1
  simp only [specIn, Option.bind_some]
  cases hc : charOk c with
  | true =>
   rw [Bool.true_and]
   obtain ⟨r, K, h2, h3⟩ := h1
   refine ⟨r, K, fun k hk => ?_, h3⟩
   rw [← h2 k hk]
   unfold charOk at hc
   revert hc
   cases inR c 97 122 <;> cases inR c 48 57 <;> cases (c != 45) <;> cases (c != 95) <;> cases (c != 47) <;> first | (intro _; rfl) | (intro hc; cases hc)
  | false =>
   rw [Bool.false_and]
   refine ⟨.inl false, 0, fun k _ => ?_, rfl⟩
   unfold charOk at hc
   revert hc
   cases inR c 97 122 <;> cases inR c 48 57 <;> cases (c != 45) <;> cases (c != 95) <;> cases (c != 47) <;> first | (intro _; rfl) | (intro hc; cases hc)
def nameOk (s : ByteArray) : Bool := s.data.toList.all bOk && inR (s.size : Int) 1 20
theorem implName (s : ByteArray) (hs : Short s) : Tot (fun k => impl_NameOk k s) (fun r => r = nameOk s) := by
 unfold impl_NameOk nameOk
 refine Tot.bind (implName_l2 s hs _ 0 rfl (Nat.zero_le _)) ?_
 rintro r rfl
 rw [List.drop_zero]
 cases s.data.toList.all bOk with
 | true => exact Tot.of (a := inR (s.size : Int) 1 20) (by simp only [cond_true, Sum.elim_inr, implIn, Option.bind_some]) (by rw [Bool.true_and])
 | false => exact Tot.pure rfl
theorem specName (s : ByteArray) (hs : Short s) : Tot (fun k => spec_NameOk k s) (fun r => r = nameOk s) := by
 unfold spec_NameOk nameOk
 refine Tot.bind (specName_l2 s hs _ 0 rfl (Nat.zero_le _)) ?_
 rintro r rfl
 rw [List.drop_zero]
 cases s.data.toList.all bOk with
 | true => exact Tot.of (a := inR (s.size : Int) 1 20) (by simp only [cond_true, Sum.elim_inr, specIn, Option.bind_some]) (by rw [Bool.true_and])
 | false => exact Tot.pure rfl
def stampOk (s : Stp) : Bool := inR s.1 0 1000000000 && (inR s.2.1 0 1000000 && inR s.2.2 0 20)
theorem specStamp (s : Stp) : spec_StampOk s = some (stampOk s) := by
 unfold spec_StampOk stampOk
 simp only [specIn, Option.bind_some]
 cases inR s.1 0 1000000000 <;> cases inR s.2.1 0 1000000 <;> rfl
theorem getD_mem' {α : Type} {l : List α} {i : Nat} {d : α} (h1 : i < l.length) : l.getD i d ∈ l := by
 rw [List.getD_eq_getElem?_getD, List.getElem?_eq_getElem h1]
 exact List.getElem_mem h1
def mx (a b : Row) : Row := bif rless a b then b else a
end Go.Proofs.Ytehkignjdbkeiaa.Vf
end

section
set_option linter.unusedVariables false
set_option linter.unusedSimpArgs false
namespace Go.Proofs.Ytehkignjdbkeiaa.Vf
open Go
def encF : Nat → Nat → List Int
 | 0, n => [(n : Int)]
 | f + 1, n => if n ≤ 127 then [(n : Int)] else ((n % 128 + 128 : Nat) : Int) :: encF f (n / 128)
def encN (n : Nat) : List Int := encF 4 n
theorem encF_le : ∀ (f n : Nat), (encF f n).length ≤ f + 1 ∧ 0 < (encF f n).length
 | 0, n => by simp [encF]
 | f + 1, n => by
  unfold encF
  split
  ·simp
  ·have := encF_le f (n / 128)
   simp only [List.length_cons]
   omega
theorem pow128_le (i : Nat) (hi : i ≤ 5) : 128 ^ i ≤ 34359738368 := by
 have := Nat.pow_le_pow_right (show 0 < 128 by decide) hi
 simpa using this
theorem ofInt_nat (n : Nat) (h : n < 18446744073709551616) : (BitVec.ofInt (IntKind.bits .i64) (n : Int)).toNat = n := by
 rw [BitVec.toNat_ofInt]
 show ((n : Int) % ((2 ^ 64 : Nat) : Int)).toNat = n
 rw [Int.emod_eq_of_lt (by omega) (by omega)]
 exact Int.toNat_natCast n
theorem and127 (n : Nat) (h : n < 9223372036854775808) : IntKind.wrap .i64 ((BitVec.ofInt (IntKind.bits .i64) (n : Int) &&& BitVec.ofInt (IntKind.bits .i64) 127).toNat) = ((n % 128 : Nat) : Int) := by
 rw [BitVec.toNat_and, ofInt_nat n (by omega), show (BitVec.ofInt (IntKind.bits .i64) 127).toNat = 127 from by decide, show (127 : Nat) = 2 ^ 7 - 1 from rfl, Nat.and_two_pow_sub_one_eq_mod]
 exact w64 (by omega) (by omega)
theorem or_shift (a m i : Nat) (ha : a < 128 ^ i) (hm : m < 128) (hi : i < 5) : IntKind.wrap .i64 ((BitVec.ofInt (IntKind.bits .i64) (a : Int) ||| BitVec.ofInt (IntKind.bits .i64) ((m * 128 ^ i : Nat) : Int)).toNat) = ((a + m * 128 ^ i : Nat) : Int) := by
 have hp := pow128_le i (by omega)
 have hmul : m * 128 ^ i ≤ 127 * 34359738368 := Nat.mul_le_mul (by omega) hp
 rw [BitVec.toNat_or, ofInt_nat a (by omega), ofInt_nat _ (by omega), Nat.or_comm]
 have e : (128 : Nat) ^ i = 2 ^ (7 * i) := by rw [Nat.pow_mul]
 have h2 := Nat.two_pow_add_eq_or_of_lt (i := 7 * i) (b := a) (by rw [← e]; exact ha) m
 rw [← e, Nat.mul_comm] at h2
 rw [← h2, Nat.add_comm]
 exact w64 (by omega) (by omega)
theorem drop_getD {l : List Int} {p : Nat} (h : p < l.length) : l.drop p = l.getD p 0 :: l.drop (p + 1) := drop_cons h
end Go.Proofs.Ytehkignjdbkeiaa.Vf
end

section
set_option linter.unusedVariables false
set_option linter.unusedSimpArgs false
namespace Go.Proofs.Ytehkignjdbkeiaa.Vf
open Go
def clampN (n : Int) : Nat := (max 0 (min n 1000000000)).toNat
theorem clampN_le (n : Int) : clampN n ≤ 1000000000 := by unfold clampN; omega
theorem u8_low (n : Nat) (h : n ≤ 255) : IntKind.wrap .u8 (n : Int) = (n : Int) := by
 rw [IntKind.wrap_u8]
 omega
theorem specAdd_l6 : ∀ (f n : Nat) (out : List Int), n < 128 ^ (f + 1) → f ≤ 4 → out.length + f ≤ 1000000000010 →
  Tot (fun k => spec_PutNum_l6 k (n : Int) out) (fun r => ∃ m : Nat, r.1 = (m : Int) ∧ m ≤ 127 ∧ r.2 ++ [(m : Int)] = out ++ encF f n ∧ r.2.length ≤ out.length + f) := by
 intro f
 induction f with
 | zero =>
  intro n out hn hf hl
  refine Tot.succ ?_
  simp only [spec_PutNum_l6]
  have : n < 128 := by simpa using hn
  exact Tot.ndec (by omega) (Tot.pure ⟨n, rfl, by omega, rfl, by simp⟩)
 | succ f ih =>
  intro n out hn hf hl
  refine Tot.succ ?_
  simp only [spec_PutNum_l6]
  refine Tot.dite (fun h => ?_) (fun h => ?_)
  ·have hn2 : n / 128 < 128 ^ (f + 1) := by rw [Nat.pow_succ] at hn; omega
   have hn3 : n < 4398046511104 := by
    have := pow128_le (f + 1) (by omega)
    rw [Nat.pow_succ] at hn
    omega
   have e1 : IntKind.wrap .i64 ((BitVec.ofInt (IntKind.bits .i64) ((n % 128 : Nat) : Int) ||| BitVec.ofInt (IntKind.bits .i64) 128).toNat) = ((n % 128 + 128 : Nat) : Int) := by
    have := or_shift (n % 128) 1 1 (by omega) (by omega) (by omega)
    exact this
   have e2 : Int.fdiv (n : Int) (2 ^ (min (Int.toNat 7) (IntKind.bits .i64))) = ((n / 128 : Nat) : Int) := by
    have : (2 : Int) ^ (min (Int.toNat 7) (IntKind.bits .i64)) = 128 := by decide
    rw [this, Int.fdiv_eq_ediv_of_nonneg _ (by omega)]
    omega
   rw [and127 n (by omega), e1, e2, u8_low _ (by omega)]
   refine Tot.ble (by simp only [List.length_cons, List.length_nil]; omega) ?_
   refine (ih (n / 128) (out ++ [((n % 128 + 128 : Nat) : Int)]) hn2 (by omega) (by simp only [List.length_append, List.length_cons, List.length_nil]; omega)).mono ?_
   rintro r ⟨m, h1, h2, h3, h4⟩
   refine ⟨m, h1, h2, ?_, by simp only [List.length_append, List.length_cons, List.length_nil] at h4; omega⟩
   rw [h3, List.append_assoc]
   congr 1
   conv => { rhs; unfold encF }
   rw [if_neg (by omega)]
   rfl
  ·refine Tot.pure ⟨n, rfl, by omega, ?_, by show out.length ≤ out.length + (f + 1); omega⟩
   unfold encF
   rw [if_pos (by omega)]
theorem specAdd (out : List Int) (n : Int) (hl : out.length ≤ 1000000000000) : Tot (fun k => spec_PutNum k out n) (fun r => r = out ++ encN (clampN n)) := by
 have hc := clampN_le n
 have fin : Tot (fun k => (spec_PutNum_l6 k ((clampN n : Nat) : Int) (([] : List Int) ++ out)).bind fun r1 => cond (Nat.ble ((List.length r1.2 + List.length [IntKind.wrap .u8 r1.1]) * 1) 140737488355328) (some (r1.2 ++ [IntKind.wrap .u8 r1.1])) none) (fun r => r = out ++ encN (clampN n)) := by
  rw [List.nil_append]
  refine Tot.bind (specAdd_l6 4 (clampN n) out (by omega) (by omega) (by omega)) ?_
  rintro r ⟨m, h1, h2, h3, h4⟩
  rw [h1, u8_low m (by omega)]
  exact Tot.ble (by simp only [List.length_cons, List.length_nil]; omega) (Tot.pure h3)
 unfold spec_PutNum
 refine Tot.ble (by simp only [List.length_nil]; omega) ?_
 refine Tot.dite (fun h1 => ?_) (fun h1 => ?_)
 ·refine Tot.ndec (by omega) ?_
  have e : ((clampN n : Nat) : Int) = 1000000000 := by unfold clampN; omega
  rw [e] at fin
  exact fin
 ·refine Tot.dite (fun h2 => ?_) (fun h2 => ?_)
  ·have e : ((clampN n : Nat) : Int) = 0 := by unfold clampN; omega
   rw [e] at fin
   exact fin
  ·have e : ((clampN n : Nat) : Int) = n := by unfold clampN; omega
   rw [e] at fin
   exact fin
theorem encN_len (n : Nat) : (encN n).length ≤ 5 ∧ 0 < (encN n).length := encF_le 4 n
theorem bytesOf_len (s : ByteArray) : (bytesOf s).length = s.size := by
 unfold bytesOf
 rw [List.length_map]
 exact Array.length_toList
theorem strOf_size (l : List Int) : (strOf l).size = l.length := by
 unfold strOf
 show (List.map _ l).toArray.size = l.length
 simp
def txt (s : ByteArray) : List Int := encN (clampN (s.size : Int)) ++ bytesOf s
theorem specText (out : List Int) (s : ByteArray) (hl : out.length ≤ 1000000000000) (hs : s.size ≤ 1000000000000) : Tot (fun k => spec_PutText k out s) (fun r => r = out ++ txt s) := by
 unfold spec_PutText txt
 refine Tot.bind (specAdd out _ hl) ?_
 rintro r rfl
 have := (encN_len (clampN (s.size : Int))).1
 refine Tot.ble (by simp only [List.length_append]; omega) (Tot.pure ?_)
 rw [List.append_assoc]
end Go.Proofs.Ytehkignjdbkeiaa.Vf
end

section
set_option linter.unusedVariables false
set_option linter.unusedSimpArgs false
namespace Go.Proofs.Ytehkignjdbkeiaa.Vf
open Go
def bitN (b : Bool) : Int := bif b then 1 else 0
theorem specBool (b : Bool) : spec_l8Bool b = some (bitN b) := by cases b <;> rfl
def encS (s : Stp) : List Int := encN (clampN s.1) ++ (encN (clampN s.2.1) ++ encN (clampN s.2.2))
theorem encS_len (s : Stp) : (encS s).length ≤ 15 := by
 unfold encS
 have h1 := (encN_len (clampN s.1)).1
 have h2 := (encN_len (clampN s.2.1)).1
 have h3 := (encN_len (clampN s.2.2)).1
 simp only [List.length_append]
 omega
theorem specStampB (out : List Int) (s : Stp) (hl : out.length ≤ 999999999900) : Tot (fun k => spec_l8Stamp k out s) (fun r => r = out ++ encS s) := by
 have h1 := (encN_len (clampN s.1)).1
 have h2 := (encN_len (clampN s.2.1)).1
 unfold spec_l8Stamp encS
 refine Tot.bind (specAdd out s.1 (by omega)) ?_
 rintro r rfl
 refine Tot.bind (specAdd _ s.2.1 (by simp only [List.length_append]; omega)) ?_
 rintro r rfl
 refine Tot.bind (specAdd _ s.2.2 (by simp only [List.length_append]; omega)) ?_
 rintro r rfl
 exact Tot.pure (by simp only [List.append_assoc])
theorem nameOk_size {s : ByteArray} (h : nameOk s = true) : 1 ≤ s.size ∧ s.size ≤ 20 := by
 unfold nameOk at h
 rw [Bool.and_eq_true, inR_iff] at h
 omega
theorem txt_len (s : ByteArray) : (txt s).length ≤ 5 + s.size := by
 have h1 := (encN_len (clampN (s.size : Int))).1
 unfold txt
 simp only [List.length_append, bytesOf_len]
 omega
end Go.Proofs.Ytehkignjdbkeiaa.Vf
end

section
set_option linter.unusedVariables false
set_option linter.unusedSimpArgs false
namespace Go.Proofs.Ytehkignjdbkeiaa.Vf
open Go
theorem sameBytes_l4 (a b : List Int) (hf : a.length ≤ 1000000000000) (hl : a.length = b.length) : ∀ (n i : Nat), a.length - i = n → i ≤ a.length →
  Tot (fun k => laws_sameBytes_l4 k a b (i : Int)) (fun r => (r = .inr () ∧ a.drop i = b.drop i) ∨ (r = .inl false ∧ a.drop i ≠ b.drop i)) := by
 intro n
 induction n with
 | zero =>
  intro i hd hi
  refine Tot.succ ?_
  simp only [laws_sameBytes_l4]
  refine Tot.ndec (by omega) (Tot.pure (.inl ⟨rfl, ?_⟩))
  rw [List.drop_of_length_le (by omega), List.drop_of_length_le (by omega)]
 | succ n ih =>
  intro i hd hi
  have h1 : i < a.length := by omega
  refine Tot.succ ?_
  simp only [laws_sameBytes_l4]
  refine Tot.dec (by omega) (Tot.dec (by omega) (Tot.dec (by omega) (Tot.dec (by omega) (Tot.dec (by omega) ?_))))
  rw [show Int.toNat (i : Int) = i from Int.toNat_natCast i, w64 (n := (i : Int) + 1) (by omega) (by omega), drop_getD h1, drop_getD (l := b) (p := i) (by omega)]
  refine Tot.ite (fun h => Tot.pure (.inr ⟨rfl, ?_⟩)) (fun h => ?_)
  ·intro e
   injection e with e _
   rw [e] at h
   simp at h
  ·have e : a.getD i 0 = b.getD i 0 := by simpa using h
   refine (ih (i + 1) (by omega) (by omega)).mono ?_
   rintro r (⟨rfl, h⟩ | ⟨rfl, h⟩)
   ·exact .inl ⟨rfl, by rw [e, h]⟩
   ·refine .inr ⟨rfl, fun q => h ?_⟩
    injection q
theorem sameBytes_tot (a b : List Int) (hf : a.length ≤ 1000000000000) : Tot (fun k => laws_sameBytes k a b) (fun r => r = decide (a = b)) := by
 unfold laws_sameBytes
 refine Tot.ite (fun h => Tot.pure ?_) (fun h => ?_)
 ·have : a ≠ b := fun e => by subst e; simp at h
  rw [decide_eq_false this]
 ·have hl : a.length = b.length := by
   have : (a.length : Int) = b.length := by simpa using h
   omega
  refine Tot.bind (sameBytes_l4 a b hf hl _ 0 rfl (Nat.zero_le _)) ?_
  rintro r (⟨rfl, h⟩ | ⟨rfl, h⟩)
  ·rw [List.drop_zero, List.drop_zero] at h
   rw [decide_eq_true h]
   exact Tot.pure rfl
  ·rw [List.drop_zero, List.drop_zero] at h
   rw [decide_eq_false h]
   exact Tot.pure rfl
end Go.Proofs.Ytehkignjdbkeiaa.Vf
end

section
set_option linter.unusedVariables false
namespace Go.Proofs.Ytehkignjdbkeiaa.Vf
open Go
theorem drawn_short : ∀ s ∈ drawnNames, Short s ∧ nameOk s = true := by
 intro s hs
 simp only [drawnNames, List.mem_cons, List.not_mem_nil, or_false] at hs
 rcases hs with rfl | rfl | rfl | rfl | rfl | rfl <;> exact ⟨by unfold Short; decide, by decide⟩
end Go.Proofs.Ytehkignjdbkeiaa.Vf
end

section
set_option linter.unusedVariables false
set_option linter.unusedSimpArgs false
namespace Go.Proofs.Ytehkignjdbkeiaa.Vf
open Go
abbrev Nmd := ByteArray × List Int
abbrev Dsk := List Nmd × List Nmd
def nmd0 : Nmd := ((⟨#[]⟩ : ByteArray), [])
def NFew (l : List Nmd) : Prop := l.length ≤ 1000000000000 ∧ ∀ x ∈ l, x.2.length ≤ 1000000000000
def DFew (d : Dsk) : Prop := NFew d.1 ∧ NFew d.2
theorem implCopyBytes (l : List Int) (h : l.length ≤ 1000000000000) : impl_copyBytes l = some l := by
 unfold impl_copyBytes
 rw [show Nat.ble ((List.length ([] : List Int) + List.length l) * 1) 140737488355328 = true from Nat.ble_eq_true_of_le (by simp only [List.length_nil]; omega)]
 rfl
theorem implCopyNamed_l3 (l : List Nmd) (hf : NFew l) : ∀ (n i : Nat) (acc : List Nmd), l.length - i = n → i ≤ l.length → acc.length ≤ i →
  Tot (fun k => impl_copyNamed_l3 k acc l (l.length : Int) (i : Int)) (fun r => r = acc ++ l.drop i) := by
 obtain ⟨h1, h2⟩ := hf
 intro n
 induction n with
 | zero =>
  intro i acc hd hi ha
  refine Tot.succ ?_
  simp only [impl_copyNamed_l3]
  refine Tot.ndec (by omega) (Tot.pure ?_)
  rw [List.drop_of_length_le (by omega), List.append_nil]
 | succ n ih =>
  intro i acc hd hi ha
  have hlt : i < l.length := by omega
  refine Tot.succ ?_
  simp only [impl_copyNamed_l3]
  refine Tot.dec (by omega) (Tot.dec (by omega) (Tot.dec (by omega) ?_))
  rw [show Int.toNat (i : Int) = i from Int.toNat_natCast i, w64 (n := (i : Int) + 1) (by omega) (by omega), drop_cons (d := nmd0) hlt]
  have e0 : l.getD i ((⟨#[]⟩ : ByteArray), ([] : List Int)) = l.getD i nmd0 := rfl
  rw [e0]
  have hb := h2 _ (getD_mem' (d := nmd0) hlt)
  refine Tot.bind (Tot.of (Q := fun r => r = (l.getD i nmd0).2) (implCopyBytes _ hb) rfl) ?_
  rintro r rfl
  refine Tot.ble (by simp only [List.length_cons, List.length_nil]; omega) ?_
  refine (ih (i + 1) (acc ++ [l.getD i nmd0]) (by omega) (by omega) (by simp only [List.length_append, List.length_cons, List.length_nil]; omega)).mono ?_
  rintro r rfl
  rw [List.append_assoc]
  rfl
theorem implCopyNamed (l : List Nmd) (hf : NFew l) : Tot (fun k => impl_copyNamed k l) (fun r => r = l) := by
 unfold impl_copyNamed
 refine Tot.bind (implCopyNamed_l3 l hf _ 0 [] rfl (Nat.zero_le _) (Nat.zero_le _)) ?_
 intro r hr
 rw [List.drop_zero, List.nil_append] at hr
 exact Tot.pure hr
theorem implCopyDisk (d : Dsk) (hf : DFew d) : Tot (fun k => impl_copyDisk k d) (fun r => r = d) := by
 unfold impl_copyDisk
 refine Tot.bind (implCopyNamed d.1 hf.1) ?_
 rintro r rfl
 refine Tot.bind (implCopyNamed d.2 hf.2) ?_
 rintro r rfl
 exact Tot.pure rfl
def fnd (l : List Nmd) (s : ByteArray) : Option Nat := l.findIdx? (fun x => teq x.1 s)
def fndI (l : List Nmd) (s : ByteArray) : Int := match fnd l s with
 | some i => (i : Int)
 | none => -1
theorem implAt_l2 (l : List Nmd) (s : ByteArray) (hf : l.length ≤ 1000000000000) : ∀ (n i : Nat), l.length - i = n → i ≤ l.length →
  Tot (fun k => impl_at_l2 k s l (l.length : Int) (i : Int)) (fun r => r = match fnd (l.drop i) s with | some j => .inl ((i + j : Nat) : Int) | none => .inr ()) := by
 intro n
 induction n with
 | zero =>
  intro i hd hi
  refine Tot.succ ?_
  simp only [impl_at_l2]
  refine Tot.ndec (by omega) (Tot.pure ?_)
  rw [List.drop_of_length_le (by omega)]
  rfl
 | succ n ih =>
  intro i hd hi
  have hlt : i < l.length := by omega
  refine Tot.succ ?_
  simp only [impl_at_l2]
  refine Tot.dec (by omega) (Tot.dec (by omega) (Tot.dec (by omega) ?_))
  rw [show Int.toNat (i : Int) = i from Int.toNat_natCast i, w64 (n := (i : Int) + 1) (by omega) (by omega), drop_cons (d := nmd0) hlt]
  have e0 : l.getD i ((⟨#[]⟩ : ByteArray), ([] : List Int)) = l.getD i nmd0 := rfl
  rw [e0]
  have e1 : fnd (l.getD i nmd0 :: l.drop (i + 1)) s = if teq (l.getD i nmd0).1 s then some 0 else (fnd (l.drop (i + 1)) s).map (· + 1) := by
   unfold fnd
   rw [List.findIdx?_cons]
  rw [e1]
  refine Tot.ite (fun h => ?_) (fun h => ?_)
  ·have h' : teq (l.getD i nmd0).1 s = true := h
   rw [if_pos h']
   exact Tot.pure rfl
  ·have h' : ¬ (teq (l.getD i nmd0).1 s = true) := by
    have : teq (l.getD i nmd0).1 s = false := h
    rw [this]; simp
   rw [if_neg h']
   refine (ih (i + 1) (by omega) (by omega)).mono ?_
   rintro r rfl
   cases fnd (l.drop (i + 1)) s with
   | none => rfl
   | some j =>
    show Sum.inl _ = Sum.inl _
    rw [show i + 1 + j = i + (j + 1) by omega]
theorem implAt (l : List Nmd) (s : ByteArray) (hf : l.length ≤ 1000000000000) : Tot (fun k => impl_at k l s) (fun r => r = fndI l s) := by
 unfold impl_at fndI
 refine Tot.bind (implAt_l2 l s hf _ 0 rfl (Nat.zero_le _)) ?_
 rintro r rfl
 rw [List.drop_zero]
 cases fnd l s with
 | none => exact Tot.pure rfl
 | some j =>
  refine Tot.pure ?_
  rw [Nat.zero_add]
theorem fnd_lt {l : List Nmd} {s : ByteArray} {i : Nat} (h : fnd l s = some i) : i < l.length ∧ (l.getD i nmd0).1 = s := by
 unfold fnd at h
 rw [List.findIdx?_eq_some_iff_getElem] at h
 obtain ⟨h1, h2, _⟩ := h
 refine ⟨h1, ?_⟩
 rw [List.getD_eq_getElem?_getD, List.getElem?_eq_getElem h1]
 exact teq_iff.1 h2
def del (l : List Nmd) (s : ByteArray) : List Nmd := match fnd l s with
 | some i => l.take i ++ l.drop (i + 1)
 | none => l
theorem implDrop (l : List Nmd) (s : ByteArray) (hf : l.length ≤ 1000000000000) : Tot (fun k => impl_drop k l s) (fun r => r = del l s) := by
 unfold impl_drop del
 refine Tot.bind (implAt l s hf) ?_
 rintro r rfl
 unfold fndI
 cases h : fnd l s with
 | none => exact Tot.dec (by decide) (Tot.pure rfl)
 | some i =>
  have hl := (fnd_lt h).1
  dsimp only
  refine Tot.ndec (by omega) (Tot.dec (by omega) (Tot.dec (by omega) ?_))
  rw [w64 (n := (i : Int) + 1) (by omega) (by omega), show Int.toNat (i : Int) = i from Int.toNat_natCast i, show Int.toNat ((i : Int) + 1) = i + 1 by omega]
  refine Tot.ble (by simp only [List.length_nil, List.length_take]; omega) ?_
  refine Tot.dec (by omega) (Tot.dec (by omega) (Tot.ble (by simp only [List.length_append, List.length_nil, List.length_take, List.length_drop]; omega) (Tot.pure rfl)))
end Go.Proofs.Ytehkignjdbkeiaa.Vf
end

section
set_option linter.unusedVariables false
set_option linter.unusedSimpArgs false
namespace Go.Proofs.Ytehkignjdbkeiaa.Vf
open Go
def nOk (x : Nmd) : Bool := nameOk x.1 && !(decide ((x.2.length : Int) > 400))
def chn : Option ByteArray → List Nmd → Bool
 | _, [] => true
 | none, r :: l => nOk r && chn (some r.1) l
 | some q, r :: l => nOk r && (tlt q r.1 && chn (some r.1) l)
def namedsOk (l : List Nmd) : Bool := chn none l && decide ((l.length : Int) ≤ 60)
def diskOk (d : Dsk) : Bool := namedsOk d.1 && namedsOk d.2
def NShort (l : List Nmd) : Prop := ∀ x ∈ l, Short x.1
def DShort (d : Dsk) : Prop := NShort d.1 ∧ NShort d.2
def prevM (l : List Nmd) : Nat → Option ByteArray
 | 0 => none
 | i + 1 => some (l.getD i nmd0).1
theorem chn_drop (l : List Nmd) (i : Nat) (h : i < l.length) : chn (prevM l i) (l.drop i) = (nOk (l.getD i nmd0) && (bif decide (0 < i) then tlt (l.getD (i - 1) nmd0).1 (l.getD i nmd0).1 else true) && chn (prevM l (i + 1)) (l.drop (i + 1))) := by
 rw [drop_cons (d := nmd0) h]
 cases i with
 | zero => simp [prevM, chn]
 | succ i => simp [prevM, chn, Bool.and_assoc]
theorem implNamed_l2 (l : List Nmd) (hf : l.length ≤ 1000000000000) (hs : NShort l) : ∀ (n i : Nat), l.length - i = n → i ≤ l.length →
  Tot (fun k => impl_namedOk_l2 k l l (l.length : Int) (i : Int)) (fun r => r = bif chn (prevM l i) (l.drop i) then .inr l else .inl false) := by
 intro n
 induction n with
 | zero =>
  intro i hn hi
  refine Tot.succ ?_
  simp only [impl_namedOk_l2]
  refine Tot.ndec (by omega) (Tot.pure ?_)
  rw [List.drop_of_length_le (by omega)]
  cases prevM l i <;> rfl
 | succ n ih =>
  intro i hn hi
  have hlt : i < l.length := by omega
  refine Tot.succ ?_
  simp only [impl_namedOk_l2]
  refine Tot.dec (by omega) (Tot.dec (by omega) (Tot.dec (by omega) ?_))
  rw [show Int.toNat (i : Int) = i from Int.toNat_natCast i, w64 (n := (i : Int) + 1) (by omega) (by omega), chn_drop l i hlt]
  have h1 := ih (i + 1) (by omega) (by omega)
  have e : (((i + 1 : Nat)) : Int) = (i : Int) + 1 := by omega
  rw [e] at h1
  have e0 : l.getD i ((⟨#[]⟩ : ByteArray), ([] : List Int)) = l.getD i nmd0 := rfl
  rw [e0]
  refine Tot.bind (implName (l.getD i nmd0).1 (hs _ (getD_mem' hlt))) ?_
  rintro b rfl
  cases hb : nameOk (l.getD i nmd0).1 with
  | false => exact Tot.yes rfl (Tot.pure (by rw [show nOk (l.getD i nmd0) = false by unfold nOk; rw [hb]; rfl]; rfl))
  | true =>
   refine Tot.no rfl ?_
   refine Tot.dite (fun h4 => Tot.pure (by rw [show nOk (l.getD i nmd0) = false by unfold nOk; rw [decide_eq_true h4, hb]; rfl]; rfl)) (fun h4 => ?_)
   have hnk : nOk (l.getD i nmd0) = true := by unfold nOk; rw [hb, decide_eq_false h4]; rfl
   rw [hnk, Bool.true_and]
   refine Tot.dite (fun h0 => ?_) (fun h0 => ?_)
   ·rw [w64 (n := (i : Int) - 1) (by omega) (by omega)]
    refine Tot.dec (by omega) (Tot.dec (by omega) ?_)
    rw [show Int.toNat ((i : Int) - 1) = i - 1 by omega, decide_eq_true (show 0 < i by omega), cond_true]
    refine Tot.ite (fun ht => ?_) (fun ht => ?_)
    ·have ht' : (!(tlt (l.getD (i - 1) nmd0).1 (l.getD i nmd0).1)) = true := ht
     rw [Bool.not_eq_true'] at ht'
     exact Tot.pure (by rw [ht']; rfl)
    ·have ht' : (!(tlt (l.getD (i - 1) nmd0).1 (l.getD i nmd0).1)) = false := ht
     rw [Bool.not_eq_false'] at ht'
     rw [ht', Bool.true_and]
     exact h1
   ·rw [decide_eq_false (show ¬ 0 < i by omega), cond_false, Bool.true_and]
    exact h1
theorem specNamed_l2 (l : List Nmd) (hf : l.length ≤ 1000000000000) (hs : NShort l) : ∀ (n i : Nat), l.length - i = n → i ≤ l.length →
  Tot (fun k => spec_l9List_l2 k l (i : Int)) (fun r => r = bif chn (prevM l i) (l.drop i) then .inr l else .inl false) := by
 intro n
 induction n with
 | zero =>
  intro i hn hi
  refine Tot.succ ?_
  simp only [spec_l9List_l2]
  refine Tot.ndec (by omega) (Tot.pure ?_)
  rw [List.drop_of_length_le (by omega)]
  cases prevM l i <;> rfl
 | succ n ih =>
  intro i hn hi
  have hlt : i < l.length := by omega
  refine Tot.succ ?_
  simp only [spec_l9List_l2]
  refine Tot.dec (by omega) (Tot.dec (by omega) (Tot.dec (by omega) ?_))
  rw [show Int.toNat (i : Int) = i from Int.toNat_natCast i, w64 (n := (i : Int) + 1) (by omega) (by omega), chn_drop l i hlt]
  have h1 := ih (i + 1) (by omega) (by omega)
  have e : (((i + 1 : Nat)) : Int) = (i : Int) + 1 := by omega
  rw [e] at h1
  have e0 : l.getD i ((⟨#[]⟩ : ByteArray), ([] : List Int)) = l.getD i nmd0 := rfl
  rw [e0]
  refine Tot.bind (specName (l.getD i nmd0).1 (hs _ (getD_mem' hlt))) ?_
  rintro b rfl
  cases hb : nameOk (l.getD i nmd0).1 with
  | false => exact Tot.yes rfl (Tot.pure (by rw [show nOk (l.getD i nmd0) = false by unfold nOk; rw [hb]; rfl]; rfl))
  | true =>
   refine Tot.no rfl (Tot.dec (by omega) (Tot.dec (by omega) ?_))
   refine Tot.dite (fun h4 => Tot.pure (by rw [show nOk (l.getD i nmd0) = false by unfold nOk; rw [decide_eq_true h4, hb]; rfl]; rfl)) (fun h4 => ?_)
   have hnk : nOk (l.getD i nmd0) = true := by unfold nOk; rw [hb, decide_eq_false h4]; rfl
   rw [hnk, Bool.true_and]
   refine Tot.dite (fun h0 => ?_) (fun h0 => ?_)
   ·rw [w64 (n := (i : Int) - 1) (by omega) (by omega)]
    refine Tot.dec (by omega) (Tot.dec (by omega) (Tot.dec (by omega) (Tot.dec (by omega) ?_)))
    rw [show Int.toNat ((i : Int) - 1) = i - 1 by omega, decide_eq_true (show 0 < i by omega), cond_true]
    refine Tot.ite (fun ht => ?_) (fun ht => ?_)
    ·have ht' : (!(tlt (l.getD (i - 1) nmd0).1 (l.getD i nmd0).1)) = true := ht
     rw [Bool.not_eq_true'] at ht'
     exact Tot.pure (by rw [ht']; rfl)
    ·have ht' : (!(tlt (l.getD (i - 1) nmd0).1 (l.getD i nmd0).1)) = false := ht
     rw [Bool.not_eq_false'] at ht'
     rw [ht', Bool.true_and]
     exact h1
   ·rw [decide_eq_false (show ¬ 0 < i by omega), cond_false, Bool.true_and]
    exact h1
theorem implNamed (l : List Nmd) (hf : l.length ≤ 1000000000000) (hs : NShort l) : Tot (fun k => impl_namedOk k l) (fun r => r = namedsOk l) := by
 unfold impl_namedOk namedsOk
 refine Tot.bind (implNamed_l2 l hf hs _ 0 rfl (Nat.zero_le _)) ?_
 rintro r rfl
 rw [List.drop_zero]
 show Tot _ (fun r => r = (chn none l && _))
 cases hc : chn none l with
 | true => rw [show chn (prevM l 0) l = true from hc]; exact Tot.pure (by rw [Bool.true_and])
 | false => rw [show chn (prevM l 0) l = false from hc]; exact Tot.pure rfl
theorem specNamed (l : List Nmd) (hf : l.length ≤ 1000000000000) (hs : NShort l) : Tot (fun k => spec_l9List k l) (fun r => r = namedsOk l) := by
 unfold spec_l9List namedsOk
 refine Tot.bind (specNamed_l2 l hf hs _ 0 rfl (Nat.zero_le _)) ?_
 rintro r rfl
 rw [List.drop_zero]
 show Tot _ (fun r => r = (chn none l && _))
 cases hc : chn none l with
 | true => rw [show chn (prevM l 0) l = true from hc]; exact Tot.pure (by rw [Bool.true_and])
 | false => rw [show chn (prevM l 0) l = false from hc]; exact Tot.pure rfl
theorem implDisk (d : Dsk) (hf : DFew d) (hs : DShort d) : Tot (fun k => impl_DiskOk k d) (fun r => r = diskOk d) := by
 unfold impl_DiskOk diskOk
 refine Tot.bind (implNamed d.1 hf.1.1 hs.1) ?_
 rintro r rfl
 cases h : namedsOk d.1 with
 | false => exact Tot.no rfl (Tot.pure rfl)
 | true =>
  refine Tot.yes rfl (Tot.bind (implNamed d.2 hf.2.1 hs.2) ?_)
  rintro r rfl
  exact Tot.pure (by rw [Bool.true_and])
def plc (l : List Nmd) (s : ByteArray) : Nat := (l.takeWhile (fun y => tlt y.1 s)).length
def ins (l : List Nmd) (x : Nmd) : List Nmd := l.take (plc l x.1) ++ [x] ++ l.drop (plc l x.1)
theorem plc_le (l : List Nmd) (s : ByteArray) : plc l s ≤ l.length := (List.takeWhile_sublist _).length_le
theorem implPutN_l2 (l : List Nmd) (s : ByteArray) (b : List Int) (hf : l.length ≤ 1000000000000) : ∀ (n i : Nat), l.length - i = n → i ≤ l.length →
  Tot (fun k => impl_put_l2 k l (i : Int) s b) (fun r => r = (l, ((i + plc (l.drop i) s : Nat) : Int), s, b)) := by
 intro n
 induction n with
 | zero =>
  intro i hd hi
  refine Tot.succ ?_
  simp only [impl_put_l2]
  refine Tot.ndec (by omega) (Tot.pure ?_)
  rw [List.drop_of_length_le (by omega)]
  rfl
 | succ n ih =>
  intro i hd hi
  have hlt : i < l.length := by omega
  refine Tot.succ ?_
  simp only [impl_put_l2]
  refine Tot.dec (by omega) (Tot.dec (by omega) (Tot.dec (by omega) ?_))
  rw [show Int.toNat (i : Int) = i from Int.toNat_natCast i, w64 (n := (i : Int) + 1) (by omega) (by omega), drop_cons (d := nmd0) hlt]
  have e0 : l.getD i ((⟨#[]⟩ : ByteArray), ([] : List Int)) = l.getD i nmd0 := rfl
  rw [e0]
  have e1 : plc (l.getD i nmd0 :: l.drop (i + 1)) s = if tlt (l.getD i nmd0).1 s then plc (l.drop (i + 1)) s + 1 else 0 := by
   unfold plc
   rw [List.takeWhile_cons]
   split <;> rfl
  rw [e1]
  refine Tot.ite (fun h => ?_) (fun h => ?_)
  ·have h' : tlt (l.getD i nmd0).1 s = true := h
   rw [if_pos h']
   refine (ih (i + 1) (by omega) (by omega)).mono ?_
   rintro r rfl
   rw [show i + 1 + plc (l.drop (i + 1)) s = i + (plc (l.drop (i + 1)) s + 1) by omega]
  ·have h' : ¬ (tlt (l.getD i nmd0).1 s = true) := by
    have : tlt (l.getD i nmd0).1 s = false := h
    rw [this]; simp
   rw [if_neg h']
   exact Tot.pure rfl
theorem implPutN (l : List Nmd) (x : Nmd) (hf : l.length ≤ 1000000000000) : Tot (fun k => impl_put k l x) (fun r => r = ins l x) := by
 unfold impl_put ins
 refine Tot.bind (implPutN_l2 l x.1 x.2 hf _ 0 rfl (Nat.zero_le _)) ?_
 intro r hr
 rw [List.drop_zero, Nat.zero_add] at hr
 subst hr
 have hp := plc_le l x.1
 dsimp only
 refine Tot.dec (by omega) (Tot.dec (by omega) ?_)
 rw [show Int.toNat ((plc l x.1 : Nat) : Int) = plc l x.1 from Int.toNat_natCast _]
 refine Tot.ble (by simp only [List.length_nil, List.length_take]; omega) ?_
 refine Tot.ble (by simp only [List.length_append, List.length_nil, List.length_take, List.length_cons]; omega) ?_
 refine Tot.dec (by omega) (Tot.dec (by omega) (Tot.ble (by simp only [List.length_append, List.length_nil, List.length_take, List.length_drop, List.length_cons]; omega) (Tot.pure ?_)))
 rw [List.nil_append]
end Go.Proofs.Ytehkignjdbkeiaa.Vf
end

section
set_option linter.unusedVariables false
set_option linter.unusedSimpArgs false
namespace Go.Proofs.Ytehkignjdbkeiaa.Vf
open Go
theorem nil_ble (l : List Int) (h : l.length ≤ 1000000000000) : (List.length ([] : List Int) + l.length) * 1 ≤ 140737488355328 := by
 simp only [List.length_nil]
 omega
theorem specCopyList_l3 (l : List Nmd) (hf : NFew l) : ∀ (n i : Nat) (acc : List Nmd), l.length - i = n → i ≤ l.length → acc.length ≤ i →
  Tot (fun k => spec_l9CopyList_l3 k l acc (i : Int)) (fun r => r = acc ++ l.drop i) := by
 obtain ⟨h1, h2⟩ := hf
 intro n
 induction n with
 | zero =>
  intro i acc hd hi ha
  refine Tot.succ ?_
  simp only [spec_l9CopyList_l3]
  refine Tot.ndec (by omega) (Tot.pure ?_)
  rw [List.drop_of_length_le (by omega), List.append_nil]
 | succ n ih =>
  intro i acc hd hi ha
  have hlt : i < l.length := by omega
  refine Tot.succ ?_
  simp only [spec_l9CopyList_l3]
  refine Tot.dec (by omega) (Tot.dec (by omega) (Tot.dec (by omega) (Tot.dec (by omega) (Tot.dec (by omega) ?_))))
  rw [show Int.toNat (i : Int) = i from Int.toNat_natCast i, w64 (n := (i : Int) + 1) (by omega) (by omega), drop_cons (d := nmd0) hlt]
  have e0 : l.getD i ((⟨#[]⟩ : ByteArray), ([] : List Int)) = l.getD i nmd0 := rfl
  rw [e0]
  have hb := h2 _ (getD_mem' (d := nmd0) hlt)
  refine Tot.ble (nil_ble _ hb) (Tot.ble (by simp only [List.length_cons, List.length_nil]; omega) ?_)
  refine (ih (i + 1) (acc ++ [l.getD i nmd0]) (by omega) (by omega) (by simp only [List.length_append, List.length_cons, List.length_nil]; omega)).mono ?_
  rintro r rfl
  rw [List.append_assoc]
  rfl
theorem specCopyList (l : List Nmd) (hf : NFew l) : Tot (fun k => spec_l9CopyList k l) (fun r => r = l) := by
 unfold spec_l9CopyList
 refine Tot.bind (specCopyList_l3 l hf _ 0 [] rfl (Nat.zero_le _) (Nat.zero_le _)) ?_
 intro r hr
 rw [List.drop_zero, List.nil_append] at hr
 exact Tot.pure hr
theorem specCopy (d : Dsk) (hf : DFew d) : Tot (fun k => spec_l9Copy k d) (fun r => r = d) := by
 unfold spec_l9Copy
 refine Tot.bind (specCopyList d.1 hf.1) ?_
 rintro r rfl
 refine Tot.bind (specCopyList d.2 hf.2) ?_
 rintro r rfl
 exact Tot.pure rfl
theorem specAt_l2 (l : List Nmd) (s : ByteArray) (hf : l.length ≤ 1000000000000) : ∀ (n i : Nat), l.length - i = n → i ≤ l.length →
  Tot (fun k => spec_l9At_l2 k l s (i : Int)) (fun r => r = match fnd (l.drop i) s with | some j => .inl ((i + j : Nat) : Int) | none => .inr ()) := by
 intro n
 induction n with
 | zero =>
  intro i hd hi
  refine Tot.succ ?_
  simp only [spec_l9At_l2]
  refine Tot.ndec (by omega) (Tot.pure ?_)
  rw [List.drop_of_length_le (by omega)]
  rfl
 | succ n ih =>
  intro i hd hi
  have hlt : i < l.length := by omega
  refine Tot.succ ?_
  simp only [spec_l9At_l2]
  refine Tot.dec (by omega) (Tot.dec (by omega) (Tot.dec (by omega) ?_))
  rw [show Int.toNat (i : Int) = i from Int.toNat_natCast i, w64 (n := (i : Int) + 1) (by omega) (by omega), drop_cons (d := nmd0) hlt]
  have e0 : l.getD i ((⟨#[]⟩ : ByteArray), ([] : List Int)) = l.getD i nmd0 := rfl
  rw [e0]
  have e1 : fnd (l.getD i nmd0 :: l.drop (i + 1)) s = if teq (l.getD i nmd0).1 s then some 0 else (fnd (l.drop (i + 1)) s).map (· + 1) := by
   unfold fnd
   rw [List.findIdx?_cons]
  rw [e1]
  refine Tot.ite (fun h => ?_) (fun h => ?_)
  ·have h' : teq (l.getD i nmd0).1 s = true := h
   rw [if_pos h']
   exact Tot.pure rfl
  ·have h' : ¬ (teq (l.getD i nmd0).1 s = true) := by
    have : teq (l.getD i nmd0).1 s = false := h
    rw [this]; simp
   rw [if_neg h']
   refine (ih (i + 1) (by omega) (by omega)).mono ?_
   rintro r rfl
   cases fnd (l.drop (i + 1)) s with
   | none => rfl
   | some j =>
    show Sum.inl _ = Sum.inl _
    rw [show i + 1 + j = i + (j + 1) by omega]
theorem specAt (l : List Nmd) (s : ByteArray) (hf : l.length ≤ 1000000000000) : Tot (fun k => spec_l9At k l s) (fun r => r = fndI l s) := by
 unfold spec_l9At fndI
 refine Tot.bind (specAt_l2 l s hf _ 0 rfl (Nat.zero_le _)) ?_
 rintro r rfl
 rw [List.drop_zero]
 cases fnd l s with
 | none => exact Tot.pure rfl
 | some j =>
  refine Tot.pure ?_
  rw [Nat.zero_add]
def cut (l : List Nmd) (s : ByteArray) : List Nmd := l.filter (fun x => !(teq x.1 s))
theorem specCut_l3 (l : List Nmd) (s : ByteArray) (hf : l.length ≤ 1000000000000) : ∀ (n i : Nat) (acc : List Nmd), l.length - i = n → i ≤ l.length → acc.length ≤ i →
  Tot (fun k => spec_l9Cut_l3 k l s acc (i : Int)) (fun r => r = acc ++ cut (l.drop i) s) := by
 intro n
 induction n with
 | zero =>
  intro i acc hd hi ha
  refine Tot.succ ?_
  simp only [spec_l9Cut_l3]
  refine Tot.ndec (by omega) (Tot.pure ?_)
  rw [List.drop_of_length_le (by omega)]
  simp [cut]
 | succ n ih =>
  intro i acc hd hi ha
  have hlt : i < l.length := by omega
  refine Tot.succ ?_
  simp only [spec_l9Cut_l3]
  refine Tot.dec (by omega) (Tot.dec (by omega) (Tot.dec (by omega) ?_))
  rw [show Int.toNat (i : Int) = i from Int.toNat_natCast i, w64 (n := (i : Int) + 1) (by omega) (by omega), drop_cons (d := nmd0) hlt]
  have e0 : l.getD i ((⟨#[]⟩ : ByteArray), ([] : List Int)) = l.getD i nmd0 := rfl
  rw [e0]
  have e1 : cut (l.getD i nmd0 :: l.drop (i + 1)) s = if (!(teq (l.getD i nmd0).1 s)) = true then l.getD i nmd0 :: cut (l.drop (i + 1)) s else cut (l.drop (i + 1)) s := by
   unfold cut
   rw [List.filter_cons]
  rw [e1]
  refine Tot.ite (fun h => ?_) (fun h => ?_)
  ·have h' : (!(teq (l.getD i nmd0).1 s)) = true := h
   rw [if_pos h']
   refine Tot.dec (by omega) (Tot.dec (by omega) (Tot.ble (by simp only [List.length_cons, List.length_nil]; omega) ?_))
   refine (ih (i + 1) (acc ++ [l.getD i nmd0]) (by omega) (by omega) (by simp only [List.length_append, List.length_cons, List.length_nil]; omega)).mono ?_
   rintro r rfl
   rw [List.append_assoc]
   rfl
  ·have h' : ¬ ((!(teq (l.getD i nmd0).1 s)) = true) := by
    have : (!(teq (l.getD i nmd0).1 s)) = false := h
    rw [this]; simp
   rw [if_neg h']
   exact ih (i + 1) acc (by omega) (by omega) (by omega)
theorem specCut (l : List Nmd) (s : ByteArray) (hf : l.length ≤ 1000000000000) : Tot (fun k => spec_l9Cut k l s) (fun r => r = cut l s) := by
 unfold spec_l9Cut
 refine Tot.bind (specCut_l3 l s hf _ 0 [] rfl (Nat.zero_le _) (Nat.zero_le _)) ?_
 intro r hr
 rw [List.drop_zero, List.nil_append] at hr
 exact Tot.pure hr
theorem specDisk (d : Dsk) (hf : DFew d) (hs : DShort d) : Tot (fun k => spec_DiskOk k d) (fun r => r = diskOk d) := by
 unfold spec_DiskOk diskOk
 refine Tot.bind (specNamed d.1 hf.1.1 hs.1) ?_
 rintro r rfl
 cases h : namedsOk d.1 with
 | false => exact Tot.no rfl (Tot.pure rfl)
 | true =>
  refine Tot.yes rfl (Tot.bind (specNamed d.2 hf.2.1 hs.2) ?_)
  rintro r rfl
  exact Tot.pure (by rw [Bool.true_and])
end Go.Proofs.Ytehkignjdbkeiaa.Vf
end

section
set_option linter.unusedVariables false
set_option linter.unusedSimpArgs false
namespace Go.Proofs.Ytehkignjdbkeiaa.Vf
open Go
def rdN (l : List Nmd) (s : ByteArray) : List Int × Bool := match fnd l s with
 | some i => ((l.getD i nmd0).2, true)
 | none => ([], false)
theorem implRead (d : Dsk) (s : ByteArray) (hf : NFew d.1) : Tot (fun k => impl_ReadName k d s) (fun r => r = rdN d.1 s) := by
 unfold impl_ReadName rdN
 refine Tot.bind (implAt d.1 s hf.1) ?_
 rintro r rfl
 unfold fndI
 have hl1 := hf.1
 cases h : fnd d.1 s with
 | none => exact Tot.dec (by decide) (Tot.pure rfl)
 | some i =>
  have hl := (fnd_lt h).1
  dsimp only
  refine Tot.ndec (by omega) (Tot.dec (by omega) (Tot.dec (by omega) ?_))
  rw [show Int.toNat (i : Int) = i from Int.toNat_natCast i]
  have hb := hf.2 _ (getD_mem' (d := nmd0) hl)
  refine Tot.bind (Tot.of (Q := fun r => r = (d.1.getD i nmd0).2) (implCopyBytes _ hb) rfl) ?_
  rintro r rfl
  exact Tot.pure rfl
theorem specRead (d : Dsk) (s : ByteArray) (hf : NFew d.1) : Tot (fun k => spec_ReadName k d s) (fun r => r = rdN d.1 s) := by
 unfold spec_ReadName rdN
 refine Tot.bind (specAt d.1 s hf.1) ?_
 rintro r rfl
 unfold fndI
 have hl1 := hf.1
 cases h : fnd d.1 s with
 | none => exact Tot.dec (by decide) (Tot.pure rfl)
 | some i =>
  have hl := (fnd_lt h).1
  dsimp only
  refine Tot.ndec (by omega) (Tot.dec (by omega) (Tot.dec (by omega) ?_))
  rw [show Int.toNat (i : Int) = i from Int.toNat_natCast i]
  have hb := hf.2 _ (getD_mem' (d := nmd0) hl)
  exact Tot.ble (nil_ble _ hb) (Tot.pure rfl)
theorem sameNamed_l4 (a b : List Nmd) (hf : NFew a) (hl : a.length = b.length) : ∀ (n i : Nat), a.length - i = n → i ≤ a.length →
  Tot (fun k => laws_sameNamed_l4 k a b (i : Int)) (fun r => (r = .inr () ∧ a.drop i = b.drop i) ∨ (r = .inl false ∧ a.drop i ≠ b.drop i)) := by
 obtain ⟨hf1, hf2⟩ := hf
 intro n
 induction n with
 | zero =>
  intro i hd hi
  refine Tot.succ ?_
  simp only [laws_sameNamed_l4]
  refine Tot.ndec (by omega) (Tot.pure (.inl ⟨rfl, ?_⟩))
  rw [List.drop_of_length_le (by omega), List.drop_of_length_le (by omega)]
 | succ n ih =>
  intro i hd hi
  have h1 : i < a.length := by omega
  refine Tot.succ ?_
  simp only [laws_sameNamed_l4]
  refine Tot.dec (by omega) (Tot.dec (by omega) (Tot.dec (by omega) (Tot.dec (by omega) (Tot.dec (by omega) ?_))))
  rw [show Int.toNat (i : Int) = i from Int.toNat_natCast i, w64 (n := (i : Int) + 1) (by omega) (by omega), drop_cons (d := nmd0) h1, drop_cons (d := nmd0) (l := b) (i := i) (by omega)]
  have ea : a.getD i ((⟨#[]⟩ : ByteArray), ([] : List Int)) = a.getD i nmd0 := rfl
  have eb : b.getD i ((⟨#[]⟩ : ByteArray), ([] : List Int)) = b.getD i nmd0 := rfl
  rw [ea, eb]
  refine Tot.ite (fun h => Tot.pure (.inr ⟨rfl, ?_⟩)) (fun h => ?_)
  ·have h' : (!(teq (a.getD i nmd0).1 (b.getD i nmd0).1)) = true := h
   rw [Bool.not_eq_true'] at h'
   intro e
   injection e with e _
   rw [e, teq_iff.2 rfl] at h'
   cases h'
  ·have h' : (!(teq (a.getD i nmd0).1 (b.getD i nmd0).1)) = false := h
   rw [Bool.not_eq_false', teq_iff] at h'
   refine Tot.dec (by omega) (Tot.dec (by omega) (Tot.dec (by omega) (Tot.dec (by omega) ?_)))
   refine Tot.bind (sameBytes_tot (a.getD i nmd0).2 (b.getD i nmd0).2 (hf2 _ (getD_mem' (d := nmd0) h1))) ?_
   rintro r rfl
   by_cases hs : (a.getD i nmd0).2 = (b.getD i nmd0).2
   ·refine Tot.no (by rw [decide_eq_true hs]; rfl) ?_
    have e : a.getD i nmd0 = b.getD i nmd0 := Prod.ext h' hs
    refine (ih (i + 1) (by omega) (by omega)).mono ?_
    rintro r (⟨rfl, h⟩ | ⟨rfl, h⟩)
    ·exact .inl ⟨rfl, by rw [e, h]⟩
    ·refine .inr ⟨rfl, fun q => h ?_⟩
     injection q
   ·refine Tot.yes (by rw [decide_eq_false hs]; rfl) (Tot.pure (.inr ⟨rfl, fun e => hs ?_⟩))
    injection e with e _
    rw [e]
theorem sameNamed_tot (a b : List Nmd) (hf : NFew a) : Tot (fun k => laws_sameNamed k a b) (fun r => r = decide (a = b)) := by
 unfold laws_sameNamed
 refine Tot.ite (fun h => Tot.pure ?_) (fun h => ?_)
 ·have : a ≠ b := fun e => by subst e; simp at h
  rw [decide_eq_false this]
 ·have hl : a.length = b.length := by
   have : (a.length : Int) = b.length := by simpa using h
   omega
  refine Tot.bind (sameNamed_l4 a b hf hl _ 0 rfl (Nat.zero_le _)) ?_
  rintro r (⟨rfl, h⟩ | ⟨rfl, h⟩)
  ·rw [List.drop_zero, List.drop_zero] at h
   rw [decide_eq_true h]
   exact Tot.pure rfl
  ·rw [List.drop_zero, List.drop_zero] at h
   rw [decide_eq_false h]
   exact Tot.pure rfl
end Go.Proofs.Ytehkignjdbkeiaa.Vf
end

section
set_option linter.unusedVariables false
set_option linter.unusedSimpArgs false
namespace Go.Proofs.Ytehkignjdbkeiaa.Vf
open Go
def SortedN (l : List Nmd) : Prop := l.Pairwise (fun a b => tlt a.1 b.1 = true)
theorem chn_iff : ∀ (p : Option ByteArray) (l : List Nmd), chn p l = true ↔ SortedN l ∧ (∀ r ∈ l, nOk r = true) ∧ (∀ q, p = some q → ∀ r ∈ l, tlt q r.1 = true)
 | p, [] => by
  have : chn p [] = true := by cases p <;> rfl
  simp [this, SortedN]
 | none, r :: l => by
  simp only [chn, Bool.and_eq_true, chn_iff (some r.1) l, SortedN, List.pairwise_cons]
  constructor
  ·rintro ⟨h1, h2, h3, h4⟩
   exact ⟨⟨fun a ha => h4 _ rfl a ha, h2⟩, fun a ha => by rcases List.mem_cons.1 ha with rfl | ha; exact h1; exact h3 a ha, fun q hq => by cases hq⟩
  ·rintro ⟨⟨h1, h2⟩, h3, _⟩
   exact ⟨h3 r (by simp), h2, fun a ha => h3 a (List.mem_cons_of_mem _ ha), fun q hq a ha => by cases hq; exact h1 a ha⟩
 | some q, r :: l => by
  simp only [chn, Bool.and_eq_true, chn_iff (some r.1) l, SortedN, List.pairwise_cons]
  constructor
  ·rintro ⟨h1, h0, h2, h3, h4⟩
   refine ⟨⟨fun a ha => h4 _ rfl a ha, h2⟩, fun a ha => by rcases List.mem_cons.1 ha with rfl | ha; exact h1; exact h3 a ha, fun q' hq a ha => ?_⟩
   cases hq
   rcases List.mem_cons.1 ha with rfl | ha
   ·exact h0
   ·exact tlt_trans h0 (h4 _ rfl a ha)
  ·rintro ⟨⟨h1, h2⟩, h3, h4⟩
   exact ⟨h3 r (by simp), h4 q rfl r (by simp), h2, fun a ha => h3 a (List.mem_cons_of_mem _ ha), fun q' hq a ha => by cases hq; exact h1 a ha⟩
theorem namedsOk_iff {l : List Nmd} : namedsOk l = true ↔ SortedN l ∧ (∀ r ∈ l, nOk r = true) ∧ l.length ≤ 60 := by
 unfold namedsOk
 simp only [Bool.and_eq_true, chn_iff, decide_eq_true_eq]
 constructor
 ·rintro ⟨⟨h1, h2, _⟩, h3⟩
  exact ⟨h1, h2, by omega⟩
 ·rintro ⟨h1, h2, h3⟩
  exact ⟨⟨h1, h2, fun q hq => by cases hq⟩, by omega⟩
theorem nOk_iff {x : Nmd} : nOk x = true ↔ nameOk x.1 = true ∧ x.2.length ≤ 400 := by
 unfold nOk
 simp only [Bool.and_eq_true, Bool.not_eq_true', decide_eq_false_iff_not]
 constructor
 ·rintro ⟨h1, h2⟩; exact ⟨h1, by omega⟩
 ·rintro ⟨h1, h2⟩; exact ⟨h1, by omega⟩
theorem namedsOk_few {l : List Nmd} (h : namedsOk l = true) : NFew l ∧ NShort l := by
 obtain ⟨_, h2, h3⟩ := namedsOk_iff.1 h
 refine ⟨⟨by omega, fun x hx => by have := (nOk_iff.1 (h2 x hx)).2; omega⟩, fun x hx => ?_⟩
 have := nameOk_size (nOk_iff.1 (h2 x hx)).1
 unfold Short
 omega
theorem fnd_cons (y : Nmd) (l : List Nmd) (s : ByteArray) : fnd (y :: l) s = if teq y.1 s then some 0 else (fnd l s).map (· + 1) := by
 unfold fnd
 rw [List.findIdx?_cons]
theorem fnd_none {l : List Nmd} {s : ByteArray} : fnd l s = none ↔ ∀ x ∈ l, x.1 ≠ s := by
 unfold fnd
 rw [List.findIdx?_eq_none_iff]
 constructor
 ·intro h x hx e
  have := h x hx
  rw [teq_iff.2 e] at this
  cases this
 ·intro h x hx
  cases ht : teq x.1 s with
  | false => rfl
  | true => exact absurd (teq_iff.1 ht) (h x hx)
theorem del_cut : ∀ {l : List Nmd} {s : ByteArray}, SortedN l → del l s = cut l s
 | [], s, _ => rfl
 | y :: l, s, h => by
  have hc := List.pairwise_cons.1 h
  have ih := del_cut (l := l) (s := s) hc.2
  unfold del cut at *
  rw [fnd_cons, List.filter_cons]
  cases ht : teq y.1 s with
  | true =>
   have hno : ∀ x ∈ l, (!(teq x.1 s)) = true := fun x hx => by
    cases hx2 : teq x.1 s with
    | false => rfl
    | true =>
     have e1 := teq_iff.1 ht
     have e2 := teq_iff.1 hx2
     have := hc.1 x hx
     rw [e1, e2, tlt_irrefl] at this
     cases this
   rw [if_pos rfl, if_neg (by simp)]
   show [] ++ l = _
   rw [List.nil_append, List.filter_eq_self.2 hno]
  | false =>
   rw [if_neg (by simp), if_pos (show (!false) = true from rfl), ← ih]
   cases hf : fnd l s with
   | none => rfl
   | some i => rfl
theorem cut_sorted {l : List Nmd} {s : ByteArray} (h : SortedN l) : SortedN (cut l s) := h.sublist List.filter_sublist
theorem cut_sub {l : List Nmd} {s : ByteArray} : (cut l s).Sublist l := List.filter_sublist
theorem cut_ok {l : List Nmd} {s : ByteArray} (h : namedsOk l = true) : namedsOk (cut l s) = true := by
 obtain ⟨h1, h2, h3⟩ := namedsOk_iff.1 h
 exact namedsOk_iff.2 ⟨cut_sorted h1, fun x hx => h2 x (cut_sub.subset hx), by have := (cut_sub (l := l) (s := s)).length_le; omega⟩
theorem del_len {l : List Nmd} {s : ByteArray} {i : Nat} (h : fnd l s = some i) : (del l s).length + 1 = l.length := by
 have hl := (fnd_lt h).1
 unfold del
 rw [h]
 simp only [List.length_append, List.length_take, List.length_drop]
 omega
theorem few_sub {l m : List Nmd} (h : m.Sublist l) (hf : NFew l) : NFew m := ⟨by have := h.length_le; have := hf.1; omega, fun x hx => hf.2 x (h.subset hx)⟩
theorem short_sub {l m : List Nmd} (h : m.Sublist l) (hf : NShort l) : NShort m := fun x hx => hf x (h.subset hx)
end Go.Proofs.Ytehkignjdbkeiaa.Vf
end

section
set_option linter.unusedVariables false
set_option linter.unusedSimpArgs false
namespace Go.Proofs.Ytehkignjdbkeiaa.Vf
open Go
theorem specCrc_l7 (l : List Int) (x4 : Int) : ∀ (n : Nat) (x3 i : Int), 0 ≤ i → 8 - i = n → Tot (fun k => spec_Crc_l7 k l x3 x4 i) (fun r => r.1 = l ∧ r.2.2 = x4) := by
 intro n
 induction n with
 | zero =>
  intro x3 i h0 hn
  refine Tot.succ ?_
  simp only [spec_Crc_l7]
  exact Tot.ndec (by omega) (Tot.pure ⟨rfl, rfl⟩)
 | succ n ih =>
  intro x3 i h0 hn
  refine Tot.succ ?_
  simp only [spec_Crc_l7]
  refine Tot.dec (by omega) ?_
  rw [w64 (n := i + 1) (by omega) (by omega)]
  exact Tot.ite (fun _ => ih _ (i + 1) (by omega) (by omega)) (fun _ => ih _ (i + 1) (by omega) (by omega))
theorem specCrc_l3 (l : List Int) (hl : l.length ≤ 1000000000000) : ∀ (n i : Nat) (x3 : Int), l.length - i = n → i ≤ l.length → Tot (fun k => spec_Crc_l3 k l x3 (i : Int)) (fun _ => True) := by
 intro n
 induction n with
 | zero =>
  intro i x3 hd hi
  refine Tot.succ ?_
  simp only [spec_Crc_l3]
  exact Tot.ndec (by omega) (Tot.pure trivial)
 | succ n ih =>
  intro i x3 hd hi
  refine Tot.succ ?_
  simp only [spec_Crc_l3]
  refine Tot.dec (by omega) (Tot.dec (by omega) (Tot.dec (by omega) ?_))
  refine Tot.bind (specCrc_l7 l (i : Int) 8 _ 0 (by decide) (by decide)) ?_
  rintro ⟨a, b, c⟩ ⟨h1, h2⟩
  simp only at h1 h2
  subst h1 h2
  dsimp only
  rw [w64 (n := (i : Int) + 1) (by omega) (by omega)]
  exact ih (i + 1) b (by omega) (by omega)
theorem specCrc_tot (l : List Int) (hl : l.length ≤ 1000000000000) : Tot (fun k => spec_Crc k l) (fun _ => True) := by
 unfold spec_Crc
 refine Tot.bind (specCrc_l3 l hl _ 0 _ rfl (Nat.zero_le _)) (fun r _ => Tot.pure trivial)
theorem specPutFile_tot (f : Fil) (hf : FileIn f) : Tot (fun k => spec_PutFile k f) (fun r => r.length ≤ 1000) := by
 unfold spec_PutFile
 have hfo : ∃ b, spec_FileOk f = some b := by
  unfold spec_FileOk
  rw [specStamp]
  simp only [Option.bind_some]
  cases stampOk f.1 <;> cases decide ((List.length f.2.2 : Int) ≤ 200) <;> cases f.2.1 <;> exact ⟨_, rfl⟩
 obtain ⟨b, hb⟩ := hfo
 have hl : f.2.2.length ≤ 9 := by have := hf.2.2.1; omega
 refine Tot.bind (Tot.of (Q := fun r => r = b) hb rfl) ?_
 rintro r rfl
 refine Tot.ite (fun _ => Tot.pure (by simp)) (fun _ => ?_)
 refine Tot.bind (specStampB [] f.1 (by simp)) ?_
 rintro a rfl
 refine Tot.bind (Tot.of (Q := fun r => r = bitN f.2.1) (specBool _) rfl) ?_
 rintro c rfl
 have h1 := encS_len f.1
 refine Tot.bind (specAdd _ _ (by simp only [List.length_append, List.length_nil]; omega)) ?_
 rintro d rfl
 have h2 := (encN_len (clampN (bitN f.2.1))).1
 have h3 : (strOf f.2.2).size = f.2.2.length := strOf_size _
 refine Tot.bind (specText _ _ (by simp only [List.length_append, List.length_nil]; omega) (by omega)) ?_
 rintro e rfl
 have h4 := txt_len (strOf f.2.2)
 refine Tot.bind (specCrc_tot _ (by simp only [List.length_append, List.length_nil]; omega)) (fun q _ => ?_)
 refine Tot.ble (by simp only [List.length_append, List.length_cons, List.length_nil]; omega) (Tot.pure ?_)
 simp only [List.length_append, List.length_cons, List.length_nil]
 omega
theorem specEnds (d out : Dsk) (s : ByteArray) (hd : DFew d ∧ DShort d) (ho : DFew out ∧ DShort out) (hs : Short s) : Tot (fun k => spec_l9Ends k d out s) (fun r => r = bif diskOk d && (nameOk s && diskOk out) then (out, true) else (d, false)) := by
 unfold spec_l9Ends
 refine Tot.bind (specDisk d hd.1 hd.2) ?_
 rintro b rfl
 cases h1 : diskOk d with
 | false =>
  refine Tot.yes rfl (Tot.bind (specCopy d hd.1) ?_)
  rintro r rfl
  exact Tot.pure rfl
 | true =>
  refine Tot.no rfl (Tot.bind (specName s hs) ?_)
  rintro b rfl
  cases h2 : nameOk s with
  | false =>
   refine Tot.yes rfl (Tot.bind (specCopy d hd.1) ?_)
   rintro r rfl
   exact Tot.pure rfl
  | true =>
   refine Tot.no rfl (Tot.bind (specDisk out ho.1 ho.2) ?_)
   rintro b rfl
   cases h3 : diskOk out with
   | false =>
    refine Tot.yes rfl (Tot.bind (specCopy d hd.1) ?_)
    rintro r rfl
    exact Tot.pure rfl
   | true => exact Tot.no rfl (Tot.pure rfl)
theorem specRemove (d : Dsk) (s : ByteArray) (hd : DFew d ∧ DShort d) (hs : Short s) : Tot (fun k => spec_RemoveName k d s) (fun r => r = bif (fnd d.1 s).isSome && (diskOk d && (nameOk s && diskOk (cut d.1 s, d.2))) then ((cut d.1 s, d.2), true) else (d, false)) := by
 unfold spec_RemoveName
 refine Tot.bind (specCopy d hd.1) ?_
 rintro r rfl
 refine Tot.bind (specAt r.1 s hd.1.1.1) ?_
 rintro i rfl
 unfold fndI
 cases h : fnd r.1 s with
 | none => exact Tot.dec (by decide) (Tot.pure rfl)
 | some i =>
  dsimp only
  refine Tot.ndec (by omega) (Tot.bind (specCut r.1 s hd.1.1.1) ?_)
  rintro c rfl
  refine Tot.bind (specEnds r (cut r.1 s, r.2) s hd ⟨⟨few_sub cut_sub hd.1.1, hd.1.2⟩, short_sub cut_sub hd.2.1, hd.2.2⟩ hs) ?_
  rintro e rfl
  exact Tot.pure rfl
end Go.Proofs.Ytehkignjdbkeiaa.Vf
end

section
set_option linter.unusedVariables false
set_option linter.unusedSimpArgs false
namespace Go.Proofs.Ytehkignjdbkeiaa.Vf
open Go
def ptl (x : Nmd) : Bool → List Nmd → List Nmd
 | p, [] => bif p then [] else [x]
 | p, y :: l => (bif !p && !(tlt y.1 x.1) then [x] else []) ++ ((bif !(teq y.1 x.1) then [y] else []) ++ ptl x (p || !(tlt y.1 x.1)) l)
theorem specPutN_l5 (l : List Nmd) (s : ByteArray) (b : List Int) (hf : l.length ≤ 1000000000000) : ∀ (n i : Nat) (acc : List Nmd) (p : Bool), l.length - i = n → i ≤ l.length → acc.length ≤ 2 * i →
  Tot (fun k => spec_l9Put_l5 k l s acc p (i : Int) s b) (fun r => r.1 ++ (bif r.2.1 then [] else [(s, b)]) = acc ++ ptl (s, b) p (l.drop i) ∧ r.2.2 = (s, b) ∧ r.1.length ≤ 2 * l.length) := by
 intro n
 induction n with
 | zero =>
  intro i acc p hd hi ha
  refine Tot.succ ?_
  simp only [spec_l9Put_l5]
  refine Tot.ndec (by omega) (Tot.pure ?_)
  rw [List.drop_of_length_le (by omega)]
  exact ⟨rfl, rfl, by dsimp only; omega⟩
 | succ n ih =>
  intro i acc p hd hi ha
  have hlt : i < l.length := by omega
  refine Tot.succ ?_
  simp only [spec_l9Put_l5]
  refine Tot.dec (by omega) ?_
  rw [show Int.toNat (i : Int) = i from Int.toNat_natCast i, w64 (n := (i : Int) + 1) (by omega) (by omega), drop_cons (d := nmd0) hlt]
  have e0 : l.getD i ((⟨#[]⟩ : ByteArray), ([] : List Int)) = l.getD i nmd0 := rfl
  rw [e0]
  have step : ∀ (ac : List Nmd) (q : Bool), ac.length ≤ 2 * i + 1 → Tot (fun k => cond (decide ((0 : Int) ≤ i)) (cond (decide ((i : Int) < (List.length l : Int))) (cond (!((l.getD i nmd0).1.toList == s.toList)) (cond (decide ((0 : Int) ≤ i)) (cond (decide ((i : Int) < (List.length l : Int))) (cond (Nat.ble ((List.length ac + List.length [l.getD i nmd0]) * 40) 140737488355328) (spec_l9Put_l5 k l s (ac ++ [l.getD i nmd0]) q ((i : Int) + 1) s b) none) none) none) (spec_l9Put_l5 k l s ac q ((i : Int) + 1) s b)) none) none)
    (fun r => r.1 ++ (bif r.2.1 then [] else [(s, b)]) = ac ++ ((bif !(teq (l.getD i nmd0).1 s) then [l.getD i nmd0] else []) ++ ptl (s, b) q (l.drop (i + 1))) ∧ r.2.2 = (s, b) ∧ r.1.length ≤ 2 * l.length) := by
   intro ac q hac
   refine Tot.dec (by omega) (Tot.dec (by omega) (Tot.ite (fun h => ?_) (fun h => ?_)))
   ·have h' : (!(teq (l.getD i nmd0).1 s)) = true := h
    rw [h']
    refine Tot.dec (by omega) (Tot.dec (by omega) (Tot.ble (by simp only [List.length_cons, List.length_nil]; omega) ?_))
    refine (ih (i + 1) (ac ++ [l.getD i nmd0]) q (by omega) (by omega) (by simp only [List.length_append, List.length_cons, List.length_nil]; omega)).mono ?_
    rintro r ⟨h1, h2, h3⟩
    refine ⟨?_, h2, h3⟩
    rw [h1, List.append_assoc]
    rfl
   ·have h' : (!(teq (l.getD i nmd0).1 s)) = false := h
    rw [h']
    exact ih (i + 1) ac q (by omega) (by omega) (by omega)
  cases p with
  | true =>
   refine Tot.no rfl ?_
   refine (step acc true (by omega)).mono ?_
   rintro r ⟨h1, h2, h3⟩
   exact ⟨h1, h2, h3⟩
  | false =>
   refine Tot.yes rfl (Tot.dec (by omega) (Tot.dec (by omega) (Tot.ite (fun h => ?_) (fun h => ?_))))
   ·have h' : (!(tlt (l.getD i nmd0).1 s)) = true := h
    refine Tot.ble (by simp only [List.length_cons, List.length_nil]; omega) ?_
    refine (step (acc ++ [(s, b)]) true (by simp only [List.length_append, List.length_cons, List.length_nil]; omega)).mono ?_
    rintro r ⟨h1, h2, h3⟩
    refine ⟨?_, h2, h3⟩
    rw [h1]
    simp only [ptl, h', Bool.not_false, Bool.and_self, Bool.false_or, cond_true, List.append_assoc]
   ·have h' : (!(tlt (l.getD i nmd0).1 s)) = false := h
    refine (step acc false (by omega)).mono ?_
    rintro r ⟨h1, h2, h3⟩
    refine ⟨?_, h2, h3⟩
    rw [h1]
    simp only [ptl, h', Bool.not_false, Bool.and_false, Bool.false_or, cond_false, List.nil_append]
theorem specPutN (l : List Nmd) (s : ByteArray) (b : List Int) (hf : l.length ≤ 1000000000000) (hb : b.length ≤ 1000000000000) : Tot (fun k => spec_l9Put k l s b) (fun r => r = ptl (s, b) false l) := by
 unfold spec_l9Put
 refine Tot.ble (nil_ble b hb) ?_
 rw [List.nil_append]
 refine Tot.bind (specPutN_l5 l s b hf _ 0 [] false rfl (Nat.zero_le _) (Nat.zero_le _)) ?_
 rintro ⟨r, q, x, y⟩ ⟨h1, h2, h3⟩
 rw [List.drop_zero, List.nil_append] at h1
 dsimp only at h1 h2 h3
 dsimp only
 cases q with
 | true =>
  refine Tot.no rfl (Tot.pure ?_)
  rw [← h1]; simp
 | false =>
  refine Tot.yes rfl (Tot.ble (by simp only [List.length_cons, List.length_nil]; omega) (Tot.pure ?_))
  rw [← h1]
  obtain ⟨rfl, rfl⟩ := Prod.mk.inj h2
  rfl
theorem ptl_mem (x : Nmd) : ∀ (p : Bool) (l : List Nmd), ∀ y ∈ ptl x p l, y ∈ l ∨ y = x := by
 intro p l
 induction l generalizing p with
 | nil => intro y hy; cases p <;> simp_all [ptl]
 | cons a l ih =>
  intro y hy
  simp only [ptl, List.mem_append] at hy
  rcases hy with hy | hy | hy
  ·revert hy; cases (!p && !(tlt a.1 x.1)) <;> simp_all
  ·revert hy; cases (!(teq a.1 x.1)) <;> simp_all
  ·rcases ih _ y hy with h | h
   ·exact Or.inl (List.mem_cons_of_mem _ h)
   ·exact Or.inr h
theorem ptl_len (x : Nmd) : ∀ (p : Bool) (l : List Nmd), (ptl x p l).length ≤ l.length + (bif p then 0 else 1) := by
 intro p l
 induction l generalizing p with
 | nil => cases p <;> simp [ptl]
 | cons a l ih =>
  simp only [ptl, List.length_append, List.length_cons]
  have := ih (p || !(tlt a.1 x.1))
  revert this
  cases p <;> cases tlt a.1 x.1 <;> cases teq a.1 x.1 <;> simp <;> omega
theorem ptl_true (x : Nmd) : ∀ (l : List Nmd), ptl x true l = cut l x.1 := by
 intro l
 induction l with
 | nil => rfl
 | cons a l ih =>
  simp only [ptl, Bool.not_true, Bool.false_and, cond_false, List.nil_append, Bool.true_or, ih, cut, List.filter_cons]
  cases teq a.1 x.1 <;> simp
theorem ptl_sorted (x : Nmd) : ∀ {l : List Nmd}, SortedN l → ptl x false l = ins (cut l x.1) x := by
 intro l
 induction l with
 | nil => intro _; rfl
 | cons a l ih =>
  intro h
  have hl : SortedN l := (List.pairwise_cons.1 h).2
  have ha := (List.pairwise_cons.1 h).1
  simp only [ptl, Bool.not_false, Bool.true_and, Bool.false_or]
  cases ht : tlt a.1 x.1 with
  | true =>
   have he : teq a.1 x.1 = false := by
    cases hq : teq a.1 x.1 with
    | false => rfl
    | true => rw [(teq_iff.1 hq), tlt_irrefl] at ht; cases ht
   simp only [he, Bool.not_true, Bool.not_false, cond_false, cond_true, List.nil_append, ih hl, cut, List.filter_cons, if_true]
   unfold ins plc
   rw [List.takeWhile_cons, if_pos ht]
   rfl
  | false =>
   have hc : plc (cut (a :: l) x.1) x.1 = 0 := by
    unfold plc cut
    rw [List.length_eq_zero_iff]
    rw [List.filter_cons]
    cases hq : teq a.1 x.1 with
    | false => rw [Bool.not_false, if_pos rfl, List.takeWhile_cons, if_neg (by rw [ht]; simp)]
    | true =>
     have hx := (teq_iff.1 hq)
     simp only [Bool.not_true, Bool.false_eq_true, if_false]
     cases hf : l.filter (fun y => !(teq y.1 x.1)) with
     | nil => rfl
     | cons b m =>
      have hb : b ∈ l := by
       have : b ∈ l.filter (fun y => !(teq y.1 x.1)) := by rw [hf]; exact List.mem_cons_self
       exact (List.mem_filter.1 this).1
      have hab := ha b hb
      rw [hx] at hab
      rw [List.takeWhile_cons, if_neg (by rw [tlt_asymm hab]; simp)]
   simp only [Bool.not_false, cond_true, ptl_true]
   unfold ins
   rw [hc]
   simp only [List.take_zero, List.nil_append, List.drop_zero, cut, List.filter_cons]
   cases teq a.1 x.1 <;> simp
end Go.Proofs.Ytehkignjdbkeiaa.Vf
end

section
set_option linter.unusedVariables false
set_option linter.unusedSimpArgs false
namespace Go.Proofs.Ytehkignjdbkeiaa.Vf
open Go
theorem ptl_few {l : List Nmd} {x : Nmd} {p : Bool} (hl : NFew l) (hl' : l.length ≤ 999999999999) (hx : x.2.length ≤ 1000000000000) : NFew (ptl x p l) := by
 refine ⟨?_, fun y hy => ?_⟩
 ·have := ptl_len x p l
  revert this
  cases p <;> simp <;> omega
 ·rcases ptl_mem x p l y hy with h | rfl
  ·exact hl.2 y h
  ·exact hx
theorem ptl_short {l : List Nmd} {x : Nmd} {p : Bool} (hl : NShort l) (hx : Short x.1) : NShort (ptl x p l) := by
 intro y hy
 rcases ptl_mem x p l y hy with h | rfl
 ·exact hl y h
 ·exact hx
def DIn (d : Dsk) : Prop := (DFew d ∧ DShort d) ∧ d.1.length ≤ 1000 ∧ d.2.length ≤ 1000
theorem din_ok {d : Dsk} (h : diskOk d = true) : DIn d := by
 unfold diskOk at h
 rw [Bool.and_eq_true] at h
 have h1 := namedsOk_few h.1
 have h2 := namedsOk_few h.2
 exact ⟨⟨⟨h1.1, h2.1⟩, h1.2, h2.2⟩, by have := (namedsOk_iff.1 h.1).2.2; omega, by have := (namedsOk_iff.1 h.2).2.2; omega⟩
theorem specWrite (d : Dsk) (s : ByteArray) (b : List Int) (hd : DIn d) (hs : Short s) (hb : b.length ≤ 1000000000000) : Tot (fun k => spec_WriteName k d s b) (fun r => r = bif diskOk d && (nameOk s && diskOk (ptl (s, b) false d.1, d.2)) then ((ptl (s, b) false d.1, d.2), true) else (d, false)) := by
 unfold spec_WriteName
 refine Tot.bind (specCopy d hd.1.1) ?_
 rintro r rfl
 refine Tot.bind (specPutN r.1 s b hd.1.1.1.1 hb) ?_
 rintro c rfl
 refine Tot.bind (specEnds r (ptl (s, b) false r.1, r.2) s hd.1 ⟨⟨ptl_few hd.1.1.1 (by have := hd.2.1; omega) hb, hd.1.1.2⟩, ptl_short hd.1.2.1 hs, hd.1.2.2⟩ hs) ?_
 rintro e rfl
 exact Tot.pure rfl
def syS (d : Dsk) (s : ByteArray) : List Nmd := match fnd d.1 s with
 | some i => ptl (s, (d.1.getD i nmd0).2) false (cut d.2 s)
 | none => cut d.2 s
theorem syS_in {d : Dsk} {s : ByteArray} (hd : DIn d) (hs : Short s) : NFew (syS d s) ∧ NShort (syS d s) := by
 unfold syS
 have h1 := few_sub (cut_sub (l := d.2) (s := s)) hd.1.1.2
 have h2 := short_sub (cut_sub (l := d.2) (s := s)) hd.1.2.2
 cases h : fnd d.1 s with
 | none => exact ⟨h1, h2⟩
 | some i =>
  have hb := hd.1.1.1.2 _ (getD_mem' (d := nmd0) (fnd_lt h).1)
  have hc : (cut d.2 s).length ≤ d.2.length := (cut_sub (l := d.2) (s := s)).length_le
  exact ⟨ptl_few h1 (by have := hd.2.2; omega) hb, ptl_short h2 hs⟩
theorem specSync (d : Dsk) (s : ByteArray) (hd : DIn d) (hs : Short s) : Tot (fun k => spec_SyncName k d s) (fun r => r = bif diskOk d && (nameOk s && diskOk (d.1, syS d s)) then ((d.1, syS d s), true) else (d, false)) := by
 unfold spec_SyncName
 have hin := syS_in hd hs
 refine Tot.bind (specCopy d hd.1.1) ?_
 rintro r rfl
 refine Tot.bind (specRead r s hd.1.1.1) ?_
 rintro b rfl
 refine Tot.bind (specCut r.2 s hd.1.1.2.1) ?_
 rintro c rfl
 have e : ∀ o, o = syS r s → Tot (fun k => (spec_l9Ends k r (r.1, o) s).bind fun r5 => some (r5.1, r5.2)) (fun q => q = bif diskOk r && (nameOk s && diskOk (r.1, syS r s)) then ((r.1, syS r s), true) else (r, false)) := by
  rintro o rfl
  refine Tot.bind (specEnds r (r.1, syS r s) s hd.1 ⟨⟨hd.1.1.1, hin.1⟩, hd.1.2.1, hin.2⟩ hs) ?_
  rintro e rfl
  exact Tot.pure rfl
 have hc : (cut r.2 s).length ≤ r.2.length := (cut_sub (l := r.2) (s := s)).length_le
 cases h : fnd r.1 s with
 | none =>
  have h' : rdN r.1 s = ([], false) := by unfold rdN; rw [h]
  rw [h']
  refine Tot.no rfl (e _ ?_)
  unfold syS; rw [h]
 | some i =>
  have h' : rdN r.1 s = ((r.1.getD i nmd0).2, true) := by unfold rdN; rw [h]
  rw [h']
  have hb := hd.1.1.1.2 _ (getD_mem' (d := nmd0) (fnd_lt h).1)
  refine Tot.yes rfl (Tot.bind (specPutN (cut r.2 s) s _ (by have := hd.2.2; omega) hb) ?_)
  rintro o rfl
  refine e _ ?_
  unfold syS; rw [h]
def syI (d : Dsk) (s : ByteArray) : List Nmd := match fnd d.1 s with
 | some i => ins (del d.2 s) (s, (d.1.getD i nmd0).2)
 | none => del d.2 s
theorem del_len_le (l : List Nmd) (s : ByteArray) : (del l s).length ≤ l.length := by
 cases h : fnd l s with
 | none => unfold del; rw [h]; exact Nat.le_refl _
 | some i => have := del_len h; omega
theorem ins_len (l : List Nmd) (x : Nmd) : (ins l x).length = l.length + 1 := by
 unfold ins
 have := plc_le l x.1
 simp only [List.length_append, List.length_take, List.length_drop, List.length_cons, List.length_nil]
 omega
theorem implSync (d : Dsk) (s : ByteArray) (hd : DIn d) (hs : Short s) : Tot (fun k => impl_SyncName k d s) (fun r => r = bif diskOk d && (nameOk s && decide ((syI d s).length ≤ 60)) then ((d.1, syI d s), true) else (d, false)) := by
 unfold impl_SyncName
 refine Tot.bind (implCopyDisk d hd.1.1) ?_
 rintro r rfl
 refine Tot.bind (implDisk r hd.1.1 hd.1.2) ?_
 rintro b rfl
 cases h1 : diskOk r with
 | false => exact Tot.yes rfl (Tot.pure rfl)
 | true =>
  refine Tot.no rfl (Tot.bind (implName s hs) ?_)
  rintro b rfl
  cases h2 : nameOk s with
  | false => exact Tot.yes rfl (Tot.pure rfl)
  | true =>
   refine Tot.no rfl (Tot.bind (implDrop r.2 s hd.1.1.2.1) ?_)
   rintro c rfl
   refine Tot.bind (implAt r.1 s hd.1.1.1.1) ?_
   rintro i rfl
   have hdl := del_len_le r.2 s
   have hr2 := hd.2.2
   have hr1 := hd.2.1
   have e : ∀ o, o = syI r s → o.length ≤ 2000 → Tot (fun k => cond (decide ((List.length o : Int) > 60)) ((impl_copyDisk k r).bind fun r9 => some (r9, false)) (some ((r.1, o), true))) (fun q => q = bif true && (true && decide ((syI r s).length ≤ 60)) then ((r.1, syI r s), true) else (r, false)) := by
    rintro o rfl _
    refine Tot.dite (fun h => ?_) (fun h => ?_)
    ·refine Tot.bind (implCopyDisk r hd.1.1) ?_
     rintro q rfl
     refine Tot.pure ?_
     rw [decide_eq_false (by omega)]
     rfl
    ·refine Tot.pure ?_
     rw [decide_eq_true (by omega)]
     rfl
   unfold fndI
   cases h : fnd r.1 s with
   | none =>
    refine Tot.ndec (by decide) (e _ ?_ (by omega))
    unfold syI; rw [h]
   | some i =>
    have hl := (fnd_lt h).1
    dsimp only
    refine Tot.dec (by omega) (Tot.dec (by omega) (Tot.dec (by omega) ?_))
    rw [show Int.toNat (i : Int) = i from Int.toNat_natCast i]
    have hb := hd.1.1.1.2 _ (getD_mem' (d := nmd0) hl)
    refine Tot.bind (Tot.of (Q := fun q => q = (r.1.getD i nmd0).2) (implCopyBytes _ hb) rfl) ?_
    rintro q rfl
    refine Tot.bind (implPutN (del r.2 s) (s, (r.1.getD i nmd0).2) (by omega)) ?_
    rintro o rfl
    refine e _ ?_ (by rw [ins_len]; omega)
    unfold syI; rw [h]
end Go.Proofs.Ytehkignjdbkeiaa.Vf
end

section
set_option linter.unusedVariables false
set_option linter.unusedSimpArgs false
namespace Go.Proofs.Ytehkignjdbkeiaa.Vf
open Go
theorem ends_ok {d o : Dsk} {b : Bool} (hd : diskOk d = true) : diskOk (bif diskOk d && (b && diskOk o) then (o, true) else (d, false)).1 = true := by
 cases b <;> cases h : diskOk o <;> simp [hd, h]
theorem ends_ok' {d o : Dsk} {a b : Bool} (hd : diskOk d = true) : diskOk (bif a && (diskOk d && (b && diskOk o)) then (o, true) else (d, false)).1 = true := by
 cases a <;> cases b <;> cases h : diskOk o <;> simp [hd, h]
theorem l9Draw_l3 : ∀ (n : Nat) (i : Int) (c : Cur) (a0 a1 : List Nmd) (d : Dsk), i = n → n ≤ 6 → CurOk c → diskOk d = true →
  Tot (fun k => spec_l9Draw_l3 k i c.1 c.2.1 c.2.2 a0 a1 d.1 d.2) (fun r => diskOk (r.2.2.1, r.2.2.2.1) = true ∧ CurOk r.2.2.2.2) := by
 intro n
 induction n with
 | zero =>
  intro i c a0 a1 d hi h6 hc hd
  refine Tot.succ ?_
  simp only [spec_l9Draw_l3]
  exact Tot.ndec (by omega) (Tot.pure ⟨hd, hc⟩)
 | succ n ih =>
  intro i c a0 a1 d hi h6 hc hd
  refine Tot.succ ?_
  simp only [spec_l9Draw_l3]
  refine Tot.dec (by omega) ?_
  rw [w64 (n := i - 1) (by omega) (by omega)]
  obtain ⟨s, c1, e1, hs, k1⟩ := l3Name_ok c hc
  refine Tot.bind (Tot.of (Q := fun r => r = (s, c1)) e1 rfl) ?_
  rintro r rfl
  obtain ⟨x, c2, e2, _, _, _, k2⟩ := l1Below_ok c1 k1 6 (by decide)
  refine Tot.bind (Tot.of (Q := fun r => r = (x, c2)) e2 rfl) ?_
  rintro r rfl
  dsimp only
  have hin := din_ok hd
  have hsh := (drawn_short s hs).1
  have wr : Tot (fun k => (spec_l8Draw k c2).bind fun r5 => (spec_PutFile k r5.1).bind fun r6 => (spec_WriteName k (d.1, d.2) s r6).bind fun r7 => spec_l9Draw_l3 k (i - 1) r5.2.1 r5.2.2.1 r5.2.2.2 a0 a1 r7.1.1 r7.1.2) (fun r => diskOk (r.2.2.1, r.2.2.2.1) = true ∧ CurOk r.2.2.2.2) := by
   refine Tot.bind (l8Draw_tot c2 k2) (fun f hf => ?_)
   refine Tot.bind (specPutFile_tot f.1 hf.1) (fun b hb => ?_)
   refine Tot.bind (specWrite d s b hin hsh (by omega)) (fun q hq => ?_)
   have hq' := ends_ok (d := d) (o := (ptl (s, b) false d.1, d.2)) (b := nameOk s) hd
   rw [← hq] at hq'
   exact ih (i - 1) f.2 a0 a1 q.1 (by omega) (by omega) hf.2 hq'
  have sy : Tot (fun k => (spec_SyncName k (d.1, d.2) s).bind fun r4 => spec_l9Draw_l3 k (i - 1) c2.1 c2.2.1 c2.2.2 a0 a1 r4.1.1 r4.1.2) (fun r => diskOk (r.2.2.1, r.2.2.2.1) = true ∧ CurOk r.2.2.2.2) := by
   refine Tot.bind (specSync d s hin hsh) (fun q hq => ?_)
   have hq' := ends_ok (d := d) (o := (d.1, syS d s)) (b := nameOk s) hd
   rw [← hq] at hq'
   exact ih (i - 1) c2 a0 a1 q.1 (by omega) (by omega) k2 hq'
  refine Tot.ite (fun _ => ?_) (fun _ => Tot.ite (fun h => Tot.ite (fun _ => sy) (fun _ => wr)) (fun _ => Tot.ite (fun _ => sy) (fun _ => wr)))
  refine Tot.bind (specRemove d s hin.1 hsh) (fun q hq => ?_)
  have hq' := ends_ok' (d := d) (o := (cut d.1 s, d.2)) (a := (fnd d.1 s).isSome) (b := nameOk s) hd
  rw [← hq] at hq'
  exact ih (i - 1) c2 a0 a1 q.1 (by omega) (by omega) k2 hq'
theorem l9Draw_ok (c : Cur) (hc : CurOk c) : Tot (fun k => spec_l9Draw k c) (fun r => diskOk r.1 = true ∧ CurOk r.2) := by
 unfold spec_l9Draw
 obtain ⟨x, c2, e2, h0, h1, _, k2⟩ := l1Below_ok c hc 7 (by decide)
 have h1 := h1 (by decide)
 refine Tot.bind (Tot.of (Q := fun r => r = (x, c2)) e2 rfl) ?_
 rintro r rfl
 refine Tot.bind (l9Draw_l3 x.toNat x c2 [] [] ([], []) (by omega) (by omega) k2 (by decide)) (fun r hr => ?_)
 exact Tot.pure hr
theorem l3Any_ok (c : Cur) (hc : CurOk c) : ∃ x c', spec_l3Any c = some (x, c') ∧ Short x ∧ CurOk c' := by
 obtain ⟨b, c1, e1, k1⟩ := l1Once_ok c hc 5 (by decide)
 unfold spec_l3Any
 cases b with
 | true =>
  obtain ⟨x, c', e, hx, k⟩ := l1Str_ok c1 k1 [(⟨#[]⟩ : ByteArray), (⟨#[65]⟩ : ByteArray), (⟨#[97, 32, 98]⟩ : ByteArray), (⟨#[116, 119, 101, 110, 116, 121, 111, 110, 101, 98, 121, 116, 101, 115, 116, 119, 101, 110, 116, 121, 111]⟩ : ByteArray), (⟨#[116, 119, 101, 110, 116, 121, 98, 121, 116, 101, 115, 116, 119, 101, 110, 116, 121, 98, 121, 116]⟩ : ByteArray), (⟨#[47]⟩ : ByteArray)] (by decide) (by decide)
  refine ⟨x, c', by simp only [e1, e, Option.bind_some, cond_true], ?_, k⟩
  simp only [List.mem_cons, List.not_mem_nil, or_false] at hx
  unfold Short
  rcases hx with rfl | rfl | rfl | rfl | rfl | rfl <;> decide
 | false =>
  obtain ⟨x, c', e, hx, k⟩ := l3Name_ok c1 k1
  exact ⟨x, c', by simp only [e1, e, Option.bind_some, cond_false], (drawn_short x hx).1, k⟩
theorem few_app {l : List Nmd} {x : Nmd} (h : NFew l) (hl : l.length ≤ 999) (hx : x.2.length ≤ 1000000000000) : NFew (l ++ [x]) := by
 refine ⟨by simp only [List.length_append, List.length_cons, List.length_nil]; omega, fun y hy => ?_⟩
 rcases List.mem_append.1 hy with hy | hy
 ·exact h.2 y hy
 ·rw [List.mem_singleton.1 hy]; exact hx
theorem short_app {l : List Nmd} {x : Nmd} (h : NShort l) (hx : Short x.1) : NShort (l ++ [x]) := by
 intro y hy
 rcases List.mem_append.1 hy with hy | hy
 ·exact h y hy
 ·rw [List.mem_singleton.1 hy]; exact hx
theorem l9Any_in (c : Cur) (hc : CurOk c) : Tot (fun k => spec_l9Any k c) (fun r => DIn r.1 ∧ CurOk r.2) := by
 unfold spec_l9Any
 refine Tot.bind (l9Draw_ok c hc) (fun d hd => ?_)
 obtain ⟨hd, k0⟩ := hd
 have hin := din_ok hd
 have hd' := hd
 unfold diskOk at hd'
 rw [Bool.and_eq_true] at hd'
 have g1 := (namedsOk_iff.1 hd'.1).2.2
 have g2 := (namedsOk_iff.1 hd'.2).2.2
 obtain ⟨x, c2, e2, _, _, _, k2⟩ := l1Below_ok d.2 k0 12 (by decide)
 refine Tot.bind (Tot.of (Q := fun r => r = (x, c2)) e2 rfl) ?_
 rintro r rfl
 refine Tot.ite (fun _ => ?_) (fun _ => Tot.ite (fun _ => ?_) (fun _ => Tot.pure ⟨hin, k2⟩))
 ·obtain ⟨s, c3, e3, hs, k3⟩ := l3Any_ok c2 k2
  refine Tot.bind (Tot.of (Q := fun r => r = (s, c3)) e3 rfl) ?_
  rintro r rfl
  refine Tot.ble (by simp only [List.length_cons, List.length_nil]; omega) (Tot.pure ⟨⟨⟨⟨few_app hin.1.1.1 (by omega) (Nat.zero_le _), hin.1.1.2⟩, short_app hin.1.2.1 hs, hin.1.2.2⟩, ?_, hin.2.2⟩, k3⟩)
  simp only [List.length_append, List.length_cons, List.length_nil]; omega
 ·obtain ⟨s, c3, e3, hs, k3⟩ := l3Any_ok c2 k2
  refine Tot.bind (Tot.of (Q := fun r => r = (s, c3)) e3 rfl) ?_
  rintro r rfl
  obtain ⟨y, c4, e4, y0, y1, _, k4⟩ := l1Below_ok c3 k3 2 (by decide)
  have y1 := y1 (by decide)
  refine Tot.bind (Tot.of (Q := fun r => r = (y, c4)) e4 rfl) ?_
  rintro r rfl
  dsimp only
  rw [w64 (n := 400 + y) (by omega) (by omega)]
  refine Tot.dec rfl (Tot.dec (by omega) (Tot.dec (by omega) (Tot.ble (by simp only [List.length_cons, List.length_nil]; omega) (Tot.pure ⟨⟨⟨⟨hin.1.1.1, few_app hin.1.1.2 (by omega) ?_⟩, hin.1.2.1, short_app hin.1.2.2 hs⟩, hin.2.1, ?_⟩, k4⟩))))
  ·simp only [List.length_replicate]; omega
  ·simp only [List.length_append, List.length_cons, List.length_nil]; omega
end Go.Proofs.Ytehkignjdbkeiaa.Vf
end

section
set_option linter.unusedVariables false
set_option linter.unusedSimpArgs false
namespace Go.Proofs.Ytehkignjdbkeiaa.Vf
open Go
theorem fnd_mem {l : List Nmd} {x : Nmd} (h : x ∈ l) : (fnd l x.1).isSome = true := by
 cases hh : fnd l x.1 with
 | some _ => rfl
 | none => exact absurd rfl (fnd_none.1 hh x h)
end Go.Proofs.Ytehkignjdbkeiaa.Vf
end

section
set_option linter.unusedVariables false
set_option linter.unusedSimpArgs false
namespace Go.Proofs.Ytehkignjdbkeiaa.Vf
open Go
theorem take_len_while (p : Nmd → Bool) : ∀ l : List Nmd, l.take (l.takeWhile p).length = l.takeWhile p ∧ l.drop (l.takeWhile p).length = l.dropWhile p
 | [] => ⟨rfl, rfl⟩
 | y :: l => by
  obtain ⟨h1, h2⟩ := take_len_while p l
  simp only [List.takeWhile_cons, List.dropWhile_cons]
  cases p y with
  | true => simp [h1, h2]
  | false => simp
theorem mem_while {p : Nmd → Bool} : ∀ {l : List Nmd} {y : Nmd}, y ∈ l.takeWhile p → p y = true
 | [], y, h => by simp at h
 | z :: l, y, h => by
  simp only [List.takeWhile_cons] at h
  cases hz : p z with
  | false => rw [hz] at h; simp at h
  | true =>
   rw [hz] at h
   simp only [if_true] at h
   rcases List.mem_cons.1 h with rfl | h
   ·exact hz
   ·exact mem_while h
theorem ins_eq (l : List Nmd) (x : Nmd) : ins l x = l.takeWhile (fun y => tlt y.1 x.1) ++ ([x] ++ l.dropWhile (fun y => tlt y.1 x.1)) := by
 unfold ins plc
 obtain ⟨h1, h2⟩ := take_len_while (fun y => tlt y.1 x.1) l
 rw [h1, h2, List.append_assoc]
theorem drop_above {x : Nmd} : ∀ {l : List Nmd}, SortedN l → (∀ y ∈ l, y.1 ≠ x.1) → ∀ z ∈ l.dropWhile (fun y => tlt y.1 x.1), tlt x.1 z.1 = true
 | [], _, _, z, hz => by simp at hz
 | y :: l, hs, hn, z, hz => by
  obtain ⟨h1, h2⟩ := List.pairwise_cons.1 hs
  simp only [List.dropWhile_cons] at hz
  cases hy : tlt y.1 x.1 with
  | true =>
   rw [hy] at hz
   simp only [if_true] at hz
   exact drop_above h2 (fun w hw => hn w (List.mem_cons_of_mem _ hw)) z hz
  | false =>
   rw [hy] at hz
   simp only [Bool.false_eq_true, if_false] at hz
   have hxy : tlt x.1 y.1 = true := by
    cases hh : tlt x.1 y.1 with
    | true => rfl
    | false => exact absurd (tlt_tri hy hh) (hn y (by simp))
   rcases List.mem_cons.1 hz with rfl | hz
   ·exact hxy
   ·exact tlt_trans hxy (h1 z hz)
theorem ins_sorted {l : List Nmd} {x : Nmd} (hs : SortedN l) (hn : ∀ y ∈ l, y.1 ≠ x.1) : SortedN (ins l x) := by
 rw [ins_eq]
 have hs' : SortedN (l.takeWhile (fun y => tlt y.1 x.1) ++ l.dropWhile (fun y => tlt y.1 x.1)) := by rw [List.takeWhile_append_dropWhile]; exact hs
 obtain ⟨h1, h2, h3⟩ := List.pairwise_append.1 hs'
 have h4 : ∀ y ∈ l.takeWhile (fun y => tlt y.1 x.1), tlt y.1 x.1 = true := fun y hy => mem_while (p := fun y => tlt y.1 x.1) hy
 refine List.pairwise_append.2 ⟨h1, List.pairwise_cons.2 ⟨fun z hz => drop_above hs hn z hz, h2⟩, fun a ha b hb => ?_⟩
 rcases List.mem_cons.1 hb with rfl | hb
 ·exact h4 a ha
 ·exact h3 a ha b hb
theorem ins_mem {l : List Nmd} {x y : Nmd} : y ∈ ins l x ↔ y = x ∨ y ∈ l := by
 rw [ins_eq]
 have e := List.takeWhile_append_dropWhile (p := fun y : Nmd => tlt y.1 x.1) (l := l)
 constructor
 ·intro h
  rcases List.mem_append.1 h with h | h
  ·right; rw [← e]; exact List.mem_append_left _ h
  ·rcases List.mem_cons.1 h with h | h
   ·exact .inl h
   ·right; rw [← e]; exact List.mem_append_right _ h
 ·rintro (rfl | h)
  ·exact List.mem_append_right _ (by simp)
  ·rw [← e] at h
   rcases List.mem_append.1 h with h | h
   ·exact List.mem_append_left _ h
   ·exact List.mem_append_right _ (List.mem_cons_of_mem _ h)
theorem ins_ok {l : List Nmd} {x : Nmd} (hl : namedsOk l = true) (hn : ∀ y ∈ l, y.1 ≠ x.1) (hx : nOk x = true) : namedsOk (ins l x) = decide ((ins l x).length ≤ 60) := by
 obtain ⟨h1, h2, h3⟩ := namedsOk_iff.1 hl
 by_cases h : (ins l x).length ≤ 60
 ·rw [decide_eq_true h]
  exact namedsOk_iff.2 ⟨ins_sorted h1 hn, fun y hy => by rcases ins_mem.1 hy with rfl | hy; exact hx; exact h2 y hy, h⟩
 ·rw [decide_eq_false h]
  cases hc : namedsOk (ins l x) with
  | false => rfl
  | true => exact absurd (namedsOk_iff.1 hc).2.2 h
theorem cut_no {l : List Nmd} {s : ByteArray} : ∀ y ∈ cut l s, y.1 ≠ s := fun y hy e => by
 have := (List.mem_filter.1 hy).2
 simp [e, teq_iff.2 rfl] at this
theorem sync_ok {d : Dsk} {s : ByteArray} (hd : diskOk d = true) (hs : nameOk s = true) : diskOk (d.1, syI d s) = decide ((syI d s).length ≤ 60) := by
 have hd' := hd
 unfold diskOk at hd'
 rw [Bool.and_eq_true] at hd'
 have h2 := namedsOk_iff.1 hd'.2
 unfold diskOk
 rw [hd'.1, Bool.true_and]
 unfold syI
 rw [del_cut h2.1]
 cases h : fnd d.1 s with
 | none => show namedsOk (cut d.2 s) = decide ((cut d.2 s).length ≤ 60); rw [cut_ok hd'.2, decide_eq_true (namedsOk_iff.1 (cut_ok (s := s) hd'.2)).2.2]
 | some i =>
  refine ins_ok (cut_ok hd'.2) cut_no (nOk_iff.2 ⟨hs, ?_⟩)
  have h1 := (namedsOk_iff.1 hd'.1).2.1 _ (getD_mem' (d := nmd0) (fnd_lt h).1)
  exact (nOk_iff.1 h1).2
theorem is_uniq {l : List Nmd} (hs : SortedN l) {x y : Nmd} (hx : x ∈ l) (hy : y ∈ l) (e : x.1 = y.1) : x = y := by
 induction l with
 | nil => simp at hx
 | cons z l ih =>
  obtain ⟨h1, h2⟩ := List.pairwise_cons.1 hs
  rcases List.mem_cons.1 hx with hx' | hx'
  ·rcases List.mem_cons.1 hy with hy' | hy'
   ·rw [hx', hy']
   ·have := h1 y hy'; rw [← hx', e, tlt_irrefl] at this; cases this
  ·rcases List.mem_cons.1 hy with hy' | hy'
   ·have := h1 x hx'; rw [← hy', e, tlt_irrefl] at this; cases this
   ·exact ih h2 hx' hy'
end Go.Proofs.Ytehkignjdbkeiaa.Vf
end

section
set_option linter.unusedVariables false
set_option linter.unusedSimpArgs false
namespace Go.Proofs.Ytehkignjdbkeiaa.Vf
open Go
def wrI (d : Dsk) (s : ByteArray) (b : List Int) : List Nmd := ins (del d.1 s) (s, b)
theorem implWrite (d : Dsk) (s : ByteArray) (b : List Int) (hd : DIn d) (hs : Short s) (hb : b.length ≤ 1000000000000) : Tot (fun k => impl_WriteName k d s b) (fun r => r = bif diskOk d && (nameOk s && (decide (b.length ≤ 400) && decide ((wrI d s b).length ≤ 60))) then ((wrI d s b, d.2), true) else (d, false)) := by
 unfold impl_WriteName
 refine Tot.bind (implCopyDisk d hd.1.1) ?_
 rintro r rfl
 refine Tot.bind (implDisk r hd.1.1 hd.1.2) ?_
 rintro b1 rfl
 cases h1 : diskOk r with
 | false => exact Tot.yes rfl (Tot.pure rfl)
 | true =>
  refine Tot.no rfl (Tot.bind (implName s hs) ?_)
  rintro b2 rfl
  cases h2 : nameOk s with
  | false => exact Tot.yes rfl (Tot.pure rfl)
  | true =>
   refine Tot.no rfl (Tot.dite (fun h => ?_) (fun h => ?_))
   ·rw [decide_eq_false (show ¬ b.length ≤ 400 by omega)]
    exact Tot.pure rfl
   ·rw [decide_eq_true (show b.length ≤ 400 by omega)]
    refine Tot.bind (implDrop r.1 s hd.1.1.1.1) ?_
    rintro c rfl
    refine Tot.bind (Tot.of (Q := fun x => x = b) (implCopyBytes b hb) rfl) ?_
    rintro e rfl
    have hdl := del_len_le r.1 s
    refine Tot.bind (implPutN (del r.1 s) (s, e) (by have := hd.2.1; omega)) ?_
    rintro m rfl
    refine Tot.dite (fun h => ?_) (fun h => ?_)
    ·rw [decide_eq_false (show ¬ (wrI r s e).length ≤ 60 by unfold wrI; omega)]
     refine Tot.bind (implCopyDisk r hd.1.1) ?_
     rintro x rfl
     exact Tot.pure rfl
    ·rw [decide_eq_true (show (wrI r s e).length ≤ 60 by unfold wrI; omega)]
     exact Tot.pure rfl
theorem write_ok {d : Dsk} {s : ByteArray} {b : List Int} (hd : diskOk d = true) (hs : nameOk s = true) : ptl (s, b) false d.1 = wrI d s b ∧ diskOk (wrI d s b, d.2) = (decide (b.length ≤ 400) && decide ((wrI d s b).length ≤ 60)) := by
 have hd' := hd
 unfold diskOk at hd'
 rw [Bool.and_eq_true] at hd'
 have h1 := namedsOk_iff.1 hd'.1
 have e1 : wrI d s b = ins (cut d.1 s) (s, b) := by unfold wrI; rw [del_cut h1.1]
 refine ⟨by rw [e1]; exact ptl_sorted _ h1.1, ?_⟩
 unfold diskOk
 rw [hd'.2, Bool.and_true, e1]
 by_cases hb : b.length ≤ 400
 ·rw [decide_eq_true hb, Bool.true_and]
  exact ins_ok (cut_ok hd'.1) cut_no (nOk_iff.2 ⟨hs, hb⟩)
 ·rw [decide_eq_false hb, Bool.false_and]
  cases hc : namedsOk (ins (cut d.1 s) (s, b)) with
  | false => rfl
  | true => exact absurd (nOk_iff.1 ((namedsOk_iff.1 hc).2.1 (s, b) (ins_mem.2 (.inl rfl)))).2 hb
theorem fnd_is {l : List Nmd} (hs : SortedN l) {x : Nmd} (hx : x ∈ l) : rdN l x.1 = (x.2, true) := by
 have h := fnd_mem hx
 obtain ⟨j, hj⟩ := Option.isSome_iff_exists.1 h
 obtain ⟨h1, h2⟩ := fnd_lt hj
 have := is_uniq hs (getD_mem' (d := nmd0) h1) hx h2
 unfold rdN
 rw [hj]
 dsimp only
 rw [this]
end Go.Proofs.Ytehkignjdbkeiaa.Vf
end

section
set_option linter.unusedVariables false
set_option linter.unusedSimpArgs false
namespace Go.Proofs.Ytehkignjdbkeiaa.Vf
open Go
def TS (l : List ByteArray) : Prop := l.Pairwise (fun a b => tlt a b = true)
def pk (l : List Nmd) (s : ByteArray) : Option Nmd := match fnd l s with
 | some i => some (l.getD i nmd0)
 | none => none
theorem pk_cons (x : Nmd) (l : List Nmd) (s : ByteArray) : pk (x :: l) s = if teq x.1 s then some x else pk l s := by
 unfold pk
 rw [fnd_cons]
 by_cases h : teq x.1 s = true
 ·rw [if_pos h, if_pos h]; rfl
 ·rw [if_neg h, if_neg h]
  cases fnd l s <;> rfl
theorem fm_congr {f g : ByteArray → Option Nmd} : ∀ {l : List ByteArray}, (∀ m ∈ l, f m = g m) → l.filterMap f = l.filterMap g
 | [], _ => rfl
 | a :: l, h => by
  rw [List.filterMap_cons, List.filterMap_cons, h a (by simp), fm_congr (fun m hm => h m (List.mem_cons_of_mem _ hm))]
theorem pick_all : ∀ (ns : List ByteArray) (b : List Nmd), TS ns → SortedN b → (∀ x ∈ b, x.1 ∈ ns) → ns.filterMap (pk b) = b
 | [], [], _, _, _ => rfl
 | [], x :: b, _, _, h => by have := h x (by simp); simp at this
 | n :: ns, [], ht, _, _ => by
  rw [List.filterMap_cons]
  show ns.filterMap (pk []) = []
  exact pick_all ns [] (List.pairwise_cons.1 ht).2 List.Pairwise.nil (by simp)
 | n :: ns, x :: b, ht, hs, h => by
  obtain ⟨t1, t2⟩ := List.pairwise_cons.1 ht
  obtain ⟨s1, s2⟩ := List.pairwise_cons.1 hs
  rw [List.filterMap_cons]
  by_cases e : x.1 = n
  ·have hp : pk (x :: b) n = some x := by rw [pk_cons, if_pos (teq_iff.2 e)]
   rw [hp]
   have hc : ns.filterMap (pk (x :: b)) = ns.filterMap (pk b) := by
    refine fm_congr fun m hm => ?_
    rw [pk_cons, if_neg]
    intro he
    have := t1 m hm
    rw [← e, teq_iff.1 he, tlt_irrefl] at this
    cases this
   show x :: ns.filterMap (pk (x :: b)) = x :: b
   rw [hc, pick_all ns b t2 s2 (fun y hy => ?_)]
   rcases List.mem_cons.1 (h y (List.mem_cons_of_mem _ hy)) with h' | h'
   ·have := s1 y hy
    rw [h', ← e, tlt_irrefl] at this
    cases this
   ·exact h'
  ·have hx : x.1 ∈ ns := by
    rcases List.mem_cons.1 (h x (by simp)) with h' | h'
    ·exact absurd h' e
    ·exact h'
   have hlt := t1 _ hx
   have hno : ∀ y ∈ x :: b, y.1 ≠ n := by
    intro y hy e2
    rcases List.mem_cons.1 hy with rfl | hy
    ·exact e e2
    ·have := tlt_trans hlt (s1 y hy)
     rw [e2, tlt_irrefl] at this
     cases this
   have hp : pk (x :: b) n = none := by unfold pk; rw [fnd_none.2 hno]
   rw [hp]
   refine pick_all ns (x :: b) t2 hs (fun y hy => ?_)
   rcases List.mem_cons.1 (h y hy) with h' | h'
   ·exact absurd h' (hno y hy)
   ·exact h'
def txt0 : ByteArray := ⟨#[]⟩
def tpl (l : List ByteArray) (s : ByteArray) : Nat := (l.takeWhile (fun y => tlt y s)).length
def wt (l : List ByteArray) (s : ByteArray) : List ByteArray := if tpl l s < l.length ∧ teq (l.getD (tpl l s) txt0) s = true then l else l.take (tpl l s) ++ [s] ++ l.drop (tpl l s)
theorem tpl_le (l : List ByteArray) (s : ByteArray) : tpl l s ≤ l.length := (List.takeWhile_sublist _).length_le
theorem implWithTextX_l2 (l : List ByteArray) (s : ByteArray) (hf : l.length ≤ 1000000000000) : ∀ (n i : Nat), l.length - i = n → i ≤ l.length →
  Tot (fun k => impl_withText_l2 k l s (i : Int)) (fun r => r = (l, s, ((i + tpl (l.drop i) s : Nat) : Int))) := by
 intro n
 induction n with
 | zero =>
  intro i hd hi
  refine Tot.succ ?_
  simp only [impl_withText_l2]
  refine Tot.ndec (by omega) (Tot.pure ?_)
  rw [List.drop_of_length_le (by omega)]
  rfl
 | succ n ih =>
  intro i hd hi
  have hlt : i < l.length := by omega
  refine Tot.succ ?_
  simp only [impl_withText_l2]
  refine Tot.dec (by omega) (Tot.dec (by omega) (Tot.dec (by omega) ?_))
  rw [show Int.toNat (i : Int) = i from Int.toNat_natCast i, w64 (n := (i : Int) + 1) (by omega) (by omega), drop_cons (d := txt0) hlt]
  have e0 : l.getD i (⟨#[]⟩ : ByteArray) = l.getD i txt0 := rfl
  rw [e0]
  have e1 : tpl (l.getD i txt0 :: l.drop (i + 1)) s = if tlt (l.getD i txt0) s then tpl (l.drop (i + 1)) s + 1 else 0 := by
   unfold tpl
   rw [List.takeWhile_cons]
   split <;> rfl
  rw [e1]
  refine Tot.ite (fun h => ?_) (fun h => ?_)
  ·have h' : tlt (l.getD i txt0) s = true := h
   rw [if_pos h']
   refine (ih (i + 1) (by omega) (by omega)).mono ?_
   rintro r rfl
   rw [show i + 1 + tpl (l.drop (i + 1)) s = i + (tpl (l.drop (i + 1)) s + 1) by omega]
  ·have h' : ¬ (tlt (l.getD i txt0) s = true) := by
    have : tlt (l.getD i txt0) s = false := h
    rw [this]; simp
   rw [if_neg h']
   exact Tot.pure rfl
theorem implWithTextX (l : List ByteArray) (s : ByteArray) (hf : l.length ≤ 1000000) : Tot (fun k => impl_withText k l s) (fun r => r = wt l s) := by
 unfold impl_withText
 refine Tot.bind (implWithTextX_l2 l s (by omega) _ 0 rfl (Nat.zero_le _)) ?_
 intro r hr
 rw [List.drop_zero, Nat.zero_add] at hr
 subst hr
 have hj := tpl_le l s
 generalize hjj : tpl l s = j at *
 dsimp only
 have hno : ¬ (j < l.length ∧ teq (l.getD j txt0) s = true) → Tot (fun k => cond (decide ((0 : Int) ≤ (j : Int))) (cond (decide ((j : Int) ≤ (List.length l : Int))) (cond (Nat.ble ((List.length ([] : List ByteArray) + List.length (List.take (Int.toNat (j : Int)) l)) * 16) 140737488355328) (let v3 : List ByteArray := ([] : List ByteArray) ++ (List.take (Int.toNat (j : Int)) l); cond (Nat.ble ((List.length v3 + List.length [s]) * 16) 140737488355328) (cond (decide ((0 : Int) ≤ (j : Int))) (cond (decide ((j : Int) ≤ (List.length l : Int))) (cond (Nat.ble ((List.length (v3 ++ [s]) + List.length (List.drop (Int.toNat (j : Int)) l)) * 16) 140737488355328) (some ((v3 ++ [s]) ++ (List.drop (Int.toNat (j : Int)) l))) none) none) none) none) none) none) none)
   (fun r => r = wt l s) := by
  intro hn
  refine Tot.dec (by omega) (Tot.dec (by omega) ?_)
  rw [show Int.toNat (j : Int) = j from Int.toNat_natCast j]
  refine Tot.ble (by simp only [List.length_nil, List.length_take]; omega) ?_
  refine Tot.ble (by simp only [List.length_append, List.length_nil, List.length_take, List.length_cons]; omega) ?_
  refine Tot.dec (by omega) (Tot.dec (by omega) (Tot.ble (by simp only [List.length_append, List.length_nil, List.length_take, List.length_drop, List.length_cons]; omega) (Tot.pure ?_)))
  unfold wt
  rw [hjj, if_neg hn, List.nil_append]
 refine Tot.dite (fun h => ?_) (fun h => hno (fun hh => h (by omega)))
 refine Tot.dec (by omega) (Tot.dec h ?_)
 rw [show Int.toNat (j : Int) = j from Int.toNat_natCast j] at *
 refine Tot.ite (fun he => Tot.pure ?_) (fun he => hno (fun hh => ?_))
 ·unfold wt
  rw [hjj, if_pos ⟨by omega, he⟩]
 ·have h2 : teq (l.getD j txt0) s = false := he
  rw [h2] at hh
  cases hh.2
theorem wt_mem {l : List ByteArray} {s y : ByteArray} : y ∈ wt l s ↔ y = s ∨ y ∈ l := by
 unfold wt
 by_cases h : tpl l s < l.length ∧ teq (l.getD (tpl l s) txt0) s = true
 ·rw [if_pos h]
  refine ⟨.inr, fun h' => ?_⟩
  rcases h' with rfl | h'
  ·have := getD_mem' (d := txt0) h.1
   rwa [teq_iff.1 h.2] at this
  ·exact h'
 ·rw [if_neg h]
  have e : l.take (tpl l s) ++ l.drop (tpl l s) = l := List.take_append_drop _ _
  constructor
  ·intro h'
   rw [List.append_assoc] at h'
   rcases List.mem_append.1 h' with h' | h'
   ·right; rw [← e]; exact List.mem_append_left _ h'
   ·rcases List.mem_append.1 h' with h' | h'
    ·left; simpa using h'
    ·right; rw [← e]; exact List.mem_append_right _ h'
  ·rintro (rfl | h')
   ·simp
   ·rw [← e] at h'
    rcases List.mem_append.1 h' with h' | h' <;> simp [h']
theorem tl_while (p : ByteArray → Bool) : ∀ l : List ByteArray, l.take (l.takeWhile p).length = l.takeWhile p ∧ l.drop (l.takeWhile p).length = l.dropWhile p
 | [] => ⟨rfl, rfl⟩
 | y :: l => by
  obtain ⟨h1, h2⟩ := tl_while p l
  simp only [List.takeWhile_cons, List.dropWhile_cons]
  cases p y with
  | true => simp [h1, h2]
  | false => simp
theorem mem_whileT {p : ByteArray → Bool} : ∀ {l : List ByteArray} {y : ByteArray}, y ∈ l.takeWhile p → p y = true
 | [], y, h => by simp at h
 | z :: l, y, h => by
  simp only [List.takeWhile_cons] at h
  cases hz : p z with
  | false => rw [hz] at h; simp at h
  | true =>
   rw [hz] at h
   simp only [if_true] at h
   rcases List.mem_cons.1 h with rfl | h
   ·exact hz
   ·exact mem_whileT h
theorem dropT_above {s : ByteArray} : ∀ {l : List ByteArray}, TS l → (∀ y r, l.dropWhile (fun y => tlt y s) = y :: r → y ≠ s) → ∀ z ∈ l.dropWhile (fun y => tlt y s), tlt s z = true
 | [], _, _, z, hz => by simp at hz
 | y :: l, hs, hn, z, hz => by
  obtain ⟨h1, h2⟩ := List.pairwise_cons.1 hs
  simp only [List.dropWhile_cons] at hz hn
  cases hy : tlt y s with
  | true =>
   rw [hy] at hz hn
   simp only [if_true] at hz hn
   exact dropT_above h2 hn z hz
  | false =>
   rw [hy] at hz hn
   simp only [Bool.false_eq_true, if_false] at hz hn
   have hxy : tlt s y = true := by
    cases hh : tlt s y with
    | true => rfl
    | false => exact absurd (tlt_tri hy hh) (hn y l rfl)
   rcases List.mem_cons.1 hz with rfl | hz
   ·exact hxy
   ·exact tlt_trans hxy (h1 z hz)
theorem wt_sorted {l : List ByteArray} {s : ByteArray} (hs : TS l) : TS (wt l s) := by
 unfold wt
 by_cases h : tpl l s < l.length ∧ teq (l.getD (tpl l s) txt0) s = true
 ·rw [if_pos h]; exact hs
 ·rw [if_neg h]
  obtain ⟨e1, e2⟩ := tl_while (fun y => tlt y s) l
  have hd : ∀ y r, l.dropWhile (fun y => tlt y s) = y :: r → y ≠ s := by
   intro y r hr hy
   rw [← e2] at hr
   have hlt : tpl l s < l.length := by
    rcases Nat.lt_or_ge (tpl l s) l.length with h' | h'
    ·exact h'
    ·have : l.drop (tpl l s) = [] := List.drop_of_length_le h'
     unfold tpl at this
     rw [this] at hr
     cases hr
   have : l.drop (tpl l s) = l.getD (tpl l s) txt0 :: l.drop (tpl l s + 1) := drop_cons hlt
   unfold tpl at this
   rw [this] at hr
   simp only [List.cons.injEq] at hr
   exact h ⟨hlt, teq_iff.2 (hr.1.trans hy)⟩
  have e1' : l.take (tpl l s) = l.takeWhile (fun y => tlt y s) := e1
  have e2' : l.drop (tpl l s) = l.dropWhile (fun y => tlt y s) := e2
  rw [e1', e2', List.append_assoc]
  have hs' : TS (l.takeWhile (fun y => tlt y s) ++ l.dropWhile (fun y => tlt y s)) := by rw [List.takeWhile_append_dropWhile]; exact hs
  obtain ⟨h1, h2, h3⟩ := List.pairwise_append.1 hs'
  refine List.pairwise_append.2 ⟨h1, List.pairwise_cons.2 ⟨fun z hz => dropT_above hs hd z hz, h2⟩, fun a ha b hb => ?_⟩
  rcases List.mem_cons.1 hb with rfl | hb
  ·exact mem_whileT (p := fun y => tlt y b) ha
  ·exact h3 a ha b hb
end Go.Proofs.Ytehkignjdbkeiaa.Vf
end
