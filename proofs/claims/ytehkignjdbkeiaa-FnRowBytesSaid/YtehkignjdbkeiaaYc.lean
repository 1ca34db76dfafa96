/- Texts in order. -/
import Derived.Test.YtehkignjdbkeiaaYb
import Derived.Laws.StructEq
set_option linter.unusedVariables false
set_option linter.unusedSimpArgs false
namespace Go.Proofs.Ytehkignjdbkeiaa.Vf
open Go

theorem bl_irrefl : ∀ (a : List UInt8), Op.bytesLess a a = false
  | [] => rfl
  | a :: l => by simp [Op.bytesLess, bl_irrefl l]

theorem bl_trans : ∀ (a b c : List UInt8), Op.bytesLess a b = true → Op.bytesLess b c = true → Op.bytesLess a c = true
  | _, [], _, h, _ => by simp [Op.bytesLess] at h
  | _, _ :: _, [], _, h => by simp [Op.bytesLess] at h
  | [], _ :: _, _ :: _, _, _ => rfl
  | a :: x, b :: y, c :: z, h1, h2 => by
    simp only [Op.bytesLess, Bool.or_eq_true, Bool.and_eq_true, decide_eq_true_eq, beq_iff_eq] at h1 h2 ⊢
    rcases h1 with h1 | ⟨rfl, h1⟩
    · rcases h2 with h2 | ⟨rfl, h2⟩
      · exact .inl (UInt8.lt_trans h1 h2)
      · exact .inl h1
    · rcases h2 with h2 | ⟨rfl, h2⟩
      · exact .inl h2
      · exact .inr ⟨rfl, bl_trans x y z h1 h2⟩

theorem bl_tri : ∀ (a b : List UInt8), Op.bytesLess a b = false → Op.bytesLess b a = false → a = b
  | [], [], _, _ => rfl
  | [], _ :: _, h, _ => by simp [Op.bytesLess] at h
  | _ :: _, [], _, h => by simp [Op.bytesLess] at h
  | a :: x, b :: y, h1, h2 => by
    simp only [Op.bytesLess, Bool.or_eq_false_iff, Bool.and_eq_false_iff, decide_eq_false_iff_not] at h1 h2
    have hab : a = b := by
      have h3 := UInt8.not_lt.1 h1.1
      have h4 := UInt8.not_lt.1 h2.1
      exact UInt8.le_antisymm h4 h3
    subst hab
    rw [bl_tri x y (h1.2.resolve_left (by simp)) (h2.2.resolve_left (by simp))]

/-- One text before another one. -/
def tlt (a b : ByteArray) : Bool := Op.bytesLess a.toList b.toList
def teq (a b : ByteArray) : Bool := a.toList == b.toList

theorem toList_inj {a b : ByteArray} (h : a.toList = b.toList) : a = b := by
  rw [ByteArray.toList_eq, ByteArray.toList_eq] at h
  obtain ⟨⟨x⟩⟩ := a
  obtain ⟨⟨y⟩⟩ := b
  simp only at h
  rw [h]

theorem teq_iff {a b : ByteArray} : teq a b = true ↔ a = b := by
  unfold teq
  rw [beq_iff_eq]
  exact ⟨toList_inj, fun h => by rw [h]⟩

theorem tlt_irrefl (a : ByteArray) : tlt a a = false := bl_irrefl _
theorem tlt_trans {a b c : ByteArray} (h : tlt a b = true) (h' : tlt b c = true) : tlt a c = true := bl_trans _ _ _ h h'
theorem tlt_tri {a b : ByteArray} (h : tlt a b = false) (h' : tlt b a = false) : a = b := toList_inj (bl_tri _ _ h h')
theorem tlt_asymm {a b : ByteArray} (h : tlt a b = true) : tlt b a = false := by
  cases hb : tlt b a with
  | false => rfl
  | true =>
    have := tlt_trans h hb
    rw [tlt_irrefl] at this
    cases this

/-- Go's '>' of texts. -/
theorem tgt_eq (a b : ByteArray) : (!(Op.bytesLess a.toList b.toList || a.toList == b.toList)) = tlt b a := by
  show (!(tlt a b || teq a b)) = tlt b a
  cases h1 : tlt a b with
  | true => rw [tlt_asymm h1]; rfl
  | false =>
    cases h2 : teq a b with
    | true => rw [teq_iff.1 h2, tlt_irrefl]; rfl
    | false =>
      cases h3 : tlt b a with
      | true => rfl
      | false =>
        exfalso
        have := tlt_tri h1 h3
        rw [teq_iff.2 this] at h2
        cases h2

/-! ### Rows merged -/
def sle (a b : Stp) : Bool := cond (a.1 != b.1) (decide (a.1 < b.1)) (cond (a.2.1 != b.2.1) (decide (a.2.1 < b.2.1)) (decide (a.2.2 < b.2.2)))

theorem specLess (a b : Stp) : spec_LessStamp a b = some (sle a b) := by
  unfold spec_LessStamp sle
  cases a.1 != b.1 <;> cases a.2.1 != b.2.1 <;> rfl
theorem implLess (a b : Stp) : impl_LessStamp a b = some (sle a b) := by
  unfold impl_LessStamp sle
  cases a.1 != b.1 <;> cases a.2.1 != b.2.1 <;> rfl

theorem sle_iff {a b : Stp} : sle a b = true ↔ a.1 < b.1 ∨ (a.1 = b.1 ∧ (a.2.1 < b.2.1 ∨ (a.2.1 = b.2.1 ∧ a.2.2 < b.2.2))) := by
  unfold sle
  by_cases h1 : a.1 = b.1
  · by_cases h2 : a.2.1 = b.2.1
    · simp [h1, h2]
    · have : (a.2.1 != b.2.1) = true := by simpa using h2
      simp [h1, this, h2]
  · have : (a.1 != b.1) = true := by simpa using h1
    simp [this, h1]

/-- Does one row give way to another one. -/
def rless (a b : Row) : Bool := cond (!((a.2.1.1 == b.2.1.1) && ((a.2.1.2.1 == b.2.1.2.1) && (a.2.1.2.2 == b.2.1.2.2)))) (sle a.2.1 b.2.1) (cond (!(a.2.2.1 == b.2.2.1)) b.2.2.1 (decide (a.2.2.2 < b.2.2.2)))

theorem specL11Less (a b : Row) : spec_l11Less a b = some (rless a b) := by
  unfold spec_l11Less rless
  rw [specLess]
  cases (!((a.2.1.1 == b.2.1.1) && ((a.2.1.2.1 == b.2.1.2.1) && (a.2.1.2.2 == b.2.1.2.2)))) <;> cases (!(a.2.2.1 == b.2.2.1)) <;> rfl

theorem implLater (a b : Row) : impl_laterRow a b = some (rless b a) := by
  unfold impl_laterRow rless
  rw [implLess, BEq.comm (a := a.2.1.1), BEq.comm (a := a.2.1.2.1), BEq.comm (a := a.2.1.2.2), BEq.comm (a := a.2.2.1)]
  cases (!((b.2.1.1 == a.2.1.1) && ((b.2.1.2.1 == a.2.1.2.1) && (b.2.1.2.2 == a.2.1.2.2)))) <;> cases (!(b.2.2.1 == a.2.2.1)) <;> rfl

def row0 : Row := ((⟨#[]⟩ : ByteArray), (((0 : Int), ((0 : Int), (0 : Int))), (false, (0 : Int))))

/-- The place of the first row of a name. -/
def findN (s : ByteArray) : List Row → Nat → Option Nat
  | [], _ => none
  | r :: l, i => bif teq r.1 s then some i else findN s l (i + 1)

/-- Where a row of a new name goes. -/
def cutN (l : List Row) (s : ByteArray) : Nat → Nat
  | 0 => 0
  | k + 1 => bif tlt s (l.getD k row0).1 then cutN l s k else k + 1

def mrg (l : List Row) (x : Row) : List Row := match findN x.1 l 0 with
  | some i => bif rless (l.getD i row0) x then l.set i x else l
  | none => l.take (cutN l x.1 l.length) ++ x :: l.drop (cutN l x.1 l.length)

theorem cutN_le (l : List Row) (s : ByteArray) : ∀ k, cutN l s k ≤ k
  | 0 => Nat.le_refl _
  | k + 1 => by
    unfold cutN
    cases tlt s (l.getD k row0).1 with
    | true => have := cutN_le l s k; simp only [cond_true]; omega
    | false => simp only [cond_false]; omega

theorem findN_drop {s : ByteArray} : ∀ (l : List Row) (i j : Nat), findN s l i = some j → i ≤ j ∧ j < i + l.length ∧ teq (l.getD (j - i) row0).1 s = true
  | [], i, j, h => by simp [findN] at h
  | r :: l, i, j, h => by
    unfold findN at h
    cases ht : teq r.1 s with
    | true =>
      rw [ht] at h
      simp only [cond_true, Option.some.injEq] at h
      subst h
      refine ⟨Nat.le_refl _, by simp, ?_⟩
      rw [Nat.sub_self]
      exact ht
    | false =>
      rw [ht] at h
      simp only [cond_false] at h
      obtain ⟨h1, h2, h3⟩ := findN_drop l (i + 1) j h
      refine ⟨by omega, by simp only [List.length_cons]; omega, ?_⟩
      rw [show j - i = (j - (i + 1)) + 1 by omega]
      exact h3

theorem drop_cons {α : Type} {l : List α} {i : Nat} {d : α} (h : i < l.length) : l.drop i = l.getD i d :: l.drop (i + 1) := by
  rw [List.drop_eq_getElem_cons h, List.getD_eq_getElem?_getD, List.getElem?_eq_getElem h]
  rfl

/-- How many rows fit. -/
def Few (l : List Row) : Prop := l.length ≤ 1000000000000

theorem specMerge_l3 (x : Row) : ∀ (n : Nat) (l : List Row) (i : Nat), l.length - i = n → i ≤ l.length → Few l →
    Tot (fun k => spec_MergeRow_l3 k l (i : Int) x.1 x.2.1.1 x.2.1.2.1 x.2.1.2.2 x.2.2.1 x.2.2.2) (fun r => r = match findN x.1 (l.drop i) i with
      | some j => .inl (bif rless (l.getD j row0) x then l.set j x else l)
      | none => .inr (l, x.1, x.2.1.1, x.2.1.2.1, x.2.1.2.2, x.2.2.1, x.2.2.2)) := by
  intro n
  induction n with
  | zero =>
    intro l i hn hi hf
    unfold Few at hf
    refine Tot.succ ?_
    simp only [spec_MergeRow_l3]
    refine Tot.ndec (by omega) (Tot.pure ?_)
    rw [List.drop_of_length_le (by omega)]
    rfl
  | succ n ih =>
    intro l i hn hi hf
    have hf' := hf
    unfold Few at hf
    have hlt : i < l.length := by omega
    refine Tot.succ ?_
    simp only [spec_MergeRow_l3]
    refine Tot.dec (by omega) (Tot.dec (by omega) (Tot.dec (by omega) ?_))
    have e0 : Int.toNat (i : Int) = i := Int.toNat_natCast i
    rw [e0, drop_cons (d := row0) hlt]
    refine Tot.ite (fun ht => ?_) (fun ht => ?_)
    · have ht' : teq (l.getD i row0).1 x.1 = true := ht
      refine Tot.dec (by omega) (Tot.dec (by omega) ?_)
      refine Tot.bind (Tot.of (Q := fun r => r = rless (l.getD i row0) x) (specL11Less _ _) rfl) ?_
      rintro b rfl
      simp only [findN, ht', cond_true]
      cases hb : rless (l.getD i row0) x with
      | true => exact Tot.yes rfl (Tot.dec (by omega) (Tot.dec (by omega) (Tot.pure rfl)))
      | false => exact Tot.no rfl (Tot.pure rfl)
    · have ht' : teq (l.getD i row0).1 x.1 = false := ht
      simp only [findN, ht', cond_false]
      rw [w64 (n := (i : Int) + 1) (by omega) (by omega)]
      exact ih l (i + 1) (by omega) (by omega) hf'

theorem implMerge_l3 (x : Row) (l0 l5 : List Row) (h5 : l5 = l0) : ∀ (n : Nat) (i : Nat), l0.length - i = n → i ≤ l0.length → Few l0 →
    Tot (fun k => impl_MergeRow_l3 k l0 l5 l0 (l0.length : Int) (i : Int) x.1 x.2.1.1 x.2.1.2.1 x.2.1.2.2 x.2.2.1 x.2.2.2) (fun r => r = match findN x.1 (l0.drop i) i with
      | some j => .inl (bif rless (l0.getD j row0) x then l0.set j x else l0)
      | none => .inr (l0, x.1, x.2.1.1, x.2.1.2.1, x.2.1.2.2, x.2.2.1, x.2.2.2)) := by
  subst h5
  intro n
  induction n with
  | zero =>
    intro i hn hi hf
    unfold Few at hf
    refine Tot.succ ?_
    simp only [impl_MergeRow_l3]
    refine Tot.ndec (by omega) (Tot.pure ?_)
    rw [List.drop_of_length_le (by omega)]
    rfl
  | succ n ih =>
    intro i hn hi hf
    have hf' := hf
    unfold Few at hf
    have hlt : i < l5.length := by omega
    refine Tot.succ ?_
    simp only [impl_MergeRow_l3]
    refine Tot.dec (by omega) (Tot.dec (by omega) (Tot.dec (by omega) ?_))
    have e0 : Int.toNat (i : Int) = i := Int.toNat_natCast i
    rw [e0, drop_cons (d := row0) hlt]
    refine Tot.ite (fun ht => ?_) (fun ht => ?_)
    · have ht' : teq (l5.getD i row0).1 x.1 = true := ht
      refine Tot.bind (Tot.of (Q := fun r => r = rless (l5.getD i row0) x) (implLater _ _) rfl) ?_
      rintro b rfl
      simp only [findN, ht', cond_true]
      cases hb : rless (l5.getD i row0) x with
      | true => exact Tot.yes rfl (Tot.dec (by omega) (Tot.dec (by omega) (Tot.pure rfl)))
      | false => exact Tot.no rfl (Tot.pure rfl)
    · have ht' : teq (l5.getD i row0).1 x.1 = false := ht
      simp only [findN, ht', cond_false]
      rw [w64 (n := (i : Int) + 1) (by omega) (by omega)]
      exact ih (i + 1) (by omega) (by omega) hf'

theorem implMerge_l11 (x : Row) (l : List Row) (hf : Few l) : ∀ (i : Nat), i ≤ l.length →
    Tot (fun k => impl_MergeRow_l11 k l (i : Int) x.1 x.2.1.1 x.2.1.2.1 x.2.1.2.2 x.2.2.1 x.2.2.2) (fun r => r = (l, (cutN l x.1 i : Int), x.1, x.2.1.1, x.2.1.2.1, x.2.1.2.2, x.2.2.1, x.2.2.2)) := by
  unfold Few at hf
  intro i
  induction i with
  | zero =>
    intro hi
    refine Tot.succ ?_
    simp only [impl_MergeRow_l11]
    exact Tot.ndec (by omega) (Tot.pure rfl)
  | succ i ih =>
    intro hi
    refine Tot.succ ?_
    simp only [impl_MergeRow_l11]
    rw [w64 (n := ((i + 1 : Nat) : Int) - 1) (by omega) (by omega), show ((i + 1 : Nat) : Int) - 1 = (i : Int) by omega, show Int.toNat (i : Int) = i from Int.toNat_natCast i]
    refine Tot.dec (by omega) (Tot.dec (by omega) (Tot.dec (by omega) ?_))
    have e : ∀ z, (!(Op.bytesLess (l.getD i z).1.toList x.1.toList || (l.getD i z).1.toList == x.1.toList)) = tlt x.1 (l.getD i z).1 := fun z => tgt_eq _ _
    rw [e]
    have hc : cutN l x.1 (i + 1) = bif tlt x.1 (l.getD i row0).1 then cutN l x.1 i else i + 1 := rfl
    refine Tot.ite (fun ht => ?_) (fun ht => ?_)
    · have ht' : tlt x.1 (l.getD i row0).1 = true := ht
      rw [hc, ht', cond_true]
      exact ih (by omega)
    · have ht' : tlt x.1 (l.getD i row0).1 = false := ht
      rw [hc, ht', cond_false]
      exact Tot.pure rfl

theorem implCopy (l : List Row) (hf : Few l) : impl_copyRows l = some l := by
  unfold Few at hf
  unfold impl_copyRows
  rw [Nat.ble_eq_true_of_le (by simp only [List.length_nil]; omega)]
  rfl

theorem implMerge (l : List Row) (x : Row) (hf : Few l) : Tot (fun k => impl_MergeRow k l x) (fun r => r = mrg l x) := by
  have hf' := hf
  unfold Few at hf
  unfold impl_MergeRow
  refine Tot.bind (Tot.of (Q := fun r => r = l) (implCopy l hf') rfl) ?_
  rintro r rfl
  refine Tot.bind (implMerge_l3 x r r rfl _ 0 rfl (Nat.zero_le _) hf') ?_
  rintro y rfl
  rw [List.drop_zero]
  unfold mrg
  cases hfi : findN x.1 r 0 with
  | some j => exact Tot.pure rfl
  | none =>
    simp only [Sum.elim_inr]
    refine Tot.bind (implMerge_l11 x r hf' r.length (Nat.le_refl _)) ?_
    rintro z rfl
    have hc := cutN_le r x.1 r.length
    simp only
    rw [show Int.toNat ((cutN r x.1 r.length : Nat) : Int) = cutN r x.1 r.length from Int.toNat_natCast _]
    refine Tot.dec (by omega) (Tot.dec (by omega) ?_)
    have hft : Few (r.take (cutN r x.1 r.length)) := by unfold Few; rw [List.length_take]; omega
    refine Tot.bind (Tot.of (Q := fun q => q = r.take (cutN r x.1 r.length)) (implCopy _ hft) rfl) ?_
    rintro q rfl
    refine Tot.ble (by simp only [List.length_take, List.length_cons, List.length_nil]; omega) ?_
    refine Tot.dec (by omega) (Tot.dec (by omega) (Tot.ble (by simp only [List.length_append, List.length_take, List.length_drop, List.length_cons, List.length_nil]; omega) (Tot.pure ?_)))
    rw [List.append_assoc]
    rfl

theorem specMerge_l11 (x : Row) (l : List Row) (hf : Few l) : ∀ (i : Nat) (y : Row), i ≤ l.length →
    Tot (fun k => spec_MergeRow_l11 k (l.take i ++ y :: l.drop i) (i : Int) x.1 x.2.1.1 x.2.1.2.1 x.2.1.2.2 x.2.2.1 x.2.2.2)
      (fun r => ∃ y', r = (l.take (cutN l x.1 i) ++ y' :: l.drop (cutN l x.1 i), (cutN l x.1 i : Int), x.1, x.2.1.1, x.2.1.2.1, x.2.1.2.2, x.2.2.1, x.2.2.2)) := by
  unfold Few at hf
  intro i
  induction i with
  | zero =>
    intro y hi
    refine Tot.succ ?_
    simp only [spec_MergeRow_l11]
    exact Tot.ndec (by omega) (Tot.pure ⟨y, rfl⟩)
  | succ i ih =>
    intro y hi
    refine Tot.succ ?_
    simp only [spec_MergeRow_l11]
    have hlen : (l.take (i + 1) ++ y :: l.drop (i + 1)).length = l.length + 1 := by simp only [List.length_append, List.length_take, List.length_cons, List.length_drop]; omega
    have hget : ∀ z, (l.take (i + 1) ++ y :: l.drop (i + 1)).getD i z = l.getD i z := by
      intro z
      rw [List.getD_eq_getElem?_getD, List.getD_eq_getElem?_getD, List.getElem?_append_left (by rw [List.length_take]; omega), List.getElem?_take_of_lt (by omega)]
    rw [w64 (n := ((i + 1 : Nat) : Int) - 1) (by omega) (by omega), show ((i + 1 : Nat) : Int) - 1 = (i : Int) by omega, show Int.toNat (i : Int) = i from Int.toNat_natCast i, show Int.toNat ((i + 1 : Nat) : Int) = i + 1 from Int.toNat_natCast _, hget, hlen]
    refine Tot.dec (by omega) (Tot.dec (by omega) (Tot.dec (by omega) ?_))
    have e : ∀ z, (!(Op.bytesLess (l.getD i z).1.toList x.1.toList || (l.getD i z).1.toList == x.1.toList)) = tlt x.1 (l.getD i z).1 := fun z => tgt_eq _ _
    rw [e]
    have hc : cutN l x.1 (i + 1) = bif tlt x.1 (l.getD i row0).1 then cutN l x.1 i else i + 1 := rfl
    refine Tot.ite (fun ht => ?_) (fun ht => ?_)
    · have ht' : tlt x.1 (l.getD i row0).1 = true := ht
      rw [hc, ht', cond_true]
      refine Tot.dec (by omega) (Tot.dec (by omega) (Tot.dec (by omega) (Tot.dec (by omega) ?_)))
      have hset : (l.take (i + 1) ++ y :: l.drop (i + 1)).set (i + 1) (l.getD i ((⟨#[]⟩ : ByteArray), (((0 : Int), ((0 : Int), (0 : Int))), (false, (0 : Int))))) = l.take i ++ l.getD i row0 :: l.drop i := by
        rw [List.set_append, if_neg (by rw [List.length_take]; omega), List.length_take, Nat.min_eq_left hi, Nat.sub_self, List.set_cons_zero, drop_cons (d := row0) (show i < l.length by omega)]
        rw [List.take_add_one, List.getElem?_eq_getElem (show i < l.length by omega)]
        simp only [Option.toList_some, List.append_assoc, List.singleton_append]
        rw [List.getD_eq_getElem?_getD, List.getD_eq_getElem?_getD, List.getElem?_eq_getElem (show i < l.length by omega)]
        rfl
      rw [hset]
      exact ih _ (by omega)
    · have ht' : tlt x.1 (l.getD i row0).1 = false := ht
      rw [hc, ht', cond_false]
      exact Tot.pure ⟨y, rfl⟩

theorem specMerge (l : List Row) (x : Row) (hf : Few l) : Tot (fun k => spec_MergeRow k l x) (fun r => r = mrg l x) := by
  have hf' := hf
  unfold Few at hf
  unfold spec_MergeRow
  refine Tot.ble (by simp only [List.length_nil]; omega) ?_
  rw [List.nil_append]
  refine Tot.bind (specMerge_l3 x _ l 0 rfl (Nat.zero_le _) hf') ?_
  rintro y rfl
  rw [List.drop_zero]
  unfold mrg
  cases hfi : findN x.1 l 0 with
  | some j => exact Tot.pure rfl
  | none =>
    simp only [Sum.elim_inr]
    refine Tot.ble (by simp only [List.length_cons, List.length_nil]; omega) ?_
    have h0 := specMerge_l11 x l hf' l.length x (Nat.le_refl _)
    rw [List.take_length, List.drop_length] at h0
    refine Tot.bind h0 ?_
    rintro z ⟨y', rfl⟩
    have hc := cutN_le l x.1 l.length
    have hlen : (l.take (cutN l x.1 l.length) ++ y' :: l.drop (cutN l x.1 l.length)).length = l.length + 1 := by simp only [List.length_append, List.length_take, List.length_cons, List.length_drop]; omega
    simp only
    rw [show Int.toNat ((cutN l x.1 l.length : Nat) : Int) = cutN l x.1 l.length from Int.toNat_natCast _, hlen]
    refine Tot.dec (by omega) (Tot.dec (by omega) (Tot.pure ?_))
    rw [List.set_append, if_neg (by rw [List.length_take]; omega), List.length_take, Nat.min_eq_left hc, Nat.sub_self, List.set_cons_zero]
end Go.Proofs.Ytehkignjdbkeiaa.Vf
