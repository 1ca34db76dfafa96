import Derived.Test.YtgocagaijgcnmaaGreatMal
import Derived.Laws.StructEq
section
set_option linter.unusedVariables false
set_option linter.unusedSimpArgs false
namespace Go.Proofs.YtgocagaijgcnmaaGreat.Vf
open Go
theorem Xy : ∀ (a : List UInt8), Op.bytesLess a a = false
 | [] => rfl
 | a :: l => by simp [Op.bytesLess, Xy l]
theorem Dea : ∀ (a b c : List UInt8), Op.bytesLess a b = true → Op.bytesLess b c = true → Op.bytesLess a c = true
 | _, [], _, h, _ => by simp [Op.bytesLess] at h
 | _, _ :: _, [], _, h => by simp [Op.bytesLess] at h
 | [], _ :: _, _ :: _, _, _ => rfl
 | a :: x, b :: y, c :: z, h1, h2 => by
  simp only [Op.bytesLess, Bool.or_eq_true, Bool.and_eq_true, decide_eq_true_eq, beq_iff_eq] at h1 h2 ⊢
  rcases h1 with h1 | ⟨rfl, h1⟩
  ·rcases h2 with h2 | ⟨rfl, h2⟩
   ·exact .inl (UInt8.lt_trans h1 h2)
   ·exact .inl h1
  ·rcases h2 with h2 | ⟨rfl, h2⟩
   ·exact .inl h2
   ·exact .inr ⟨rfl, Dea x y z h1 h2⟩
theorem Mva : ∀ (a b : List UInt8), Op.bytesLess a b = false → Op.bytesLess b a = false → a = b
 | [], [], _, _ => rfl
 | [], _ :: _, h, _ => by simp [Op.bytesLess] at h
 | _ :: _, [], _, h => by simp [Op.bytesLess] at h
 | a :: x, b :: y, h1, h2 => by
  simp only [Op.bytesLess, Bool.or_eq_false_iff, Bool.and_eq_false_iff, decide_eq_false_iff_not] at h1 h2
  have hab : a = b := by
   have h3 := UInt8.not_lt.1 h1.1
   have h4 := UInt8.not_lt.1 h2.1
   exact UInt8.le_antisymm h4 h3
  subst hab
  rw [Mva x y (h1.2.resolve_left (by simp)) (h2.2.resolve_left (by simp))]
def tlt (a b : ByteArray) : Bool := Op.bytesLess a.toList b.toList
def teq (a b : ByteArray) : Bool := a.toList == b.toList
theorem Td {a b : ByteArray} (h : a.toList = b.toList) : a = b := by
 rw [ByteArray.toList_eq, ByteArray.toList_eq] at h
 obtain ⟨⟨x⟩⟩ := a
 obtain ⟨⟨y⟩⟩ := b
 simp only at h
 rw [h]
theorem Gp {a b : ByteArray} : teq a b = true ↔ a = b := by
 unfold teq
 rw [beq_iff_eq]
 exact ⟨Td, fun h => by rw [h]⟩
theorem Ii (a : ByteArray) : tlt a a = false := Xy _
theorem Jn {a b c : ByteArray} (h : tlt a b = true) (h' : tlt b c = true) : tlt a c = true := Dea _ _ _ h h'
theorem Uv {a b : ByteArray} (h : tlt a b = false) (h' : tlt b a = false) : a = b := Td (Mva _ _ h h')
theorem Rl {a b : ByteArray} (h : tlt a b = true) : tlt b a = false := by
 cases hb : tlt b a with
 | false => rfl
 | true =>
  have := Jn h hb
  rw [Ii] at this
  cases this
theorem Ida (a b : ByteArray) : (!(Op.bytesLess a.toList b.toList || a.toList == b.toList)) = tlt b a := by
 show (!(tlt a b || teq a b)) = tlt b a
 cases h1 : tlt a b with
 | true => rw [Rl h1]; rfl
 | false =>
  cases h2 : teq a b with
  | true => rw [Gp.1 h2, Ii]; rfl
  | false =>
   cases h3 : tlt b a with
   | true => rfl
   | false =>
    exfalso
    have := Uv h1 h3
    rw [Gp.2 this] at h2
    cases h2
def sle (a b : Stp) : Bool := cond (a.1 != b.1) (decide (a.1 < b.1)) (cond (a.2.1 != b.2.1) (decide (a.2.1 < b.2.1)) (decide (a.2.2 < b.2.2)))
theorem Dfa (a b : Stp) : C5 a b = some (sle a b) := by
 unfold C5 sle
 cases a.1 != b.1 <;> cases a.2.1 != b.2.1 <;> rfl
def Sk (a b : Row) : Bool := cond (!((a.2.1.1 == b.2.1.1) && ((a.2.1.2.1 == b.2.1.2.1) && (a.2.1.2.2 == b.2.1.2.2)))) (sle a.2.1 b.2.1) (cond (!(a.2.2.1 == b.2.2.1)) b.2.2.1 (decide (a.2.2.2 < b.2.2.2)))
theorem B7a (a b : Row) : Fx a b = some (Sk a b) := by
 unfold Fx Sk
 rw [Dfa]
 cases (!((a.2.1.1 == b.2.1.1) && ((a.2.1.2.1 == b.2.1.2.1) && (a.2.1.2.2 == b.2.1.2.2)))) <;> cases (!(a.2.2.1 == b.2.2.1)) <;> rfl
def Hi : Row := ((⟨#[]⟩ : ByteArray), (((0 : Int), ((0 : Int), (0 : Int))), (false, (0 : Int))))
def Rm (s : ByteArray) : List Row → Nat → Option Nat
 | [], _ => none
 | r :: l, i => bif teq r.1 s then some i else Rm s l (i + 1)
def Uw (l : List Row) (s : ByteArray) : Nat → Nat
 | 0 => 0
 | k + 1 => bif tlt s (l.getD k Hi).1 then Uw l s k else k + 1
def mrg (l : List Row) (x : Row) : List Row := match Rm x.1 l 0 with
 | some i => bif Sk (l.getD i Hi) x then l.set i x else l
 | none => l.take (Uw l x.1 l.length) ++ x :: l.drop (Uw l x.1 l.length)
theorem Ux (l : List Row) (s : ByteArray) : ∀ k, Uw l s k ≤ k
 | 0 => Nat.le_refl _
 | k + 1 => by
  unfold Uw
  cases tlt s (l.getD k Hi).1 with
  | true => have := Ux l s k; simp only [cond_true]; omega
  | false => simp only [cond_false]; omega
theorem Te {s : ByteArray} : ∀ (l : List Row) (i j : Nat), Rm s l i = some j → i ≤ j ∧ j < i + l.length ∧ teq (l.getD (j - i) Hi).1 s = true
 | [], i, j, h => by simp [Rm] at h
 | r :: l, i, j, h => by
  unfold Rm at h
  cases ht : teq r.1 s with
  | true =>
   rw [ht] at h
   simp only [cond_true, Option.some.injEq] at h
   subst h
   refine ⟨Nat.le_refl _, by simp, ?_⟩
   rw [Nat.sub_self]
   exact ht
  | false =>
   rw [ht] at h
   simp only [cond_false] at h
   obtain ⟨h1, h2, h3⟩ := Te l (i + 1) j h
   refine ⟨by omega, by simp only [List.length_cons]; omega, ?_⟩
   rw [show j - i = (j - (i + 1)) + 1 by omega]
   exact h3
theorem Bh {α : Type} {l : List α} {i : Nat} {d : α} (h : i < l.length) : l.drop i = l.getD i d :: l.drop (i + 1) := by
 rw [List.drop_eq_getElem_cons h, List.getD_eq_getElem?_getD, List.getElem?_eq_getElem h]
 rfl
def Few (l : List Row) : Prop := l.length ≤ 1000000000000
theorem Xz (x : Row) : ∀ (n : Nat) (l : List Row) (i : Nat), l.length - i = n → i ≤ l.length → Few l →
  Tot (fun k => Cc k l (i : Int) x.1 x.2.1.1 x.2.1.2.1 x.2.1.2.2 x.2.2.1 x.2.2.2) (fun r => r = match Rm x.1 (l.drop i) i with
   | some j => .inl (bif Sk (l.getD j Hi) x then l.set j x else l)
   | none => .inr (l, x.1, x.2.1.1, x.2.1.2.1, x.2.1.2.2, x.2.2.1, x.2.2.2)) := by
 intro n
 induction n with
 | zero =>
  intro l i hn hi hf
  unfold Few at hf
  refine Tot.succ ?_
  simp only [Cc]
  refine Tot.ndec (by omega) (Tot.pure ?_)
  rw [List.drop_of_length_le (by omega)]
  rfl
 | succ n ih =>
  intro l i hn hi hf
  have hf' := hf
  unfold Few at hf
  have hlt : i < l.length := by omega
  refine Tot.succ ?_
  simp only [Cc]
  refine Tot.dec (by omega) (Tot.dec (by omega) (Tot.dec (by omega) ?_))
  have e0 : Int.toNat (i : Int) = i := Int.toNat_natCast i
  rw [e0, Bh (d := Hi) hlt]
  refine Tot.ite (fun ht => ?_) (fun ht => ?_)
  ·have ht' : teq (l.getD i Hi).1 x.1 = true := ht
   refine Tot.dec (by omega) (Tot.dec (by omega) ?_)
   refine Tot.bind (Tot.of (Q := fun r => r = Sk (l.getD i Hi) x) (B7a _ _) rfl) ?_
   rintro b rfl
   simp only [Rm, ht', cond_true]
   cases hb : Sk (l.getD i Hi) x with
   | true => exact Tot.yes rfl (Tot.dec (by omega) (Tot.dec (by omega) (Tot.pure rfl)))
   | false => exact Tot.no rfl (Tot.pure rfl)
  ·have ht' : teq (l.getD i Hi).1 x.1 = false := ht
   simp only [Rm, ht', cond_false]
   rw [w64 (n := (i : Int) + 1) (by omega) (by omega)]
   exact ih l (i + 1) (by omega) (by omega) hf'
theorem Dga (l : List Row) (hf : Few l) : Ed l = some l := by
 unfold Few at hf
 unfold Ed
 rw [Nat.ble_eq_true_of_le (by simp only [List.length_nil]; omega)]
 rfl
theorem Uy (x : Row) (l : List Row) (hf : Few l) : ∀ (i : Nat) (y : Row), i ≤ l.length →
  Tot (fun k => Bz k (l.take i ++ y :: l.drop i) (i : Int) x.1 x.2.1.1 x.2.1.2.1 x.2.1.2.2 x.2.2.1 x.2.2.2)
   (fun r => ∃ y', r = (l.take (Uw l x.1 i) ++ y' :: l.drop (Uw l x.1 i), (Uw l x.1 i : Int), x.1, x.2.1.1, x.2.1.2.1, x.2.1.2.2, x.2.2.1, x.2.2.2)) := by
 unfold Few at hf
 intro i
 induction i with
 | zero =>
  intro y hi
  refine Tot.succ ?_
  simp only [Bz]
  exact Tot.ndec (by omega) (Tot.pure ⟨y, rfl⟩)
 | succ i ih =>
  intro y hi
  refine Tot.succ ?_
  simp only [Bz]
  have hlen : (l.take (i + 1) ++ y :: l.drop (i + 1)).length = l.length + 1 := by simp only [List.length_append, List.length_take, List.length_cons, List.length_drop]; omega
  have hget : ∀ z, (l.take (i + 1) ++ y :: l.drop (i + 1)).getD i z = l.getD i z := by
   intro z
   rw [List.getD_eq_getElem?_getD, List.getD_eq_getElem?_getD, List.getElem?_append_left (by rw [List.length_take]; omega), List.getElem?_take_of_lt (by omega)]
  rw [w64 (n := ((i + 1 : Nat) : Int) - 1) (by omega) (by omega), show ((i + 1 : Nat) : Int) - 1 = (i : Int) by omega, show Int.toNat (i : Int) = i from Int.toNat_natCast i, show Int.toNat ((i + 1 : Nat) : Int) = i + 1 from Int.toNat_natCast _, hget, hlen]
  refine Tot.dec (by omega) (Tot.dec (by omega) (Tot.dec (by omega) ?_))
  have e : ∀ z, (!(Op.bytesLess (l.getD i z).1.toList x.1.toList || (l.getD i z).1.toList == x.1.toList)) = tlt x.1 (l.getD i z).1 := fun z => Ida _ _
  rw [e]
  have hc : Uw l x.1 (i + 1) = bif tlt x.1 (l.getD i Hi).1 then Uw l x.1 i else i + 1 := rfl
  refine Tot.ite (fun ht => ?_) (fun ht => ?_)
  ·have ht' : tlt x.1 (l.getD i Hi).1 = true := ht
   rw [hc, ht', cond_true]
   refine Tot.dec (by omega) (Tot.dec (by omega) (Tot.dec (by omega) (Tot.dec (by omega) ?_)))
   have hset : (l.take (i + 1) ++ y :: l.drop (i + 1)).set (i + 1) (l.getD i ((⟨#[]⟩ : ByteArray), (((0 : Int), ((0 : Int), (0 : Int))), (false, (0 : Int))))) = l.take i ++ l.getD i Hi :: l.drop i := by
    rw [List.set_append, if_neg (by rw [List.length_take]; omega), List.length_take, Nat.min_eq_left hi, Nat.sub_self, List.set_cons_zero, Bh (d := Hi) (show i < l.length by omega)]
    rw [List.take_add_one, List.getElem?_eq_getElem (show i < l.length by omega)]
    simp only [Option.toList_some, List.append_assoc, List.singleton_append]
    rw [List.getD_eq_getElem?_getD, List.getD_eq_getElem?_getD, List.getElem?_eq_getElem (show i < l.length by omega)]
    rfl
   rw [hset]
   exact ih _ (by omega)
  ·have ht' : tlt x.1 (l.getD i Hi).1 = false := ht
   rw [hc, ht', cond_false]
   exact Tot.pure ⟨y, rfl⟩
theorem Y0 (l : List Row) (x : Row) (hf : Few l) : Tot (fun k => B5 k l x) (fun r => r = mrg l x) := by
 have hf' := hf
 unfold Few at hf
 unfold B5
 refine Tot.ble (by simp only [List.length_nil]; omega) ?_
 rw [List.nil_append]
 refine Tot.bind (Xz x _ l 0 rfl (Nat.zero_le _) hf') ?_
 rintro y rfl
 rw [List.drop_zero]
 unfold mrg
 cases hfi : Rm x.1 l 0 with
 | some j => exact Tot.pure rfl
 | none =>
  simp only [Sum.elim_inr]
  refine Tot.ble (by simp only [List.length_cons, List.length_nil]; omega) ?_
  have h0 := Uy x l hf' l.length x (Nat.le_refl _)
  rw [List.take_length, List.drop_length] at h0
  refine Tot.bind h0 ?_
  rintro z ⟨y', rfl⟩
  have hc := Ux l x.1 l.length
  have hlen : (l.take (Uw l x.1 l.length) ++ y' :: l.drop (Uw l x.1 l.length)).length = l.length + 1 := by simp only [List.length_append, List.length_take, List.length_cons, List.length_drop]; omega
  simp only
  rw [show Int.toNat ((Uw l x.1 l.length : Nat) : Int) = Uw l x.1 l.length from Int.toNat_natCast _, hlen]
  refine Tot.dec (by omega) (Tot.dec (by omega) (Tot.pure ?_))
  rw [List.set_append, if_neg (by rw [List.length_take]; omega), List.length_take, Nat.min_eq_left hc, Nat.sub_self, List.set_cons_zero]
end Go.Proofs.YtgocagaijgcnmaaGreat.Vf
end

section
set_option linter.unusedVariables false
set_option linter.unusedSimpArgs false
namespace Go.Proofs.YtgocagaijgcnmaaGreat.Vf
open Go
theorem Lba (a b : ByteArray) : (a == b) = teq a b := beq_toListBytes a b
def Pia (a b : Row) : Bool := (a.1 == b.1) && ((a.2.1.1 == b.2.1.1) && ((a.2.1.2.1 == b.2.1.2.1) && ((a.2.1.2.2 == b.2.1.2.2) && ((a.2.2.1 == b.2.2.1) && (a.2.2.2 == b.2.2.2)))))
theorem Dha {a b : Row} : Pia a b = true ↔ a = b := by
 unfold Pia
 simp only [Bool.and_eq_true, beq_iff_eq, Lba, Gp]
 constructor
 ·rintro ⟨h1, h2, h3, h4, h5, h6⟩
  obtain ⟨n, ⟨t, s, d⟩, b1, z⟩ := a
  obtain ⟨n', ⟨t', s', d'⟩, b1', z'⟩ := b
  simp only at h1 h2 h3 h4 h5 h6
  subst h1 h2 h3 h4 h5 h6
  rfl
 ·rintro rfl
  exact ⟨rfl, rfl, rfl, rfl, rfl, rfl⟩
theorem B8a (a b : List Row) (hl : a.length = b.length) (hf : Few a) : ∀ (n i : Nat), a.length - i = n → i ≤ a.length →
  Tot (fun k => Ci k a b (i : Int)) (fun r => r = bif decide (a.drop i = b.drop i) then .inr () else .inl false) := by
 unfold Few at hf
 intro n
 induction n with
 | zero =>
  intro i hn hi
  refine Tot.succ ?_
  simp only [Ci]
  refine Tot.ndec (by omega) (Tot.pure ?_)
  rw [List.drop_of_length_le (by omega), List.drop_of_length_le (by omega)]
  rfl
 | succ n ih =>
  intro i hn hi
  have hlt : i < a.length := by omega
  refine Tot.succ ?_
  simp only [Ci]
  rw [show Int.toNat (i : Int) = i from Int.toNat_natCast i]
  refine Tot.dec (by omega) (Tot.dec (by omega) (Tot.dec (by omega) (Tot.dec (by omega) (Tot.dec (by omega) ?_))))
  rw [Bh (d := Hi) hlt, Bh (d := Hi) (show i < b.length by omega)]
  refine Tot.ite (fun h => ?_) (fun h => ?_)
  ·have h' : Pia (a.getD i Hi) (b.getD i Hi) = false := (Bool.not_eq_true' _).mp h
   have hne : a.getD i Hi ≠ b.getD i Hi := fun e => by rw [Dha.2 e] at h'; cases h'
   refine Tot.pure ?_
   rw [decide_eq_false (by intro e; exact hne (List.cons.inj e).1)]
   rfl
  ·have h' : Pia (a.getD i Hi) (b.getD i Hi) = true := by
    have h2 : (!(Pia (a.getD i Hi) (b.getD i Hi))) = false := h
    cases hb : Pia (a.getD i Hi) (b.getD i Hi) with
    | true => rfl
    | false => rw [hb] at h2; cases h2
   have he := Dha.1 h'
   rw [w64 (n := (i : Int) + 1) (by omega) (by omega)]
   refine (ih (i + 1) (by omega) (by omega)).mono ?_
   rintro r rfl
   rw [he]
   have : (b.getD i Hi :: a.drop (i + 1) = b.getD i Hi :: b.drop (i + 1)) ↔ (a.drop (i + 1) = b.drop (i + 1)) := by simp
   simp only [this]
theorem Pq (a b : List Row) (hf : Few a) (hf2 : Few b) : Tot (fun k => Di k a b) (fun r => r = decide (a = b)) := by
 unfold Di
 refine Tot.ite (fun h => ?_) (fun h => ?_)
 ·refine Tot.pure ?_
  have : a ≠ b := fun e => by subst e; simp at h
  rw [decide_eq_false this]
 ·have hl : a.length = b.length := by
   simp only [bne_eq_false_iff_eq] at h
   omega
  refine Tot.bind (B8a a b hl hf _ 0 rfl (Nat.zero_le _)) ?_
  rintro r rfl
  rw [List.drop_zero, List.drop_zero]
  cases decide (a = b) with
  | true => exact Tot.pure rfl
  | false => exact Tot.pure rfl
theorem Tf {s : ByteArray} : ∀ (l : List Row) (i : Nat), Rm s l i = none → ∀ r ∈ l, r.1 ≠ s
 | [], _, _, r, hr => by simp at hr
 | a :: l, i, h, r, hr => by
  unfold Rm at h
  cases ht : teq a.1 s with
  | true => rw [ht] at h; simp at h
  | false =>
   rw [ht] at h
   rcases List.mem_cons.1 hr with rfl | hr
   ·intro e
    rw [Gp.2 e] at ht
    cases ht
   ·exact Tf l (i + 1) h r hr
theorem Iea (l : List Row) (x : Row) : l.length ≤ (mrg l x).length ∧ (mrg l x).length ≤ l.length + 1 := by
 unfold mrg
 have hc := Ux l x.1 l.length
 split
 ·cases Sk (l.getD _ Hi) x <;> simp
 ·simp only [List.length_append, List.length_take, List.length_cons, List.length_drop]
  omega
theorem Ifa {l : List Row} {x r : Row} (h : r ∈ mrg l x) : r = x ∨ r ∈ l := by
 unfold mrg at h
 split at h
 ·rename_i j hj
  cases hb : Sk (l.getD j Hi) x with
  | false => rw [hb] at h; exact .inr h
  | true =>
   rw [hb, cond_true] at h
   rcases List.mem_or_eq_of_mem_set h with h | h
   ·exact .inr h
   ·exact .inl h
 ·rcases List.mem_append.1 h with h | h
  ·exact .inr (List.mem_of_mem_take h)
  ·rcases List.mem_cons.1 h with h | h
   ·exact .inl h
   ·exact .inr (List.mem_of_mem_drop h)
def Gd (l : List Row) : Prop := l.Pairwise (fun a b => tlt a.1 b.1 = true)
theorem Y1 {l : List Row} {s : ByteArray} (hs : Gd l) (hn : ∀ r ∈ l, r.1 ≠ s) : ∀ k, k ≤ l.length → (∀ i, i < Uw l s k → tlt (l.getD i Hi).1 s = true) ∧ (∀ i, Uw l s k ≤ i → i < k → tlt s (l.getD i Hi).1 = true)
 | 0, _ => ⟨fun i hi => by simp [Uw] at hi, fun i _ hi => by omega⟩
 | k + 1, hk => by
  unfold Uw
  cases ht : tlt s (l.getD k Hi).1 with
  | true =>
   simp only [cond_true]
   obtain ⟨h1, h2⟩ := Y1 hs hn k (by omega)
   refine ⟨h1, fun i hi hik => ?_⟩
   by_cases e : i = k
   ·subst e; exact ht
   ·exact h2 i hi (by omega)
  | false =>
   simp only [cond_false]
   refine ⟨fun i hi => ?_, fun i hi hik => by omega⟩
   have hget : ∀ j (hj : j < l.length), l.getD j Hi = l[j] := fun j hj => by rw [List.getD_eq_getElem?_getD, List.getElem?_eq_getElem hj]; rfl
   have hkl : k < l.length := by omega
   have hks : tlt (l.getD k Hi).1 s = true := by
    cases h : tlt (l.getD k Hi).1 s with
    | true => rfl
    | false =>
     exfalso
     exact hn (l.getD k Hi) (by rw [hget k hkl]; exact List.getElem_mem hkl) (Uv h ht)
   by_cases e : i = k
   ·subst e; exact hks
   ·have h3 := (List.pairwise_iff_getElem.1 hs) i k (by omega) hkl (by omega)
    rw [hget i (by omega)]
    rw [hget k hkl] at hks
    exact Jn h3 hks
theorem Tg {l : List Row} {x : Row} (hs : Gd l) : Gd (mrg l x) := by
 have hget : ∀ j (hj : j < l.length), l.getD j Hi = l[j] := fun j hj => by rw [List.getD_eq_getElem?_getD, List.getElem?_eq_getElem hj]; rfl
 unfold mrg
 split
 ·rename_i j hj
  obtain ⟨_, h2, h3⟩ := Te l 0 j hj
  rw [Nat.sub_zero] at h3
  have hjl : j < l.length := by omega
  have hname : l[j].1 = x.1 := by rw [← hget j hjl]; exact Gp.1 h3
  cases hb : Sk (l.getD j Hi) x with
  | false => exact hs
  | true =>
   rw [cond_true]
   unfold Gd
   rw [List.pairwise_iff_getElem]
   intro a b ha hb hab
   rw [List.length_set] at ha hb
   have := (List.pairwise_iff_getElem.1 hs) a b ha hb hab
   rw [List.getElem_set, List.getElem_set]
   by_cases e1 : j = a
   ·subst e1
    rw [if_pos rfl, if_neg (by omega), ← hname]
    exact this
   ·rw [if_neg e1]
    by_cases e2 : j = b
    ·subst e2
     rw [if_pos rfl, ← hname]
     exact this
    ·rw [if_neg e2]
     exact this
 ·rename_i hj
  have hn := Tf l 0 hj
  obtain ⟨c1, c2⟩ := Y1 hs hn l.length (Nat.le_refl _)
  have hc := Ux l x.1 l.length
  unfold Gd
  rw [List.pairwise_append, List.pairwise_cons]
  refine ⟨List.Pairwise.sublist (List.take_sublist _ _) hs, ⟨fun r hr => ?_, List.Pairwise.sublist (List.drop_sublist _ _) hs⟩, fun r hr q hq => ?_⟩
  ·obtain ⟨i, hi, rfl⟩ := List.getElem_of_mem hr
   rw [List.length_drop] at hi
   rw [List.getElem_drop, ← hget _ (by omega)]
   exact c2 _ (by omega) (by omega)
  ·obtain ⟨i, hi, rfl⟩ := List.getElem_of_mem hr
   rw [List.length_take] at hi
   have h1 : tlt (List.take (Uw l x.1 l.length) l)[i].1 x.1 = true := by
    rw [List.getElem_take, ← hget _ (by omega)]
    exact c1 i (by omega)
   rcases List.mem_cons.1 hq with rfl | hq
   ·exact h1
   ·refine Jn h1 ?_
    obtain ⟨m, hm, rfl⟩ := List.getElem_of_mem hq
    rw [List.length_drop] at hm
    rw [List.getElem_drop, ← hget _ (by omega)]
    exact c2 _ (by omega) (by omega)
def Dia (l : List Row) : Prop := Gd l ∧ (∀ r ∈ l, Oma r)
theorem Y2 : ∀ (n : Nat) (l : List Row) (i : Int) (c : Cur), Ek c → 0 ≤ i → i = n → Dia l → l.length + n ≤ 5 →
  Tot (fun k => D0 k l i c.1 c.2.1 c.2.2) (fun r => Ek r.2 ∧ Dia r.1 ∧ r.1.length ≤ 5) := by
 intro n
 induction n with
 | zero =>
  intro l i c hc h0 hi hr hl
  refine Tot.succ ?_
  simp only [D0]
  exact Tot.ndec (by omega) (Tot.pure ⟨hc, hr, by show l.length ≤ 5; omega⟩)
 | succ n ih =>
  intro l i c hc h0 hi hr hl
  refine Tot.succ ?_
  simp only [D0]
  refine Tot.dec (by omega) ?_
  refine Tot.bind (Tc c hc) (fun r h => ?_)
  refine Tot.bind (Y0 l r.1 (by unfold Few; omega)) ?_
  rintro m rfl
  rw [w64 (n := i - 1) (by omega) (by omega)]
  refine ih _ _ r.2 h.2 (by omega) (by omega) ⟨Tg hr.1, fun y hy => ?_⟩ (by have := (Iea l r.1).2; omega)
  rcases Ifa hy with rfl | hy
  ·exact h.1
  ·exact hr.2 y hy
theorem Rn (c : Cur) (hc : Ek c) : Tot (fun k => Bp k c) (fun r => Ek r.2 ∧ Dia r.1 ∧ r.1.length ≤ 5) := by
 unfold Bp
 obtain ⟨x, c', e, x0, x1, _, k⟩ := C3 c hc 6 (by decide)
 have x1 := x1 (by decide)
 refine Tot.bind (Tot.of (Q := fun r => r = (x, c')) e rfl) ?_
 rintro r rfl
 refine Tot.bind (Y2 x.toNat [] x c' k x0 (by omega) ⟨List.Pairwise.nil, by simp⟩ (by simp only [List.length_nil]; omega)) (fun r hr => Tot.pure hr)
end Go.Proofs.YtgocagaijgcnmaaGreat.Vf
end

section
set_option linter.unusedVariables false
set_option linter.unusedSimpArgs false
namespace Go.Proofs.YtgocagaijgcnmaaGreat.Vf
open Go
def inR (n lo hi : Int) : Bool := decide (n ≥ lo) && decide (n ≤ hi)
theorem Dja (n lo hi : Int) : Gl n lo hi = some (inR n lo hi) := by
 unfold Gl inR
 cases decide (n ≥ lo) <;> rfl
theorem Ro (n lo hi : Int) : Bg n lo hi = some (inR n lo hi) := by
 unfold Bg inR
 cases decide (n ≥ lo) <;> rfl
theorem Iw {n lo hi : Int} : inR n lo hi = true ↔ lo ≤ n ∧ n ≤ hi := by
 unfold inR
 simp
def Oe (c : Int) : Bool := inR c 97 122 || (inR c 48 57 || (!(c != 45) || (!(c != 95) || !(c != 47))))
def Hp (s : ByteArray) : Prop := s.size ≤ 4611686018427387904
theorem Lh (s : ByteArray) : s.data.toList.length = s.size := Array.length_toList
theorem Iga (s : ByteArray) (i : Int) : 0 ≤ bt s i ∧ bt s i ≤ 255 := by
 unfold bt
 have := (s.data.toList.getD i.toNat 0).toNat_lt
 omega
theorem Qsa (s : ByteArray) (i : Nat) (h : i < s.size) : bt s (i : Int) = ((s.data.toList[i]'(by rw [Lh]; exact h)).toNat : Int) := by
 unfold bt
 rw [Int.toNat_natCast, List.getD_eq_getElem?_getD, List.getElem?_eq_getElem (by rw [Lh]; exact h)]
 rfl
def bOk (b : UInt8) : Bool := Oe (b.toNat : Int)
theorem B9a (s : ByteArray) (hs : Hp s) : ∀ (n i : Nat), s.size - i = n → i ≤ s.size →
  Tot (fun k => Ac k s (i : Int)) (fun r => r = bif (s.data.toList.drop i).all bOk then .inr s else .inl false) := by
 unfold Hp at hs
 have hsz := Lh s
 intro n
 induction n with
 | zero =>
  intro i hn hi
  refine Tot.succ ?_
  simp only [Ac]
  refine Tot.ndec (by omega) (Tot.pure ?_)
  rw [List.drop_of_length_le (by omega)]
  rfl
 | succ n ih =>
  intro i hn hi
  have hlt : i < s.size := by omega
  refine Tot.succ ?_
  simp only [Ac]
  refine Tot.dec (by omega) (Tot.dec (by omega) (Tot.dec (by omega) ?_))
  rw [w64 (n := (i : Int) + 1) (by omega) (by omega)]
  have hb : bOk (s.data.toList[i]'(by omega)) = Oe (bt s (i : Int)) := by rw [Qsa s i hlt]; rfl
  rw [List.drop_eq_getElem_cons (by omega), List.all_cons, hb]
  generalize bt s (i : Int) = c
  have h1 := ih (i + 1) (by omega) (by omega)
  have e : (((i + 1 : Nat)) : Int) = (i : Int) + 1 := by omega
  rw [e] at h1
  cases hc : Oe c with
  | true =>
   rw [Bool.true_and]
   refine h1.mono (fun r hr => hr) |> fun h => ?_
   obtain ⟨r, K, h2, h3⟩ := h
   refine ⟨r, K, fun k hk => ?_, h3⟩
   rw [← h2 k hk]
   unfold Oe inR at hc
   revert hc
   cases decide (c ≥ 97) <;> cases decide (c ≤ 122) <;> cases decide (c ≥ 48) <;> cases decide (c ≤ 57) <;> cases (c != 45) <;> cases (c != 95) <;> cases (c != 47) <;> Aa | (intro _; rfl) | (intro hc; cases hc)
  | false =>
   rw [Bool.false_and]
   refine ⟨.inl false, 0, fun k _ => ?_, rfl⟩
   unfold Oe inR at hc
   revert hc
   cases decide (c ≥ 97) <;> cases decide (c ≤ 122) <;> cases decide (c ≥ 48) <;> cases decide (c ≤ 57) <;> cases (c != 45) <;> cases (c != 95) <;> cases (c != 47) <;> Aa | (intro _; rfl) | (intro hc; cases hc)
theorem Baa (s : ByteArray) (hs : Hp s) : ∀ (n i : Nat), s.size - i = n → i ≤ s.size →
  Tot (fun k => Bs k s (i : Int)) (fun r => r = bif (s.data.toList.drop i).all bOk then .inr s else .inl false) := by
 unfold Hp at hs
 have hsz := Lh s
 intro n
 induction n with
 | zero =>
  intro i hn hi
  refine Tot.succ ?_
  simp only [Bs]
  refine Tot.ndec (by omega) (Tot.pure ?_)
  rw [List.drop_of_length_le (by omega)]
  rfl
 | succ n ih =>
  intro i hn hi
  have hlt : i < s.size := by omega
  have hbb := Iga s (i : Int)
  refine Tot.succ ?_
  simp only [Bs]
  refine Tot.dec (by omega) (Tot.dec (by omega) (Tot.dec (by omega) ?_))
  rw [w64 (n := (i : Int) + 1) (by omega) (by omega), w64 (n := bt s (i : Int)) (by omega) (by omega)]
  have hb : bOk (s.data.toList[i]'(by omega)) = Oe (bt s (i : Int)) := by rw [Qsa s i hlt]; rfl
  rw [List.drop_eq_getElem_cons (by omega), List.all_cons, hb]
  generalize bt s (i : Int) = c
  have h1 := ih (i + 1) (by omega) (by omega)
  have e : (((i + 1 : Nat)) : Int) = (i : Int) + 1 := by omega
  rw [e] at h1
  simp only [Ro, Option.bind_some]
  cases hc : Oe c with
  | true =>
   rw [Bool.true_and]
   obtain ⟨r, K, h2, h3⟩ := h1
   refine ⟨r, K, fun k hk => ?_, h3⟩
   rw [← h2 k hk]
   unfold Oe at hc
   revert hc
   cases inR c 97 122 <;> cases inR c 48 57 <;> cases (c != 45) <;> cases (c != 95) <;> cases (c != 47) <;> Aa | (intro _; rfl) | (intro hc; cases hc)
  | false =>
   rw [Bool.false_and]
   refine ⟨.inl false, 0, fun k _ => ?_, rfl⟩
   unfold Oe at hc
   revert hc
   cases inR c 97 122 <;> cases inR c 48 57 <;> cases (c != 45) <;> cases (c != 95) <;> cases (c != 47) <;> Aa | (intro _; rfl) | (intro hc; cases hc)
def Cq (s : ByteArray) : Bool := s.data.toList.all bOk && inR (s.size : Int) 1 20
theorem Dka (s : ByteArray) (hs : Hp s) : Tot (fun k => Aj k s) (fun r => r = Cq s) := by
 unfold Aj Cq
 refine Tot.bind (B9a s hs _ 0 rfl (Nat.zero_le _)) ?_
 rintro r rfl
 rw [List.drop_zero]
 cases s.data.toList.all bOk with
 | true => exact Tot.of (a := inR (s.size : Int) 1 20) (by simp only [cond_true, Sum.elim_inr, Dja, Option.bind_some]) (by rw [Bool.true_and])
 | false => exact Tot.pure rfl
theorem Of (s : ByteArray) (hs : Hp s) : Tot (fun k => Ay k s) (fun r => r = Cq s) := by
 unfold Ay Cq
 refine Tot.bind (Baa s hs _ 0 rfl (Nat.zero_le _)) ?_
 rintro r rfl
 rw [List.drop_zero]
 cases s.data.toList.all bOk with
 | true => exact Tot.of (a := inR (s.size : Int) 1 20) (by simp only [cond_true, Sum.elim_inr, Ro, Option.bind_some]) (by rw [Bool.true_and])
 | false => exact Tot.pure rfl
def Ia (s : Stp) : Bool := inR s.1 0 1000000000 && (inR s.2.1 0 1000000 && inR s.2.2 0 20)
theorem Y3 (s : Stp) : Ds s = some (Ia s) := by
 unfold Ds Ia
 simp only [Dja, Option.bind_some]
 cases inR s.1 0 1000000000 <;> cases inR s.2.1 0 1000000 <;> rfl
theorem Rp (s : Stp) : Dp s = some (Ia s) := by
 unfold Dp Ia
 simp only [Ro, Option.bind_some]
 cases inR s.1 0 1000000000 <;> cases inR s.2.1 0 1000000 <;> rfl
def J3 (x : Row) : Bool := Cq x.1 && (Ia x.2.1 && (inR x.2.2.2 0 200 && (!x.2.2.1 || x.2.2.2 == 0)))
theorem Iha (x : Row) (hs : Hp x.1) : Tot (fun k => G7 k x) (fun r => r = J3 x) := by
 unfold G7 J3
 refine Tot.bind (Dka x.1 hs) ?_
 rintro r rfl
 cases Cq x.1 with
 | false => exact Tot.pure rfl
 | true =>
  refine Tot.of (a := Ia x.2.1 && (inR x.2.2.2 0 200 && (!x.2.2.1 || x.2.2.2 == 0))) ?_ (by rw [Bool.true_and])
  simp only [cond_true, Y3, Dja, Option.bind_some]
  cases Ia x.2.1 <;> cases inR x.2.2.2 0 200 <;> cases x.2.2.1 <;> rfl
theorem Iia (x : Row) (hs : Hp x.1) : Tot (fun k => Eu k x) (fun r => r = J3 x) := by
 unfold Eu J3
 refine Tot.bind (Of x.1 hs) ?_
 rintro r rfl
 cases Cq x.1 with
 | false => exact Tot.pure rfl
 | true =>
  refine Tot.of (a := Ia x.2.1 && (inR x.2.2.2 0 200 && (!x.2.2.1 || x.2.2.2 == 0))) ?_ (by rw [Bool.true_and])
  simp only [cond_true, Rp, Ro, Option.bind_some]
  cases Ia x.2.1 <;> cases inR x.2.2.2 0 200 <;> cases x.2.2.1 <;> rfl
def chk : Option ByteArray → List Row → Bool
 | _, [] => true
 | none, r :: l => J3 r && chk (some r.1) l
 | some q, r :: l => J3 r && (tlt q r.1 && chk (some r.1) l)
def Iq (l : List Row) : Bool := chk none l && decide ((l.length : Int) ≤ 60)
def Li (l : List Row) : Prop := ∀ r ∈ l, Hp r.1
def Py (l : List Row) : Nat → Option ByteArray
 | 0 => none
 | i + 1 => some (l.getD i Hi).1
theorem Dla (l : List Row) (i : Nat) (h : i < l.length) : chk (Py l i) (l.drop i) = (J3 (l.getD i Hi) && (bif decide (0 < i) then tlt (l.getD (i - 1) Hi).1 (l.getD i Hi).1 else true) && chk (Py l (i + 1)) (l.drop (i + 1))) := by
 rw [Bh (d := Hi) h]
 cases i with
 | zero => simp [Py, chk]
 | succ i => simp [Py, chk, Bool.and_assoc]
theorem Da {α : Type} {l : List α} {i : Nat} {d : α} (h1 : i < l.length) : l.getD i d ∈ l := by
 rw [List.getD_eq_getElem?_getD, List.getElem?_eq_getElem h1]
 exact List.getElem_mem h1
theorem Bba (l : List Row) (hf : Few l) (hs : Li l) : ∀ (n i : Nat), l.length - i = n → i ≤ l.length →
  Tot (fun k => De k l l (l.length : Int) (i : Int)) (fun r => r = bif chk (Py l i) (l.drop i) then .inr l else .inl false) := by
 unfold Few at hf
 intro n
 induction n with
 | zero =>
  intro i hn hi
  refine Tot.succ ?_
  simp only [De]
  refine Tot.ndec (by omega) (Tot.pure ?_)
  rw [List.drop_of_length_le (by omega)]
  cases Py l i <;> rfl
 | succ n ih =>
  intro i hn hi
  have hlt : i < l.length := by omega
  refine Tot.succ ?_
  simp only [De]
  refine Tot.dec (by omega) (Tot.dec (by omega) (Tot.dec (by omega) ?_))
  rw [show Int.toNat (i : Int) = i from Int.toNat_natCast i, w64 (n := (i : Int) + 1) (by omega) (by omega), Dla l i hlt]
  have h1 := ih (i + 1) (by omega) (by omega)
  have e : (((i + 1 : Nat)) : Int) = (i : Int) + 1 := by omega
  rw [e] at h1
  refine Tot.bind (Iha (l.getD i Hi) (hs _ (Da hlt))) ?_
  rintro b rfl
  cases hb : J3 (l.getD i Hi) with
  | false => exact Tot.yes rfl (Tot.pure (by simp))
  | true =>
   refine Tot.no rfl ?_
   rw [Bool.true_and]
   refine Tot.dite (fun h0 => ?_) (fun h0 => ?_)
   ·rw [w64 (n := (i : Int) - 1) (by omega) (by omega)]
    refine Tot.dec (by omega) (Tot.dec (by omega) ?_)
    rw [show Int.toNat ((i : Int) - 1) = i - 1 by omega, decide_eq_true (show 0 < i by omega), cond_true]
    have et : (!(Op.bytesLess (l.getD (i - 1) Hi).1.toList (l.getD i Hi).1.toList)) = !(tlt (l.getD (i - 1) Hi).1 (l.getD i Hi).1) := rfl
    refine Tot.ite (fun ht => ?_) (fun ht => ?_)
    ·have ht' : (!(tlt (l.getD (i - 1) Hi).1 (l.getD i Hi).1)) = true := ht
     rw [Bool.not_eq_true'] at ht'
     exact Tot.pure (by rw [ht']; rfl)
    ·have ht' : (!(tlt (l.getD (i - 1) Hi).1 (l.getD i Hi).1)) = false := ht
     rw [Bool.not_eq_false'] at ht'
     rw [ht', Bool.true_and]
     exact h1
   ·rw [decide_eq_false (show ¬ 0 < i by omega), cond_false, Bool.true_and]
    exact h1
theorem Bca (l : List Row) (hf : Few l) (hs : Li l) : ∀ (n i : Nat), l.length - i = n → i ≤ l.length →
  Tot (fun k => Dd k l (i : Int)) (fun r => r = bif chk (Py l i) (l.drop i) then .inr l else .inl false) := by
 unfold Few at hf
 intro n
 induction n with
 | zero =>
  intro i hn hi
  refine Tot.succ ?_
  simp only [Dd]
  refine Tot.ndec (by omega) (Tot.pure ?_)
  rw [List.drop_of_length_le (by omega)]
  cases Py l i <;> rfl
 | succ n ih =>
  intro i hn hi
  have hlt : i < l.length := by omega
  refine Tot.succ ?_
  simp only [Dd]
  refine Tot.dec (by omega) (Tot.dec (by omega) (Tot.dec (by omega) ?_))
  rw [show Int.toNat (i : Int) = i from Int.toNat_natCast i, w64 (n := (i : Int) + 1) (by omega) (by omega), Dla l i hlt]
  have h1 := ih (i + 1) (by omega) (by omega)
  have e : (((i + 1 : Nat)) : Int) = (i : Int) + 1 := by omega
  rw [e] at h1
  refine Tot.bind (Iia (l.getD i Hi) (hs _ (Da hlt))) ?_
  rintro b rfl
  cases hb : J3 (l.getD i Hi) with
  | false => exact Tot.yes rfl (Tot.pure (by simp))
  | true =>
   refine Tot.no rfl ?_
   rw [Bool.true_and]
   refine Tot.dite (fun h0 => ?_) (fun h0 => ?_)
   ·rw [w64 (n := (i : Int) - 1) (by omega) (by omega)]
    refine Tot.dec (by omega) (Tot.dec (by omega) (Tot.dec (by omega) (Tot.dec (by omega) ?_)))
    rw [show Int.toNat ((i : Int) - 1) = i - 1 by omega, decide_eq_true (show 0 < i by omega), cond_true]
    refine Tot.ite (fun ht => ?_) (fun ht => ?_)
    ·have ht' : (!(tlt (l.getD (i - 1) Hi).1 (l.getD i Hi).1)) = true := ht
     rw [Bool.not_eq_true'] at ht'
     exact Tot.pure (by rw [ht']; rfl)
    ·have ht' : (!(tlt (l.getD (i - 1) Hi).1 (l.getD i Hi).1)) = false := ht
     rw [Bool.not_eq_false'] at ht'
     rw [ht', Bool.true_and]
     exact h1
   ·rw [decide_eq_false (show ¬ 0 < i by omega), cond_false, Bool.true_and]
    exact h1
theorem Lca (l : List Row) (hf : Few l) (hs : Li l) : Tot (fun k => Dl k l) (fun r => r = Iq l) := by
 unfold Dl Iq
 refine Tot.bind (Bba l hf hs _ 0 rfl (Nat.zero_le _)) ?_
 rintro r rfl
 rw [List.drop_zero]
 show Tot _ (fun r => r = (chk none l && _))
 cases hc : chk none l with
 | true => rw [show chk (Py l 0) l = true from hc]; exact Tot.pure (by rw [Bool.true_and])
 | false => rw [show chk (Py l 0) l = false from hc]; exact Tot.pure rfl
theorem Dma (l : List Row) (hf : Few l) (hs : Li l) : Tot (fun k => C8 k l) (fun r => r = Iq l) := by
 unfold C8 Iq
 refine Tot.bind (Bca l hf hs _ 0 rfl (Nat.zero_le _)) ?_
 rintro r rfl
 rw [List.drop_zero]
 cases hc : chk none l with
 | true => rw [show chk (Py l 0) l = true from hc]; exact Tot.pure (by rw [Bool.true_and])
 | false => rw [show chk (Py l 0) l = false from hc]; exact Tot.pure rfl
theorem Bda : ∀ (p : Option ByteArray) (l : List Row), chk p l = true ↔ Gd l ∧ (∀ r ∈ l, J3 r = true) ∧ (∀ q, p = some q → ∀ r ∈ l, tlt q r.1 = true)
 | p, [] => by
  have : chk p [] = true := by cases p <;> rfl
  simp [this, Gd]
 | none, r :: l => by
  simp only [chk, Bool.and_eq_true, Bda (some r.1) l, Gd, List.pairwise_cons]
  constructor
  ·rintro ⟨h1, h2, h3, h4⟩
   exact ⟨⟨fun a ha => h4 _ rfl a ha, h2⟩, fun a ha => by rcases List.mem_cons.1 ha with rfl | ha; exact h1; exact h3 a ha, fun q hq => by cases hq⟩
  ·rintro ⟨⟨h1, h2⟩, h3, _⟩
   exact ⟨h3 r (by simp), h2, fun a ha => h3 a (List.mem_cons_of_mem _ ha), fun q hq a ha => by cases hq; exact h1 a ha⟩
 | some q, r :: l => by
  simp only [chk, Bool.and_eq_true, Bda (some r.1) l, Gd, List.pairwise_cons]
  constructor
  ·rintro ⟨h1, h0, h2, h3, h4⟩
   refine ⟨⟨fun a ha => h4 _ rfl a ha, h2⟩, fun a ha => by rcases List.mem_cons.1 ha with rfl | ha; exact h1; exact h3 a ha, fun q' hq a ha => ?_⟩
   cases hq
   rcases List.mem_cons.1 ha with rfl | ha
   ·exact h0
   ·exact Jn h0 (h4 _ rfl a ha)
  ·rintro ⟨⟨h1, h2⟩, h3, h4⟩
   exact ⟨h3 r (by simp), h4 q rfl r (by simp), h2, fun a ha => h3 a (List.mem_cons_of_mem _ ha), fun q' hq a ha => by cases hq; exact h1 a ha⟩
theorem Kq {l : List Row} : Iq l = true ↔ Gd l ∧ (∀ r ∈ l, J3 r = true) ∧ l.length ≤ 60 := by
 unfold Iq
 simp only [Bool.and_eq_true, Bda, decide_eq_true_eq]
 constructor
 ·rintro ⟨⟨h1, h2, _⟩, h3⟩
  exact ⟨h1, h2, by omega⟩
 ·rintro ⟨h1, h2, h3⟩
  exact ⟨⟨h1, h2, fun q hq => by cases hq⟩, by omega⟩
def Y4 (a b : List Row) : List Row := b.foldl mrg a
theorem Lda {a b : List Row} {r : Row} (h : r ∈ Y4 a b) : r ∈ a ∨ r ∈ b := by
 induction b generalizing a with
 | nil => exact .inl h
 | cons x b ih =>
  rcases ih (a := mrg a x) h with h | h
  ·rcases Ifa h with rfl | h
   ·exact .inr (by simp)
   ·exact .inl h
  ·exact .inr (List.mem_cons_of_mem _ h)
theorem Bea {a b : List Row} (h : Gd a) : Gd (Y4 a b) := by
 induction b generalizing a with
 | nil => exact h
 | cons x b ih => exact ih (Tg h)
def mx (a b : Row) : Row := bif Sk a b then b else a
end Go.Proofs.YtgocagaijgcnmaaGreat.Vf
end

section
set_option linter.unusedVariables false
set_option linter.unusedSimpArgs false
namespace Go.Proofs.YtgocagaijgcnmaaGreat.Vf
open Go
def W0 : Nat → Nat → List Int
 | 0, n => [(n : Int)]
 | f + 1, n => if n ≤ 127 then [(n : Int)] else ((n % 128 + 128 : Nat) : Int) :: W0 f (n / 128)
def Zw (n : Nat) : List Int := W0 4 n
def Sd : Nat → Nat → Nat → List Int → Option (Nat × Nat)
 | 0, _, _, _ => none
 | _ + 1, _, _, [] => none
 | f + 1, k, acc, x :: l => if 128 ≤ x then Sd f (k + 1) (acc + x.toNat % 128 * 128 ^ k) l
  else if (x = 0 ∧ 0 < k) ∨ 1000000000 < acc + x.toNat % 128 * 128 ^ k then none else some (acc + x.toNat % 128 * 128 ^ k, k + 1)
def Lj (l : List Int) (p : Nat) : Option (Nat × Nat) := match Sd 5 0 0 (l.drop p) with
 | some (n, c) => some (n, p + c)
 | none => none
theorem Ija : ∀ (f n : Nat), (W0 f n).length ≤ f + 1 ∧ 0 < (W0 f n).length
 | 0, n => by simp [W0]
 | f + 1, n => by
  unfold W0
  split
  ·simp
  ·have := Ija f (n / 128)
   simp only [List.length_cons]
   omega
theorem Ni : ∀ (f k acc : Nat) (l : List Int) (n c : Nat), B4 l → Sd f k acc l = some (n, c) → acc < 128 ^ k → k < c ∧ c ≤ k + f ∧ c - k ≤ l.length ∧ n ≤ 1000000000
 | 0, _, _, _, _, _, _, h, _ => by simp [Sd] at h
 | _ + 1, _, _, [], _, _, _, h, _ => by simp [Sd] at h
 | f + 1, k, acc, x :: l, n, c, hb, h, ha => by
  have hx := hb x (by simp)
  unfold Sd at h
  split at h
  ·have h1 : acc + x.toNat % 128 * 128 ^ k < 128 ^ (k + 1) := by
    have h2 : x.toNat % 128 ≤ 127 := by omega
    have h3 := Nat.mul_le_mul_right (128 ^ k) h2
    rw [Nat.pow_succ]
    omega
   have := Ni f (k + 1) _ l n c (fun y hy => hb y (List.mem_cons_of_mem _ hy)) h h1
   simp only [List.length_cons]
   omega
  ·split at h
   ·cases h
   ·simp only [Option.some.injEq, Prod.mk.injEq] at h
    obtain ⟨rfl, rfl⟩ := h
    simp only [List.length_cons]
    omega
theorem Ika : ∀ (f k acc : Nat) (l : List Int) (n c : Nat), B4 l → Sd (f + 1) k acc l = some (n, c) → acc < 128 ^ k → ∃ m, n = acc + m * 128 ^ k ∧ l = W0 f m ++ l.drop (c - k) ∧ (m = 0 → c = k + 1 ∧ (0 < k → False)) ∧ m < 128 ^ (f + 1)
 | 0, k, acc, [], n, c, hb, h, ha => by simp [Sd] at h
 | _ + 1, k, acc, [], n, c, hb, h, ha => by simp [Sd] at h
 | 0, k, acc, x :: l, n, c, hb, h, ha => by
  have hx := hb x (by simp)
  unfold Sd at h
  split at h
  ·simp [Sd] at h
  ·rename_i h128
   split at h
   ·cases h
   ·rename_i hz
    simp only [Option.some.injEq, Prod.mk.injEq] at h
    obtain ⟨rfl, rfl⟩ := h
    have hm : x.toNat % 128 = x.toNat := Nat.mod_eq_of_lt (by omega)
    refine ⟨x.toNat, by rw [hm], ?_, fun h0 => ⟨rfl, fun hk => hz (.inl ⟨by omega, hk⟩)⟩, by omega⟩
    rw [show k + 1 - k = 1 by omega]
    show x :: l = [((x.toNat : Nat) : Int)] ++ l
    rw [show ((x.toNat : Nat) : Int) = x by omega]
    rfl
 | f + 1, k, acc, x :: l, n, c, hb, h, ha => by
  have hx := hb x (by simp)
  have hb' : B4 l := fun y hy => hb y (List.mem_cons_of_mem _ hy)
  unfold Sd at h
  split at h
  ·rename_i h128
   have h1 : acc + x.toNat % 128 * 128 ^ k < 128 ^ (k + 1) := by
    have h2 : x.toNat % 128 ≤ 127 := by omega
    have h3 := Nat.mul_le_mul_right (128 ^ k) h2
    rw [Nat.pow_succ]
    omega
   obtain ⟨m, e1, e2, e3, e4⟩ := Ika f (k + 1) _ l n c hb' h h1
   have hbd := Ni (f + 1) (k + 1) _ l n c hb' h h1
   have hm0 : m ≠ 0 := fun h0 => (e3 h0).2 (by omega)
   refine ⟨x.toNat % 128 + m * 128, ?_, ?_, fun h0 => by omega, ?_⟩
   ·rw [e1, Nat.pow_succ, Nat.add_mul]
    have : m * 128 * 128 ^ k = m * (128 ^ k * 128) := by rw [Nat.mul_assoc, Nat.mul_comm 128]
    omega
   ·unfold W0
    rw [if_neg (by omega), show (x.toNat % 128 + m * 128) / 128 = m by omega, show (x.toNat % 128 + m * 128) % 128 = x.toNat % 128 by omega, show c - k = (c - (k + 1)) + 1 by omega, List.drop_succ_cons, List.cons_append, ← e2]
    congr 1
    omega
   ·rw [Nat.pow_succ]
    omega
  ·rename_i h128
   split at h
   ·cases h
   ·rename_i hz
    simp only [Option.some.injEq, Prod.mk.injEq] at h
    obtain ⟨rfl, rfl⟩ := h
    have hm : x.toNat % 128 = x.toNat := Nat.mod_eq_of_lt (by omega)
    have hp : 128 ≤ 128 ^ (f + 1 + 1) := by
     have := Nat.pow_le_pow_right (show 0 < 128 by decide) (show 1 ≤ f + 1 + 1 by omega)
     simpa using this
    refine ⟨x.toNat, by rw [hm], ?_, fun h0 => ⟨rfl, fun hk => hz (.inl ⟨by omega, hk⟩)⟩, by omega⟩
    rw [show k + 1 - k = 1 by omega]
    unfold W0
    rw [if_pos (by omega)]
    show x :: l = [((x.toNat : Nat) : Int)] ++ l
    rw [show ((x.toNat : Nat) : Int) = x by omega]
    rfl
theorem Nj {l : List Int} {p n q : Nat} (hb : B4 l) (h : Lj l p = some (n, q)) : l.drop p = Zw n ++ l.drop q ∧ n ≤ 1000000000 ∧ p < q ∧ q ≤ l.length := by
 unfold Lj at h
 split at h
 ·rename_i m c hd
  simp only [Option.some.injEq, Prod.mk.injEq] at h
  obtain ⟨rfl, rfl⟩ := h
  have hb' : B4 (l.drop p) := fun y hy => hb y (List.mem_of_mem_drop hy)
  have hbd := Ni 5 0 0 _ _ _ hb' hd (by decide)
  obtain ⟨m', e1, e2, _, _⟩ := Ika 4 0 0 _ _ _ hb' hd (by decide)
  have e3 : m = m' := by rw [e1]; simp
  subst e3
  rw [List.length_drop] at hbd
  refine ⟨?_, hbd.2.2.2, by omega, by omega⟩
  rw [Nat.sub_zero, List.drop_drop] at e2
  exact e2
 ·cases h
theorem Sga (i : Nat) (hi : i < 5) : (2 : Int) ^ (min (Int.toNat (IntKind.wrap .i64 (7 * (i : Int)))) (IntKind.bits .i64)) = ((128 ^ i : Nat) : Int) := by
 have : i = 0 ∨ i = 1 ∨ i = 2 ∨ i = 3 ∨ i = 4 := by omega
 rcases this with rfl | rfl | rfl | rfl | rfl <;> decide
theorem Rsa (i : Nat) (hi : i < 5) : (2 : Int) ^ (min (Int.toNat (IntKind.wrap .u64 (IntKind.wrap .i64 (7 * (i : Int))))) (IntKind.bits .i64)) = ((128 ^ i : Nat) : Int) := by
 have : i = 0 ∨ i = 1 ∨ i = 2 ∨ i = 3 ∨ i = 4 := by omega
 rcases this with rfl | rfl | rfl | rfl | rfl <;> decide
theorem sh7 (i : Nat) (hi : i < 5) : ¬ (IntKind.wrap .i64 (7 * (i : Int)) < 0) ∧ ¬ (IntKind.wrap .u64 (IntKind.wrap .i64 (7 * (i : Int))) < 0) := by
 have : i = 0 ∨ i = 1 ∨ i = 2 ∨ i = 3 ∨ i = 4 := by omega
 rcases this with rfl | rfl | rfl | rfl | rfl <;> decide
theorem Kr (i : Nat) (hi : i ≤ 5) : 128 ^ i ≤ 34359738368 := by
 have := Nat.pow_le_pow_right (show 0 < 128 by decide) hi
 simpa using this
theorem Og (n : Nat) (h : n < 18446744073709551616) : (BitVec.ofInt (IntKind.bits .i64) (n : Int)).toNat = n := by
 rw [BitVec.toNat_ofInt]
 show ((n : Int) % ((2 ^ 64 : Nat) : Int)).toNat = n
 rw [Int.emod_eq_of_lt (by omega) (by omega)]
 exact Int.toNat_natCast n
theorem Mwa (n : Nat) (h : n < 9223372036854775808) : IntKind.wrap .i64 ((BitVec.ofInt (IntKind.bits .i64) (n : Int) &&& BitVec.ofInt (IntKind.bits .i64) 127).toNat) = ((n % 128 : Nat) : Int) := by
 rw [BitVec.toNat_and, Og n (by omega), show (BitVec.ofInt (IntKind.bits .i64) 127).toNat = 127 from by decide, show (127 : Nat) = 2 ^ 7 - 1 from rfl, Nat.and_two_pow_sub_one_eq_mod]
 exact w64 (by omega) (by omega)
theorem Dna (a m i : Nat) (ha : a < 128 ^ i) (hm : m < 128) (hi : i < 5) : IntKind.wrap .i64 ((BitVec.ofInt (IntKind.bits .i64) (a : Int) ||| BitVec.ofInt (IntKind.bits .i64) ((m * 128 ^ i : Nat) : Int)).toNat) = ((a + m * 128 ^ i : Nat) : Int) := by
 have hp := Kr i (by omega)
 have hmul : m * 128 ^ i ≤ 127 * 34359738368 := Nat.mul_le_mul (by omega) hp
 rw [BitVec.toNat_or, Og a (by omega), Og _ (by omega), Nat.or_comm]
 have e : (128 : Nat) ^ i = 2 ^ (7 * i) := by rw [Nat.pow_mul]
 have h2 := Nat.two_pow_add_eq_or_of_lt (i := 7 * i) (b := a) (by rw [← e]; exact ha) m
 rw [← e, Nat.mul_comm] at h2
 rw [← h2, Nat.add_comm]
 exact w64 (by omega) (by omega)
def Bfa (l : List Int) (p : Int) : Int × Int × Bool := if p < 0 then (0, 0, false) else match Lj l p.toNat with
 | some (n, q) => ((n : Int), (q : Int), true)
 | none => (0, 0, false)
def Ria (p : Nat) : Option (Nat × Nat) → Int × Int × Bool
 | some (n, c) => ((n : Int), ((p + c : Nat) : Int), true)
 | none => (0, 0, false)
def Rq (r : Sum (Int × Int × Bool) Unit) : Int × Int × Bool := Sum.elim (fun y => y) (fun _ => (0, 0, false)) r
theorem Y5 {l : List Int} {p : Nat} (h : p < l.length) : l.drop p = l.getD p 0 :: l.drop (p + 1) := Bh h
theorem F2a (l : List Int) (hb : B4 l) (hl : l.length ≤ 1000000000000) (p : Nat) (hp : p ≤ 1000000000000) : ∀ (f i acc : Nat), f + i = 5 → acc < 128 ^ i →
  Tot (fun k => Df k l (p : Int) (acc : Int) (i : Int)) (fun r => Rq r = Ria p (Sd f i acc (l.drop (p + i)))) := by
 intro f
 induction f with
 | zero =>
  intro i acc hi ha
  refine Tot.succ ?_
  simp only [Df]
  exact Tot.ndec (by omega) (Tot.pure rfl)
 | succ f ih =>
  intro i acc hi ha
  have hi5 : i < 5 := by omega
  refine Tot.succ ?_
  simp only [Df]
  refine Tot.dec (by omega) (Tot.dec (by omega) ?_)
  rw [w64 (n := (l.length : Int) - (i : Int)) (by omega) (by omega), w64 (n := (p : Int) + (i : Int)) (by omega) (by omega), show Int.toNat ((p : Int) + (i : Int)) = p + i by omega]
  refine Tot.dite (fun h => ?_) (fun h => ?_)
  ·have hlt : p + i < l.length := by omega
   refine Tot.dec (by omega) (Tot.dec (by omega) ?_)
   have hx := hb (l.getD (p + i) 0) (Da hlt)
   rw [Y5 hlt, Sga i hi5]
   have he : Sd (f + 1) i acc (l.getD (p + i) 0 :: l.drop (p + i + 1)) = if 128 ≤ l.getD (p + i) 0 then Sd f (i + 1) (acc + (l.getD (p + i) 0).toNat % 128 * 128 ^ i) (l.drop (p + i + 1)) else if (l.getD (p + i) 0 = 0 ∧ 0 < i) ∨ 1000000000 < acc + (l.getD (p + i) 0).toNat % 128 * 128 ^ i then none else some (acc + (l.getD (p + i) 0).toNat % 128 * 128 ^ i, i + 1) := rfl
   rw [he]
   generalize l.getD (p + i) 0 = x at hx ⊢
   obtain ⟨v, rfl⟩ : ∃ v : Nat, x = (v : Int) := ⟨x.toNat, by omega⟩
   rw [Int.toNat_natCast]
   have hp1 := Kr i (by omega)
   have hmul : v % 128 * 128 ^ i ≤ 127 * 34359738368 := Nat.mul_le_mul (by omega) hp1
   rw [w64 (n := (v : Int)) (by omega) (by omega)]
   have e1 : Int.tmod (v : Int) 128 * ((128 ^ i : Nat) : Int) = ((v % 128 * 128 ^ i : Nat) : Int) := by
    rw [Int.tmod_eq_emod_of_nonneg (by omega)]
    push_cast
    rfl
   rw [e1, w64 (n := ((v % 128 * 128 ^ i : Nat) : Int)) (by omega) (by omega), ← Int.natCast_add, w64 (n := ((acc + v % 128 * 128 ^ i : Nat) : Int)) (by omega) (by omega), w64 (n := (i : Int) + 1) (by omega) (by omega), w64 (n := (p : Int) + (i : Int) + 1) (by omega) (by omega)]
   refine Tot.ndec (sh7 i hi5).1 ?_
   refine Tot.dite (fun h128 => ?_) (fun h128 => ?_)
   ·rw [if_pos (by omega)]
    have h1 : acc + v % 128 * 128 ^ i < 128 ^ (i + 1) := by
     have h2 : v % 128 ≤ 127 := by omega
     have h3 := Nat.mul_le_mul_right (128 ^ i) h2
     rw [Nat.pow_succ]
     omega
    have := ih (i + 1) (acc + v % 128 * 128 ^ i) (by omega) h1
    rw [show p + (i + 1) = p + i + 1 by omega] at this
    exact this
   ·rw [if_neg (by omega)]
    have big : Tot (fun _ : Nat => cond (decide (((acc + v % 128 * 128 ^ i : Nat) : Int) > 1000000000)) (some (Sum.inl ((0 : Int), (0 : Int), false))) (some (Sum.inl (((acc + v % 128 * 128 ^ i : Nat) : Int), (p : Int) + (i : Int) + 1, true))) : Nat → Option (Sum (Int × Int × Bool) Unit))
      (fun r => Rq r = if 1000000000 < acc + v % 128 * 128 ^ i then (0, 0, false) else (((acc + v % 128 * 128 ^ i : Nat) : Int), ((p + (i + 1) : Nat) : Int), true)) := by
     refine Tot.dite (fun hbig => ?_) (fun hbig => ?_)
     ·rw [if_pos (by omega)]; exact Tot.pure rfl
     ·rw [if_neg (by omega)]
      refine Tot.pure ?_
      show (_, _, _) = _
      rw [show (p : Int) + (i : Int) + 1 = ((p + (i + 1) : Nat) : Int) by omega]
    have goal : ∀ c : Prop, [Decidable c] → (if c ∨ 1000000000 < acc + v % 128 * 128 ^ i then none else some (acc + v % 128 * 128 ^ i, i + 1)) = if c then none else if 1000000000 < acc + v % 128 * 128 ^ i then (none : Option (Nat × Nat)) else some (acc + v % 128 * 128 ^ i, i + 1) := by
     intro c _
     by_cases h1 : c <;> by_cases h2 : 1000000000 < acc + v % 128 * 128 ^ i <;> simp [h1, h2]
    rw [goal]
    have fin : (Ria p (if 1000000000 < acc + v % 128 * 128 ^ i then (none : Option (Nat × Nat)) else some (acc + v % 128 * 128 ^ i, i + 1))) = if 1000000000 < acc + v % 128 * 128 ^ i then (0, 0, false) else (((acc + v % 128 * 128 ^ i : Nat) : Int), ((p + (i + 1) : Nat) : Int), true) := by
     split <;> rfl
    refine Tot.ite (fun h0 => ?_) (fun h0 => ?_)
    ·have hv : v = 0 := by
      have := beq_iff_eq.1 h0
      omega
     refine Tot.dite (fun hi0 => ?_) (fun hi0 => ?_)
     ·rw [if_pos ⟨by omega, by omega⟩]; exact Tot.pure rfl
     ·rw [if_neg (by omega), fin]; exact big
    ·have hv : v ≠ 0 := by
      intro e
      subst e
      simp at h0
     rw [if_neg (by omega), fin]; exact big
  ·refine Tot.pure ?_
   rw [List.drop_of_length_le (by omega)]
   rfl
theorem Ila (l : List Int) (hb : B4 l) (hl : l.length ≤ 1000000000000) (p : Int) (hp : p ≤ 1000000000000) : Tot (fun k => Ej k l p) (fun r => r = Bfa l p) := by
 unfold Ej Bfa
 by_cases h0 : p < 0
 ·rw [if_pos h0]
  refine Tot.bind (Q := fun r => r = .inr ()) ?_ ?_
  ·refine Tot.succ ?_
   simp only [Df]
   exact Tot.dec (by omega) (Tot.ndec (by omega) (Tot.pure rfl))
  ·rintro r rfl
   exact Tot.pure rfl
 ·rw [if_neg h0]
  obtain ⟨n, rfl⟩ : ∃ n : Nat, p = (n : Int) := ⟨p.toNat, by omega⟩
  rw [Int.toNat_natCast]
  refine Tot.bind (F2a l hb hl n (by omega) 5 0 0 rfl (by decide)) ?_
  intro r hr
  unfold Lj
  rw [Nat.add_zero] at hr
  have hr' : Rq r = (match (match Sd 5 0 0 (l.drop n) with | some (m, c) => some (m, n + c) | none => none) with | some (m, q) => ((m : Int), (q : Int), true) | none => ((0 : Int), (0 : Int), false)) := by
   rw [hr]
   cases Sd 5 0 0 (l.drop n) with
   | none => rfl
   | some mc => rfl
  rw [← hr']
  cases r with
  | inl y => exact Tot.pure rfl
  | inr z => exact Tot.pure rfl
end Go.Proofs.YtgocagaijgcnmaaGreat.Vf
end

section
set_option linter.unusedVariables false
set_option linter.unusedSimpArgs false
namespace Go.Proofs.YtgocagaijgcnmaaGreat.Vf
open Go
theorem F3a (l : List Int) (hb : B4 l) (hl : l.length ≤ 1000000000000) (p : Nat) (hp : p < l.length) : ∀ (f i acc : Nat), f + i = 5 → acc < 128 ^ i →
  Tot (fun k => Cj k l (p : Int) (acc : Int) (i : Int)) (fun r => Rq r = Ria p (Sd f i acc (l.drop (p + i)))) := by
 intro f
 induction f with
 | zero =>
  intro i acc hi ha
  refine Tot.succ ?_
  simp only [Cj]
  exact Tot.ndec (by omega) (Tot.pure rfl)
 | succ f ih =>
  intro i acc hi ha
  have hi5 : i < 5 := by omega
  refine Tot.succ ?_
  simp only [Cj]
  refine Tot.dec (by omega) (Tot.dec (by omega) (Tot.dec (by omega) ?_))
  rw [w64 (n := (p : Int) + (i : Int)) (by omega) (by omega), show Int.toNat ((p : Int) + (i : Int)) = p + i by omega]
  refine Tot.dite (fun h => ?_) (fun h => ?_)
  ·have hlt : p + i < l.length := by omega
   refine Tot.dec (by omega) (Tot.dec (by omega) ?_)
   have hx := hb (l.getD (p + i) 0) (Da hlt)
   rw [Y5 hlt, Rsa i hi5]
   have he : Sd (f + 1) i acc (l.getD (p + i) 0 :: l.drop (p + i + 1)) = if 128 ≤ l.getD (p + i) 0 then Sd f (i + 1) (acc + (l.getD (p + i) 0).toNat % 128 * 128 ^ i) (l.drop (p + i + 1)) else if (l.getD (p + i) 0 = 0 ∧ 0 < i) ∨ 1000000000 < acc + (l.getD (p + i) 0).toNat % 128 * 128 ^ i then none else some (acc + (l.getD (p + i) 0).toNat % 128 * 128 ^ i, i + 1) := rfl
   rw [he]
   generalize l.getD (p + i) 0 = x at hx ⊢
   obtain ⟨v, rfl⟩ : ∃ v : Nat, x = (v : Int) := ⟨x.toNat, by omega⟩
   rw [Int.toNat_natCast]
   have hp1 := Kr i (by omega)
   have hmul : v % 128 * 128 ^ i ≤ 127 * 34359738368 := Nat.mul_le_mul (by omega) hp1
   rw [w64 (n := (v : Int)) (by omega) (by omega), Mwa v (by omega)]
   have e1 : ((v % 128 : Nat) : Int) * ((128 ^ i : Nat) : Int) = ((v % 128 * 128 ^ i : Nat) : Int) := by push_cast; rfl
   rw [e1, w64 (n := ((v % 128 * 128 ^ i : Nat) : Int)) (by omega) (by omega), Dna acc (v % 128) i ha (by omega) hi5, w64 (n := (i : Int) + 1) (by omega) (by omega), w64 (n := (p : Int) + (i : Int) + 1) (by omega) (by omega)]
   refine Tot.ndec (sh7 i hi5).2 ?_
   refine Tot.dite (fun h128 => ?_) (fun h128 => ?_)
   ·rw [if_pos (by omega)]
    have h1 : acc + v % 128 * 128 ^ i < 128 ^ (i + 1) := by
     have h2 : v % 128 ≤ 127 := by omega
     have h3 := Nat.mul_le_mul_right (128 ^ i) h2
     rw [Nat.pow_succ]
     omega
    have := ih (i + 1) (acc + v % 128 * 128 ^ i) (by omega) h1
    rw [show p + (i + 1) = p + i + 1 by omega] at this
    exact this
   ·rw [if_neg (by omega)]
    have big : Tot (fun _ : Nat => cond (decide (((acc + v % 128 * 128 ^ i : Nat) : Int) > 1000000000)) (some (Sum.inl ((0 : Int), (0 : Int), false))) (some (Sum.inl (((acc + v % 128 * 128 ^ i : Nat) : Int), (p : Int) + (i : Int) + 1, true))) : Nat → Option (Sum (Int × Int × Bool) Unit))
      (fun r => Rq r = if 1000000000 < acc + v % 128 * 128 ^ i then (0, 0, false) else (((acc + v % 128 * 128 ^ i : Nat) : Int), ((p + (i + 1) : Nat) : Int), true)) := by
     refine Tot.dite (fun hbig => ?_) (fun hbig => ?_)
     ·rw [if_pos (by omega)]; exact Tot.pure rfl
     ·rw [if_neg (by omega)]
      refine Tot.pure ?_
      show (_, _, _) = _
      rw [show (p : Int) + (i : Int) + 1 = ((p + (i + 1) : Nat) : Int) by omega]
    have goal : ∀ c : Prop, [Decidable c] → (if c ∨ 1000000000 < acc + v % 128 * 128 ^ i then none else some (acc + v % 128 * 128 ^ i, i + 1)) = if c then none else if 1000000000 < acc + v % 128 * 128 ^ i then (none : Option (Nat × Nat)) else some (acc + v % 128 * 128 ^ i, i + 1) := by
     intro c _
     by_cases h1 : c <;> by_cases h2 : 1000000000 < acc + v % 128 * 128 ^ i <;> simp [h1, h2]
    rw [goal]
    have fin : (Ria p (if 1000000000 < acc + v % 128 * 128 ^ i then (none : Option (Nat × Nat)) else some (acc + v % 128 * 128 ^ i, i + 1))) = if 1000000000 < acc + v % 128 * 128 ^ i then (0, 0, false) else (((acc + v % 128 * 128 ^ i : Nat) : Int), ((p + (i + 1) : Nat) : Int), true) := by
     split <;> rfl
    refine Tot.dite (fun hi0 => ?_) (fun hi0 => ?_)
    ·refine Tot.ite (fun h0 => ?_) (fun h0 => ?_)
     ·have hv : v = 0 := by
       have := beq_iff_eq.1 h0
       omega
      rw [if_pos ⟨by omega, by omega⟩]; exact Tot.pure rfl
     ·have hv : v ≠ 0 := by
       intro e
       subst e
       simp at h0
      rw [if_neg (by omega), fin]; exact big
    ·rw [if_neg (by omega), fin]; exact big
  ·refine Tot.pure ?_
   rw [List.drop_of_length_le (by omega)]
   rfl
theorem Pg (l : List Int) (hb : B4 l) (hl : l.length ≤ 1000000000000) (p : Int) : Tot (fun k => Bx k l p) (fun r => r = Bfa l p) := by
 unfold Bx Bfa
 by_cases h0 : p < 0
 ·rw [if_pos h0]
  refine Tot.bind (Q := fun r => r = .inr ()) ?_ ?_
  ·refine Tot.succ ?_
   simp only [Cj]
   exact Tot.dec (by omega) (Tot.ndec (by omega) (Tot.pure rfl))
  ·rintro r rfl
   exact Tot.pure rfl
 ·rw [if_neg h0]
  by_cases h1 : p < (l.length : Int)
  ·obtain ⟨n, rfl⟩ : ∃ n : Nat, p = (n : Int) := ⟨p.toNat, by omega⟩
   rw [Int.toNat_natCast]
   refine Tot.bind (F3a l hb hl n (by omega) 5 0 0 rfl (by decide)) ?_
   intro r hr
   unfold Lj
   rw [Nat.add_zero] at hr
   have hr' : Rq r = (match (match Sd 5 0 0 (l.drop n) with | some (m, c) => some (m, n + c) | none => none) with | some (m, q) => ((m : Int), (q : Int), true) | none => ((0 : Int), (0 : Int), false)) := by
    rw [hr]
    cases Sd 5 0 0 (l.drop n) with
    | none => rfl
    | some mc => rfl
   refine Tot.mono (Q := fun y => y = Rq r) ?_ (fun y hy => hy.trans hr')
   cases r with
   | inl y => exact Tot.pure rfl
   | inr z => exact Tot.pure rfl
  ·have e : Lj l p.toNat = none := by
    unfold Lj
    rw [List.drop_of_length_le (by omega)]
    rfl
   rw [e]
   refine Tot.bind (Q := fun r => r = .inr ()) ?_ ?_
   ·refine Tot.succ ?_
    simp only [Cj]
    exact Tot.dec (by omega) (Tot.dec (by omega) (Tot.ndec h1 (Tot.pure rfl)))
   ·rintro r rfl
    exact Tot.pure rfl
def Ea (n : Int) : Nat := (max 0 (min n 1000000000)).toNat
theorem Rr (n : Int) : Ea n ≤ 1000000000 := by unfold Ea; omega
theorem Y6 (n : Nat) (h : n ≤ 255) : IntKind.wrap .u8 (n : Int) = (n : Int) := by
 rw [IntKind.wrap_u8]
 omega
theorem F4a : ∀ (f n : Nat) (out : List Int), n < 128 ^ (f + 1) → f ≤ 4 → out.length + f ≤ 1000000000010 →
  Tot (fun k => E3 k out (n : Int)) (fun r => ∃ m : Nat, r.2 = (m : Int) ∧ m ≤ 127 ∧ r.1 ++ [(m : Int)] = out ++ W0 f n ∧ r.1.length ≤ out.length + f) := by
 intro f
 induction f with
 | zero =>
  intro n out hn hf hl
  refine Tot.succ ?_
  simp only [E3]
  have : n < 128 := by simpa using hn
  exact Tot.ndec (by omega) (Tot.pure ⟨n, rfl, by omega, rfl, by simp⟩)
 | succ f ih =>
  intro n out hn hf hl
  have hp := Kr (f + 1 + 1 - 1) (by omega)
  refine Tot.succ ?_
  simp only [E3]
  refine Tot.dite (fun h => ?_) (fun h => ?_)
  ·have hn2 : n / 128 < 128 ^ (f + 1) := by rw [Nat.pow_succ] at hn; omega
   have hn3 : n < 4398046511104 := by
    have := Kr (f + 1) (by omega)
    rw [Nat.pow_succ] at hn
    omega
   have e1 : Int.tmod (n : Int) 128 + 128 = ((n % 128 + 128 : Nat) : Int) := by
    rw [Int.tmod_eq_emod_of_nonneg (by omega)]
    omega
   have e2 : Int.tdiv (n : Int) 128 = ((n / 128 : Nat) : Int) := by
    rw [Int.tdiv_eq_ediv_of_nonneg (by omega)]
    omega
   rw [e1, e2, w64 (n := ((n % 128 + 128 : Nat) : Int)) (by omega) (by omega), w64 (n := ((n / 128 : Nat) : Int)) (by omega) (by omega), Y6 _ (by omega)]
   refine Tot.ble (by simp only [List.length_cons, List.length_nil]; omega) ?_
   refine (ih (n / 128) (out ++ [((n % 128 + 128 : Nat) : Int)]) hn2 (by omega) (by simp only [List.length_append, List.length_cons, List.length_nil]; omega)).mono ?_
   rintro r ⟨m, h1, h2, h3, h4⟩
   refine ⟨m, h1, h2, ?_, by simp only [List.length_append, List.length_cons, List.length_nil] at h4; omega⟩
   rw [h3, List.append_assoc]
   congr 1
   E7a => { rhs; unfold W0 }
   rw [if_neg (by omega)]
   rfl
  ·refine Tot.pure ⟨n, rfl, by omega, ?_, by show out.length ≤ out.length + (f + 1); omega⟩
   unfold W0
   rw [if_pos (by omega)]
theorem Rs (out : List Int) (n : Int) (hl : out.length ≤ 1000000000000) : Tot (fun k => Cn k out n) (fun r => r = out ++ Zw (Ea n)) := by
 unfold Cn
 have e : (if (0 : Int) < (if (1000000000 : Int) < n then 1000000000 else n) then (if (1000000000 : Int) < n then 1000000000 else n) else 0) = ((Ea n : Nat) : Int) := by
  unfold Ea
  split <;> split <;> omega
 simp only
 rw [e]
 have hc := Rr n
 refine Tot.bind (F4a 4 (Ea n) out (by omega) (by omega) (by omega)) ?_
 rintro r ⟨m, h1, h2, h3, h4⟩
 rw [h1, Y6 m (by omega)]
 refine Tot.ble (by simp only [List.length_cons, List.length_nil]; omega) (Tot.pure h3)
theorem F5a : ∀ (f n : Nat) (out : List Int), n < 128 ^ (f + 1) → f ≤ 4 → out.length + f ≤ 1000000000010 →
  Tot (fun k => Bu k (n : Int) out) (fun r => ∃ m : Nat, r.1 = (m : Int) ∧ m ≤ 127 ∧ r.2 ++ [(m : Int)] = out ++ W0 f n ∧ r.2.length ≤ out.length + f) := by
 intro f
 induction f with
 | zero =>
  intro n out hn hf hl
  refine Tot.succ ?_
  simp only [Bu]
  have : n < 128 := by simpa using hn
  exact Tot.ndec (by omega) (Tot.pure ⟨n, rfl, by omega, rfl, by simp⟩)
 | succ f ih =>
  intro n out hn hf hl
  refine Tot.succ ?_
  simp only [Bu]
  refine Tot.dite (fun h => ?_) (fun h => ?_)
  ·have hn2 : n / 128 < 128 ^ (f + 1) := by rw [Nat.pow_succ] at hn; omega
   have hn3 : n < 4398046511104 := by
    have := Kr (f + 1) (by omega)
    rw [Nat.pow_succ] at hn
    omega
   have e1 : IntKind.wrap .i64 ((BitVec.ofInt (IntKind.bits .i64) ((n % 128 : Nat) : Int) ||| BitVec.ofInt (IntKind.bits .i64) 128).toNat) = ((n % 128 + 128 : Nat) : Int) := by
    have := Dna (n % 128) 1 1 (by omega) (by omega) (by omega)
    exact this
   have e2 : Int.fdiv (n : Int) (2 ^ (min (Int.toNat 7) (IntKind.bits .i64))) = ((n / 128 : Nat) : Int) := by
    have : (2 : Int) ^ (min (Int.toNat 7) (IntKind.bits .i64)) = 128 := by decide
    rw [this, Int.fdiv_eq_ediv_of_nonneg _ (by omega)]
    omega
   rw [Mwa n (by omega), e1, e2, Y6 _ (by omega)]
   refine Tot.ble (by simp only [List.length_cons, List.length_nil]; omega) ?_
   refine (ih (n / 128) (out ++ [((n % 128 + 128 : Nat) : Int)]) hn2 (by omega) (by simp only [List.length_append, List.length_cons, List.length_nil]; omega)).mono ?_
   rintro r ⟨m, h1, h2, h3, h4⟩
   refine ⟨m, h1, h2, ?_, by simp only [List.length_append, List.length_cons, List.length_nil] at h4; omega⟩
   rw [h3, List.append_assoc]
   congr 1
   E7a => { rhs; unfold W0 }
   rw [if_neg (by omega)]
   rfl
  ·refine Tot.pure ⟨n, rfl, by omega, ?_, by show out.length ≤ out.length + (f + 1); omega⟩
   unfold W0
   rw [if_pos (by omega)]
theorem Ph (out : List Int) (n : Int) (hl : out.length ≤ 1000000000000) : Tot (fun k => Bw k out n) (fun r => r = out ++ Zw (Ea n)) := by
 have hc := Rr n
 have fin : Tot (fun k => (Bu k ((Ea n : Nat) : Int) (([] : List Int) ++ out)).bind fun r1 => cond (Nat.ble ((List.length r1.2 + List.length [IntKind.wrap .u8 r1.1]) * 1) 140737488355328) (some (r1.2 ++ [IntKind.wrap .u8 r1.1])) none) (fun r => r = out ++ Zw (Ea n)) := by
  rw [List.nil_append]
  refine Tot.bind (F5a 4 (Ea n) out (by omega) (by omega) (by omega)) ?_
  rintro r ⟨m, h1, h2, h3, h4⟩
  rw [h1, Y6 m (by omega)]
  exact Tot.ble (by simp only [List.length_cons, List.length_nil]; omega) (Tot.pure h3)
 unfold Bw
 refine Tot.ble (by simp only [List.length_nil]; omega) ?_
 refine Tot.dite (fun h1 => ?_) (fun h1 => ?_)
 ·refine Tot.ndec (by omega) ?_
  have e : ((Ea n : Nat) : Int) = 1000000000 := by unfold Ea; omega
  rw [e] at fin
  exact fin
 ·refine Tot.dite (fun h2 => ?_) (fun h2 => ?_)
  ·have e : ((Ea n : Nat) : Int) = 0 := by unfold Ea; omega
   rw [e] at fin
   exact fin
  ·have e : ((Ea n : Nat) : Int) = n := by unfold Ea; omega
   rw [e] at fin
   exact fin
theorem Hz (n : Nat) : (Zw n).length ≤ 5 ∧ 0 < (Zw n).length := Ija 4 n
theorem Th : ∀ (f n : Nat), n < 128 ^ (f + 1) → B4 (W0 f n)
 | 0, n, hn => by
  intro x hx
  simp only [W0, List.mem_singleton] at hx
  have : n < 128 := by simpa using hn
  omega
 | f + 1, n, hn => by
  unfold W0
  split
  ·intro x hx
   simp only [List.mem_singleton] at hx
   omega
  ·intro x hx
   rcases List.mem_cons.1 hx with rfl | hx
   ·omega
   ·exact Th f (n / 128) (by rw [Nat.pow_succ] at hn; omega) x hx
theorem F6a (n : Nat) (hn : n ≤ 1000000000) : B4 (Zw n) := Th 4 n (by omega)
theorem Ti (s : ByteArray) : B4 (bytesOf s) := by
 intro x hx
 unfold bytesOf at hx
 obtain ⟨b, _, rfl⟩ := List.mem_map.1 hx
 have := b.toNat_lt
 omega
theorem Bga (s : ByteArray) : (bytesOf s).length = s.size := by
 unfold bytesOf
 rw [List.length_map]
 exact Array.length_toList
theorem Uz (s : ByteArray) : Hd (bytesOf s) = s := by
 unfold Hd bytesOf
 rw [List.map_map]
 have : (fun n : Int => UInt8.ofNat n.toNat) ∘ (fun b : UInt8 => (b.toNat : Int)) = id := by
  funext b
  show UInt8.ofNat ((b.toNat : Int)).toNat = b
  rw [Int.toNat_natCast]
  exact UInt8.ofNat_toNat
 rw [this, List.map_id]
theorem Lk {l : List Int} (h : B4 l) : bytesOf (Hd l) = l := by
 unfold Hd bytesOf
 show List.map _ (List.map _ l) = l
 rw [List.map_map]
 have : ∀ x ∈ l, ((fun b : UInt8 => (b.toNat : Int)) ∘ (fun n : Int => UInt8.ofNat n.toNat)) x = x := by
  intro x hx
  have hb := h x hx
  show ((UInt8.ofNat x.toNat).toNat : Int) = x
  rw [UInt8.toNat_ofNat']
  omega
 exact (List.map_congr_left this).trans (List.map_id' l)
theorem Jf (l : List Int) : (Hd l).size = l.length := by
 unfold Hd
 show (List.map _ l).toArray.size = l.length
 simp
def txt (s : ByteArray) : List Int := Zw (Ea (s.size : Int)) ++ bytesOf s
theorem Lea (out : List Int) (s : ByteArray) (hl : out.length ≤ 1000000000000) (hs : s.size ≤ 1000000000000) : Tot (fun k => Fy k out s) (fun r => r = out ++ txt s) := by
 unfold Fy txt
 refine Tot.bind (Rs out _ hl) ?_
 rintro r rfl
 have := (Hz (Ea (s.size : Int))).1
 refine Tot.ble (by simp only [List.length_append]; omega) (Tot.pure ?_)
 rw [List.append_assoc]
theorem Doa (out : List Int) (s : ByteArray) (hl : out.length ≤ 1000000000000) (hs : s.size ≤ 1000000000000) : Tot (fun k => Fs k out s) (fun r => r = out ++ txt s) := by
 unfold Fs txt
 refine Tot.bind (Ph out _ hl) ?_
 rintro r rfl
 have := (Hz (Ea (s.size : Int))).1
 refine Tot.ble (by simp only [List.length_append]; omega) (Tot.pure ?_)
 rw [List.append_assoc]
def Fta (l : List Int) (p : Nat) : Option (ByteArray × Nat) := match Lj l p with
 | some (n, q) => if q + n ≤ l.length then some (Hd ((l.drop q).take n), q + n) else none
 | none => none
def Pja (l : List Int) (p : Int) : ByteArray × Int × Bool := if p < 0 then ((⟨#[]⟩ : ByteArray), 0, false) else match Fta l p.toNat with
 | some (s, q) => (s, (q : Int), true)
 | none => ((⟨#[]⟩ : ByteArray), 0, false)
theorem Tj (l : List Int) (hb : B4 l) (p : Int) : Bfa l p = (0, 0, false) ∨ ∃ n q, 0 ≤ p ∧ Lj l p.toNat = some (n, q) ∧ Bfa l p = ((n : Int), (q : Int), true) ∧ n ≤ 1000000000 ∧ q ≤ l.length := by
 unfold Bfa
 by_cases h : p < 0
 ·rw [if_pos h]; exact .inl rfl
 ·rw [if_neg h]
  cases hg : Lj l p.toNat with
  | none => exact .inl rfl
  | some nq =>
   obtain ⟨n, q⟩ := nq
   have := Nj hb hg
   exact .inr ⟨n, q, by omega, rfl, rfl, this.2.1, this.2.2.2⟩
theorem Dpa (l : List Int) (hb : B4 l) (hl : l.length ≤ 1000000000000) (p : Int) (hp : p ≤ 1000000000000) : Tot (fun k => Fz k l p) (fun r => r = Pja l p) := by
 unfold Fz
 refine Tot.bind (Ila l hb hl p hp) ?_
 rintro r rfl
 unfold Pja Fta
 rcases Tj l hb p with h | ⟨n, q, h0, hg, h, hn, hq⟩
 ·rw [h]
  refine Tot.yes rfl (Tot.pure ?_)
  unfold Bfa at h
  split
  ·rfl
  ·rename_i h0
   rw [if_neg h0] at h
   cases hg : Lj l p.toNat with
   | none => rfl
   | some nq => rw [hg] at h; simp at h
 ·rw [h]
  refine Tot.no rfl ?_
  rw [if_neg (by omega), hg]
  simp only
  rw [w64 (n := (l.length : Int) - (q : Int)) (by omega) (by omega), w64 (n := (q : Int) + (n : Int)) (by omega) (by omega)]
  refine Tot.dite (fun hgt => ?_) (fun hgt => ?_)
  ·rw [if_neg (by omega)]
   exact Tot.pure rfl
  ·rw [if_pos (by omega)]
   refine Tot.dec (by omega) (Tot.dec (by omega) (Tot.dec (by omega) (Tot.pure ?_)))
   rw [show Int.toNat ((q : Int) + (n : Int)) = q + n by omega, Int.toNat_natCast, List.drop_take, show q + n - q = n by omega]
   simp only [Prod.mk.injEq, true_and, and_true]
   push_cast
   rfl
theorem V0 (l : List Int) (hb : B4 l) (hl : l.length ≤ 1000000000000) (p : Int) : Tot (fun k => Fu k l p) (fun r => r = Pja l p) := by
 unfold Fu
 refine Tot.bind (Pg l hb hl p) ?_
 rintro r rfl
 unfold Pja Fta
 rcases Tj l hb p with h | ⟨n, q, h0, hg, h, hn, hq⟩
 ·rw [h]
  refine Tot.yes rfl (Tot.pure ?_)
  unfold Bfa at h
  split
  ·rfl
  ·rename_i h0
   rw [if_neg h0] at h
   cases hg : Lj l p.toNat with
   | none => rfl
   | some nq => rw [hg] at h; simp at h
 ·rw [h]
  refine Tot.no rfl ?_
  rw [if_neg (by omega), hg]
  simp only
  rw [w64 (n := (l.length : Int) - (q : Int)) (by omega) (by omega), w64 (n := (q : Int) + (n : Int)) (by omega) (by omega)]
  refine Tot.dite (fun hgt => ?_) (fun hgt => ?_)
  ·rw [if_neg (by omega)]
   exact Tot.pure rfl
  ·rw [if_pos (by omega)]
   refine Tot.dec (by omega) (Tot.dec (by omega) (Tot.dec (by omega) (Tot.pure ?_)))
   rw [show Int.toNat ((q : Int) + (n : Int)) = q + n by omega, Int.toNat_natCast, List.drop_take, show q + n - q = n by omega]
   simp only [Prod.mk.injEq, true_and, and_true]
   push_cast
   rfl
theorem Bha {l : List Int} {p q : Nat} {s : ByteArray} (hb : B4 l) (h : Fta l p = some (s, q)) : l.drop p = txt s ++ l.drop q ∧ s.size ≤ 1000000000 ∧ p < q ∧ q ≤ l.length := by
 unfold Fta at h
 split at h
 ·rename_i n q0 hg
  obtain ⟨h1, h2, h3, h4⟩ := Nj hb hg
  split at h
  ·rename_i hle
   simp only [Option.some.injEq, Prod.mk.injEq] at h
   obtain ⟨rfl, rfl⟩ := h
   have hlen : ((l.drop q0).take n).length = n := by rw [List.length_take, List.length_drop]; omega
   have hbb : B4 ((l.drop q0).take n) := fun x hx => hb x (List.mem_of_mem_drop (List.mem_of_mem_take hx))
   refine ⟨?_, by rw [Jf, hlen]; exact h2, by omega, by omega⟩
   unfold txt
   rw [Jf, hlen, Lk hbb, h1, show Ea (n : Int) = n by unfold Ea; omega, List.append_assoc]
   congr 1
   rw [← List.drop_drop, List.take_append_drop]
  ·cases h
 ·cases h
end Go.Proofs.YtgocagaijgcnmaaGreat.Vf
end

section
set_option linter.unusedVariables false
set_option linter.unusedSimpArgs false
namespace Go.Proofs.YtgocagaijgcnmaaGreat.Vf
open Go
def F7a (b : Bool) : Int := bif b then 1 else 0
theorem Ona (b : Bool) : Ix b = some (F7a b) := by cases b <;> rfl
theorem Dqa (b : Bool) : Gw b = some (F7a b) := by cases b <;> rfl
def Jra (s : Stp) : List Int := Zw (Ea s.1) ++ (Zw (Ea s.2.1) ++ Zw (Ea s.2.2))
theorem V1 (s : Stp) : (Jra s).length ≤ 15 := by
 unfold Jra
 have h1 := (Hz (Ea s.1)).1
 have h2 := (Hz (Ea s.2.1)).1
 have h3 := (Hz (Ea s.2.2)).1
 simp only [List.length_append]
 omega
theorem F8a (out : List Int) (s : Stp) (b : Bool) (hl : out.length ≤ 999999999900) : Tot (fun k => F5 k out s b) (fun r => r = out ++ (Jra s ++ Zw (Ea (F7a b)))) := by
 have h1 := (Hz (Ea s.1)).1
 have h2 := (Hz (Ea s.2.1)).1
 have h3 := (Hz (Ea s.2.2)).1
 unfold F5 Jra
 refine Tot.bind (Rs out s.1 (by omega)) ?_
 rintro r rfl
 refine Tot.bind (Rs _ s.2.1 (by simp only [List.length_append]; omega)) ?_
 rintro r rfl
 refine Tot.bind (Rs _ s.2.2 (by simp only [List.length_append]; omega)) ?_
 rintro r rfl
 refine Tot.bind (Tot.of (Q := fun y => y = F7a b) (Ona b) rfl) ?_
 rintro y rfl
 refine Tot.bind (Rs _ (F7a b) (by simp only [List.length_append]; omega)) ?_
 rintro r rfl
 exact Tot.pure (by simp only [List.append_assoc])
theorem Tk (out : List Int) (s : Stp) (hl : out.length ≤ 999999999900) : Tot (fun k => Ft k out s) (fun r => r = out ++ Jra s) := by
 have h1 := (Hz (Ea s.1)).1
 have h2 := (Hz (Ea s.2.1)).1
 unfold Ft Jra
 refine Tot.bind (Ph out s.1 (by omega)) ?_
 rintro r rfl
 refine Tot.bind (Ph _ s.2.1 (by simp only [List.length_append]; omega)) ?_
 rintro r rfl
 refine Tot.bind (Ph _ s.2.2 (by simp only [List.length_append]; omega)) ?_
 rintro r rfl
 exact Tot.pure (by simp only [List.append_assoc])
theorem Rt {s : ByteArray} (h : Cq s = true) : 1 ≤ s.size ∧ s.size ≤ 20 := by
 unfold Cq at h
 rw [Bool.and_eq_true, Iw] at h
 omega
theorem Tl {r : Row} (h : J3 r = true) : Cq r.1 = true := by
 unfold J3 at h
 rw [Bool.and_eq_true] at h
 exact h.1
theorem Ima (s : ByteArray) : (txt s).length ≤ 5 + s.size := by
 have h1 := (Hz (Ea (s.size : Int))).1
 unfold txt
 simp only [List.length_append, Bga]
 omega
end Go.Proofs.YtgocagaijgcnmaaGreat.Vf
end

section
set_option linter.unusedVariables false
set_option linter.unusedSimpArgs false
namespace Go.Proofs.YtgocagaijgcnmaaGreat.Vf
open Go
theorem Qe (l : List Int) (p : Nat) : Bfa l (p : Int) = match Lj l p with
 | some (n, q) => ((n : Int), (q : Int), true)
 | none => (0, 0, false) := by
 unfold Bfa
 rw [if_neg (by omega), Int.toNat_natCast]
 all_goals cases Lj l p <;> rfl
theorem Dra (l : List Int) (p : Nat) : Pja l (p : Int) = match Fta l p with
 | some (s, q) => (s, (q : Int), true)
 | none => ((⟨#[]⟩ : ByteArray), 0, false) := by
 unfold Pja
 rw [if_neg (by omega), Int.toNat_natCast]
 all_goals cases Fta l p <;> rfl
theorem Sm (l : List Int) (hb : B4 l) (hl : l.length ≤ 1000000000000) (p : Nat) (hp : p ≤ l.length) (bad : Bool) :
  Tot (fun k => Bq k (l, (p : Int), bad)) (fun r => (bad = false ∧ ∃ n q : Nat, Lj l p = some (n, q) ∧ q ≤ l.length ∧ r = ((n : Int), l, (q : Int), false)) ∨ ((bad = true ∨ Lj l p = none) ∧ r = (0, l, (p : Int), true))) := by
 unfold Bq
 refine Tot.bind (Ila l hb hl (p : Int) (by omega)) ?_
 rintro r rfl
 refine Tot.ite (fun h => Tot.pure (.inr ⟨.inl h, rfl⟩)) (fun h => ?_)
 rw [Qe]
 cases hg : Lj l p with
 | none => exact Tot.yes rfl (Tot.pure (.inr ⟨.inr rfl, rfl⟩))
 | some nq =>
  obtain ⟨n, q⟩ := nq
  simp only at h
  subst h
  exact Tot.no rfl (Tot.pure (.inl ⟨rfl, n, q, rfl, (Nj hb hg).2.2.2, rfl⟩))
theorem Rta (l : List Int) (hb : B4 l) (hl : l.length ≤ 1000000000000) (p : Nat) (hp : p ≤ l.length) :
  Tot (fun k => Bn k (l, (p : Int), false)) (fun r => (∃ (s : ByteArray) (q : Nat), Fta l p = some (s, q) ∧ q ≤ l.length ∧ r = (s, l, (q : Int), false)) ∨ (Fta l p = none ∧ r = ((⟨#[]⟩ : ByteArray), l, (p : Int), true))) := by
 unfold Bn
 refine Tot.bind (Dpa l hb hl (p : Int) (by omega)) ?_
 rintro r rfl
 refine Tot.no rfl ?_
 rw [Dra]
 cases hg : Fta l p with
 | none => exact Tot.yes rfl (Tot.pure (.inr ⟨rfl, rfl⟩))
 | some nq =>
  obtain ⟨n, q⟩ := nq
  exact Tot.no rfl (Tot.pure (.inl ⟨n, q, rfl, (Bha hb hg).2.2.2, rfl⟩))
def N0 (l : List Int) (p : Nat) : Option ((Stp × Bool) × Nat) :=
 (Lj l p).bind fun b => (Lj l b.2).bind fun c => (Lj l c.2).bind fun d => (Lj l d.2).bind fun e => bif decide (1 < e.1) then none else
  some ((((b.1 : Int), (c.1 : Int), (d.1 : Int)), (e.1 : Int) == 1), e.2)
theorem Rua (l : List Int) (hb : B4 l) (hl : l.length ≤ 1000000000000) (p : Nat) (hp : p ≤ l.length) (bad : Bool) :
  Tot (fun k => C1 k (l, (p : Int), bad)) (fun r => (bad = false ∧ ∃ (x : Stp × Bool) (q : Nat), N0 l p = some (x, q) ∧ q ≤ l.length ∧ r = (x.1, x.2, l, (q : Int), false)) ∨ ((bad = true ∨ N0 l p = none) ∧ ∃ s b, ∃ q : Nat, q ≤ l.length ∧ r = (s, b, l, (q : Int), true))) := by
 unfold C1
 have nx : ∀ {o : Option (Nat × Nat)} {f : Nat × Nat → Option ((Stp × Bool) × Nat)}, o = none → o.bind f = none := by
  intro o f h; rw [h]; rfl
 refine Tot.bind (Sm l hb hl p hp bad) ?_
 rintro r (⟨h0, n1, p1, h1, l1, rfl⟩ | ⟨h1, rfl⟩)
 ·simp only
  refine Tot.bind (Sm l hb hl p1 l1 false) ?_
  rintro r (⟨_, n2, p2, h2, l2, rfl⟩ | ⟨h2, rfl⟩)
  ·simp only
   refine Tot.bind (Sm l hb hl p2 l2 false) ?_
   rintro r (⟨_, n3, p3, h3, l3, rfl⟩ | ⟨h3, rfl⟩)
   ·simp only
    refine Tot.bind (Sm l hb hl p3 l3 false) ?_
    rintro r (⟨_, n4, p4, h4, l4, rfl⟩ | ⟨h4, rfl⟩)
    ·simp only
     refine Tot.no rfl (Tot.pure ?_)
     have e : N0 l p = bif decide (1 < n4) then none else some ((((n1 : Int), (n2 : Int), (n3 : Int)), (n4 : Int) == 1), p4) := by
      unfold N0
      simp only [h1, h2, h3, h4, Option.bind_some]
     cases hd : decide (1 < n4) with
     | true =>
      rw [hd, cond_true] at e
      refine .inr ⟨.inr e, ((n1 : Int), (n2 : Int), (n3 : Int)), ((n4 : Int) == 1), p4, l4, ?_⟩
      have : decide ((n4 : Int) > 1) = true := decide_eq_true (by have := of_decide_eq_true hd; omega)
      rw [this]
     | false =>
      rw [hd, cond_false] at e
      refine .inl ⟨h0, _, p4, e, l4, ?_⟩
      have : decide ((n4 : Int) > 1) = false := decide_eq_false (by have := of_decide_eq_false hd; omega)
      rw [this]
    ·refine Tot.yes rfl (Tot.pure (.inr ⟨.inr ?_, _, _, p3, l3, rfl⟩))
     have h4' := h4.resolve_left (by simp)
     unfold N0
     simp only [h1, h2, h3, h4', Option.bind_some, Option.bind_none]
   ·simp only
    refine Tot.bind (Sm l hb hl p2 l2 true) ?_
    rintro r (⟨hh, _⟩ | ⟨_, rfl⟩)
    ·cases hh
    ·refine Tot.yes rfl (Tot.pure (.inr ⟨.inr ?_, _, _, p2, l2, rfl⟩))
     have h3' := h3.resolve_left (by simp)
     unfold N0
     simp only [h1, h2, h3', Option.bind_some, Option.bind_none]
  ·simp only
   refine Tot.bind (Sm l hb hl p1 l1 true) ?_
   rintro r (⟨hh, _⟩ | ⟨_, rfl⟩)
   ·cases hh
   ·refine Tot.bind (Sm l hb hl p1 l1 true) ?_
    rintro r (⟨hh, _⟩ | ⟨_, rfl⟩)
    ·cases hh
    ·refine Tot.yes rfl (Tot.pure (.inr ⟨.inr ?_, _, _, p1, l1, rfl⟩))
     have h2' := h2.resolve_left (by simp)
     unfold N0
     simp only [h1, h2', Option.bind_some, Option.bind_none]
 ·simp only
  refine Tot.bind (Sm l hb hl p hp true) ?_
  rintro r (⟨hh, _⟩ | ⟨_, rfl⟩)
  ·cases hh
  ·refine Tot.bind (Sm l hb hl p hp true) ?_
   rintro r (⟨hh, _⟩ | ⟨_, rfl⟩)
   ·cases hh
   ·refine Tot.bind (Sm l hb hl p hp true) ?_
    rintro r (⟨hh, _⟩ | ⟨_, rfl⟩)
    ·cases hh
    ·refine Tot.yes rfl (Tot.pure (.inr ⟨?_, _, _, p, hp, rfl⟩))
     rcases h1 with h1 | h1
     ·exact .inl h1
     ·refine .inr ?_
      unfold N0
      rw [h1]
      rfl
theorem Ooa (l : List Int) (hb : B4 l) (hl : l.length ≤ 1000000000000) (p : Int) :
  Tot (fun k => Cw k l p) (fun r => (∃ n1 p1 n2 p2 n3 p3, 0 ≤ p ∧ Lj l p.toNat = some (n1, p1) ∧ Lj l p1 = some (n2, p2) ∧ Lj l p2 = some (n3, p3) ∧ r = (((n1 : Int), (n2 : Int), (n3 : Int)), (p3 : Int), true)) ∨ (((Lj l p.toNat).bind fun a => (Lj l a.2).bind fun b => Lj l b.2) = none ∨ p < 0) ∧ r.2.2 = false) := by
 unfold Cw
 refine Tot.bind (Pg l hb hl p) ?_
 rintro r1 rfl
 refine Tot.bind (Pg l hb hl _) ?_
 rintro r2 rfl
 refine Tot.bind (Pg l hb hl _) ?_
 rintro r3 rfl
 by_cases hp : p < 0
 ·have : (Bfa l p).2.2 = false := by unfold Bfa; rw [if_pos hp]
  exact Tot.no this (Tot.pure (.inr ⟨.inr hp, rfl⟩))
 ·have e1 : Bfa l p = match Lj l p.toNat with | some (n, q) => ((n : Int), (q : Int), true) | none => (0, 0, false) := by
   unfold Bfa; rw [if_neg hp]; all_goals cases Lj l p.toNat <;> rfl
  cases h1 : Lj l p.toNat with
  | none =>
   rw [h1] at e1
   simp only [e1]
   exact Tot.no rfl (Tot.pure (.inr ⟨.inl rfl, rfl⟩))
  | some a =>
   obtain ⟨n1, p1⟩ := a
   rw [h1] at e1
   simp only [e1, Qe, Option.bind_some]
   refine Tot.yes rfl ?_
   cases h2 : Lj l p1 with
   | none => exact Tot.no rfl (Tot.pure (.inr ⟨.inl rfl, rfl⟩))
   | some b =>
    obtain ⟨n2, p2⟩ := b
    refine Tot.yes rfl ?_
    simp only [Qe, Option.bind_some]
    cases h3 : Lj l p2 with
    | none => exact Tot.pure (.inr ⟨.inl rfl, rfl⟩)
    | some c =>
     obtain ⟨n3, p3⟩ := c
     exact Tot.pure (.inl ⟨n1, p1, n2, p2, n3, p3, by omega, rfl, h2, h3, rfl⟩)
theorem Ina {l : List Int} {p : Nat} (h : ((Lj l p).bind fun a => (Lj l a.2).bind fun b => Lj l b.2) = none) : N0 l p = none := by
 unfold N0
 cases h1 : Lj l p with
 | none => rfl
 | some a =>
  rw [h1] at h
  simp only [Option.bind_some] at h ⊢
  cases h2 : Lj l a.2 with
  | none => rfl
  | some b =>
   rw [h2] at h
   simp only [Option.bind_some] at h ⊢
   rw [h]
   rfl
end Go.Proofs.YtgocagaijgcnmaaGreat.Vf
end

section
set_option linter.unusedVariables false
namespace Go.Proofs.YtgocagaijgcnmaaGreat.Vf
open Go
theorem Ib : ∀ s ∈ Je, Hp s ∧ Cq s = true := by
 intro s hs
 simp only [Je, List.mem_cons, List.not_mem_nil, or_false] at hs
 rcases hs with rfl | rfl | rfl | rfl | rfl | rfl <;> exact ⟨by unfold Hp; decide, by decide⟩
theorem Lfa {x : Row} (h : Oma x) : J3 x = true := by
 obtain ⟨h1, ⟨t0, t1, s0, s1, n0, n1⟩, h3, h4, h5⟩ := h
 unfold J3 Ia
 rw [(Ib x.1 h1).2, Iw.2 ⟨t0, t1⟩, Iw.2 ⟨s0, s1⟩, Iw.2 ⟨n0, n1⟩, Iw.2 ⟨h3, by omega⟩]
 cases hd : x.2.2.1 with
 | false => rfl
 | true => rw [h5 hd]; rfl
theorem Y7 (c : Cur) (hc : Ek c) : Tot (fun k => Gg k c) (fun r => Ek r.2 ∧ r.1.length ≤ 6 ∧ Li r.1) := by
 unfold Gg
 refine Tot.bind (Rn c hc) (fun r hr => ?_)
 obtain ⟨k1, hr1, hl⟩ := hr
 have hsh : Li r.1 := fun q hq => (Ib q.1 (hr1.2 q hq).1).1
 obtain ⟨x, c', e, _, _, _, k2⟩ := C3 r.2 k1 8 (by decide)
 refine Tot.bind (Tot.of (Q := fun r => r = (x, c')) e rfl) ?_
 rintro y rfl
 refine Tot.ite (fun _ => ?_) (fun _ => ?_)
 ·refine Tot.bind (Tc c' k2) (fun z hz => ?_)
  refine Tot.ble (by simp only [List.length_cons, List.length_nil]; omega) (Tot.pure ⟨hz.2, ?_, ?_⟩)
  ·show (r.1 ++ [z.1]).length ≤ 6
   simp only [List.length_append, List.length_cons, List.length_nil]
   omega
  ·intro q hq
   rcases List.mem_append.1 hq with hq | hq
   ·exact hsh q hq
   ·simp only [List.mem_singleton] at hq
    subst hq
    exact (Ib _ hz.1.1).1
 ·refine Tot.ite (fun _ => ?_) (fun _ => Tot.pure ⟨k2, by show r.1.length ≤ 6; omega, hsh⟩)
  refine Tot.dite (fun h => ?_) (fun h => Tot.pure ⟨k2, by show r.1.length ≤ 6; omega, hsh⟩)
  obtain ⟨v, c3, e3, _, k3⟩ := Od c' k2 [(-1), 201, 200] (by decide) (by decide)
  refine Tot.bind (Tot.of (Q := fun r => r = (v, c3)) e3 rfl) ?_
  rintro z rfl
  refine Tot.dec (by omega) (Tot.pure ⟨k3, ?_, ?_⟩)
  ·show (List.set r.1 _ _).length ≤ 6
   rw [List.length_set]
   omega
  ·intro q hq
   rcases List.mem_or_eq_of_mem_set hq with hq | rfl
   ·exact hsh q hq
   ·have hpos : Int.toNat 0 < r.1.length := by show 0 < _; omega
    have h1 : Hp (r.1.getD (Int.toNat 0) Hi).1 := hsh _ (Da (d := Hi) hpos)
    exact h1
end Go.Proofs.YtgocagaijgcnmaaGreat.Vf
end

section
set_option linter.unusedVariables false
set_option linter.unusedSimpArgs false
namespace Go.Proofs.YtgocagaijgcnmaaGreat.Vf
open Go
abbrev Nmd := ByteArray × List Int
abbrev Dsk := List Nmd × List Nmd
def Cb : Nmd := ((⟨#[]⟩ : ByteArray), [])
def V2 (l : List Nmd) : Prop := l.length ≤ 1000000000000 ∧ ∀ x ∈ l, x.2.length ≤ 1000000000000
def Mxa (d : Dsk) : Prop := V2 d.1 ∧ V2 d.2
theorem Oh (l : List Int) (h : l.length ≤ 1000000000000) : An l = some l := by
 unfold An
 rw [show Nat.ble ((List.length ([] : List Int) + List.length l) * 1) 140737488355328 = true from Nat.ble_eq_true_of_le (by simp only [List.length_nil]; omega)]
 rfl
theorem Pz (l : List Nmd) (hf : V2 l) : ∀ (n i : Nat) (acc : List Nmd), l.length - i = n → i ≤ l.length → acc.length ≤ i →
  Tot (fun k => Bl k acc l (l.length : Int) (i : Int)) (fun r => r = acc ++ l.drop i) := by
 obtain ⟨h1, h2⟩ := hf
 intro n
 induction n with
 | zero =>
  intro i acc hd hi ha
  refine Tot.succ ?_
  simp only [Bl]
  refine Tot.ndec (by omega) (Tot.pure ?_)
  rw [List.drop_of_length_le (by omega), List.append_nil]
 | succ n ih =>
  intro i acc hd hi ha
  have hlt : i < l.length := by omega
  refine Tot.succ ?_
  simp only [Bl]
  refine Tot.dec (by omega) (Tot.dec (by omega) (Tot.dec (by omega) ?_))
  rw [show Int.toNat (i : Int) = i from Int.toNat_natCast i, w64 (n := (i : Int) + 1) (by omega) (by omega), Bh (d := Cb) hlt]
  have e0 : l.getD i ((⟨#[]⟩ : ByteArray), ([] : List Int)) = l.getD i Cb := rfl
  rw [e0]
  have hb := h2 _ (Da (d := Cb) hlt)
  refine Tot.bind (Tot.of (Q := fun r => r = (l.getD i Cb).2) (Oh _ hb) rfl) ?_
  rintro r rfl
  refine Tot.ble (by simp only [List.length_cons, List.length_nil]; omega) ?_
  refine (ih (i + 1) (acc ++ [l.getD i Cb]) (by omega) (by omega) (by simp only [List.length_append, List.length_cons, List.length_nil]; omega)).mono ?_
  rintro r rfl
  rw [List.append_assoc]
  rfl
theorem Jc (l : List Nmd) (hf : V2 l) : Tot (fun k => Ao k l) (fun r => r = l) := by
 unfold Ao
 refine Tot.bind (Pz l hf _ 0 [] rfl (Nat.zero_le _) (Nat.zero_le _)) ?_
 intro r hr
 rw [List.drop_zero, List.nil_append] at hr
 exact Tot.pure hr
theorem Jy (d : Dsk) (hf : Mxa d) : Tot (fun k => A7 k d) (fun r => r = d) := by
 unfold A7
 refine Tot.bind (Jc d.1 hf.1) ?_
 rintro r rfl
 refine Tot.bind (Jc d.2 hf.2) ?_
 rintro r rfl
 exact Tot.pure rfl
def fnd (l : List Nmd) (s : ByteArray) : Option Nat := l.findIdx? (fun x => teq x.1 s)
def Zx (l : List Nmd) (s : ByteArray) : Int := match fnd l s with
 | some i => (i : Int)
 | none => -1
theorem Ioa (l : List Nmd) (s : ByteArray) (hf : l.length ≤ 1000000000000) : ∀ (n i : Nat), l.length - i = n → i ≤ l.length →
  Tot (fun k => H1 k s l (l.length : Int) (i : Int)) (fun r => r = match fnd (l.drop i) s with | some j => .inl ((i + j : Nat) : Int) | none => .inr ()) := by
 intro n
 induction n with
 | zero =>
  intro i hd hi
  refine Tot.succ ?_
  simp only [H1]
  refine Tot.ndec (by omega) (Tot.pure ?_)
  rw [List.drop_of_length_le (by omega)]
  rfl
 | succ n ih =>
  intro i hd hi
  have hlt : i < l.length := by omega
  refine Tot.succ ?_
  simp only [H1]
  refine Tot.dec (by omega) (Tot.dec (by omega) (Tot.dec (by omega) ?_))
  rw [show Int.toNat (i : Int) = i from Int.toNat_natCast i, w64 (n := (i : Int) + 1) (by omega) (by omega), Bh (d := Cb) hlt]
  have e0 : l.getD i ((⟨#[]⟩ : ByteArray), ([] : List Int)) = l.getD i Cb := rfl
  rw [e0]
  have e1 : fnd (l.getD i Cb :: l.drop (i + 1)) s = if teq (l.getD i Cb).1 s then some 0 else (fnd (l.drop (i + 1)) s).map (· + 1) := by
   unfold fnd
   rw [List.findIdx?_cons]
  rw [e1]
  refine Tot.ite (fun h => ?_) (fun h => ?_)
  ·have h' : teq (l.getD i Cb).1 s = true := h
   rw [if_pos h']
   exact Tot.pure rfl
  ·have h' : ¬ (teq (l.getD i Cb).1 s = true) := by
    have : teq (l.getD i Cb).1 s = false := h
    rw [this]; simp
   rw [if_neg h']
   refine (ih (i + 1) (by omega) (by omega)).mono ?_
   rintro r rfl
   cases fnd (l.drop (i + 1)) s with
   | none => rfl
   | some j =>
    show Sum.inl _ = Sum.inl _
    rw [show i + 1 + j = i + (j + 1) by omega]
theorem Y8 (l : List Nmd) (s : ByteArray) (hf : l.length ≤ 1000000000000) : Tot (fun k => Fe k l s) (fun r => r = Zx l s) := by
 unfold Fe Zx
 refine Tot.bind (Ioa l s hf _ 0 rfl (Nat.zero_le _)) ?_
 rintro r rfl
 rw [List.drop_zero]
 cases fnd l s with
 | none => exact Tot.pure rfl
 | some j =>
  refine Tot.pure ?_
  rw [Nat.zero_add]
theorem J4 {l : List Nmd} {s : ByteArray} {i : Nat} (h : fnd l s = some i) : i < l.length ∧ (l.getD i Cb).1 = s := by
 unfold fnd at h
 rw [List.findIdx?_eq_some_iff_getElem] at h
 obtain ⟨h1, h2, _⟩ := h
 refine ⟨h1, ?_⟩
 rw [List.getD_eq_getElem?_getD, List.getElem?_eq_getElem h1]
 exact Gp.1 h2
def del (l : List Nmd) (s : ByteArray) : List Nmd := match fnd l s with
 | some i => l.take i ++ l.drop (i + 1)
 | none => l
theorem Dsa (l : List Nmd) (s : ByteArray) (hf : l.length ≤ 1000000000000) : Tot (fun k => Fg k l s) (fun r => r = del l s) := by
 unfold Fg del
 refine Tot.bind (Y8 l s hf) ?_
 rintro r rfl
 unfold Zx
 cases h : fnd l s with
 | none => exact Tot.dec (by decide) (Tot.pure rfl)
 | some i =>
  have hl := (J4 h).1
  dsimp only
  refine Tot.ndec (by omega) (Tot.dec (by omega) (Tot.dec (by omega) ?_))
  rw [w64 (n := (i : Int) + 1) (by omega) (by omega), show Int.toNat (i : Int) = i from Int.toNat_natCast i, show Int.toNat ((i : Int) + 1) = i + 1 by omega]
  refine Tot.ble (by simp only [List.length_nil, List.length_take]; omega) ?_
  refine Tot.dec (by omega) (Tot.dec (by omega) (Tot.ble (by simp only [List.length_append, List.length_nil, List.length_take, List.length_drop]; omega) (Tot.pure rfl)))
end Go.Proofs.YtgocagaijgcnmaaGreat.Vf
end

section
set_option linter.unusedVariables false
set_option linter.unusedSimpArgs false
namespace Go.Proofs.YtgocagaijgcnmaaGreat.Vf
open Go
def nOk (x : Nmd) : Bool := Cq x.1 && !(decide ((x.2.length : Int) > 400))
def chn : Option ByteArray → List Nmd → Bool
 | _, [] => true
 | none, r :: l => nOk r && chn (some r.1) l
 | some q, r :: l => nOk r && (tlt q r.1 && chn (some r.1) l)
def Fp (l : List Nmd) : Bool := chn none l && decide ((l.length : Int) ≤ 60)
def Aq (d : Dsk) : Bool := Fp d.1 && Fp d.2
def Jo (l : List Nmd) : Prop := ∀ x ∈ l, Hp x.1
def Tm (d : Dsk) : Prop := Jo d.1 ∧ Jo d.2
def Q0 (l : List Nmd) : Nat → Option ByteArray
 | 0 => none
 | i + 1 => some (l.getD i Cb).1
theorem Dta (l : List Nmd) (i : Nat) (h : i < l.length) : chn (Q0 l i) (l.drop i) = (nOk (l.getD i Cb) && (bif decide (0 < i) then tlt (l.getD (i - 1) Cb).1 (l.getD i Cb).1 else true) && chn (Q0 l (i + 1)) (l.drop (i + 1))) := by
 rw [Bh (d := Cb) h]
 cases i with
 | zero => simp [Q0, chn]
 | succ i => simp [Q0, chn, Bool.and_assoc]
theorem Y9 (l : List Nmd) (hf : l.length ≤ 1000000000000) (hs : Jo l) : ∀ (n i : Nat), l.length - i = n → i ≤ l.length →
  Tot (fun k => Ce k l l (l.length : Int) (i : Int)) (fun r => r = bif chn (Q0 l i) (l.drop i) then .inr l else .inl false) := by
 intro n
 induction n with
 | zero =>
  intro i hn hi
  refine Tot.succ ?_
  simp only [Ce]
  refine Tot.ndec (by omega) (Tot.pure ?_)
  rw [List.drop_of_length_le (by omega)]
  cases Q0 l i <;> rfl
 | succ n ih =>
  intro i hn hi
  have hlt : i < l.length := by omega
  refine Tot.succ ?_
  simp only [Ce]
  refine Tot.dec (by omega) (Tot.dec (by omega) (Tot.dec (by omega) ?_))
  rw [show Int.toNat (i : Int) = i from Int.toNat_natCast i, w64 (n := (i : Int) + 1) (by omega) (by omega), Dta l i hlt]
  have h1 := ih (i + 1) (by omega) (by omega)
  have e : (((i + 1 : Nat)) : Int) = (i : Int) + 1 := by omega
  rw [e] at h1
  have e0 : l.getD i ((⟨#[]⟩ : ByteArray), ([] : List Int)) = l.getD i Cb := rfl
  rw [e0]
  refine Tot.bind (Dka (l.getD i Cb).1 (hs _ (Da hlt))) ?_
  rintro b rfl
  cases hb : Cq (l.getD i Cb).1 with
  | false => exact Tot.yes rfl (Tot.pure (by rw [show nOk (l.getD i Cb) = false by unfold nOk; rw [hb]; rfl]; rfl))
  | true =>
   refine Tot.no rfl ?_
   refine Tot.dite (fun h4 => Tot.pure (by rw [show nOk (l.getD i Cb) = false by unfold nOk; rw [decide_eq_true h4, hb]; rfl]; rfl)) (fun h4 => ?_)
   have hnk : nOk (l.getD i Cb) = true := by unfold nOk; rw [hb, decide_eq_false h4]; rfl
   rw [hnk, Bool.true_and]
   refine Tot.dite (fun h0 => ?_) (fun h0 => ?_)
   ·rw [w64 (n := (i : Int) - 1) (by omega) (by omega)]
    refine Tot.dec (by omega) (Tot.dec (by omega) ?_)
    rw [show Int.toNat ((i : Int) - 1) = i - 1 by omega, decide_eq_true (show 0 < i by omega), cond_true]
    refine Tot.ite (fun ht => ?_) (fun ht => ?_)
    ·have ht' : (!(tlt (l.getD (i - 1) Cb).1 (l.getD i Cb).1)) = true := ht
     rw [Bool.not_eq_true'] at ht'
     exact Tot.pure (by rw [ht']; rfl)
    ·have ht' : (!(tlt (l.getD (i - 1) Cb).1 (l.getD i Cb).1)) = false := ht
     rw [Bool.not_eq_false'] at ht'
     rw [ht', Bool.true_and]
     exact h1
   ·rw [decide_eq_false (show ¬ 0 < i by omega), cond_false, Bool.true_and]
    exact h1
theorem Yy (l : List Nmd) (hf : l.length ≤ 1000000000000) (hs : Jo l) : ∀ (n i : Nat), l.length - i = n → i ≤ l.length →
  Tot (fun k => Dc k l (i : Int)) (fun r => r = bif chn (Q0 l i) (l.drop i) then .inr l else .inl false) := by
 intro n
 induction n with
 | zero =>
  intro i hn hi
  refine Tot.succ ?_
  simp only [Dc]
  refine Tot.ndec (by omega) (Tot.pure ?_)
  rw [List.drop_of_length_le (by omega)]
  cases Q0 l i <;> rfl
 | succ n ih =>
  intro i hn hi
  have hlt : i < l.length := by omega
  refine Tot.succ ?_
  simp only [Dc]
  refine Tot.dec (by omega) (Tot.dec (by omega) (Tot.dec (by omega) ?_))
  rw [show Int.toNat (i : Int) = i from Int.toNat_natCast i, w64 (n := (i : Int) + 1) (by omega) (by omega), Dta l i hlt]
  have h1 := ih (i + 1) (by omega) (by omega)
  have e : (((i + 1 : Nat)) : Int) = (i : Int) + 1 := by omega
  rw [e] at h1
  have e0 : l.getD i ((⟨#[]⟩ : ByteArray), ([] : List Int)) = l.getD i Cb := rfl
  rw [e0]
  refine Tot.bind (Of (l.getD i Cb).1 (hs _ (Da hlt))) ?_
  rintro b rfl
  cases hb : Cq (l.getD i Cb).1 with
  | false => exact Tot.yes rfl (Tot.pure (by rw [show nOk (l.getD i Cb) = false by unfold nOk; rw [hb]; rfl]; rfl))
  | true =>
   refine Tot.no rfl (Tot.dec (by omega) (Tot.dec (by omega) ?_))
   refine Tot.dite (fun h4 => Tot.pure (by rw [show nOk (l.getD i Cb) = false by unfold nOk; rw [decide_eq_true h4, hb]; rfl]; rfl)) (fun h4 => ?_)
   have hnk : nOk (l.getD i Cb) = true := by unfold nOk; rw [hb, decide_eq_false h4]; rfl
   rw [hnk, Bool.true_and]
   refine Tot.dite (fun h0 => ?_) (fun h0 => ?_)
   ·rw [w64 (n := (i : Int) - 1) (by omega) (by omega)]
    refine Tot.dec (by omega) (Tot.dec (by omega) (Tot.dec (by omega) (Tot.dec (by omega) ?_)))
    rw [show Int.toNat ((i : Int) - 1) = i - 1 by omega, decide_eq_true (show 0 < i by omega), cond_true]
    refine Tot.ite (fun ht => ?_) (fun ht => ?_)
    ·have ht' : (!(tlt (l.getD (i - 1) Cb).1 (l.getD i Cb).1)) = true := ht
     rw [Bool.not_eq_true'] at ht'
     exact Tot.pure (by rw [ht']; rfl)
    ·have ht' : (!(tlt (l.getD (i - 1) Cb).1 (l.getD i Cb).1)) = false := ht
     rw [Bool.not_eq_false'] at ht'
     rw [ht', Bool.true_and]
     exact h1
   ·rw [decide_eq_false (show ¬ 0 < i by omega), cond_false, Bool.true_and]
    exact h1
theorem Yz (l : List Nmd) (hf : l.length ≤ 1000000000000) (hs : Jo l) : Tot (fun k => C6 k l) (fun r => r = Fp l) := by
 unfold C6 Fp
 refine Tot.bind (Y9 l hf hs _ 0 rfl (Nat.zero_le _)) ?_
 rintro r rfl
 rw [List.drop_zero]
 show Tot _ (fun r => r = (chn none l && _))
 cases hc : chn none l with
 | true => rw [show chn (Q0 l 0) l = true from hc]; exact Tot.pure (by rw [Bool.true_and])
 | false => rw [show chn (Q0 l 0) l = false from hc]; exact Tot.pure rfl
theorem Z0 (l : List Nmd) (hf : l.length ≤ 1000000000000) (hs : Jo l) : Tot (fun k => Cv k l) (fun r => r = Fp l) := by
 unfold Cv Fp
 refine Tot.bind (Yy l hf hs _ 0 rfl (Nat.zero_le _)) ?_
 rintro r rfl
 rw [List.drop_zero]
 show Tot _ (fun r => r = (chn none l && _))
 cases hc : chn none l with
 | true => rw [show chn (Q0 l 0) l = true from hc]; exact Tot.pure (by rw [Bool.true_and])
 | false => rw [show chn (Q0 l 0) l = false from hc]; exact Tot.pure rfl
theorem Qf (d : Dsk) (hf : Mxa d) (hs : Tm d) : Tot (fun k => Au k d) (fun r => r = Aq d) := by
 unfold Au Aq
 refine Tot.bind (Yz d.1 hf.1.1 hs.1) ?_
 rintro r rfl
 cases h : Fp d.1 with
 | false => exact Tot.no rfl (Tot.pure rfl)
 | true =>
  refine Tot.yes rfl (Tot.bind (Yz d.2 hf.2.1 hs.2) ?_)
  rintro r rfl
  exact Tot.pure (by rw [Bool.true_and])
def plc (l : List Nmd) (s : ByteArray) : Nat := (l.takeWhile (fun y => tlt y.1 s)).length
def ins (l : List Nmd) (x : Nmd) : List Nmd := l.take (plc l x.1) ++ [x] ++ l.drop (plc l x.1)
end Go.Proofs.YtgocagaijgcnmaaGreat.Vf
end

section
set_option linter.unusedVariables false
set_option linter.unusedSimpArgs false
namespace Go.Proofs.YtgocagaijgcnmaaGreat.Vf
open Go
theorem Bia (l : List Int) (h : l.length ≤ 1000000000000) : (List.length ([] : List Int) + l.length) * 1 ≤ 140737488355328 := by
 simp only [List.length_nil]
 omega
theorem Ru (l : List Nmd) (hf : V2 l) : ∀ (n i : Nat) (acc : List Nmd), l.length - i = n → i ≤ l.length → acc.length ≤ i →
  Tot (fun k => Bb k l acc (i : Int)) (fun r => r = acc ++ l.drop i) := by
 obtain ⟨h1, h2⟩ := hf
 intro n
 induction n with
 | zero =>
  intro i acc hd hi ha
  refine Tot.succ ?_
  simp only [Bb]
  refine Tot.ndec (by omega) (Tot.pure ?_)
  rw [List.drop_of_length_le (by omega), List.append_nil]
 | succ n ih =>
  intro i acc hd hi ha
  have hlt : i < l.length := by omega
  refine Tot.succ ?_
  simp only [Bb]
  refine Tot.dec (by omega) (Tot.dec (by omega) (Tot.dec (by omega) (Tot.dec (by omega) (Tot.dec (by omega) ?_))))
  rw [show Int.toNat (i : Int) = i from Int.toNat_natCast i, w64 (n := (i : Int) + 1) (by omega) (by omega), Bh (d := Cb) hlt]
  have e0 : l.getD i ((⟨#[]⟩ : ByteArray), ([] : List Int)) = l.getD i Cb := rfl
  rw [e0]
  have hb := h2 _ (Da (d := Cb) hlt)
  refine Tot.ble (Bia _ hb) (Tot.ble (by simp only [List.length_cons, List.length_nil]; omega) ?_)
  refine (ih (i + 1) (acc ++ [l.getD i Cb]) (by omega) (by omega) (by simp only [List.length_append, List.length_cons, List.length_nil]; omega)).mono ?_
  rintro r rfl
  rw [List.append_assoc]
  rfl
theorem Pr (l : List Nmd) (hf : V2 l) : Tot (fun k => Bo k l) (fun r => r = l) := by
 unfold Bo
 refine Tot.bind (Ru l hf _ 0 [] rfl (Nat.zero_le _) (Nat.zero_le _)) ?_
 intro r hr
 rw [List.drop_zero, List.nil_append] at hr
 exact Tot.pure hr
theorem I9 (d : Dsk) (hf : Mxa d) : Tot (fun k => A9 k d) (fun r => r = d) := by
 unfold A9
 refine Tot.bind (Pr d.1 hf.1) ?_
 rintro r rfl
 refine Tot.bind (Pr d.2 hf.2) ?_
 rintro r rfl
 exact Tot.pure rfl
theorem Ipa (l : List Nmd) (s : ByteArray) (hf : l.length ≤ 1000000000000) : ∀ (n i : Nat), l.length - i = n → i ≤ l.length →
  Tot (fun k => Fv k l s (i : Int)) (fun r => r = match fnd (l.drop i) s with | some j => .inl ((i + j : Nat) : Int) | none => .inr ()) := by
 intro n
 induction n with
 | zero =>
  intro i hd hi
  refine Tot.succ ?_
  simp only [Fv]
  refine Tot.ndec (by omega) (Tot.pure ?_)
  rw [List.drop_of_length_le (by omega)]
  rfl
 | succ n ih =>
  intro i hd hi
  have hlt : i < l.length := by omega
  refine Tot.succ ?_
  simp only [Fv]
  refine Tot.dec (by omega) (Tot.dec (by omega) (Tot.dec (by omega) ?_))
  rw [show Int.toNat (i : Int) = i from Int.toNat_natCast i, w64 (n := (i : Int) + 1) (by omega) (by omega), Bh (d := Cb) hlt]
  have e0 : l.getD i ((⟨#[]⟩ : ByteArray), ([] : List Int)) = l.getD i Cb := rfl
  rw [e0]
  have e1 : fnd (l.getD i Cb :: l.drop (i + 1)) s = if teq (l.getD i Cb).1 s then some 0 else (fnd (l.drop (i + 1)) s).map (· + 1) := by
   unfold fnd
   rw [List.findIdx?_cons]
  rw [e1]
  refine Tot.ite (fun h => ?_) (fun h => ?_)
  ·have h' : teq (l.getD i Cb).1 s = true := h
   rw [if_pos h']
   exact Tot.pure rfl
  ·have h' : ¬ (teq (l.getD i Cb).1 s = true) := by
    have : teq (l.getD i Cb).1 s = false := h
    rw [this]; simp
   rw [if_neg h']
   refine (ih (i + 1) (by omega) (by omega)).mono ?_
   rintro r rfl
   cases fnd (l.drop (i + 1)) s with
   | none => rfl
   | some j =>
    show Sum.inl _ = Sum.inl _
    rw [show i + 1 + j = i + (j + 1) by omega]
theorem Z1 (l : List Nmd) (s : ByteArray) (hf : l.length ≤ 1000000000000) : Tot (fun k => Dj k l s) (fun r => r = Zx l s) := by
 unfold Dj Zx
 refine Tot.bind (Ipa l s hf _ 0 rfl (Nat.zero_le _)) ?_
 rintro r rfl
 rw [List.drop_zero]
 cases fnd l s with
 | none => exact Tot.pure rfl
 | some j =>
  refine Tot.pure ?_
  rw [Nat.zero_add]
def cut (l : List Nmd) (s : ByteArray) : List Nmd := l.filter (fun x => !(teq x.1 s))
theorem F9a (l : List Nmd) (s : ByteArray) (hf : l.length ≤ 1000000000000) : ∀ (n i : Nat) (acc : List Nmd), l.length - i = n → i ≤ l.length → acc.length ≤ i →
  Tot (fun k => Eb k l s acc (i : Int)) (fun r => r = acc ++ cut (l.drop i) s) := by
 intro n
 induction n with
 | zero =>
  intro i acc hd hi ha
  refine Tot.succ ?_
  simp only [Eb]
  refine Tot.ndec (by omega) (Tot.pure ?_)
  rw [List.drop_of_length_le (by omega)]
  simp [cut]
 | succ n ih =>
  intro i acc hd hi ha
  have hlt : i < l.length := by omega
  refine Tot.succ ?_
  simp only [Eb]
  refine Tot.dec (by omega) (Tot.dec (by omega) (Tot.dec (by omega) ?_))
  rw [show Int.toNat (i : Int) = i from Int.toNat_natCast i, w64 (n := (i : Int) + 1) (by omega) (by omega), Bh (d := Cb) hlt]
  have e0 : l.getD i ((⟨#[]⟩ : ByteArray), ([] : List Int)) = l.getD i Cb := rfl
  rw [e0]
  have e1 : cut (l.getD i Cb :: l.drop (i + 1)) s = if (!(teq (l.getD i Cb).1 s)) = true then l.getD i Cb :: cut (l.drop (i + 1)) s else cut (l.drop (i + 1)) s := by
   unfold cut
   rw [List.filter_cons]
  rw [e1]
  refine Tot.ite (fun h => ?_) (fun h => ?_)
  ·have h' : (!(teq (l.getD i Cb).1 s)) = true := h
   rw [if_pos h']
   refine Tot.dec (by omega) (Tot.dec (by omega) (Tot.ble (by simp only [List.length_cons, List.length_nil]; omega) ?_))
   refine (ih (i + 1) (acc ++ [l.getD i Cb]) (by omega) (by omega) (by simp only [List.length_append, List.length_cons, List.length_nil]; omega)).mono ?_
   rintro r rfl
   rw [List.append_assoc]
   rfl
  ·have h' : ¬ ((!(teq (l.getD i Cb).1 s)) = true) := by
    have : (!(teq (l.getD i Cb).1 s)) = false := h
    rw [this]; simp
   rw [if_neg h']
   exact ih (i + 1) acc (by omega) (by omega) (by omega)
theorem Iqa (l : List Nmd) (s : ByteArray) (hf : l.length ≤ 1000000000000) : Tot (fun k => Fj k l s) (fun r => r = cut l s) := by
 unfold Fj
 refine Tot.bind (F9a l s hf _ 0 [] rfl (Nat.zero_le _) (Nat.zero_le _)) ?_
 intro r hr
 rw [List.drop_zero, List.nil_append] at hr
 exact Tot.pure hr
theorem Oi (d : Dsk) (hf : Mxa d) (hs : Tm d) : Tot (fun k => Bt k d) (fun r => r = Aq d) := by
 unfold Bt Aq
 refine Tot.bind (Z0 d.1 hf.1.1 hs.1) ?_
 rintro r rfl
 cases h : Fp d.1 with
 | false => exact Tot.no rfl (Tot.pure rfl)
 | true =>
  refine Tot.yes rfl (Tot.bind (Z0 d.2 hf.2.1 hs.2) ?_)
  rintro r rfl
  exact Tot.pure (by rw [Bool.true_and])
end Go.Proofs.YtgocagaijgcnmaaGreat.Vf
end

section
set_option linter.unusedVariables false
set_option linter.unusedSimpArgs false
namespace Go.Proofs.YtgocagaijgcnmaaGreat.Vf
open Go
def rdN (l : List Nmd) (s : ByteArray) : List Int × Bool := match fnd l s with
 | some i => ((l.getD i Cb).2, true)
 | none => ([], false)
theorem Lga (d : Dsk) (s : ByteArray) (hf : V2 d.1) : Tot (fun k => Cp k d s) (fun r => r = rdN d.1 s) := by
 unfold Cp rdN
 refine Tot.bind (Y8 d.1 s hf.1) ?_
 rintro r rfl
 unfold Zx
 have hl1 := hf.1
 cases h : fnd d.1 s with
 | none => exact Tot.dec (by decide) (Tot.pure rfl)
 | some i =>
  have hl := (J4 h).1
  dsimp only
  refine Tot.ndec (by omega) (Tot.dec (by omega) (Tot.dec (by omega) ?_))
  rw [show Int.toNat (i : Int) = i from Int.toNat_natCast i]
  have hb := hf.2 _ (Da (d := Cb) hl)
  refine Tot.bind (Tot.of (Q := fun r => r = (d.1.getD i Cb).2) (Oh _ hb) rfl) ?_
  rintro r rfl
  exact Tot.pure rfl
theorem Dua (d : Dsk) (s : ByteArray) (hf : V2 d.1) : Tot (fun k => Co k d s) (fun r => r = rdN d.1 s) := by
 unfold Co rdN
 refine Tot.bind (Z1 d.1 s hf.1) ?_
 rintro r rfl
 unfold Zx
 have hl1 := hf.1
 cases h : fnd d.1 s with
 | none => exact Tot.dec (by decide) (Tot.pure rfl)
 | some i =>
  have hl := (J4 h).1
  dsimp only
  refine Tot.ndec (by omega) (Tot.dec (by omega) (Tot.dec (by omega) ?_))
  rw [show Int.toNat (i : Int) = i from Int.toNat_natCast i]
  have hb := hf.2 _ (Da (d := Cb) hl)
  exact Tot.ble (Bia _ hb) (Tot.pure rfl)
end Go.Proofs.YtgocagaijgcnmaaGreat.Vf
end
