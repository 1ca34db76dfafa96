/- Names, stamps and rows that are right; listings merged. -/
import Derived.Test.YtehkignjdbkeiaaYd
set_option linter.unusedVariables false
set_option linter.unusedSimpArgs false
namespace Go.Proofs.Ytehkignjdbkeiaa.Vf
open Go

def inR (n lo hi : Int) : Bool := decide (n ≥ lo) && decide (n ≤ hi)
theorem implIn (n lo hi : Int) : impl_in n lo hi = some (inR n lo hi) := by
  unfold impl_in inR
  cases decide (n ≥ lo) <;> rfl
theorem specIn (n lo hi : Int) : spec_l1In n lo hi = some (inR n lo hi) := by
  unfold spec_l1In inR
  cases decide (n ≥ lo) <;> rfl
theorem inR_iff {n lo hi : Int} : inR n lo hi = true ↔ lo ≤ n ∧ n ≤ hi := by
  unfold inR
  simp

def charOk (c : Int) : Bool := inR c 97 122 || (inR c 48 57 || (!(c != 45) || (!(c != 95) || !(c != 47))))

/-- How long a text may be. -/
def Short (s : ByteArray) : Prop := s.size ≤ 4611686018427387904

theorem size_toList (s : ByteArray) : s.data.toList.length = s.size := Array.length_toList
theorem bt_bounds (s : ByteArray) (i : Int) : 0 ≤ bt s i ∧ bt s i ≤ 255 := by
  unfold bt
  have := (s.data.toList.getD i.toNat 0).toNat_lt
  omega
theorem bt_at (s : ByteArray) (i : Nat) (h : i < s.size) : bt s (i : Int) = ((s.data.toList[i]'(by rw [size_toList]; exact h)).toNat : Int) := by
  unfold bt
  rw [Int.toNat_natCast, List.getD_eq_getElem?_getD, List.getElem?_eq_getElem (by rw [size_toList]; exact h)]
  rfl

def bOk (b : UInt8) : Bool := charOk (b.toNat : Int)

theorem implName_l2 (s : ByteArray) (hs : Short s) : ∀ (n i : Nat), s.size - i = n → i ≤ s.size →
    Tot (fun k => impl_NameOk_l2 k s (i : Int)) (fun r => r = bif (s.data.toList.drop i).all bOk then .inr s else .inl false) := by
  unfold Short at hs
  have hsz := size_toList s
  intro n
  induction n with
  | zero =>
    intro i hn hi
    refine Tot.succ ?_
    simp only [impl_NameOk_l2]
    refine Tot.ndec (by omega) (Tot.pure ?_)
    rw [List.drop_of_length_le (by omega)]
    rfl
  | succ n ih =>
    intro i hn hi
    have hlt : i < s.size := by omega
    refine Tot.succ ?_
    simp only [impl_NameOk_l2]
    refine Tot.dec (by omega) (Tot.dec (by omega) (Tot.dec (by omega) ?_))
    rw [w64 (n := (i : Int) + 1) (by omega) (by omega)]
    have hb : bOk (s.data.toList[i]'(by omega)) = charOk (bt s (i : Int)) := by rw [bt_at s i hlt]; rfl
    rw [List.drop_eq_getElem_cons (by omega), List.all_cons, hb]
    generalize bt s (i : Int) = c
    have h1 := ih (i + 1) (by omega) (by omega)
    have e : (((i + 1 : Nat)) : Int) = (i : Int) + 1 := by omega
    rw [e] at h1
    cases hc : charOk c with
    | true =>
      rw [Bool.true_and]
      refine h1.mono (fun r hr => hr) |> fun h => ?_
      obtain ⟨r, K, h2, h3⟩ := h
      refine ⟨r, K, fun k hk => ?_, h3⟩
      rw [← h2 k hk]
      unfold charOk inR at hc
      revert hc
      cases decide (c ≥ 97) <;> cases decide (c ≤ 122) <;> cases decide (c ≥ 48) <;> cases decide (c ≤ 57) <;> cases (c != 45) <;> cases (c != 95) <;> cases (c != 47) <;> first | (intro _; rfl) | (intro hc; cases hc)
    | false =>
      rw [Bool.false_and]
      refine ⟨.inl false, 0, fun k _ => ?_, rfl⟩
      unfold charOk inR at hc
      revert hc
      cases decide (c ≥ 97) <;> cases decide (c ≤ 122) <;> cases decide (c ≥ 48) <;> cases decide (c ≤ 57) <;> cases (c != 45) <;> cases (c != 95) <;> cases (c != 47) <;> first | (intro _; rfl) | (intro hc; cases hc)

theorem specName_l2 (s : ByteArray) (hs : Short s) : ∀ (n i : Nat), s.size - i = n → i ≤ s.size →
    Tot (fun k => spec_NameOk_l2 k s (i : Int)) (fun r => r = bif (s.data.toList.drop i).all bOk then .inr s else .inl false) := by
  unfold Short at hs
  have hsz := size_toList s
  intro n
  induction n with
  | zero =>
    intro i hn hi
    refine Tot.succ ?_
    simp only [spec_NameOk_l2]
    refine Tot.ndec (by omega) (Tot.pure ?_)
    rw [List.drop_of_length_le (by omega)]
    rfl
  | succ n ih =>
    intro i hn hi
    have hlt : i < s.size := by omega
    have hbb := bt_bounds s (i : Int)
    refine Tot.succ ?_
    simp only [spec_NameOk_l2]
    refine Tot.dec (by omega) (Tot.dec (by omega) (Tot.dec (by omega) ?_))
    rw [w64 (n := (i : Int) + 1) (by omega) (by omega), w64 (n := bt s (i : Int)) (by omega) (by omega)]
    have hb : bOk (s.data.toList[i]'(by omega)) = charOk (bt s (i : Int)) := by rw [bt_at s i hlt]; rfl
    rw [List.drop_eq_getElem_cons (by omega), List.all_cons, hb]
    generalize bt s (i : Int) = c
    have h1 := ih (i + 1) (by omega) (by omega)
    have e : (((i + 1 : Nat)) : Int) = (i : Int) + 1 := by omega
    rw [e] at h1
    simp only [specIn, Option.bind_some]
    cases hc : charOk c with
    | true =>
      rw [Bool.true_and]
      obtain ⟨r, K, h2, h3⟩ := h1
      refine ⟨r, K, fun k hk => ?_, h3⟩
      rw [← h2 k hk]
      unfold charOk at hc
      revert hc
      cases inR c 97 122 <;> cases inR c 48 57 <;> cases (c != 45) <;> cases (c != 95) <;> cases (c != 47) <;> first | (intro _; rfl) | (intro hc; cases hc)
    | false =>
      rw [Bool.false_and]
      refine ⟨.inl false, 0, fun k _ => ?_, rfl⟩
      unfold charOk at hc
      revert hc
      cases inR c 97 122 <;> cases inR c 48 57 <;> cases (c != 45) <;> cases (c != 95) <;> cases (c != 47) <;> first | (intro _; rfl) | (intro hc; cases hc)

def nameOk (s : ByteArray) : Bool := s.data.toList.all bOk && inR (s.size : Int) 1 20

theorem implName (s : ByteArray) (hs : Short s) : Tot (fun k => impl_NameOk k s) (fun r => r = nameOk s) := by
  unfold impl_NameOk nameOk
  refine Tot.bind (implName_l2 s hs _ 0 rfl (Nat.zero_le _)) ?_
  rintro r rfl
  rw [List.drop_zero]
  cases s.data.toList.all bOk with
  | true => exact Tot.of (a := inR (s.size : Int) 1 20) (by simp only [cond_true, Sum.elim_inr, implIn, Option.bind_some]) (by rw [Bool.true_and])
  | false => exact Tot.pure rfl

theorem specName (s : ByteArray) (hs : Short s) : Tot (fun k => spec_NameOk k s) (fun r => r = nameOk s) := by
  unfold spec_NameOk nameOk
  refine Tot.bind (specName_l2 s hs _ 0 rfl (Nat.zero_le _)) ?_
  rintro r rfl
  rw [List.drop_zero]
  cases s.data.toList.all bOk with
  | true => exact Tot.of (a := inR (s.size : Int) 1 20) (by simp only [cond_true, Sum.elim_inr, specIn, Option.bind_some]) (by rw [Bool.true_and])
  | false => exact Tot.pure rfl

def stampOk (s : Stp) : Bool := inR s.1 0 1000000000 && (inR s.2.1 0 1000000 && inR s.2.2 0 20)
theorem implStamp (s : Stp) : impl_StampOk s = some (stampOk s) := by
  unfold impl_StampOk stampOk
  simp only [implIn, Option.bind_some]
  cases inR s.1 0 1000000000 <;> cases inR s.2.1 0 1000000 <;> rfl
theorem specStamp (s : Stp) : spec_StampOk s = some (stampOk s) := by
  unfold spec_StampOk stampOk
  simp only [specIn, Option.bind_some]
  cases inR s.1 0 1000000000 <;> cases inR s.2.1 0 1000000 <;> rfl

def rowOk (x : Row) : Bool := nameOk x.1 && (stampOk x.2.1 && (inR x.2.2.2 0 200 && (!x.2.2.1 || x.2.2.2 == 0)))
theorem implRow (x : Row) (hs : Short x.1) : Tot (fun k => impl_rowOk k x) (fun r => r = rowOk x) := by
  unfold impl_rowOk rowOk
  refine Tot.bind (implName x.1 hs) ?_
  rintro r rfl
  cases nameOk x.1 with
  | false => exact Tot.pure rfl
  | true =>
    refine Tot.of (a := stampOk x.2.1 && (inR x.2.2.2 0 200 && (!x.2.2.1 || x.2.2.2 == 0))) ?_ (by rw [Bool.true_and])
    simp only [cond_true, implStamp, implIn, Option.bind_some]
    cases stampOk x.2.1 <;> cases inR x.2.2.2 0 200 <;> cases x.2.2.1 <;> rfl
theorem specRow (x : Row) (hs : Short x.1) : Tot (fun k => spec_l11Row k x) (fun r => r = rowOk x) := by
  unfold spec_l11Row rowOk
  refine Tot.bind (specName x.1 hs) ?_
  rintro r rfl
  cases nameOk x.1 with
  | false => exact Tot.pure rfl
  | true =>
    refine Tot.of (a := stampOk x.2.1 && (inR x.2.2.2 0 200 && (!x.2.2.1 || x.2.2.2 == 0))) ?_ (by rw [Bool.true_and])
    simp only [cond_true, specStamp, specIn, Option.bind_some]
    cases stampOk x.2.1 <;> cases inR x.2.2.2 0 200 <;> cases x.2.2.1 <;> rfl

/-- Rows from some name on. -/
def chk : Option ByteArray → List Row → Bool
  | _, [] => true
  | none, r :: l => rowOk r && chk (some r.1) l
  | some q, r :: l => rowOk r && (tlt q r.1 && chk (some r.1) l)

def rowsOk (l : List Row) : Bool := chk none l && decide ((l.length : Int) ≤ 60)

def AllShort (l : List Row) : Prop := ∀ r ∈ l, Short r.1

def prevN (l : List Row) : Nat → Option ByteArray
  | 0 => none
  | i + 1 => some (l.getD i row0).1

theorem chk_drop (l : List Row) (i : Nat) (h : i < l.length) : chk (prevN l i) (l.drop i) = (rowOk (l.getD i row0) && (bif decide (0 < i) then tlt (l.getD (i - 1) row0).1 (l.getD i row0).1 else true) && chk (prevN l (i + 1)) (l.drop (i + 1))) := by
  rw [drop_cons (d := row0) h]
  cases i with
  | zero => simp [prevN, chk]
  | succ i => simp [prevN, chk, Bool.and_assoc]

theorem getD_mem' {α : Type} {l : List α} {i : Nat} {d : α} (h1 : i < l.length) : l.getD i d ∈ l := by
  rw [List.getD_eq_getElem?_getD, List.getElem?_eq_getElem h1]
  exact List.getElem_mem h1

theorem implRows_l2 (l : List Row) (hf : Few l) (hs : AllShort l) : ∀ (n i : Nat), l.length - i = n → i ≤ l.length →
    Tot (fun k => impl_RowsOk_l2 k l l (l.length : Int) (i : Int)) (fun r => r = bif chk (prevN l i) (l.drop i) then .inr l else .inl false) := by
  unfold Few at hf
  intro n
  induction n with
  | zero =>
    intro i hn hi
    refine Tot.succ ?_
    simp only [impl_RowsOk_l2]
    refine Tot.ndec (by omega) (Tot.pure ?_)
    rw [List.drop_of_length_le (by omega)]
    cases prevN l i <;> rfl
  | succ n ih =>
    intro i hn hi
    have hlt : i < l.length := by omega
    refine Tot.succ ?_
    simp only [impl_RowsOk_l2]
    refine Tot.dec (by omega) (Tot.dec (by omega) (Tot.dec (by omega) ?_))
    rw [show Int.toNat (i : Int) = i from Int.toNat_natCast i, w64 (n := (i : Int) + 1) (by omega) (by omega), chk_drop l i hlt]
    have h1 := ih (i + 1) (by omega) (by omega)
    have e : (((i + 1 : Nat)) : Int) = (i : Int) + 1 := by omega
    rw [e] at h1
    refine Tot.bind (implRow (l.getD i row0) (hs _ (getD_mem' hlt))) ?_
    rintro b rfl
    cases hb : rowOk (l.getD i row0) with
    | false => exact Tot.yes rfl (Tot.pure (by simp))
    | true =>
      refine Tot.no rfl ?_
      rw [Bool.true_and]
      refine Tot.dite (fun h0 => ?_) (fun h0 => ?_)
      · rw [w64 (n := (i : Int) - 1) (by omega) (by omega)]
        refine Tot.dec (by omega) (Tot.dec (by omega) ?_)
        rw [show Int.toNat ((i : Int) - 1) = i - 1 by omega, decide_eq_true (show 0 < i by omega), cond_true]
        have et : (!(Op.bytesLess (l.getD (i - 1) row0).1.toList (l.getD i row0).1.toList)) = !(tlt (l.getD (i - 1) row0).1 (l.getD i row0).1) := rfl
        refine Tot.ite (fun ht => ?_) (fun ht => ?_)
        · have ht' : (!(tlt (l.getD (i - 1) row0).1 (l.getD i row0).1)) = true := ht
          rw [Bool.not_eq_true'] at ht'
          exact Tot.pure (by rw [ht']; rfl)
        · have ht' : (!(tlt (l.getD (i - 1) row0).1 (l.getD i row0).1)) = false := ht
          rw [Bool.not_eq_false'] at ht'
          rw [ht', Bool.true_and]
          exact h1
      · rw [decide_eq_false (show ¬ 0 < i by omega), cond_false, Bool.true_and]
        exact h1

theorem specRows_l2 (l : List Row) (hf : Few l) (hs : AllShort l) : ∀ (n i : Nat), l.length - i = n → i ≤ l.length →
    Tot (fun k => spec_RowsOk_l2 k l (i : Int)) (fun r => r = bif chk (prevN l i) (l.drop i) then .inr l else .inl false) := by
  unfold Few at hf
  intro n
  induction n with
  | zero =>
    intro i hn hi
    refine Tot.succ ?_
    simp only [spec_RowsOk_l2]
    refine Tot.ndec (by omega) (Tot.pure ?_)
    rw [List.drop_of_length_le (by omega)]
    cases prevN l i <;> rfl
  | succ n ih =>
    intro i hn hi
    have hlt : i < l.length := by omega
    refine Tot.succ ?_
    simp only [spec_RowsOk_l2]
    refine Tot.dec (by omega) (Tot.dec (by omega) (Tot.dec (by omega) ?_))
    rw [show Int.toNat (i : Int) = i from Int.toNat_natCast i, w64 (n := (i : Int) + 1) (by omega) (by omega), chk_drop l i hlt]
    have h1 := ih (i + 1) (by omega) (by omega)
    have e : (((i + 1 : Nat)) : Int) = (i : Int) + 1 := by omega
    rw [e] at h1
    refine Tot.bind (specRow (l.getD i row0) (hs _ (getD_mem' hlt))) ?_
    rintro b rfl
    cases hb : rowOk (l.getD i row0) with
    | false => exact Tot.yes rfl (Tot.pure (by simp))
    | true =>
      refine Tot.no rfl ?_
      rw [Bool.true_and]
      refine Tot.dite (fun h0 => ?_) (fun h0 => ?_)
      · rw [w64 (n := (i : Int) - 1) (by omega) (by omega)]
        refine Tot.dec (by omega) (Tot.dec (by omega) (Tot.dec (by omega) (Tot.dec (by omega) ?_)))
        rw [show Int.toNat ((i : Int) - 1) = i - 1 by omega, decide_eq_true (show 0 < i by omega), cond_true]
        refine Tot.ite (fun ht => ?_) (fun ht => ?_)
        · have ht' : (!(tlt (l.getD (i - 1) row0).1 (l.getD i row0).1)) = true := ht
          rw [Bool.not_eq_true'] at ht'
          exact Tot.pure (by rw [ht']; rfl)
        · have ht' : (!(tlt (l.getD (i - 1) row0).1 (l.getD i row0).1)) = false := ht
          rw [Bool.not_eq_false'] at ht'
          rw [ht', Bool.true_and]
          exact h1
      · rw [decide_eq_false (show ¬ 0 < i by omega), cond_false, Bool.true_and]
        exact h1

theorem implRows (l : List Row) (hf : Few l) (hs : AllShort l) : Tot (fun k => impl_RowsOk k l) (fun r => r = rowsOk l) := by
  unfold impl_RowsOk rowsOk
  refine Tot.bind (implRows_l2 l hf hs _ 0 rfl (Nat.zero_le _)) ?_
  rintro r rfl
  rw [List.drop_zero]
  show Tot _ (fun r => r = (chk none l && _))
  cases hc : chk none l with
  | true => rw [show chk (prevN l 0) l = true from hc]; exact Tot.pure (by rw [Bool.true_and])
  | false => rw [show chk (prevN l 0) l = false from hc]; exact Tot.pure rfl

theorem specRows (l : List Row) (hf : Few l) (hs : AllShort l) : Tot (fun k => spec_RowsOk k l) (fun r => r = rowsOk l) := by
  unfold spec_RowsOk rowsOk
  refine Tot.bind (specRows_l2 l hf hs _ 0 rfl (Nat.zero_le _)) ?_
  rintro r rfl
  rw [List.drop_zero]
  cases hc : chk none l with
  | true => rw [show chk (prevN l 0) l = true from hc]; exact Tot.pure (by rw [Bool.true_and])
  | false => rw [show chk (prevN l 0) l = false from hc]; exact Tot.pure rfl

theorem chk_iff : ∀ (p : Option ByteArray) (l : List Row), chk p l = true ↔ RowsSorted l ∧ (∀ r ∈ l, rowOk r = true) ∧ (∀ q, p = some q → ∀ r ∈ l, tlt q r.1 = true)
  | p, [] => by
    have : chk p [] = true := by cases p <;> rfl
    simp [this, RowsSorted]
  | none, r :: l => by
    simp only [chk, Bool.and_eq_true, chk_iff (some r.1) l, RowsSorted, List.pairwise_cons]
    constructor
    · rintro ⟨h1, h2, h3, h4⟩
      exact ⟨⟨fun a ha => h4 _ rfl a ha, h2⟩, fun a ha => by rcases List.mem_cons.1 ha with rfl | ha; exact h1; exact h3 a ha, fun q hq => by cases hq⟩
    · rintro ⟨⟨h1, h2⟩, h3, _⟩
      exact ⟨h3 r (by simp), h2, fun a ha => h3 a (List.mem_cons_of_mem _ ha), fun q hq a ha => by cases hq; exact h1 a ha⟩
  | some q, r :: l => by
    simp only [chk, Bool.and_eq_true, chk_iff (some r.1) l, RowsSorted, List.pairwise_cons]
    constructor
    · rintro ⟨h1, h0, h2, h3, h4⟩
      refine ⟨⟨fun a ha => h4 _ rfl a ha, h2⟩, fun a ha => by rcases List.mem_cons.1 ha with rfl | ha; exact h1; exact h3 a ha, fun q' hq a ha => ?_⟩
      cases hq
      rcases List.mem_cons.1 ha with rfl | ha
      · exact h0
      · exact tlt_trans h0 (h4 _ rfl a ha)
    · rintro ⟨⟨h1, h2⟩, h3, h4⟩
      exact ⟨h3 r (by simp), h4 q rfl r (by simp), h2, fun a ha => h3 a (List.mem_cons_of_mem _ ha), fun q' hq a ha => by cases hq; exact h1 a ha⟩

theorem rowsOk_iff {l : List Row} : rowsOk l = true ↔ RowsSorted l ∧ (∀ r ∈ l, rowOk r = true) ∧ l.length ≤ 60 := by
  unfold rowsOk
  simp only [Bool.and_eq_true, chk_iff, decide_eq_true_eq]
  constructor
  · rintro ⟨⟨h1, h2, _⟩, h3⟩
    exact ⟨h1, h2, by omega⟩
  · rintro ⟨h1, h2, h3⟩
    exact ⟨⟨h1, h2, fun q hq => by cases hq⟩, by omega⟩

/-! ### Listings merged -/
def mrgs (a b : List Row) : List Row := b.foldl mrg a

theorem mrgs_len (a b : List Row) : a.length ≤ (mrgs a b).length ∧ (mrgs a b).length ≤ a.length + b.length := by
  induction b generalizing a with
  | nil => simp [mrgs]
  | cons x b ih =>
    have h1 := ih (mrg a x)
    have h2 := mrg_len a x
    show _ ≤ (mrgs (mrg a x) b).length ∧ (mrgs (mrg a x) b).length ≤ _
    simp only [List.length_cons]
    omega

theorem mem_mrgs {a b : List Row} {r : Row} (h : r ∈ mrgs a b) : r ∈ a ∨ r ∈ b := by
  induction b generalizing a with
  | nil => exact .inl h
  | cons x b ih =>
    rcases ih (a := mrg a x) h with h | h
    · rcases mem_mrg h with rfl | h
      · exact .inr (by simp)
      · exact .inl h
    · exact .inr (List.mem_cons_of_mem _ h)

theorem mrgs_sorted {a b : List Row} (h : RowsSorted a) : RowsSorted (mrgs a b) := by
  induction b generalizing a with
  | nil => exact h
  | cons x b ih => exact ih (mrg_sorted h)

theorem implMerges_l3 (b : List Row) (hb : Few b) : ∀ (n i : Nat) (a : List Row), b.length - i = n → i ≤ b.length → a.length + (b.length - i) ≤ 1000000000000 →
    Tot (fun k => impl_MergeRows_l3 k a b (b.length : Int) (i : Int)) (fun r => r = mrgs a (b.drop i)) := by
  unfold Few at hb
  intro n
  induction n with
  | zero =>
    intro i a hn hi hf
    refine Tot.succ ?_
    simp only [impl_MergeRows_l3]
    refine Tot.ndec (by omega) (Tot.pure ?_)
    rw [List.drop_of_length_le (by omega)]
    rfl
  | succ n ih =>
    intro i a hn hi hf
    have hlt : i < b.length := by omega
    refine Tot.succ ?_
    simp only [impl_MergeRows_l3]
    refine Tot.dec (by omega) (Tot.dec (by omega) (Tot.dec (by omega) ?_))
    rw [show Int.toNat (i : Int) = i from Int.toNat_natCast i, w64 (n := (i : Int) + 1) (by omega) (by omega), drop_cons (d := row0) hlt]
    refine Tot.bind (implMerge a (b.getD i row0) (by unfold Few; omega)) ?_
    rintro m rfl
    have := mrg_len a (b.getD i row0)
    exact ih (i + 1) (mrg a (b.getD i row0)) (by omega) (by omega) (by omega)

theorem implMerges (a b : List Row) (hf : a.length + b.length ≤ 1000000000000) : Tot (fun k => impl_MergeRows k a b) (fun r => r = mrgs a b) := by
  unfold impl_MergeRows
  refine Tot.bind (Tot.of (Q := fun r => r = a) (implCopy a (by unfold Few; omega)) rfl) ?_
  rintro r rfl
  refine Tot.bind (implMerges_l3 b (by unfold Few; omega) _ 0 r rfl (Nat.zero_le _) (by omega)) ?_
  rintro y rfl
  rw [List.drop_zero]
  exact Tot.pure rfl

/-! ### A listing as a map -/
def look (l : List Row) (s : ByteArray) : Option Row := l.find? (fun r => teq r.1 s)

def mx (a b : Row) : Row := bif rless a b then b else a

theorem rless_iff (a b : Row) : rless a b = true ↔ a.2.1.1 < b.2.1.1 ∨ (a.2.1.1 = b.2.1.1 ∧ (a.2.1.2.1 < b.2.1.2.1 ∨ (a.2.1.2.1 = b.2.1.2.1 ∧ (a.2.1.2.2 < b.2.1.2.2 ∨ (a.2.1.2.2 = b.2.1.2.2 ∧ ((a.2.2.1 = false ∧ b.2.2.1 = true) ∨ (a.2.2.1 = b.2.2.1 ∧ a.2.2.2 < b.2.2.2))))))) := by
  unfold rless
  cases hs : (!((a.2.1.1 == b.2.1.1) && ((a.2.1.2.1 == b.2.1.2.1) && (a.2.1.2.2 == b.2.1.2.2)))) with
  | true =>
    rw [cond_true, sle_iff]
    have hne : ¬ (a.2.1.1 = b.2.1.1 ∧ a.2.1.2.1 = b.2.1.2.1 ∧ a.2.1.2.2 = b.2.1.2.2) := by
      intro ⟨h1, h2, h3⟩
      rw [h1, h2, h3] at hs
      simp at hs
    omega
  | false =>
    rw [cond_false]
    simp only [Bool.not_eq_false', Bool.and_eq_true, beq_iff_eq] at hs
    obtain ⟨h1, h2, h3⟩ := hs
    cases ha : a.2.2.1 <;> cases hb : b.2.2.1 <;> simp [h1, h2, h3]

theorem rless_asymm {a b : Row} (h : rless a b = true) : rless b a = false := by
  cases hb : rless b a with
  | false => rfl
  | true =>
    rw [rless_iff] at h hb
    cases ha : a.2.2.1 <;> cases hb' : b.2.2.1 <;> simp only [ha, hb'] at h hb <;> simp at h hb <;> omega

theorem rless_trans {a b c : Row} (h : rless a b = true) (h' : rless b c = true) : rless a c = true := by
  rw [rless_iff] at h h' ⊢
  cases ha : a.2.2.1 <;> cases hb : b.2.2.1 <;> cases hc : c.2.2.1 <;> simp only [ha, hb, hc] at h h' ⊢ <;> simp at h h' ⊢ <;> omega

theorem rless_tri {a b : Row} (hn : a.1 = b.1) (h : rless a b = false) (h' : rless b a = false) : a = b := by
  have h1 : ¬ rless a b = true := by rw [h]; decide
  have h2 : ¬ rless b a = true := by rw [h']; decide
  rw [rless_iff] at h1 h2
  obtain ⟨n, ⟨t, s, d⟩, e, z⟩ := a
  obtain ⟨n', ⟨t', s', d'⟩, e', z'⟩ := b
  simp only at hn h1 h2
  subst hn
  have hd : e = e' ∧ t = t' ∧ s = s' ∧ d = d' ∧ z = z' := by
    cases e <;> cases e' <;> simp at h1 h2 ⊢ <;> omega
  obtain ⟨rfl, rfl, rfl, rfl, rfl⟩ := hd
  rfl

theorem mx_comm {a b : Row} (hn : a.1 = b.1) : mx a b = mx b a := by
  unfold mx
  cases h : rless a b with
  | true => rw [rless_asymm h]; rfl
  | false =>
    cases h' : rless b a with
    | true => rfl
    | false => rw [rless_tri hn h h']

theorem mx_name {a b : Row} (hn : a.1 = b.1) : (mx a b).1 = a.1 := by
  unfold mx
  cases rless a b with
  | true => exact hn.symm
  | false => rfl

theorem mx_idem (a b : Row) : mx (mx a b) b = mx a b := by
  unfold mx
  cases h : rless a b with
  | true =>
    have : rless b b = false := by
      cases hb : rless b b with
      | false => rfl
      | true => have := rless_asymm hb; rw [hb] at this; cases this
    rw [cond_true, this]
    rfl
  | false => rw [cond_false, h]; rfl

theorem mx_assoc {a b c : Row} (h1 : a.1 = b.1) (h2 : b.1 = c.1) : mx (mx a b) c = mx a (mx b c) := by
  unfold mx
  cases hab : rless a b with
  | true =>
    rw [cond_true]
    cases hbc : rless b c with
    | true => rw [cond_true, rless_trans hab hbc]; rfl
    | false => rw [cond_false, hab]; rfl
  | false =>
    rw [cond_false]
    cases hbc : rless b c with
    | true => rfl
    | false =>
      rw [cond_false, hab, cond_false]
      cases hac : rless a c with
      | false => rfl
      | true =>
        exfalso
        -- b <= a < c <= b
        cases hba : rless b a with
        | true => have := rless_trans hba hac; rw [hbc] at this; cases this
        | false => have e := rless_tri h1 hab hba; subst e; rw [hbc] at hac; cases hac

theorem look_some {l : List Row} {s : ByteArray} {r : Row} (h : look l s = some r) : r ∈ l ∧ r.1 = s := by
  unfold look at h
  exact ⟨List.mem_of_find?_eq_some h, teq_iff.1 (List.find?_some (p := fun r : Row => teq r.1 s) h)⟩

theorem look_mem {l : List Row} (hs : RowsSorted l) {r : Row} (h : r ∈ l) : look l r.1 = some r := by
  induction l with
  | nil => simp at h
  | cons a l ih =>
    unfold RowsSorted at hs
    rw [List.pairwise_cons] at hs
    unfold look
    rw [List.find?_cons]
    rcases List.mem_cons.1 h with rfl | h
    · rw [teq_iff.2 rfl]
    · have : teq a.1 r.1 = false := by
        cases ht : teq a.1 r.1 with
        | false => rfl
        | true =>
          have h1 := hs.1 r h
          rw [teq_iff.1 ht, tlt_irrefl] at h1
          cases h1
      rw [this]
      exact ih hs.2 h

theorem look_ext : ∀ {l m : List Row}, RowsSorted l → RowsSorted m → (∀ s, look l s = look m s) → l = m
  | [], [], _, _, _ => rfl
  | [], b :: m, _, hm, h => by
    have := look_mem hm (r := b) (by simp)
    rw [← h] at this
    simp [look] at this
  | a :: l, [], hl, _, h => by
    have := look_mem hl (r := a) (by simp)
    rw [h] at this
    simp [look] at this
  | a :: l, b :: m, hl, hm, h => by
    have hl' := hl
    have hm' := hm
    unfold RowsSorted at hl hm
    rw [List.pairwise_cons] at hl hm
    have ha := look_mem hl' (r := a) (by simp)
    have hb := look_mem hm' (r := b) (by simp)
    have ea : a ∈ b :: m := (look_some (by rw [← h]; exact ha)).1
    have eb : b ∈ a :: l := (look_some (by rw [h]; exact hb)).1
    have hab : a = b := by
      rcases List.mem_cons.1 ea with rfl | ea
      · rfl
      · rcases List.mem_cons.1 eb with rfl | eb
        · rfl
        · have h1 := hm.1 a ea
          have h2 := hl.1 b eb
          rw [tlt_asymm h1] at h2
          cases h2
    subst hab
    rw [look_ext (l := l) (m := m) hl.2 hm.2 (fun s => ?_)]
    have hs := h s
    unfold look at hs ⊢
    rw [List.find?_cons, List.find?_cons] at hs
    cases ht : teq a.1 s with
    | false => rw [ht] at hs; exact hs
    | true =>
      have none : ∀ (k : List Row), (∀ r ∈ k, tlt a.1 r.1 = true) → k.find? (fun r => teq r.1 s) = none := by
        intro k hk
        rw [List.find?_eq_none]
        intro r hr
        rw [teq_iff]
        intro e
        have := hk r hr
        rw [e, ← teq_iff.1 ht, tlt_irrefl] at this
        cases this
      rw [none l hl.1, none m hm.1]

theorem look_mrg {l : List Row} {x : Row} (hs : RowsSorted l) (s : ByteArray) : look (mrg l x) s = bif teq x.1 s then (match look l s with | some r => some (mx r x) | none => some x) else look l s := by
  have hsm := mrg_sorted (x := x) hs
  have hget : ∀ j (hj : j < l.length), l.getD j row0 = l[j] := fun j hj => by rw [List.getD_eq_getElem?_getD, List.getElem?_eq_getElem hj]; rfl
  cases ht : teq x.1 s with
  | true =>
    have hxs := teq_iff.1 ht
    rw [cond_true]
    unfold mrg
    split
    · rename_i j hj
      obtain ⟨_, h2, h3⟩ := findN_drop l 0 j hj
      rw [Nat.sub_zero] at h3
      have hjl : j < l.length := by omega
      have hname : (l.getD j row0).1 = x.1 := teq_iff.1 h3
      have hmem : l.getD j row0 ∈ l := getD_mem' hjl
      have hlk : look l s = some (l.getD j row0) := by rw [← hxs, ← hname]; exact look_mem hs hmem
      rw [hlk]
      show look (bif rless (l.getD j row0) x then l.set j x else l) s = some (mx (l.getD j row0) x)
      unfold mx
      cases hb : rless (l.getD j row0) x with
      | false => rw [cond_false]; exact hlk
      | true =>
        rw [cond_true]
        have : x ∈ l.set j x := List.mem_set hjl x
        have hsm' : RowsSorted (l.set j x) := by
          have := hsm
          unfold mrg at this
          rw [hj] at this
          simp only [hb, cond_true] at this
          exact this
        rw [← hxs]
        exact look_mem hsm' this
    · rename_i hj
      have hno : look l s = none := by
        cases hl : look l s with
        | none => rfl
        | some r =>
          obtain ⟨h1, h2⟩ := look_some hl
          exact (findN_none l 0 hj r h1 (h2.trans hxs.symm)).elim
      rw [hno]
      have hx : x ∈ mrg l x := by unfold mrg; rw [hj]; simp
      have := look_mem hsm hx
      unfold mrg at this
      rw [hj] at this
      rw [← hxs]
      exact this
  | false =>
    rw [cond_false]
    -- the same rows of that name
    cases hl : look l s with
    | some r =>
      obtain ⟨h1, h2⟩ := look_some hl
      have hr : r ∈ mrg l x := by
        unfold mrg
        split
        · rename_i j hj
          cases hb : rless (l.getD j row0) x with
          | false => exact h1
          | true =>
            rw [cond_true]
            obtain ⟨i, hi, e⟩ := List.getElem_of_mem h1
            obtain ⟨_, q2, q3⟩ := findN_drop l 0 j hj
            rw [Nat.sub_zero] at q3
            have hij : i ≠ j := by
              rintro rfl
              rw [hget i hi, e] at q3
              have := teq_iff.1 q3
              rw [teq_iff.2 (this.symm.trans h2)] at ht
              cases ht
            rw [List.mem_iff_getElem]
            exact ⟨i, by rw [List.length_set]; exact hi, by rw [List.getElem_set_ne (Ne.symm hij)]; exact e⟩
        · have : r ∈ l.take (cutN l x.1 l.length) ++ l.drop (cutN l x.1 l.length) := by rw [List.take_append_drop]; exact h1
          rcases List.mem_append.1 this with h | h
          · exact List.mem_append_left _ h
          · exact List.mem_append_right _ (List.mem_cons_of_mem _ h)
      rw [← h2]
      exact look_mem hsm hr
    | none =>
      cases hm : look (mrg l x) s with
      | none => rfl
      | some r =>
        exfalso
        obtain ⟨h1, h2⟩ := look_some hm
        rcases mem_mrg h1 with rfl | h1
        · rw [teq_iff.2 h2] at ht; cases ht
        · have := look_mem hs h1
          rw [h2, hl] at this
          cases this

def cmb : Option Row → Option Row → Option Row
  | some a, some b => some (mx a b)
  | some a, none => some a
  | none, y => y

theorem look_mrgs {a b : List Row} (ha : RowsSorted a) (hb : RowsSorted b) (s : ByteArray) : look (mrgs a b) s = cmb (look a s) (look b s) := by
  induction b generalizing a with
  | nil => show look a s = cmb (look a s) none; cases look a s <;> rfl
  | cons x b ih =>
    have hb' := hb
    unfold RowsSorted at hb
    rw [List.pairwise_cons] at hb
    show look (mrgs (mrg a x) b) s = _
    rw [ih (mrg_sorted ha) hb.2, look_mrg ha s]
    have e : look (x :: b) s = bif teq x.1 s then some x else look b s := by
      unfold look
      rw [List.find?_cons]
      cases teq x.1 s <;> rfl
    rw [e]
    cases ht : teq x.1 s with
    | false => rfl
    | true =>
      have hno : look b s = none := by
        cases hl : look b s with
        | none => rfl
        | some r =>
          obtain ⟨h1, h2⟩ := look_some hl
          have := hb.1 r h1
          rw [h2, ← teq_iff.1 ht, tlt_irrefl] at this
          cases this
      rw [hno]
      cases look a s <;> rfl

theorem cmb_comm {x y : Option Row} {s : ByteArray} (hx : ∀ r, x = some r → r.1 = s) (hy : ∀ r, y = some r → r.1 = s) : cmb x y = cmb y x := by
  cases x <;> cases y <;> first | rfl | skip
  rename_i a b
  show some _ = some _
  rw [mx_comm ((hx a rfl).trans (hy b rfl).symm)]

theorem cmb_assoc {x y z : Option Row} {s : ByteArray} (hx : ∀ r, x = some r → r.1 = s) (hy : ∀ r, y = some r → r.1 = s) (hz : ∀ r, z = some r → r.1 = s) : cmb (cmb x y) z = cmb x (cmb y z) := by
  cases x <;> cases y <;> cases z <;> first | rfl | skip
  rename_i a b c
  show some _ = some _
  rw [mx_assoc ((hx a rfl).trans (hy b rfl).symm) ((hy b rfl).trans (hz c rfl).symm)]

theorem look_name {l : List Row} {s : ByteArray} : ∀ r, look l s = some r → r.1 = s := fun r h => (look_some h).2

theorem mrgs_comm {a b : List Row} (ha : RowsSorted a) (hb : RowsSorted b) : mrgs a b = mrgs b a :=
  look_ext (mrgs_sorted ha) (mrgs_sorted hb) fun s => by rw [look_mrgs ha hb, look_mrgs hb ha, cmb_comm look_name look_name]

theorem mrgs_idem {a b : List Row} (ha : RowsSorted a) (hb : RowsSorted b) : mrgs (mrgs a b) b = mrgs a b :=
  look_ext (mrgs_sorted (mrgs_sorted ha)) (mrgs_sorted ha) fun s => by
    rw [look_mrgs (mrgs_sorted ha) hb, look_mrgs ha hb]
    cases look a s <;> cases look b s <;> first | rfl | skip
    · rename_i b; show some (mx b b) = some b; unfold mx; cases rless b b <;> rfl
    · rename_i a b; show some (mx (mx a b) b) = some (mx a b); rw [mx_idem]

theorem mrgs_assoc {a b c : List Row} (ha : RowsSorted a) (hb : RowsSorted b) (hc : RowsSorted c) : mrgs (mrgs a b) c = mrgs a (mrgs b c) :=
  look_ext (mrgs_sorted (mrgs_sorted ha)) (mrgs_sorted ha) fun s => by
    rw [look_mrgs (mrgs_sorted ha) hc, look_mrgs ha hb, look_mrgs ha (mrgs_sorted hb), look_mrgs hb hc, cmb_assoc look_name look_name look_name]
end Go.Proofs.Ytehkignjdbkeiaa.Vf
