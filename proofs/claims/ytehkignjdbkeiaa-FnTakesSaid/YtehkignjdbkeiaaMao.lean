import Derived.Test.YtehkignjdbkeiaaMan
import Derived.Test.YtehkignjdbkeiaaMam
import Derived.Test.YtehkignjdbkeiaaMal
section
set_option linter.unusedVariables false
set_option linter.unusedSimpArgs false
namespace Go.Proofs.Ytehkignjdbkeiaa.Vf
open Go
abbrev Nod := Int × Dsk × List Row × List Row
def qOk (l : List Row) : Bool := l.all rowOk
def nodeOk (n : Nod) : Bool := qOk n.2.2.2 && (inR n.1 0 20 && (diskOk n.2.1 && (rowsOk n.2.2.1 && decide ((n.2.2.2.length : Int) ≤ 60))))
def RF (l : List Row) : Prop := l.length ≤ 1000 ∧ AllShort l
def NIn (n : Nod) : Prop := (DIn n.2.1 ∧ DB n.2.1) ∧ RF n.2.2.1 ∧ RF n.2.2.2
def NG (n : Nod) : Prop := nodeOk n = true ∧ DB n.2.1
theorem nodeOk_iff {n : Nod} : nodeOk n = true ↔ (∀ r ∈ n.2.2.2, rowOk r = true) ∧ (0 ≤ n.1 ∧ n.1 ≤ 20) ∧ diskOk n.2.1 = true ∧ rowsOk n.2.2.1 = true ∧ n.2.2.2.length ≤ 60 := by
 unfold nodeOk qOk
 simp only [Bool.and_eq_true, List.all_eq_true, inR_iff, decide_eq_true_iff]
 constructor
 ·rintro ⟨h1, h2, h3, h4, h5⟩; exact ⟨h1, h2, h3, h4, by omega⟩
 ·rintro ⟨h1, h2, h3, h4, h5⟩; exact ⟨h1, h2, h3, h4, by omega⟩
theorem rows_rf {l : List Row} (h : rowsOk l = true) : RF l := by
 obtain ⟨_, h2, h3⟩ := rowsOk_iff.1 h
 exact ⟨by omega, fun r hr => name_short (rowOk_name (h2 r hr))⟩
theorem ng_in {n : Nod} (h : NG n) : NIn n := by
 obtain ⟨h1, _, h3, h4, h5⟩ := nodeOk_iff.1 h.1
 exact ⟨⟨din_ok h3, h.2⟩, rows_rf h4, by omega, fun r hr => name_short (rowOk_name (h1 r hr))⟩
theorem NG.g {n : Nod} (h : NG n) : DG n.2.1 := ⟨(nodeOk_iff.1 h.1).2.2.1, h.2⟩
theorem implNode (n : Nod) (hn : NIn n) : Tot (fun k => impl_NodeOk k n) (fun r => r = nodeOk n) := by
 obtain ⟨i, ⟨a, b⟩, ro, q⟩ := n
 obtain ⟨⟨hd, _⟩, hr, hq⟩ := hn
 dsimp only at hd hr hq
 unfold impl_NodeOk
 have hl := hq.1
 refine Tot.bind (Q := fun r => r = bif qOk q then .inr (i, a, b, ro, q) else .inl false) ?_ ?_
 ·refine Tot.up (L := fun k i' (_ : Unit) => impl_NodeOk_l2 k q (q.length : Int) i' i a b ro q) (Q := fun r => r = bif qOk q then .inr (i, a, b, ro, q) else .inl false) q.length (fun j _ => (q.drop j).all rowOk = q.all rowOk) ?_ ?_ 0 () (Nat.zero_le _) (by rw [List.drop_zero])
  ·intro _ hj
   rw [List.drop_length] at hj
   simp only [impl_NodeOk_l2]
   exact Tot.ndec (by omega) (Tot.pure (by unfold qOk; rw [← hj]; rfl))
  ·intro j _ hj hi next
   simp only [impl_NodeOk_l2]
   rw [drop_cons (d := row0) hj, List.all_cons] at hi
   refine Tot.dec (by omega) (Tot.dec (by omega) (Tot.dec (by omega) ?_))
   rw [Int.toNat_natCast, w64 (n := (j : Int) + 1) (by omega) (by omega)]
   refine Tot.bind (implRow (q.getD j row0) (hq.2 _ (getD_mem' hj))) ?_
   rintro r rfl
   cases hc : rowOk (q.getD j row0) with
   | false => exact Tot.yes rfl (Tot.pure (by unfold qOk; rw [← hi, hc]; rfl))
   | true => exact Tot.no rfl (next () (by rw [hc, Bool.true_and] at hi; exact hi))
 ·rintro r rfl
  unfold nodeOk
  dsimp only
  cases qOk q with
  | false => exact Tot.pure rfl
  | true =>
   simp only [cond_true, Sum.elim_inr, Bool.true_and]
   refine Tot.bind (Tot.of (Q := fun r => r = inR i 0 20) (implIn _ _ _) rfl) ?_
   rintro r rfl
   cases inR i 0 20 with
   | false => exact Tot.no rfl (Tot.pure rfl)
   | true =>
    refine Tot.yes rfl (Tot.bind (implDisk (a, b) hd.1.1 hd.1.2) ?_)
    rintro r rfl
    cases diskOk (a, b) with
    | false => exact Tot.no rfl (Tot.pure rfl)
    | true =>
     refine Tot.yes rfl (Tot.bind (implRows ro (by have := hr.1; unfold Few; omega) hr.2) ?_)
     rintro r rfl
     cases rowsOk ro with
     | false => exact Tot.no rfl (Tot.pure rfl)
     | true => exact Tot.yes rfl (Tot.pure rfl)
theorem specNode (n : Nod) (hn : NIn n) : Tot (fun k => spec_NodeOk k n) (fun r => r = nodeOk n) := by
 obtain ⟨i, ⟨a, b⟩, ro, q⟩ := n
 obtain ⟨⟨hd, _⟩, hr, hq⟩ := hn
 dsimp only at hd hr hq
 unfold spec_NodeOk
 have hl := hq.1
 refine Tot.bind (Q := fun r => r = bif qOk q then .inr (i, a, b, ro, q) else .inl false) ?_ ?_
 ·refine Tot.up (L := fun k i' (_ : Unit) => spec_NodeOk_l2 k i' i a b ro q) (Q := fun r => r = bif qOk q then .inr (i, a, b, ro, q) else .inl false) q.length (fun j _ => (q.drop j).all rowOk = q.all rowOk) ?_ ?_ 0 () (Nat.zero_le _) (by rw [List.drop_zero])
  ·intro _ hj
   rw [List.drop_length] at hj
   simp only [spec_NodeOk_l2]
   exact Tot.ndec (by omega) (Tot.pure (by unfold qOk; rw [← hj]; rfl))
  ·intro j _ hj hi next
   simp only [spec_NodeOk_l2]
   rw [drop_cons (d := row0) hj, List.all_cons] at hi
   refine Tot.dec (by omega) (Tot.dec (by omega) (Tot.dec (by omega) ?_))
   rw [Int.toNat_natCast, w64 (n := (j : Int) + 1) (by omega) (by omega)]
   refine Tot.bind (specRow (q.getD j row0) (hq.2 _ (getD_mem' hj))) ?_
   rintro r rfl
   cases hc : rowOk (q.getD j row0) with
   | false => exact Tot.yes rfl (Tot.pure (by unfold qOk; rw [← hi, hc]; rfl))
   | true => exact Tot.no rfl (next () (by rw [hc, Bool.true_and] at hi; exact hi))
 ·rintro r rfl
  unfold nodeOk
  dsimp only
  cases qOk q with
  | false => exact Tot.pure rfl
  | true =>
   simp only [cond_true, Sum.elim_inr, Bool.true_and]
   refine Tot.bind (Tot.of (Q := fun r => r = inR i 0 20) (specIn _ _ _) rfl) ?_
   rintro r rfl
   cases inR i 0 20 with
   | false => exact Tot.no rfl (Tot.pure rfl)
   | true =>
    refine Tot.yes rfl (Tot.bind (specDisk (a, b) hd.1.1 hd.1.2) ?_)
    rintro r rfl
    cases diskOk (a, b) with
    | false => exact Tot.no rfl (Tot.pure rfl)
    | true =>
     refine Tot.yes rfl (Tot.bind (specRows ro (by have := hr.1; unfold Few; omega) hr.2) ?_)
     rintro r rfl
     cases rowsOk ro with
     | false => exact Tot.no rfl (Tot.pure rfl)
     | true => exact Tot.yes rfl (Tot.pure rfl)
theorem implCopyNode (n : Nod) (hn : NIn n) : Tot (fun k => impl_copyNode k n) (fun r => r = n) := by
 unfold impl_copyNode
 have h1 := hn.2.1.1
 have h2 := hn.2.2.1
 refine Tot.bind (implCopyDisk n.2.1 hn.1.1.1.1) ?_
 rintro r rfl
 refine Tot.bind (Tot.of (Q := fun r => r = n.2.2.1) (implCopy _ (by unfold Few; omega)) rfl) ?_
 rintro r rfl
 refine Tot.bind (Tot.of (Q := fun r => r = n.2.2.2) (implCopy _ (by unfold Few; omega)) rfl) ?_
 rintro r rfl
 exact Tot.pure rfl
theorem specCopyNode (n : Nod) (hn : NIn n) : Tot (fun k => spec_l12Copy k n) (fun r => r = n) := by
 unfold spec_l12Copy
 have h1 := hn.2.1.1
 have h2 := hn.2.2.1
 refine Tot.bind (specCopy n.2.1 hn.1.1.1.1) ?_
 rintro r rfl
 refine Tot.ble (by simp only [List.length_nil]; omega) (Tot.ble (by simp only [List.length_nil]; omega) (Tot.pure ?_))
 rw [List.nil_append, List.nil_append]
theorem specMerges (a b : List Row) (hf : a.length + b.length ≤ 10000000000) : Tot (fun k => spec_MergeRows k a b) (fun r => r = mrgs a b) := by
 unfold spec_MergeRows
 refine Tot.ble (by simp only [List.length_nil]; omega) ?_
 rw [List.nil_append]
 refine Tot.bind (Q := fun r => r = mrgs a b) ?_ (by rintro r rfl; exact Tot.pure rfl)
 refine Tot.up (L := fun k i s => spec_MergeRows_l3 k b s i) (Q := fun r => r = mrgs a b) b.length (fun i s => mrgs s (b.drop i) = mrgs a b ∧ s.length ≤ a.length + i) ?_ ?_ 0 a (Nat.zero_le _) ⟨by rw [List.drop_zero], Nat.le_add_right _ _⟩
 ·rintro s ⟨hs, _⟩
  rw [List.drop_length] at hs
  simp only [spec_MergeRows_l3]
  exact Tot.ndec (by omega) (Tot.pure hs)
 ·rintro i s hi ⟨hs, hl⟩ next
  simp only [spec_MergeRows_l3]
  refine Tot.dec (by omega) (Tot.dec (by omega) (Tot.dec (by omega) ?_))
  rw [Int.toNat_natCast, w64 (n := (i : Int) + 1) (by omega) (by omega)]
  rw [drop_cons (d := row0) hi] at hs
  refine Tot.bind (specMerge s (b.getD i row0) (by unfold Few; omega)) ?_
  rintro m rfl
  have := mrg_len s (b.getD i row0)
  exact next _ ⟨hs, by omega⟩
def takeN (n : Nod) (l : List Row) : Nod × Bool := bif nodeOk n && rowsOk l then (bif decide ((mrgs n.2.2.1 l).length > 60) then (n, false) else ((n.1, n.2.1, mrgs n.2.2.1 l, n.2.2.2), true)) else (n, false)
theorem mrgs_rowsOk {a b : List Row} (ha : rowsOk a = true) (hb : rowsOk b = true) (h : (mrgs a b).length ≤ 60) : rowsOk (mrgs a b) = true := by
 obtain ⟨a1, a2, _⟩ := rowsOk_iff.1 ha
 obtain ⟨b1, b2, _⟩ := rowsOk_iff.1 hb
 exact rowsOk_iff.2 ⟨mrgs_sorted a1, fun r hr => (mem_mrgs hr).elim (a2 r) (b2 r), h⟩
theorem takeN_g {n : Nod} {l : List Row} (hn : NG n) : NG (takeN n l).1 := by
 unfold takeN
 rw [hn.1, Bool.true_and]
 cases hl : rowsOk l with
 | false => exact hn
 | true =>
  rw [cond_true]
  cases hc : decide ((mrgs n.2.2.1 l).length > 60) with
  | true => exact hn
  | false =>
   obtain ⟨h1, h2, h3, h4, h5⟩ := nodeOk_iff.1 hn.1
   exact ⟨nodeOk_iff.2 ⟨h1, h2, h3, mrgs_rowsOk h4 hl (by have := of_decide_eq_false hc; omega), h5⟩, hn.2⟩
theorem implTake (n : Nod) (l : List Row) (hn : NIn n) (hl : RF l) : Tot (fun k => impl_NodeTake k n l) (fun r => r = takeN n l) := by
 have h1 := hn.2.1.1
 have h2 := hl.1
 unfold impl_NodeTake takeN
 refine Tot.bind (implCopyNode n hn) ?_
 rintro n rfl
 refine Tot.bind (implNode n hn) ?_
 rintro r rfl
 cases nodeOk n with
 | false => exact Tot.yes rfl (Tot.pure rfl)
 | true =>
  refine Tot.no rfl (Tot.bind (implRows l (by unfold Few; omega) hl.2) ?_)
  rintro r rfl
  cases rowsOk l with
  | false => exact Tot.yes rfl (Tot.pure rfl)
  | true =>
   refine Tot.no rfl (Tot.bind (implMerges n.2.2.1 l (by omega)) ?_)
   rintro r rfl
   refine Tot.dite (fun h => ?_) (fun h => ?_)
   ·rw [decide_eq_true (show (mrgs n.2.2.1 l).length > 60 by omega)]
    refine Tot.bind (implCopyNode n hn) ?_
    rintro n rfl
    exact Tot.pure rfl
   ·rw [decide_eq_false (show ¬ (mrgs n.2.2.1 l).length > 60 by omega)]
    exact Tot.pure rfl
theorem specTake12 (n : Nod) (l : List Row) (h1 : n.2.2.1.length ≤ 1000) (h2 : l.length ≤ 1000) : Tot (fun k => spec_l12Take_o k n l) (fun r => r = bif decide ((mrgs n.2.2.1 l).length > 60) then (false, n) else (true, (n.1, n.2.1, mrgs n.2.2.1 l, n.2.2.2))) := by
 unfold spec_l12Take_o
 refine Tot.bind (specMerges n.2.2.1 l (by omega)) ?_
 rintro r rfl
 refine Tot.dite (fun h => ?_) (fun h => ?_)
 ·rw [decide_eq_true (show (mrgs n.2.2.1 l).length > 60 by omega)]
  exact Tot.pure rfl
 ·rw [decide_eq_false (show ¬ (mrgs n.2.2.1 l).length > 60 by omega)]
  exact Tot.pure rfl
theorem specTake (n : Nod) (l : List Row) (hn : NIn n) (hl : RF l) : Tot (fun k => spec_NodeTake k n l) (fun r => r = takeN n l) := by
 have copy : Tot (fun k => (spec_l12Copy k n).bind fun r3 => some (r3, false)) (fun r => r = (n, false)) := by
  refine Tot.bind (specCopyNode n hn) ?_
  rintro r rfl
  exact Tot.pure rfl
 unfold spec_NodeTake takeN
 refine Tot.bind (specCopyNode n hn) ?_
 rintro n rfl
 refine Tot.bind (specNode n hn) ?_
 rintro r rfl
 cases nodeOk n with
 | false => exact Tot.yes rfl copy
 | true =>
  refine Tot.no rfl (Tot.bind (specRows l (by have := hl.1; unfold Few; omega) hl.2) ?_)
  rintro r rfl
  cases rowsOk l with
  | false => exact Tot.yes rfl copy
  | true =>
   refine Tot.no rfl (Tot.bind (specTake12 n l hn.2.1.1 hl.1) ?_)
   rintro r rfl
   cases decide ((mrgs n.2.2.1 l).length > 60) with
   | true => exact Tot.yes rfl copy
   | false => exact Tot.no rfl (Tot.pure rfl)
def rowOf (s : ByteArray) (f : Fil) : Row := (s, f.1, f.2.1, (f.2.2.length : Int))
def putR (n : Nod) (s : ByteArray) (f : Fil) (sure : Bool) : Nod × Int := bif (n.2.2.2.length : Int) == 60 then (n, 3) else
 ((n.1, (keep n.2.1 s f sure).1, n.2.2.1, bif (keep n.2.1 s f sure).2 == 0 && sure then n.2.2.2 ++ [rowOf s f] else n.2.2.2), (keep n.2.1 s f sure).2)
def putN (n : Nod) (s : ByteArray) (f : Fil) (sure : Bool) : Nod × Int := bif nodeOk n && (nameOk s && fileOk f) then putR n s f sure else (n, 2)
theorem rowOf_ok {s : ByteArray} {f : Fil} (hs : nameOk s = true) (hf : fileOk f = true) : rowOk (rowOf s f) = true := by
 obtain ⟨h1, h2, h3⟩ := fileOk_iff.1 hf
 unfold rowOk rowOf
 dsimp only
 rw [hs, h1, inR_iff.2 ⟨by omega, by omega⟩]
 cases hd : f.2.1 with
 | false => rfl
 | true => rw [h3 hd]; rfl
theorem putR_g {n : Nod} {s : ByteArray} {f : Fil} {sure : Bool} (hn : NG n) (hs : nameOk s = true) (hf : fileOk f = true) : NG (putR n s f sure).1 := by
 obtain ⟨h1, h2, h3, h4, h5⟩ := nodeOk_iff.1 hn.1
 have hk := keep_g (s := s) (f := f) (sure := sure) hn.g
 unfold putR
 cases hl : ((n.2.2.2.length : Int) == 60) with
 | true => exact hn
 | false =>
  have hl' : n.2.2.2.length ≠ 60 := by
   intro e
   rw [e] at hl
   cases hl
  refine ⟨nodeOk_iff.2 ⟨?_, h2, hk.1, h4, ?_⟩, hk.2⟩
  ·show ∀ r ∈ bif (keep n.2.1 s f sure).2 == 0 && sure then n.2.2.2 ++ [rowOf s f] else n.2.2.2, rowOk r = true
   cases (keep n.2.1 s f sure).2 == 0 && sure with
   | false => exact h1
   | true =>
    intro r hr
    rcases List.mem_append.1 hr with hr | hr
    ·exact h1 r hr
    ·rw [List.mem_singleton.1 hr]; exact rowOf_ok hs hf
  ·show (bif (keep n.2.1 s f sure).2 == 0 && sure then n.2.2.2 ++ [rowOf s f] else n.2.2.2).length ≤ 60
   cases (keep n.2.1 s f sure).2 == 0 && sure with
   | false => exact h5
   | true => rw [cond_true, List.length_append]; simp only [List.length_cons, List.length_nil]; omega
theorem putN_g {n : Nod} {s : ByteArray} {f : Fil} {sure : Bool} (hn : NG n) : NG (putN n s f sure).1 := by
 unfold putN
 cases hs : nameOk s with
 | false => rw [hn.1]; exact hn
 | true =>
  cases hf : fileOk f with
  | false => rw [hn.1]; exact hn
  | true => rw [hn.1]; exact putR_g hn hs hf
theorem specPut12 (n : Nod) (s : ByteArray) (f : Fil) (sure : Bool) (hn : NIn n) (hs : Short s) : Tot (fun k => spec_l12Put_o k n s f sure) (fun r => r = ((putR n s f sure).2, (putR n s f sure).1)) := by
 have h1 := hn.2.2.1
 unfold spec_l12Put_o putR
 cases (n.2.2.2.length : Int) == 60 with
 | true => exact Tot.yes rfl (Tot.pure rfl)
 | false =>
  refine Tot.no rfl (Tot.bind (specKeep n.2.1 s f sure hn.1.1 hn.1.2.1 hs) ?_)
  rintro r rfl
  cases (keep n.2.1 s f sure).2 == 0 with
  | false => exact Tot.no rfl (Tot.pure rfl)
  | true =>
   refine Tot.yes rfl ?_
   cases sure with
   | false => exact Tot.no rfl (Tot.pure rfl)
   | true =>
    refine Tot.yes rfl (Tot.ble (by simp only [List.length_nil]; omega) ?_)
    refine Tot.bind (Tot.of (Q := fun r => r = rowOf s f) (show spec_RowOf s f = some (rowOf s f) from rfl) rfl) ?_
    rintro r rfl
    refine Tot.ble (by simp only [List.length_append, List.length_cons, List.length_nil]; omega) (Tot.pure ?_)
    rw [List.nil_append]
    rfl
theorem specNodePut (n : Nod) (s : ByteArray) (f : Fil) (sure : Bool) (hn : NIn n) (hs : Short s) : Tot (fun k => spec_NodePut k n s f sure) (fun r => r = putN n s f sure) := by
 unfold spec_NodePut putN
 refine Tot.bind (specCopyNode n hn) ?_
 rintro n rfl
 refine Tot.bind (specNode n hn) ?_
 rintro r rfl
 cases nodeOk n with
 | false => exact Tot.yes rfl (Tot.pure rfl)
 | true =>
  refine Tot.no rfl (Tot.bind (specName s hs) ?_)
  rintro r rfl
  cases nameOk s with
  | false => exact Tot.yes rfl (Tot.pure rfl)
  | true =>
   refine Tot.no rfl (Tot.bind (Tot.of (Q := fun r => r = fileOk f) (specFile f) rfl) ?_)
   rintro r rfl
   cases fileOk f with
   | false => exact Tot.yes rfl (Tot.pure rfl)
   | true =>
    refine Tot.no rfl (Tot.bind (specPut12 n s f sure hn hs) ?_)
    rintro r rfl
    exact Tot.pure rfl
def rotN (n : Nod) (s : ByteArray) (b : Int) : Nod × Bool := bif nodeOk n && ((lkD n.2.1 s).2 == 0 && (rotR n.2.1 s b).2) then ((n.1, (rotR n.2.1 s b).1, n.2.2), true) else (n, false)
theorem rotN_g {n : Nod} {s : ByteArray} {b : Int} (hn : NG n) : NG (rotN n s b).1 := by
 obtain ⟨h1, h2, h3, h4, h5⟩ := nodeOk_iff.1 hn.1
 have hr := rotR_g (s := s) (n := b) hn.g
 unfold rotN
 cases nodeOk n && ((lkD n.2.1 s).2 == 0 && (rotR n.2.1 s b).2) with
 | false => exact hn
 | true => exact ⟨nodeOk_iff.2 ⟨h1, h2, hr.1, h4, h5⟩, hr.2⟩
theorem specNodeRot (n : Nod) (s : ByteArray) (b : Int) (hn : NIn n) (h1 : b ≤ 9223372036854775807) (h0 : -9223372036854775808 ≤ b) : Tot (fun k => spec_NodeRot k n s b) (fun r => r = rotN n s b) := by
 unfold spec_NodeRot rotN
 refine Tot.bind (specCopyNode n hn) ?_
 rintro n rfl
 refine Tot.bind (specLook hn.1.1.1.1.1 hn.1.2.1 s) ?_
 rintro r rfl
 refine Tot.bind (specNode n hn) ?_
 rintro r rfl
 cases h : nodeOk n with
 | false => exact Tot.yes rfl (Tot.pure rfl)
 | true =>
  refine Tot.no rfl ?_
  cases hl : (lkD n.2.1 s).2 == 0 with
  | false => exact Tot.yes (by unfold bne; rw [hl]; rfl) (Tot.pure rfl)
  | true =>
   refine Tot.no (by unfold bne; rw [hl]; rfl) (Tot.bind (specRot (NG.g ⟨h, hn.1.2⟩) h1 h0) ?_)
   rintro r rfl
   cases (rotR n.2.1 s b).2 with
   | false => exact Tot.yes rfl (Tot.pure rfl)
   | true => exact Tot.no rfl (Tot.pure rfl)
theorem l12Draw_l3 : ∀ (m : Nat) (i : Int) (c : Cur) (z : Nod) (n : Nod), i = m → m ≤ 6 → CurOk c → NG n →
  Tot (fun k => spec_l12Draw_l3 k i c.1 c.2.1 c.2.2 z.1 z.2.1.1 z.2.1.2 z.2.2.1 z.2.2.2 n.1 n.2.1.1 n.2.1.2 n.2.2.1 n.2.2.2) (fun r => ∃ c' n', CurOk c' ∧ NG n' ∧ r = (c'.1, c'.2.1, c'.2.2, z.1, z.2.1.1, z.2.1.2, z.2.2.1, z.2.2.2, n'.1, n'.2.1.1, n'.2.1.2, n'.2.2.1, n'.2.2.2)) := by
 intro m
 induction m with
 | zero =>
  intro i c z n hi h6 hc hn
  refine Tot.succ ?_
  simp only [spec_l12Draw_l3]
  exact Tot.ndec (by omega) (Tot.pure ⟨c, n, hc, hn, rfl⟩)
 | succ m ih =>
  intro i c z n hi h6 hc hn
  refine Tot.succ ?_
  simp only [spec_l12Draw_l3]
  refine Tot.dec (by omega) ?_
  rw [w64 (n := i - 1) (by omega) (by omega)]
  obtain ⟨s, c1, e1, hs, k1⟩ := l3Name_ok c hc
  refine Tot.bind (Tot.of (Q := fun r => r = (s, c1)) e1 rfl) ?_
  rintro r rfl
  refine Tot.bind (l8Draw_tot c1 k1) (fun f hf => ?_)
  obtain ⟨b, c2, e2, k2⟩ := l1Once_ok f.2 hf.2 3 (by decide)
  refine Tot.bind (Tot.of (Q := fun r => r = (b, c2)) e2 rfl) ?_
  rintro r rfl
  refine Tot.bind (specNodePut n s f.1 (!b) (ng_in hn) (drawn_short s hs).1) ?_
  rintro q rfl
  exact ih (i - 1) c2 z _ (by omega) (by omega) k2 (putN_g hn)
def nod0 : Nod := ((0 : Int), (([] : List Nmd), ([] : List Nmd)), ([] : List Row), ([] : List Row))
theorem specNodeNew (i : Int) : spec_NodeNew i = some (bif inR i 0 20 then (i, ([], []), [], []) else nod0) := by
 unfold spec_NodeNew
 rw [specIn]
 simp only [Option.bind_some]
 cases inR i 0 20 <;> rfl
theorem rowsIn_ok {l : List Row} (h : RowsIn l) (hl : l.length ≤ 60) : rowsOk l = true := rowsOk_iff.2 ⟨h.1, fun r hr => rowIn_ok (h.2 r hr), hl⟩
theorem l12Draw_g (c : Cur) (hc : CurOk c) : Tot (fun k => spec_l12Draw k c) (fun r => NG r.1 ∧ CurOk r.2) := by
 unfold spec_l12Draw
 obtain ⟨x, c1, e1, x0, x1, _, k1⟩ := l1Below_ok c hc 6 (by decide)
 have x1 := x1 (by decide)
 refine Tot.bind (Tot.of (Q := fun r => r = (x, c1)) e1 rfl) ?_
 rintro r rfl
 refine Tot.bind (Tot.of (Q := fun r => r = (x, ([], []), [], [])) (by rw [specNodeNew, inR_iff.2 ⟨by dsimp only; omega, by dsimp only; omega⟩]; rfl) rfl) ?_
 rintro r rfl
 obtain ⟨y, c2, e2, y0, y1, _, k2⟩ := l1Below_ok c1 k1 6 (by decide)
 have y1 := y1 (by decide)
 refine Tot.bind (Tot.of (Q := fun r => r = (y, c2)) e2 rfl) ?_
 rintro r rfl
 have hn0 : NG (x, (([] : List Nmd), ([] : List Nmd)), ([] : List Row), ([] : List Row)) := ⟨nodeOk_iff.2 ⟨(by simp), ⟨by dsimp only; omega, by dsimp only; omega⟩, (show diskOk ([], []) = true by decide), (show rowsOk [] = true by decide), (by simp)⟩, fun x hx => (by cases hx), fun x hx => (by cases hx)⟩
 refine Tot.bind (l12Draw_l3 y.toNat y c2 nod0 _ (by omega) (by omega) k2 hn0) ?_
 rintro r ⟨c3, n, k3, hn, rfl⟩
 have rot : ∀ (n : Nod) (c : Cur), NG n → CurOk c → Tot (fun k => (spec_l3Name c).bind fun r9 => (spec_l1Below r9.2 40).bind fun r10 => (spec_NodeRot k n r9.1 r10.1).bind fun r11 => some (r11.1, r10.2)) (fun r => NG r.1 ∧ CurOk r.2) := by
  intro n c hn hc
  obtain ⟨s, c1, e1, hs, k1⟩ := l3Name_ok c hc
  refine Tot.bind (Tot.of (Q := fun r => r = (s, c1)) e1 rfl) ?_
  rintro r rfl
  obtain ⟨x, c2, e2, x0, x1, _, k2⟩ := l1Below_ok c1 k1 40 (by decide)
  have x1 := x1 (by decide)
  refine Tot.bind (Tot.of (Q := fun r => r = (x, c2)) e2 rfl) ?_
  rintro r rfl
  refine Tot.bind (specNodeRot n s x (ng_in hn) (by omega) (by omega)) ?_
  rintro r rfl
  exact Tot.pure ⟨rotN_g hn, k2⟩
 obtain ⟨b, c4, e4, k4⟩ := l1Once_ok c3 k3 2 (by decide)
 refine Tot.bind (Tot.of (Q := fun r => r = (b, c4)) e4 rfl) ?_
 rintro r rfl
 refine Tot.ite (fun _ => ?_) (fun _ => ?_)
 ·refine Tot.bind (l11Draw_tot c4 k4) ?_
  rintro ⟨l, c5⟩ ⟨k5, hl, hl5⟩
  refine Tot.bind (specTake n l (ng_in hn) (rows_rf (rowsIn_ok hl (by dsimp only at hl5; omega)))) ?_
  rintro r rfl
  obtain ⟨b, c6, e6, k6⟩ := l1Once_ok c5 k5 3 (by decide)
  refine Tot.bind (Tot.of (Q := fun r => r = (b, c6)) e6 rfl) ?_
  rintro r rfl
  exact Tot.ite (fun _ => rot _ c6 (takeN_g hn) k6) (fun _ => Tot.pure ⟨takeN_g hn, k6⟩)
 ·obtain ⟨b, c6, e6, k6⟩ := l1Once_ok c4 k4 3 (by decide)
  refine Tot.bind (Tot.of (Q := fun r => r = (b, c6)) e6 rfl) ?_
  rintro r rfl
  exact Tot.ite (fun _ => rot n c6 hn k6) (fun _ => Tot.pure ⟨hn, k6⟩)
theorem rf_app {l : List Row} {x : Row} (h : RF l) (hl : l.length ≤ 999) (hx : Short x.1) : RF (l ++ [x]) := by
 refine ⟨by simp only [List.length_append, List.length_cons, List.length_nil]; omega, fun y hy => ?_⟩
 rcases List.mem_append.1 hy with hy | hy
 ·exact h.2 y hy
 ·rw [List.mem_singleton.1 hy]; exact hx
theorem l12Any_l12 (z n : Nod) (hs : Short ((⟨#[97]⟩ : ByteArray))) : ∀ (m : Nat) (c : Cur) (q : List Row), 61 - q.length ≤ m → CurOk c → RF q → q.length ≤ 61 →
  Tot (fun k => spec_l12Any_l12 k c.1 c.2.1 c.2.2 z.1 z.2.1.1 z.2.1.2 z.2.2.1 z.2.2.2 n.1 n.2.1.1 n.2.1.2 n.2.2.1 q) (fun r => ∃ c' q', CurOk c' ∧ RF q' ∧ r = (z.1, z.2.1.1, z.2.1.2, z.2.2.1, z.2.2.2, n.1, n.2.1.1, n.2.1.2, n.2.2.1, q', c'.1, c'.2.1, c'.2.2)) := by
 intro m
 induction m with
 | zero =>
  intro c q hm hc hq hl
  refine Tot.succ ?_
  simp only [spec_l12Any_l12]
  obtain ⟨x, c1, e1, x0, x1, _, k1⟩ := l1Below_ok c hc 2 (by decide)
  have x1 := x1 (by decide)
  refine Tot.bind (Tot.of (Q := fun r => r = (x, c1)) e1 rfl) ?_
  rintro r rfl
  dsimp only
  rw [w64 (n := 60 + x) (by omega) (by omega)]
  exact Tot.ndec (by omega) (Tot.pure ⟨c1, q, k1, hq, rfl⟩)
 | succ m ih =>
  intro c q hm hc hq hl
  refine Tot.succ ?_
  simp only [spec_l12Any_l12]
  obtain ⟨x, c1, e1, x0, x1, _, k1⟩ := l1Below_ok c hc 2 (by decide)
  have x1 := x1 (by decide)
  refine Tot.bind (Tot.of (Q := fun r => r = (x, c1)) e1 rfl) ?_
  rintro r rfl
  dsimp only
  rw [w64 (n := 60 + x) (by omega) (by omega)]
  refine Tot.dite (fun h => Tot.ble (by simp only [List.length_cons, List.length_nil]; omega) ?_) (fun h => Tot.pure ⟨c1, q, k1, hq, rfl⟩)
  exact ih c1 _ (by simp only [List.length_append, List.length_cons, List.length_nil]; omega) k1 (rf_app hq (by omega) hs) (by simp only [List.length_append, List.length_cons, List.length_nil]; omega)
theorem l12Any_in (c : Cur) (hc : CurOk c) : Tot (fun k => spec_l12Any k c) (fun r => NIn r.1 ∧ CurOk r.2) := by
 unfold spec_l12Any
 refine Tot.bind (l12Draw_g c hc) ?_
 rintro ⟨n, c1⟩ ⟨hg, k1⟩
 have hn := ng_in hg
 have hq60 := (nodeOk_iff.1 hg.1).2.2.2.2
 obtain ⟨x, c2, e2, _, _, _, k2⟩ := l1Below_ok c1 k1 12 (by decide)
 refine Tot.bind (Tot.of (Q := fun r => r = (x, c2)) e2 rfl) ?_
 rintro r rfl
 refine Tot.ite (fun _ => ?_) (fun _ => Tot.ite (fun _ => ?_) (fun _ => Tot.ite (fun _ => ?_) (fun _ => Tot.ite (fun _ => ?_) (fun _ => Tot.ite (fun _ => ?_) (fun _ => Tot.pure ⟨hn, k2⟩)))))
 ·obtain ⟨y, c3, e3, _, k3⟩ := l1Int_ok c2 k2 [(-1), 20, 21] (by decide) (by decide)
  refine Tot.bind (Tot.of (Q := fun r => r = (y, c3)) e3 rfl) ?_
  rintro r rfl
  exact Tot.pure ⟨hn, k3⟩
 ·refine Tot.bind (l9AnyB c2 k2) (fun r hr => Tot.pure ⟨⟨hr.1, hn.2⟩, hr.2⟩)
 ·refine Tot.bind (l11Any_short c2 k2) (fun r hr => Tot.pure ⟨⟨hn.1, ⟨by have := hr.2.1; dsimp only; omega, hr.2.2⟩, hn.2.2⟩, hr.1⟩)
 ·obtain ⟨s, c3, e3, hs, k3⟩ := l3Any_ok c2 k2
  refine Tot.bind (Tot.of (Q := fun r => r = (s, c3)) e3 rfl) ?_
  rintro r rfl
  exact Tot.ble (by dsimp only at hq60 ⊢; simp only [List.length_cons, List.length_nil]; omega) (Tot.pure ⟨⟨hn.1, hn.2.1, rf_app hn.2.2 (by dsimp only at hq60 ⊢; omega) hs⟩, k3⟩)
 ·refine Tot.bind (l12Any_l12 nod0 n (by unfold Short; decide) 61 c2 n.2.2.2 (by omega) k2 hn.2.2 (by dsimp only at hq60; omega)) ?_
  rintro r ⟨c3, q, k3, hq, rfl⟩
  exact Tot.pure ⟨⟨hn.1, hn.2.1, hq⟩, k3⟩
end Go.Proofs.Ytehkignjdbkeiaa.Vf
end

section
set_option linter.unusedVariables false
set_option linter.unusedSimpArgs false
namespace Go.Proofs.Ytehkignjdbkeiaa.Pure
open Go Go.RowKit Go.Proofs.Ytehkignjdbkeiaa.Vf
theorem FnTakes : ∀ (a0 : List Int), Ty.fit ti (.sl 5 (.i .u8)) a0 → ∃ k, laws_FnTakes k a0 = some true := by
 intro a0 _
 refine Tot.law (f := fun k => laws_FnTakes k a0) ?_
 unfold laws_FnTakes laws_big
 refine Tot.bind (Tot.pure (Q := fun b => b = decide ((List.length a0 : Int) > 1048576)) rfl) ?_
 rintro b rfl
 refine Tot.dite (fun _ => Tot.pure rfl) (fun hb => ?_)
 have hdr : Tot (fun k => spec_DrawNodeTake k a0) (fun r => NIn r.1 ∧ RF r.2) := by
  unfold spec_DrawNodeTake
  refine Tot.bind (l1New_tot a0 (by omega)) (fun c hc => ?_)
  refine Tot.bind (l12Any_in c hc) (fun n hn => ?_)
  exact Tot.bind (l11Any_short n.2 hn.2) (fun l hl => Tot.pure ⟨hn.1, by have := hl.2.1; dsimp only; omega, hl.2.2⟩)
 refine Tot.bind hdr ?_
 rintro ⟨n, l⟩ ⟨hn, hl⟩
 dsimp only at hn hl
 dsimp only
 have hr := hn.2.1.1
 have hq := hn.2.2.1
 have hll := hl.1
 refine Tot.bind (implTake n l hn hl) ?_
 rintro x rfl
 refine Tot.bind (specTake n l hn hl) ?_
 rintro y rfl
 refine Tot.no (by simp) ?_
 have same : Tot (fun k => cond (false == false) ((laws_sameRows k n.2.2.1 n.2.2.1).bind fun r => some r) (some false)) (fun b => b = true) := by
  refine Tot.yes rfl (Tot.bind (sameRows_tot _ _ (by unfold Few; omega) (by unfold Few; omega)) ?_)
  rintro r rfl
  exact Tot.pure (decide_eq_true rfl)
 unfold takeN
 cases hc : nodeOk n && rowsOk l with
 | false => exact Tot.yes rfl same
 | true =>
  rw [cond_true]
  cases hm : decide ((mrgs n.2.2.1 l).length > 60) with
  | true => exact Tot.yes rfl same
  | false =>
   simp only [cond_false]
   rw [Bool.and_eq_true] at hc
   have hng : NG n := ⟨hc.1, hn.1.2⟩
   have hg := takeN_g (l := l) hng
   have e : (takeN n l).1 = (n.1, n.2.1, mrgs n.2.2.1 l, n.2.2.2) := by
    unfold takeN
    rw [hc.1, hc.2, hm]
    rfl
   rw [e] at hg
   have hml := of_decide_eq_false hm
   refine Tot.no rfl (Tot.bind (implNode _ (ng_in hg)) ?_)
   rintro r rfl
   refine Tot.yes hg.1 (Tot.bind (implMerges n.2.2.1 l (by omega)) ?_)
   rintro r rfl
   refine Tot.bind (sameRows_tot _ _ (by unfold Few; omega) (by unfold Few; omega)) ?_
   rintro r rfl
   refine Tot.yes (decide_eq_true rfl) (Tot.bind (sameRows_tot _ _ (by unfold Few; omega) (by unfold Few; omega)) ?_)
   rintro r rfl
   exact Tot.pure (decide_eq_true rfl)
end Go.Proofs.Ytehkignjdbkeiaa.Pure
end
