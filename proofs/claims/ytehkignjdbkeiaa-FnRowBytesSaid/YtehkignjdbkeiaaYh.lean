/- Listings as bytes, and back. -/
import Derived.Test.YtehkignjdbkeiaaYg
set_option linter.unusedVariables false
set_option linter.unusedSimpArgs false
namespace Go.Proofs.Ytehkignjdbkeiaa.Vf
open Go

def bitN (b : Bool) : Int := bif b then 1 else 0
theorem implBit (b : Bool) : impl_bit b = some (bitN b) := by cases b <;> rfl
theorem specBool (b : Bool) : spec_l8Bool b = some (bitN b) := by cases b <;> rfl

def encS (s : Stp) : List Int := encN (clampN s.1) ++ (encN (clampN s.2.1) ++ encN (clampN s.2.2))
def encR (r : Row) : List Int := txt r.1 ++ (encS r.2.1 ++ (encN (clampN (bitN r.2.2.1)) ++ encN (clampN r.2.2.2)))

theorem encS_len (s : Stp) : (encS s).length ≤ 15 := by
  unfold encS
  have h1 := (encN_len (clampN s.1)).1
  have h2 := (encN_len (clampN s.2.1)).1
  have h3 := (encN_len (clampN s.2.2)).1
  simp only [List.length_append]
  omega

theorem implStampB (out : List Int) (s : Stp) (b : Bool) (hl : out.length ≤ 999999999900) : Tot (fun k => impl_addStamp k out s b) (fun r => r = out ++ (encS s ++ encN (clampN (bitN b)))) := by
  have h1 := (encN_len (clampN s.1)).1
  have h2 := (encN_len (clampN s.2.1)).1
  have h3 := (encN_len (clampN s.2.2)).1
  unfold impl_addStamp encS
  refine Tot.bind (implAdd out s.1 (by omega)) ?_
  rintro r rfl
  refine Tot.bind (implAdd _ s.2.1 (by simp only [List.length_append]; omega)) ?_
  rintro r rfl
  refine Tot.bind (implAdd _ s.2.2 (by simp only [List.length_append]; omega)) ?_
  rintro r rfl
  refine Tot.bind (Tot.of (Q := fun y => y = bitN b) (implBit b) rfl) ?_
  rintro y rfl
  refine Tot.bind (implAdd _ (bitN b) (by simp only [List.length_append]; omega)) ?_
  rintro r rfl
  exact Tot.pure (by simp only [List.append_assoc])

theorem specStampB (out : List Int) (s : Stp) (hl : out.length ≤ 999999999900) : Tot (fun k => spec_l8Stamp k out s) (fun r => r = out ++ encS s) := by
  have h1 := (encN_len (clampN s.1)).1
  have h2 := (encN_len (clampN s.2.1)).1
  unfold spec_l8Stamp encS
  refine Tot.bind (specAdd out s.1 (by omega)) ?_
  rintro r rfl
  refine Tot.bind (specAdd _ s.2.1 (by simp only [List.length_append]; omega)) ?_
  rintro r rfl
  refine Tot.bind (specAdd _ s.2.2 (by simp only [List.length_append]; omega)) ?_
  rintro r rfl
  exact Tot.pure (by simp only [List.append_assoc])

def encRs (l : List Row) : List Int := l.flatMap encR
def putRows (l : List Row) : List Int := bif rowsOk l then encN (clampN (l.length : Int)) ++ encRs l else []

theorem nameOk_size {s : ByteArray} (h : nameOk s = true) : 1 ≤ s.size ∧ s.size ≤ 20 := by
  unfold nameOk at h
  rw [Bool.and_eq_true, inR_iff] at h
  omega

theorem rowOk_name {r : Row} (h : rowOk r = true) : nameOk r.1 = true := by
  unfold rowOk at h
  rw [Bool.and_eq_true] at h
  exact h.1

theorem txt_len (s : ByteArray) : (txt s).length ≤ 5 + s.size := by
  have h1 := (encN_len (clampN (s.size : Int))).1
  unfold txt
  simp only [List.length_append, bytesOf_len]
  omega

theorem encR_len {r : Row} (h : nameOk r.1 = true) : (encR r).length ≤ 50 := by
  have h1 := txt_len r.1
  have h2 := nameOk_size h
  have h3 := encS_len r.2.1
  have h4 := (encN_len (clampN (bitN r.2.2.1))).1
  have h5 := (encN_len (clampN r.2.2.2)).1
  unfold encR
  simp only [List.length_append]
  omega

theorem encRs_len : ∀ (l : List Row), (∀ r ∈ l, nameOk r.1 = true) → (encRs l).length ≤ 50 * l.length
  | [], _ => by simp [encRs]
  | r :: l, h => by
    have h1 := encR_len (h r (by simp))
    have h2 := encRs_len l (fun q hq => h q (List.mem_cons_of_mem _ hq))
    unfold encRs at h2 ⊢
    rw [List.flatMap_cons, List.length_append, List.length_cons]
    omega

theorem implPut_l5 (l : List Row) (hn : ∀ r ∈ l, nameOk r.1 = true) (hl : l.length ≤ 60) : ∀ (n i : Nat) (out : List Int), l.length - i = n → i ≤ l.length → out.length + 50 * n ≤ 10000 →
    Tot (fun k => impl_PutRows_l5 k out l (l.length : Int) (i : Int)) (fun r => r = out ++ encRs (l.drop i)) := by
  intro n
  induction n with
  | zero =>
    intro i out hd hi ho
    refine Tot.succ ?_
    simp only [impl_PutRows_l5]
    refine Tot.ndec (by omega) (Tot.pure ?_)
    rw [List.drop_of_length_le (by omega)]
    simp [encRs]
  | succ n ih =>
    intro i out hd hi ho
    have hlt : i < l.length := by omega
    refine Tot.succ ?_
    simp only [impl_PutRows_l5]
    refine Tot.dec (by omega) (Tot.dec (by omega) (Tot.dec (by omega) ?_))
    rw [show Int.toNat (i : Int) = i from Int.toNat_natCast i, w64 (n := (i : Int) + 1) (by omega) (by omega), drop_cons (d := row0) hlt]
    have hm : l.getD i row0 ∈ l := getD_mem' hlt
    have hnm := hn _ hm
    have hsz := nameOk_size hnm
    have e0 : l.getD i ((⟨#[]⟩ : ByteArray), (((0 : Int), ((0 : Int), (0 : Int))), (false, (0 : Int)))) = l.getD i row0 := rfl
    rw [e0]
    generalize l.getD i row0 = r at hnm hsz
    have t1 := txt_len r.1
    have t2 := encS_len r.2.1
    have t3 := (encN_len (clampN (bitN r.2.2.1))).1
    have t4 := encR_len hnm
    refine Tot.bind (implText out r.1 (by omega) (by omega)) ?_
    rintro a rfl
    refine Tot.bind (implStampB _ r.2.1 r.2.2.1 (by simp only [List.length_append]; omega)) ?_
    rintro a rfl
    refine Tot.bind (implAdd _ r.2.2.2 (by simp only [List.length_append]; omega)) ?_
    rintro a rfl
    have e1 : (out ++ txt r.1 ++ (encS r.2.1 ++ encN (clampN (bitN r.2.2.1))) ++ encN (clampN r.2.2.2)) = out ++ encR r := by
      unfold encR
      simp only [List.append_assoc]
    rw [e1]
    refine (ih (i + 1) (out ++ encR r) (by omega) (by omega) (by simp only [List.length_append]; omega)).mono ?_
    rintro q rfl
    unfold encRs
    rw [List.flatMap_cons, List.append_assoc]

theorem implPut (l : List Row) (hf : Few l) (hs : AllShort l) : Tot (fun k => impl_PutRows k l) (fun r => r = putRows l) := by
  unfold impl_PutRows putRows
  refine Tot.bind (implRows l hf hs) ?_
  rintro b rfl
  refine Tot.ite (fun hb => ?_) (fun hb => ?_)
  · rw [Bool.not_eq_true'] at hb
    rw [hb]
    exact Tot.pure rfl
  · rw [Bool.not_eq_false'] at hb
    obtain ⟨_, h2, h3⟩ := rowsOk_iff.1 hb
    rw [hb, cond_true]
    have hc := (encN_len (clampN (l.length : Int))).1
    refine Tot.bind (implAdd [] (l.length : Int) (by simp)) ?_
    rintro a rfl
    rw [List.nil_append]
    refine Tot.bind (implPut_l5 l (fun r hr => rowOk_name (h2 r hr)) h3 _ 0 _ rfl (Nat.zero_le _) (by omega)) ?_
    rintro a rfl
    rw [List.drop_zero]
    exact Tot.pure rfl

theorem specPut_l5 (l : List Row) (hn : ∀ r ∈ l, nameOk r.1 = true) (hl : l.length ≤ 60) : ∀ (n i : Nat) (out : List Int), l.length - i = n → i ≤ l.length → out.length + 50 * n ≤ 10000 →
    Tot (fun k => spec_PutRows_l5 k l out (i : Int)) (fun r => r = out ++ encRs (l.drop i)) := by
  intro n
  induction n with
  | zero =>
    intro i out hd hi ho
    refine Tot.succ ?_
    simp only [spec_PutRows_l5]
    refine Tot.ndec (by omega) (Tot.pure ?_)
    rw [List.drop_of_length_le (by omega)]
    simp [encRs]
  | succ n ih =>
    intro i out hd hi ho
    have hlt : i < l.length := by omega
    refine Tot.succ ?_
    simp only [spec_PutRows_l5]
    refine Tot.dec (by omega) (Tot.dec (by omega) (Tot.dec (by omega) ?_))
    rw [show Int.toNat (i : Int) = i from Int.toNat_natCast i, w64 (n := (i : Int) + 1) (by omega) (by omega), drop_cons (d := row0) hlt]
    have hm : l.getD i row0 ∈ l := getD_mem' hlt
    have hnm := hn _ hm
    have hsz := nameOk_size hnm
    have e0 : l.getD i ((⟨#[]⟩ : ByteArray), (((0 : Int), ((0 : Int), (0 : Int))), (false, (0 : Int)))) = l.getD i row0 := rfl
    rw [e0]
    generalize l.getD i row0 = r at hnm hsz
    have t1 := txt_len r.1
    have t2 := encS_len r.2.1
    have t3 := (encN_len (clampN (bitN r.2.2.1))).1
    have t4 := encR_len hnm
    refine Tot.bind (specText out r.1 (by omega) (by omega)) ?_
    rintro a rfl
    refine Tot.dec (by omega) (Tot.dec (by omega) ?_)
    refine Tot.bind (specStampB _ r.2.1 (by simp only [List.length_append]; omega)) ?_
    rintro a rfl
    refine Tot.dec (by omega) (Tot.dec (by omega) ?_)
    refine Tot.bind (Tot.of (Q := fun y => y = bitN r.2.2.1) (specBool _) rfl) ?_
    rintro y rfl
    refine Tot.bind (specAdd _ (bitN r.2.2.1) (by simp only [List.length_append]; omega)) ?_
    rintro a rfl
    refine Tot.dec (by omega) (Tot.dec (by omega) ?_)
    refine Tot.bind (specAdd _ r.2.2.2 (by simp only [List.length_append]; omega)) ?_
    rintro a rfl
    have e1 : (out ++ txt r.1 ++ encS r.2.1 ++ encN (clampN (bitN r.2.2.1)) ++ encN (clampN r.2.2.2)) = out ++ encR r := by
      unfold encR
      simp only [List.append_assoc]
    rw [e1]
    refine (ih (i + 1) (out ++ encR r) (by omega) (by omega) (by simp only [List.length_append]; omega)).mono ?_
    rintro q rfl
    unfold encRs
    rw [List.flatMap_cons, List.append_assoc]

theorem specPut (l : List Row) (hf : Few l) (hs : AllShort l) : Tot (fun k => spec_PutRows k l) (fun r => r = putRows l) := by
  unfold spec_PutRows putRows
  refine Tot.bind (specRows l hf hs) ?_
  rintro b rfl
  refine Tot.ite (fun hb => ?_) (fun hb => ?_)
  · rw [Bool.not_eq_true'] at hb
    rw [hb]
    exact Tot.pure rfl
  · rw [Bool.not_eq_false'] at hb
    obtain ⟨_, h2, h3⟩ := rowsOk_iff.1 hb
    rw [hb, cond_true]
    have hc := (encN_len (clampN (l.length : Int))).1
    refine Tot.bind (specAdd [] (l.length : Int) (by simp)) ?_
    rintro a rfl
    rw [List.nil_append]
    refine Tot.bind (specPut_l5 l (fun r hr => rowOk_name (h2 r hr)) h3 _ 0 _ rfl (Nat.zero_le _) (by omega)) ?_
    rintro a rfl
    rw [List.drop_zero]
    exact Tot.pure rfl

/-! ### Reading -/
def rowAt (l : List Int) (p : Nat) : Option (Row × Nat) :=
  (getT l p).bind fun a => (getN l a.2).bind fun b => (getN l b.2).bind fun c => (getN l c.2).bind fun d => (getN l d.2).bind fun e => bif decide (1 < e.1) then none else (getN l e.2).bind fun f =>
    some ((a.1, ((b.1 : Int), (c.1 : Int), (d.1 : Int)), (e.1 : Int) == 1, (f.1 : Int)), f.2)

def rowsAt (l : List Int) : Nat → Nat → Option (List Row × Nat)
  | 0, p => some ([], p)
  | n + 1, p => (rowAt l p).bind fun a => (rowsAt l n a.2).bind fun b => some (a.1 :: b.1, b.2)

def getRows (l : List Int) : Option (List Row) :=
  (getN l 0).bind fun a => (rowsAt l a.1 a.2).bind fun b => bif decide (b.2 = l.length) && rowsOk b.1 then some b.1 else none

theorem rowAt_ok {l : List Int} {p q : Nat} {r : Row} (hb : BytesOk l) (h : rowAt l p = some (r, q)) : l.drop p = encR r ++ l.drop q ∧ p < q ∧ q ≤ l.length ∧ r.1.size ≤ 1000000000 := by
  unfold rowAt at h
  simp only [Option.bind_eq_some_iff] at h
  obtain ⟨⟨s, p1⟩, h1, ⟨t, p2⟩, h2, ⟨c, p3⟩, h3, ⟨d, p4⟩, h4, ⟨e, p5⟩, h5, h⟩ := h
  obtain ⟨a1, a2, a3, a4⟩ := getT_ok hb h1
  obtain ⟨b1, b2, b3, b4⟩ := getN_ok hb h2
  obtain ⟨c1, c2, c3, c4⟩ := getN_ok hb h3
  obtain ⟨d1, d2, d3, d4⟩ := getN_ok hb h4
  obtain ⟨e1, e2, e3, e4⟩ := getN_ok hb h5
  cases hd : decide (1 < e) with
  | true => simp only [hd, cond_true] at h; cases h
  | false =>
    simp only [hd, cond_false, Option.bind_eq_some_iff] at h
    obtain ⟨⟨z, p6⟩, h6, h⟩ := h
    obtain ⟨f1, f2, f3, f4⟩ := getN_ok hb h6
    simp only [Option.some.injEq, Prod.mk.injEq] at h
    obtain ⟨rfl, rfl⟩ := h
    simp only at a1 a2 a3 a4 b1 b2 b3 b4 c1 c2 c3 c4 d1 d2 d3 d4 e1 e2 e3 e4
    have he : e ≤ 1 := by
      have := of_decide_eq_false hd
      omega
    have hbit : clampN (bitN ((e : Int) == 1)) = e := by
      have : e = 0 ∨ e = 1 := by omega
      rcases this with rfl | rfl <;> decide
    have k : ∀ n : Nat, n ≤ 1000000000 → clampN (n : Int) = n := fun n hn => by unfold clampN; omega
    refine ⟨?_, by omega, by omega, a2⟩
    unfold encR encS
    simp only
    rw [k t b2, k c c2, k d d2, k z f2, hbit, a1, b1, c1, d1, e1, f1]
    simp only [List.append_assoc]

theorem rowsAt_ok {l : List Int} (hb : BytesOk l) : ∀ (n p q : Nat) (rs : List Row), p ≤ l.length → rowsAt l n p = some (rs, q) → l.drop p = encRs rs ++ l.drop q ∧ p ≤ q ∧ q ≤ l.length ∧ rs.length = n ∧ n ≤ q - p
  | 0, p, q, rs, hp, h => by
    simp only [rowsAt, Option.some.injEq, Prod.mk.injEq] at h
    obtain ⟨rfl, rfl⟩ := h
    simp [encRs, hp]
  | n + 1, p, q, rs, hp, h => by
    simp only [rowsAt, Option.bind_eq_some_iff] at h
    obtain ⟨⟨r, p1⟩, h1, ⟨rs', q'⟩, h2, h⟩ := h
    simp only [Option.some.injEq, Prod.mk.injEq] at h
    obtain ⟨rfl, rfl⟩ := h
    obtain ⟨a1, a2, a3, _⟩ := rowAt_ok hb h1
    obtain ⟨b1, b2, b3, b4, b5⟩ := rowsAt_ok hb n p1 q' rs' a3 h2
    refine ⟨?_, by omega, b3, by simp [b4], by omega⟩
    unfold encRs at b1 ⊢
    rw [List.flatMap_cons, List.append_assoc, ← b1]
    exact a1

/-- What is read has these bytes. -/
theorem getRows_ok {l : List Int} {rs : List Row} (hb : BytesOk l) (h : getRows l = some rs) : putRows rs = l ∧ rowsOk rs = true := by
  unfold getRows at h
  simp only [Option.bind_eq_some_iff] at h
  obtain ⟨⟨n, p⟩, h1, ⟨rs', q⟩, h2, h⟩ := h
  obtain ⟨a1, a2, a3, a4⟩ := getN_ok hb h1
  obtain ⟨b1, b2, b3, b4, _⟩ := rowsAt_ok hb n p q rs' a4 h2
  cases hc : (decide (q = l.length) && rowsOk rs') with
  | false => simp only [hc, cond_false] at h; cases h
  | true =>
    simp only [hc, cond_true, Option.some.injEq] at h
    subst h
    rw [Bool.and_eq_true] at hc
    have hq := of_decide_eq_true hc.1
    refine ⟨?_, hc.2⟩
    unfold putRows
    rw [hc.2, cond_true, b4, show clampN (n : Int) = n by unfold clampN; omega]
    rw [List.drop_zero] at a1
    rw [a1, b1, hq, List.drop_length, List.append_nil]

theorem rowAt_enc (pre : List Int) (r : Row) (rest : List Int) (h : rowOk r = true) : rowAt (pre ++ (encR r ++ rest)) pre.length = some (r, pre.length + (encR r).length) := by
  obtain ⟨s, ⟨t, c, d⟩, e, z⟩ := r
  unfold rowOk stampOk at h
  simp only [Bool.and_eq_true, inR_iff] at h
  obtain ⟨h1, ⟨⟨t0, t1⟩, ⟨c0, c1⟩, d0, d1⟩, ⟨z0, z1⟩, hz⟩ := h
  have hs := nameOk_size h1
  have ht := clampN_in t0 t1
  have hc := clampN_in c0 (show c ≤ 1000000000 by omega)
  have hd := clampN_in d0 (show d ≤ 1000000000 by omega)
  have hzz := clampN_in z0 (show z ≤ 1000000000 by omega)
  have hbit : (((clampN (bitN e) : Nat) : Int) == 1) = e := by cases e <;> decide
  have hbit2 : ¬ (1 < clampN (bitN e)) := by cases e <;> decide
  have k : ∀ (a : List Int) (n : Nat) (b : List Int), n ≤ 1000000000 → getN (a ++ (encN n ++ b)) a.length = some (n, (a ++ encN n).length) := fun a n b hn => by rw [getN_enc a n b hn, List.length_append]
  have e0 : pre ++ (encR (s, (t, c, d), e, z) ++ rest) = pre ++ (txt s ++ (encN (clampN t) ++ (encN (clampN c) ++ (encN (clampN d) ++ (encN (clampN (bitN e)) ++ (encN (clampN z) ++ rest)))))) := by
    unfold encR encS
    simp only [List.append_assoc]
  have el : (encR (s, (t, c, d), e, z)).length = (txt s).length + (encN (clampN t)).length + (encN (clampN c)).length + (encN (clampN d)).length + (encN (clampN (bitN e))).length + (encN (clampN z)).length := by
    unfold encR encS
    simp only [List.length_append]
    omega
  have g0 := getT_txt pre s (encN (clampN t) ++ (encN (clampN c) ++ (encN (clampN d) ++ (encN (clampN (bitN e)) ++ (encN (clampN z) ++ rest))))) (by omega)
  have g1 := k (pre ++ txt s) (clampN t) (encN (clampN c) ++ (encN (clampN d) ++ (encN (clampN (bitN e)) ++ (encN (clampN z) ++ rest)))) (clampN_le t)
  have g2 := k (pre ++ txt s ++ encN (clampN t)) (clampN c) (encN (clampN d) ++ (encN (clampN (bitN e)) ++ (encN (clampN z) ++ rest))) (clampN_le c)
  have g3 := k (pre ++ txt s ++ encN (clampN t) ++ encN (clampN c)) (clampN d) (encN (clampN (bitN e)) ++ (encN (clampN z) ++ rest)) (clampN_le d)
  have g4 := k (pre ++ txt s ++ encN (clampN t) ++ encN (clampN c) ++ encN (clampN d)) (clampN (bitN e)) (encN (clampN z) ++ rest) (clampN_le _)
  have g5 := k (pre ++ txt s ++ encN (clampN t) ++ encN (clampN c) ++ encN (clampN d) ++ encN (clampN (bitN e))) (clampN z) rest (clampN_le z)
  simp only [List.append_assoc] at g1 g2 g3 g4 g5
  simp only [List.length_append] at g0 g1 g2 g3 g4 g5
  unfold rowAt
  rw [e0, el]
  simp only [Nat.add_assoc] at g1 g2 g3 g4 g5 ⊢
  simp only [g0, g1, g2, g3, g4, g5, Option.bind_some, decide_eq_false hbit2, cond_false]
  rw [ht, hc, hd, hzz, hbit]

theorem rowsAt_enc : ∀ (rs : List Row) (pre rest : List Int), (∀ r ∈ rs, rowOk r = true) → rowsAt (pre ++ (encRs rs ++ rest)) rs.length pre.length = some (rs, pre.length + (encRs rs).length)
  | [], pre, rest, _ => by simp [rowsAt, encRs]
  | r :: rs, pre, rest, h => by
    have h1 := rowAt_enc pre r (encRs rs ++ rest) (h r (by simp))
    have h2 := rowsAt_enc rs (pre ++ encR r) rest (fun q hq => h q (List.mem_cons_of_mem _ hq))
    rw [List.append_assoc, List.length_append] at h2
    have e0 : encRs (r :: rs) ++ rest = encR r ++ (encRs rs ++ rest) := by unfold encRs; rw [List.flatMap_cons, List.append_assoc]
    have e1 : (encRs (r :: rs)).length = (encR r).length + (encRs rs).length := by unfold encRs; rw [List.flatMap_cons, List.length_append]
    rw [e0, e1, List.length_cons]
    simp only [rowsAt, h1, h2, Option.bind_some, Nat.add_assoc]

theorem getRows_put {l : List Row} (h : rowsOk l = true) : getRows (putRows l) = some l := by
  obtain ⟨h1, h2, h3⟩ := rowsOk_iff.1 h
  have hc : clampN (l.length : Int) = l.length := by unfold clampN; omega
  unfold putRows getRows
  rw [h, cond_true, hc]
  have g0 := getN_enc [] l.length (encRs l) (by omega)
  rw [List.nil_append, List.length_nil, Nat.zero_add] at g0
  have g1 := rowsAt_enc l (encN l.length) [] h2
  rw [List.append_nil] at g1
  simp only [g0, g1, Option.bind_some, List.length_append, h, decide_true, Bool.and_self, cond_true]

theorem putRows_bytes (l : List Row) : BytesOk (putRows l) := by
  have app : ∀ {a b : List Int}, BytesOk a → BytesOk b → BytesOk (a ++ b) := fun ha hb x hx => (List.mem_append.1 hx).elim (ha x) (hb x)
  have en : ∀ n, BytesOk (encN (clampN n)) := fun n => encN_bytes _ (clampN_le n)
  unfold putRows
  cases rowsOk l with
  | false => intro x hx; simp at hx
  | true =>
    rw [cond_true]
    refine app (en _) ?_
    intro x hx
    unfold encRs at hx
    obtain ⟨r, _, hx⟩ := List.mem_flatMap.1 hx
    have : BytesOk (encR r) := app (app (en _) (bytesOf_ok _)) (app (app (en _) (app (en _) (en _))) (app (en _) (en _)))
    exact this x hx
end Go.Proofs.Ytehkignjdbkeiaa.Vf
