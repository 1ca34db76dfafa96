/- Numbers and texts as bytes: the reference's reading, both writings; texts. -/
import Derived.Test.YtehkignjdbkeiaaYf
set_option linter.unusedVariables false
set_option linter.unusedSimpArgs false
namespace Go.Proofs.Ytehkignjdbkeiaa.Vf
open Go

theorem specNum_l3 (l : List Int) (hb : BytesOk l) (hl : l.length ≤ 1000000000000) (p : Nat) (hp : p < l.length) : ∀ (f i acc : Nat), f + i = 5 → acc < 128 ^ i →
    Tot (fun k => spec_GetNum_l3 k l (p : Int) (acc : Int) (i : Int)) (fun r => numEnd r = decR p (decF f i acc (l.drop (p + i)))) := by
  intro f
  induction f with
  | zero =>
    intro i acc hi ha
    refine Tot.succ ?_
    simp only [spec_GetNum_l3]
    exact Tot.ndec (by omega) (Tot.pure rfl)
  | succ f ih =>
    intro i acc hi ha
    have hi5 : i < 5 := by omega
    refine Tot.succ ?_
    simp only [spec_GetNum_l3]
    refine Tot.dec (by omega) (Tot.dec (by omega) (Tot.dec (by omega) ?_))
    rw [w64 (n := (p : Int) + (i : Int)) (by omega) (by omega), show Int.toNat ((p : Int) + (i : Int)) = p + i by omega]
    refine Tot.dite (fun h => ?_) (fun h => ?_)
    · have hlt : p + i < l.length := by omega
      refine Tot.dec (by omega) (Tot.dec (by omega) ?_)
      have hx := hb (l.getD (p + i) 0) (getD_mem' hlt)
      rw [drop_getD hlt, pow7u i hi5]
      have he : decF (f + 1) i acc (l.getD (p + i) 0 :: l.drop (p + i + 1)) = if 128 ≤ l.getD (p + i) 0 then decF f (i + 1) (acc + (l.getD (p + i) 0).toNat % 128 * 128 ^ i) (l.drop (p + i + 1)) else if (l.getD (p + i) 0 = 0 ∧ 0 < i) ∨ 1000000000 < acc + (l.getD (p + i) 0).toNat % 128 * 128 ^ i then none else some (acc + (l.getD (p + i) 0).toNat % 128 * 128 ^ i, i + 1) := rfl
      rw [he]
      generalize l.getD (p + i) 0 = x at hx ⊢
      obtain ⟨v, rfl⟩ : ∃ v : Nat, x = (v : Int) := ⟨x.toNat, by omega⟩
      rw [Int.toNat_natCast]
      have hp1 := pow128_le i (by omega)
      have hmul : v % 128 * 128 ^ i ≤ 127 * 34359738368 := Nat.mul_le_mul (by omega) hp1
      rw [w64 (n := (v : Int)) (by omega) (by omega), and127 v (by omega)]
      have e1 : ((v % 128 : Nat) : Int) * ((128 ^ i : Nat) : Int) = ((v % 128 * 128 ^ i : Nat) : Int) := by push_cast; rfl
      rw [e1, w64 (n := ((v % 128 * 128 ^ i : Nat) : Int)) (by omega) (by omega), or_shift acc (v % 128) i ha (by omega) hi5, w64 (n := (i : Int) + 1) (by omega) (by omega), w64 (n := (p : Int) + (i : Int) + 1) (by omega) (by omega)]
      refine Tot.ndec (sh7 i hi5).2 ?_
      refine Tot.dite (fun h128 => ?_) (fun h128 => ?_)
      · rw [if_pos (by omega)]
        have h1 : acc + v % 128 * 128 ^ i < 128 ^ (i + 1) := by
          have h2 : v % 128 ≤ 127 := by omega
          have h3 := Nat.mul_le_mul_right (128 ^ i) h2
          rw [Nat.pow_succ]
          omega
        have := ih (i + 1) (acc + v % 128 * 128 ^ i) (by omega) h1
        rw [show p + (i + 1) = p + i + 1 by omega] at this
        exact this
      · rw [if_neg (by omega)]
        have big : Tot (fun _ : Nat => cond (decide (((acc + v % 128 * 128 ^ i : Nat) : Int) > 1000000000)) (some (Sum.inl ((0 : Int), (0 : Int), false))) (some (Sum.inl (((acc + v % 128 * 128 ^ i : Nat) : Int), (p : Int) + (i : Int) + 1, true))) : Nat → Option (Sum (Int × Int × Bool) Unit))
            (fun r => numEnd r = if 1000000000 < acc + v % 128 * 128 ^ i then (0, 0, false) else (((acc + v % 128 * 128 ^ i : Nat) : Int), ((p + (i + 1) : Nat) : Int), true)) := by
          refine Tot.dite (fun hbig => ?_) (fun hbig => ?_)
          · rw [if_pos (by omega)]; exact Tot.pure rfl
          · rw [if_neg (by omega)]
            refine Tot.pure ?_
            show (_, _, _) = _
            rw [show (p : Int) + (i : Int) + 1 = ((p + (i + 1) : Nat) : Int) by omega]
        have goal : ∀ c : Prop, [Decidable c] → (if c ∨ 1000000000 < acc + v % 128 * 128 ^ i then none else some (acc + v % 128 * 128 ^ i, i + 1)) = if c then none else if 1000000000 < acc + v % 128 * 128 ^ i then (none : Option (Nat × Nat)) else some (acc + v % 128 * 128 ^ i, i + 1) := by
          intro c _
          by_cases h1 : c <;> by_cases h2 : 1000000000 < acc + v % 128 * 128 ^ i <;> simp [h1, h2]
        rw [goal]
        have fin : (decR p (if 1000000000 < acc + v % 128 * 128 ^ i then (none : Option (Nat × Nat)) else some (acc + v % 128 * 128 ^ i, i + 1))) = if 1000000000 < acc + v % 128 * 128 ^ i then (0, 0, false) else (((acc + v % 128 * 128 ^ i : Nat) : Int), ((p + (i + 1) : Nat) : Int), true) := by
          split <;> rfl
        refine Tot.dite (fun hi0 => ?_) (fun hi0 => ?_)
        · refine Tot.ite (fun h0 => ?_) (fun h0 => ?_)
          · have hv : v = 0 := by
              have := beq_iff_eq.1 h0
              omega
            rw [if_pos ⟨by omega, by omega⟩]; exact Tot.pure rfl
          · have hv : v ≠ 0 := by
              intro e
              subst e
              simp at h0
            rw [if_neg (by omega), fin]; exact big
        · rw [if_neg (by omega), fin]; exact big
    · refine Tot.pure ?_
      rw [List.drop_of_length_le (by omega)]
      rfl

theorem specNum (l : List Int) (hb : BytesOk l) (hl : l.length ≤ 1000000000000) (p : Int) : Tot (fun k => spec_GetNum k l p) (fun r => r = numR l p) := by
  unfold spec_GetNum numR
  by_cases h0 : p < 0
  · rw [if_pos h0]
    refine Tot.bind (Q := fun r => r = .inr ()) ?_ ?_
    · refine Tot.succ ?_
      simp only [spec_GetNum_l3]
      exact Tot.dec (by omega) (Tot.ndec (by omega) (Tot.pure rfl))
    · rintro r rfl
      exact Tot.pure rfl
  · rw [if_neg h0]
    by_cases h1 : p < (l.length : Int)
    · obtain ⟨n, rfl⟩ : ∃ n : Nat, p = (n : Int) := ⟨p.toNat, by omega⟩
      rw [Int.toNat_natCast]
      refine Tot.bind (specNum_l3 l hb hl n (by omega) 5 0 0 rfl (by decide)) ?_
      intro r hr
      unfold getN
      rw [Nat.add_zero] at hr
      have hr' : numEnd r = (match (match decF 5 0 0 (l.drop n) with | some (m, c) => some (m, n + c) | none => none) with | some (m, q) => ((m : Int), (q : Int), true) | none => ((0 : Int), (0 : Int), false)) := by
        rw [hr]
        cases decF 5 0 0 (l.drop n) with
        | none => rfl
        | some mc => rfl
      refine Tot.mono (Q := fun y => y = numEnd r) ?_ (fun y hy => hy.trans hr')
      cases r with
      | inl y => exact Tot.pure rfl
      | inr z => exact Tot.pure rfl
    · have e : getN l p.toNat = none := by
        unfold getN
        rw [List.drop_of_length_le (by omega)]
        rfl
      rw [e]
      refine Tot.bind (Q := fun r => r = .inr ()) ?_ ?_
      · refine Tot.succ ?_
        simp only [spec_GetNum_l3]
        exact Tot.dec (by omega) (Tot.dec (by omega) (Tot.ndec h1 (Tot.pure rfl)))
      · rintro r rfl
        exact Tot.pure rfl

/-! ### Writing -/
def clampN (n : Int) : Nat := (max 0 (min n 1000000000)).toNat

theorem clampN_le (n : Int) : clampN n ≤ 1000000000 := by unfold clampN; omega
theorem clampN_in {n : Int} (h0 : 0 ≤ n) (h1 : n ≤ 1000000000) : (clampN n : Int) = n := by unfold clampN; omega

theorem u8_low (n : Nat) (h : n ≤ 255) : IntKind.wrap .u8 (n : Int) = (n : Int) := by
  rw [IntKind.wrap_u8]
  omega

theorem implAdd_l2 : ∀ (f n : Nat) (out : List Int), n < 128 ^ (f + 1) → f ≤ 4 → out.length + f ≤ 1000000000010 →
    Tot (fun k => impl_addNum_l2 k out (n : Int)) (fun r => ∃ m : Nat, r.2 = (m : Int) ∧ m ≤ 127 ∧ r.1 ++ [(m : Int)] = out ++ encF f n ∧ r.1.length ≤ out.length + f) := by
  intro f
  induction f with
  | zero =>
    intro n out hn hf hl
    refine Tot.succ ?_
    simp only [impl_addNum_l2]
    have : n < 128 := by simpa using hn
    exact Tot.ndec (by omega) (Tot.pure ⟨n, rfl, by omega, rfl, by simp⟩)
  | succ f ih =>
    intro n out hn hf hl
    have hp := pow128_le (f + 1 + 1 - 1) (by omega)
    refine Tot.succ ?_
    simp only [impl_addNum_l2]
    refine Tot.dite (fun h => ?_) (fun h => ?_)
    · have hn2 : n / 128 < 128 ^ (f + 1) := by rw [Nat.pow_succ] at hn; omega
      have hn3 : n < 4398046511104 := by
        have := pow128_le (f + 1) (by omega)
        rw [Nat.pow_succ] at hn
        omega
      have e1 : Int.tmod (n : Int) 128 + 128 = ((n % 128 + 128 : Nat) : Int) := by
        rw [Int.tmod_eq_emod_of_nonneg (by omega)]
        omega
      have e2 : Int.tdiv (n : Int) 128 = ((n / 128 : Nat) : Int) := by
        rw [Int.tdiv_eq_ediv_of_nonneg (by omega)]
        omega
      rw [e1, e2, w64 (n := ((n % 128 + 128 : Nat) : Int)) (by omega) (by omega), w64 (n := ((n / 128 : Nat) : Int)) (by omega) (by omega), u8_low _ (by omega)]
      refine Tot.ble (by simp only [List.length_cons, List.length_nil]; omega) ?_
      refine (ih (n / 128) (out ++ [((n % 128 + 128 : Nat) : Int)]) hn2 (by omega) (by simp only [List.length_append, List.length_cons, List.length_nil]; omega)).mono ?_
      rintro r ⟨m, h1, h2, h3, h4⟩
      refine ⟨m, h1, h2, ?_, by simp only [List.length_append, List.length_cons, List.length_nil] at h4; omega⟩
      rw [h3, List.append_assoc]
      congr 1
      conv => { rhs; unfold encF }
      rw [if_neg (by omega)]
      rfl
    · refine Tot.pure ⟨n, rfl, by omega, ?_, by show out.length ≤ out.length + (f + 1); omega⟩
      unfold encF
      rw [if_pos (by omega)]

theorem implAdd (out : List Int) (n : Int) (hl : out.length ≤ 1000000000000) : Tot (fun k => impl_addNum k out n) (fun r => r = out ++ encN (clampN n)) := by
  unfold impl_addNum
  have e : (if (0 : Int) < (if (1000000000 : Int) < n then 1000000000 else n) then (if (1000000000 : Int) < n then 1000000000 else n) else 0) = ((clampN n : Nat) : Int) := by
    unfold clampN
    split <;> split <;> omega
  simp only
  rw [e]
  have hc := clampN_le n
  refine Tot.bind (implAdd_l2 4 (clampN n) out (by omega) (by omega) (by omega)) ?_
  rintro r ⟨m, h1, h2, h3, h4⟩
  rw [h1, u8_low m (by omega)]
  refine Tot.ble (by simp only [List.length_cons, List.length_nil]; omega) (Tot.pure h3)

theorem specAdd_l6 : ∀ (f n : Nat) (out : List Int), n < 128 ^ (f + 1) → f ≤ 4 → out.length + f ≤ 1000000000010 →
    Tot (fun k => spec_PutNum_l6 k (n : Int) out) (fun r => ∃ m : Nat, r.1 = (m : Int) ∧ m ≤ 127 ∧ r.2 ++ [(m : Int)] = out ++ encF f n ∧ r.2.length ≤ out.length + f) := by
  intro f
  induction f with
  | zero =>
    intro n out hn hf hl
    refine Tot.succ ?_
    simp only [spec_PutNum_l6]
    have : n < 128 := by simpa using hn
    exact Tot.ndec (by omega) (Tot.pure ⟨n, rfl, by omega, rfl, by simp⟩)
  | succ f ih =>
    intro n out hn hf hl
    refine Tot.succ ?_
    simp only [spec_PutNum_l6]
    refine Tot.dite (fun h => ?_) (fun h => ?_)
    · have hn2 : n / 128 < 128 ^ (f + 1) := by rw [Nat.pow_succ] at hn; omega
      have hn3 : n < 4398046511104 := by
        have := pow128_le (f + 1) (by omega)
        rw [Nat.pow_succ] at hn
        omega
      have e1 : IntKind.wrap .i64 ((BitVec.ofInt (IntKind.bits .i64) ((n % 128 : Nat) : Int) ||| BitVec.ofInt (IntKind.bits .i64) 128).toNat) = ((n % 128 + 128 : Nat) : Int) := by
        have := or_shift (n % 128) 1 1 (by omega) (by omega) (by omega)
        exact this
      have e2 : Int.fdiv (n : Int) (2 ^ (min (Int.toNat 7) (IntKind.bits .i64))) = ((n / 128 : Nat) : Int) := by
        have : (2 : Int) ^ (min (Int.toNat 7) (IntKind.bits .i64)) = 128 := by decide
        rw [this, Int.fdiv_eq_ediv_of_nonneg _ (by omega)]
        omega
      rw [and127 n (by omega), e1, e2, u8_low _ (by omega)]
      refine Tot.ble (by simp only [List.length_cons, List.length_nil]; omega) ?_
      refine (ih (n / 128) (out ++ [((n % 128 + 128 : Nat) : Int)]) hn2 (by omega) (by simp only [List.length_append, List.length_cons, List.length_nil]; omega)).mono ?_
      rintro r ⟨m, h1, h2, h3, h4⟩
      refine ⟨m, h1, h2, ?_, by simp only [List.length_append, List.length_cons, List.length_nil] at h4; omega⟩
      rw [h3, List.append_assoc]
      congr 1
      conv => { rhs; unfold encF }
      rw [if_neg (by omega)]
      rfl
    · refine Tot.pure ⟨n, rfl, by omega, ?_, by show out.length ≤ out.length + (f + 1); omega⟩
      unfold encF
      rw [if_pos (by omega)]

theorem specAdd (out : List Int) (n : Int) (hl : out.length ≤ 1000000000000) : Tot (fun k => spec_PutNum k out n) (fun r => r = out ++ encN (clampN n)) := by
  have hc := clampN_le n
  have fin : Tot (fun k => (spec_PutNum_l6 k ((clampN n : Nat) : Int) (([] : List Int) ++ out)).bind fun r1 => cond (Nat.ble ((List.length r1.2 + List.length [IntKind.wrap .u8 r1.1]) * 1) 140737488355328) (some (r1.2 ++ [IntKind.wrap .u8 r1.1])) none) (fun r => r = out ++ encN (clampN n)) := by
    rw [List.nil_append]
    refine Tot.bind (specAdd_l6 4 (clampN n) out (by omega) (by omega) (by omega)) ?_
    rintro r ⟨m, h1, h2, h3, h4⟩
    rw [h1, u8_low m (by omega)]
    exact Tot.ble (by simp only [List.length_cons, List.length_nil]; omega) (Tot.pure h3)
  unfold spec_PutNum
  refine Tot.ble (by simp only [List.length_nil]; omega) ?_
  refine Tot.dite (fun h1 => ?_) (fun h1 => ?_)
  · refine Tot.ndec (by omega) ?_
    have e : ((clampN n : Nat) : Int) = 1000000000 := by unfold clampN; omega
    rw [e] at fin
    exact fin
  · refine Tot.dite (fun h2 => ?_) (fun h2 => ?_)
    · have e : ((clampN n : Nat) : Int) = 0 := by unfold clampN; omega
      rw [e] at fin
      exact fin
    · have e : ((clampN n : Nat) : Int) = n := by unfold clampN; omega
      rw [e] at fin
      exact fin

theorem encN_len (n : Nat) : (encN n).length ≤ 5 ∧ 0 < (encN n).length := encF_le 4 n

theorem encF_bytes : ∀ (f n : Nat), n < 128 ^ (f + 1) → BytesOk (encF f n)
  | 0, n, hn => by
    intro x hx
    simp only [encF, List.mem_singleton] at hx
    have : n < 128 := by simpa using hn
    omega
  | f + 1, n, hn => by
    unfold encF
    split
    · intro x hx
      simp only [List.mem_singleton] at hx
      omega
    · intro x hx
      rcases List.mem_cons.1 hx with rfl | hx
      · omega
      · exact encF_bytes f (n / 128) (by rw [Nat.pow_succ] at hn; omega) x hx

theorem encN_bytes (n : Nat) (hn : n ≤ 1000000000) : BytesOk (encN n) := encF_bytes 4 n (by omega)

/-! ### Texts -/
theorem bytesOf_ok (s : ByteArray) : BytesOk (bytesOf s) := by
  intro x hx
  unfold bytesOf at hx
  obtain ⟨b, _, rfl⟩ := List.mem_map.1 hx
  have := b.toNat_lt
  omega

theorem bytesOf_len (s : ByteArray) : (bytesOf s).length = s.size := by
  unfold bytesOf
  rw [List.length_map]
  exact Array.length_toList

theorem strOf_bytesOf (s : ByteArray) : strOf (bytesOf s) = s := by
  unfold strOf bytesOf
  rw [List.map_map]
  have : (fun n : Int => UInt8.ofNat n.toNat) ∘ (fun b : UInt8 => (b.toNat : Int)) = id := by
    funext b
    show UInt8.ofNat ((b.toNat : Int)).toNat = b
    rw [Int.toNat_natCast]
    exact UInt8.ofNat_toNat
  rw [this, List.map_id]

theorem bytesOf_strOf {l : List Int} (h : BytesOk l) : bytesOf (strOf l) = l := by
  unfold strOf bytesOf
  show List.map _ (List.map _ l) = l
  rw [List.map_map]
  have : ∀ x ∈ l, ((fun b : UInt8 => (b.toNat : Int)) ∘ (fun n : Int => UInt8.ofNat n.toNat)) x = x := by
    intro x hx
    have hb := h x hx
    show ((UInt8.ofNat x.toNat).toNat : Int) = x
    rw [UInt8.toNat_ofNat']
    omega
  exact (List.map_congr_left this).trans (List.map_id' l)

theorem strOf_size (l : List Int) : (strOf l).size = l.length := by
  unfold strOf
  show (List.map _ l).toArray.size = l.length
  simp

def txt (s : ByteArray) : List Int := encN (clampN (s.size : Int)) ++ bytesOf s

theorem implText (out : List Int) (s : ByteArray) (hl : out.length ≤ 1000000000000) (hs : s.size ≤ 1000000000000) : Tot (fun k => impl_addText k out s) (fun r => r = out ++ txt s) := by
  unfold impl_addText txt
  refine Tot.bind (implAdd out _ hl) ?_
  rintro r rfl
  have := (encN_len (clampN (s.size : Int))).1
  refine Tot.ble (by simp only [List.length_append]; omega) (Tot.pure ?_)
  rw [List.append_assoc]

theorem specText (out : List Int) (s : ByteArray) (hl : out.length ≤ 1000000000000) (hs : s.size ≤ 1000000000000) : Tot (fun k => spec_PutText k out s) (fun r => r = out ++ txt s) := by
  unfold spec_PutText txt
  refine Tot.bind (specAdd out _ hl) ?_
  rintro r rfl
  have := (encN_len (clampN (s.size : Int))).1
  refine Tot.ble (by simp only [List.length_append]; omega) (Tot.pure ?_)
  rw [List.append_assoc]

/-- A text read at a place. -/
def getT (l : List Int) (p : Nat) : Option (ByteArray × Nat) := match getN l p with
  | some (n, q) => if q + n ≤ l.length then some (strOf ((l.drop q).take n), q + n) else none
  | none => none

def txtR (l : List Int) (p : Int) : ByteArray × Int × Bool := if p < 0 then ((⟨#[]⟩ : ByteArray), 0, false) else match getT l p.toNat with
  | some (s, q) => (s, (q : Int), true)
  | none => ((⟨#[]⟩ : ByteArray), 0, false)

theorem numR_cases (l : List Int) (hb : BytesOk l) (p : Int) : numR l p = (0, 0, false) ∨ ∃ n q, 0 ≤ p ∧ getN l p.toNat = some (n, q) ∧ numR l p = ((n : Int), (q : Int), true) ∧ n ≤ 1000000000 ∧ q ≤ l.length := by
  unfold numR
  by_cases h : p < 0
  · rw [if_pos h]; exact .inl rfl
  · rw [if_neg h]
    cases hg : getN l p.toNat with
    | none => exact .inl rfl
    | some nq =>
      obtain ⟨n, q⟩ := nq
      have := getN_ok hb hg
      exact .inr ⟨n, q, by omega, rfl, rfl, this.2.1, this.2.2.2⟩

theorem implGetT (l : List Int) (hb : BytesOk l) (hl : l.length ≤ 1000000000000) (p : Int) (hp : p ≤ 1000000000000) : Tot (fun k => impl_GetText k l p) (fun r => r = txtR l p) := by
  unfold impl_GetText
  refine Tot.bind (implNum l hb hl p hp) ?_
  rintro r rfl
  unfold txtR getT
  rcases numR_cases l hb p with h | ⟨n, q, h0, hg, h, hn, hq⟩
  · rw [h]
    refine Tot.yes rfl (Tot.pure ?_)
    unfold numR at h
    split
    · rfl
    · rename_i h0
      rw [if_neg h0] at h
      cases hg : getN l p.toNat with
      | none => rfl
      | some nq => rw [hg] at h; simp at h
  · rw [h]
    refine Tot.no rfl ?_
    rw [if_neg (by omega), hg]
    simp only
    rw [w64 (n := (l.length : Int) - (q : Int)) (by omega) (by omega), w64 (n := (q : Int) + (n : Int)) (by omega) (by omega)]
    refine Tot.dite (fun hgt => ?_) (fun hgt => ?_)
    · rw [if_neg (by omega)]
      exact Tot.pure rfl
    · rw [if_pos (by omega)]
      refine Tot.dec (by omega) (Tot.dec (by omega) (Tot.dec (by omega) (Tot.pure ?_)))
      rw [show Int.toNat ((q : Int) + (n : Int)) = q + n by omega, Int.toNat_natCast, List.drop_take, show q + n - q = n by omega]
      simp only [Prod.mk.injEq, true_and, and_true]
      push_cast
      rfl

theorem specGetT (l : List Int) (hb : BytesOk l) (hl : l.length ≤ 1000000000000) (p : Int) : Tot (fun k => spec_GetText k l p) (fun r => r = txtR l p) := by
  unfold spec_GetText
  refine Tot.bind (specNum l hb hl p) ?_
  rintro r rfl
  unfold txtR getT
  rcases numR_cases l hb p with h | ⟨n, q, h0, hg, h, hn, hq⟩
  · rw [h]
    refine Tot.yes rfl (Tot.pure ?_)
    unfold numR at h
    split
    · rfl
    · rename_i h0
      rw [if_neg h0] at h
      cases hg : getN l p.toNat with
      | none => rfl
      | some nq => rw [hg] at h; simp at h
  · rw [h]
    refine Tot.no rfl ?_
    rw [if_neg (by omega), hg]
    simp only
    rw [w64 (n := (l.length : Int) - (q : Int)) (by omega) (by omega), w64 (n := (q : Int) + (n : Int)) (by omega) (by omega)]
    refine Tot.dite (fun hgt => ?_) (fun hgt => ?_)
    · rw [if_neg (by omega)]
      exact Tot.pure rfl
    · rw [if_pos (by omega)]
      refine Tot.dec (by omega) (Tot.dec (by omega) (Tot.dec (by omega) (Tot.pure ?_)))
      rw [show Int.toNat ((q : Int) + (n : Int)) = q + n by omega, Int.toNat_natCast, List.drop_take, show q + n - q = n by omega]
      simp only [Prod.mk.injEq, true_and, and_true]
      push_cast
      rfl

theorem getT_ok {l : List Int} {p q : Nat} {s : ByteArray} (hb : BytesOk l) (h : getT l p = some (s, q)) : l.drop p = txt s ++ l.drop q ∧ s.size ≤ 1000000000 ∧ p < q ∧ q ≤ l.length := by
  unfold getT at h
  split at h
  · rename_i n q0 hg
    obtain ⟨h1, h2, h3, h4⟩ := getN_ok hb hg
    split at h
    · rename_i hle
      simp only [Option.some.injEq, Prod.mk.injEq] at h
      obtain ⟨rfl, rfl⟩ := h
      have hlen : ((l.drop q0).take n).length = n := by rw [List.length_take, List.length_drop]; omega
      have hbb : BytesOk ((l.drop q0).take n) := fun x hx => hb x (List.mem_of_mem_drop (List.mem_of_mem_take hx))
      refine ⟨?_, by rw [strOf_size, hlen]; exact h2, by omega, by omega⟩
      unfold txt
      rw [strOf_size, hlen, bytesOf_strOf hbb, h1, show clampN (n : Int) = n by unfold clampN; omega, List.append_assoc]
      congr 1
      rw [← List.drop_drop, List.take_append_drop]
    · cases h
  · cases h

theorem getT_txt (pre : List Int) (s : ByteArray) (rest : List Int) (hs : s.size ≤ 1000000000) : getT (pre ++ (txt s ++ rest)) pre.length = some (s, pre.length + (txt s).length) := by
  unfold getT txt
  have hc : clampN (s.size : Int) = s.size := by unfold clampN; omega
  rw [hc, List.append_assoc, getN_enc pre s.size _ hs]
  simp only
  rw [if_pos (by simp only [List.length_append, bytesOf_len]; omega)]
  have e : (pre ++ (encN s.size ++ (bytesOf s ++ rest))).drop (pre.length + (encN s.size).length) = bytesOf s ++ rest := by
    rw [← List.append_assoc, ← List.length_append, List.drop_left]
  rw [e, List.take_left' (bytesOf_len s), strOf_bytesOf]
  simp only [List.length_append, bytesOf_len, Option.some.injEq, Prod.mk.injEq, true_and]
  omega
end Go.Proofs.Ytehkignjdbkeiaa.Vf
