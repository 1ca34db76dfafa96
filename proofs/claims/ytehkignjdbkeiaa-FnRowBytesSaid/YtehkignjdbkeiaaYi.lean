/- Listings read back, in both programs. -/
import Derived.Test.YtehkignjdbkeiaaYh
set_option linter.unusedVariables false
set_option linter.unusedSimpArgs false
namespace Go.Proofs.Ytehkignjdbkeiaa.Vf
open Go

theorem numR_nat (l : List Int) (p : Nat) : numR l (p : Int) = match getN l p with
  | some (n, q) => ((n : Int), (q : Int), true)
  | none => (0, 0, false) := by
  unfold numR
  rw [if_neg (by omega), Int.toNat_natCast]
  cases getN l p <;> rfl

theorem txtR_nat (l : List Int) (p : Nat) : txtR l (p : Int) = match getT l p with
  | some (s, q) => (s, (q : Int), true)
  | none => ((⟨#[]⟩ : ByteArray), 0, false) := by
  unfold txtR
  rw [if_neg (by omega), Int.toNat_natCast]
  cases getT l p <;> rfl

abbrev Rd := List Int × Int × Bool

theorem rdNum (l : List Int) (hb : BytesOk l) (hl : l.length ≤ 1000000000000) (p : Nat) (hp : p ≤ l.length) (bad : Bool) :
    Tot (fun k => impl_reader_num k (l, (p : Int), bad)) (fun r => (bad = false ∧ ∃ n q : Nat, getN l p = some (n, q) ∧ q ≤ l.length ∧ r = ((n : Int), l, (q : Int), false)) ∨ ((bad = true ∨ getN l p = none) ∧ r = (0, l, (p : Int), true))) := by
  unfold impl_reader_num
  refine Tot.bind (implNum l hb hl (p : Int) (by omega)) ?_
  rintro r rfl
  refine Tot.ite (fun h => Tot.pure (.inr ⟨.inl h, rfl⟩)) (fun h => ?_)
  rw [numR_nat]
  cases hg : getN l p with
  | none => exact Tot.yes rfl (Tot.pure (.inr ⟨.inr rfl, rfl⟩))
  | some nq =>
    obtain ⟨n, q⟩ := nq
    simp only at h
    subst h
    exact Tot.no rfl (Tot.pure (.inl ⟨rfl, n, q, rfl, (getN_ok hb hg).2.2.2, rfl⟩))

theorem rdTxt (l : List Int) (hb : BytesOk l) (hl : l.length ≤ 1000000000000) (p : Nat) (hp : p ≤ l.length) :
    Tot (fun k => impl_reader_text k (l, (p : Int), false)) (fun r => (∃ (s : ByteArray) (q : Nat), getT l p = some (s, q) ∧ q ≤ l.length ∧ r = (s, l, (q : Int), false)) ∨ (getT l p = none ∧ r = ((⟨#[]⟩ : ByteArray), l, (p : Int), true))) := by
  unfold impl_reader_text
  refine Tot.bind (implGetT l hb hl (p : Int) (by omega)) ?_
  rintro r rfl
  refine Tot.no rfl ?_
  rw [txtR_nat]
  cases hg : getT l p with
  | none => exact Tot.yes rfl (Tot.pure (.inr ⟨rfl, rfl⟩))
  | some nq =>
    obtain ⟨n, q⟩ := nq
    exact Tot.no rfl (Tot.pure (.inl ⟨n, q, rfl, (getT_ok hb hg).2.2.2, rfl⟩))

/-- A stamp and a bit, from a place. -/
def stpAt (l : List Int) (p : Nat) : Option ((Stp × Bool) × Nat) :=
  (getN l p).bind fun b => (getN l b.2).bind fun c => (getN l c.2).bind fun d => (getN l d.2).bind fun e => bif decide (1 < e.1) then none else
    some ((((b.1 : Int), (c.1 : Int), (d.1 : Int)), (e.1 : Int) == 1), e.2)

theorem rowAt_eq (l : List Int) (p : Nat) : rowAt l p = (getT l p).bind fun a => (stpAt l a.2).bind fun b => (getN l b.2).bind fun f => some ((a.1, b.1.1, b.1.2, (f.1 : Int)), f.2) := by
  unfold rowAt stpAt
  cases getT l p with
  | none => rfl
  | some a =>
    simp only [Option.bind_some]
    cases getN l a.2 with
    | none => rfl
    | some b =>
      simp only [Option.bind_some]
      cases getN l b.2 with
      | none => rfl
      | some c =>
        simp only [Option.bind_some]
        cases getN l c.2 with
        | none => rfl
        | some d =>
          simp only [Option.bind_some]
          cases getN l d.2 with
          | none => rfl
          | some e =>
            simp only [Option.bind_some]
            cases decide (1 < e.1) with
            | true => rfl
            | false => rfl

theorem stpAt_le {l : List Int} (hb : BytesOk l) {p q : Nat} {x : Stp × Bool} (h : stpAt l p = some (x, q)) : q ≤ l.length := by
  unfold stpAt at h
  simp only [Option.bind_eq_some_iff] at h
  obtain ⟨⟨t, p2⟩, h2, ⟨c, p3⟩, h3, ⟨d, p4⟩, h4, ⟨e, p5⟩, h5, h⟩ := h
  cases hd : decide (1 < e) with
  | true => simp only [hd, cond_true] at h; cases h
  | false =>
    simp only [hd, cond_false, Option.some.injEq, Prod.mk.injEq] at h
    obtain ⟨_, rfl⟩ := h
    exact (getN_ok hb h5).2.2.2

theorem rdStp (l : List Int) (hb : BytesOk l) (hl : l.length ≤ 1000000000000) (p : Nat) (hp : p ≤ l.length) (bad : Bool) :
    Tot (fun k => impl_reader_stamp k (l, (p : Int), bad)) (fun r => (bad = false ∧ ∃ (x : Stp × Bool) (q : Nat), stpAt l p = some (x, q) ∧ q ≤ l.length ∧ r = (x.1, x.2, l, (q : Int), false)) ∨ ((bad = true ∨ stpAt l p = none) ∧ ∃ s b, ∃ q : Nat, q ≤ l.length ∧ r = (s, b, l, (q : Int), true))) := by
  unfold impl_reader_stamp
  have nx : ∀ {o : Option (Nat × Nat)} {f : Nat × Nat → Option ((Stp × Bool) × Nat)}, o = none → o.bind f = none := by
    intro o f h; rw [h]; rfl
  refine Tot.bind (rdNum l hb hl p hp bad) ?_
  rintro r (⟨h0, n1, p1, h1, l1, rfl⟩ | ⟨h1, rfl⟩)
  · simp only
    refine Tot.bind (rdNum l hb hl p1 l1 false) ?_
    rintro r (⟨_, n2, p2, h2, l2, rfl⟩ | ⟨h2, rfl⟩)
    · simp only
      refine Tot.bind (rdNum l hb hl p2 l2 false) ?_
      rintro r (⟨_, n3, p3, h3, l3, rfl⟩ | ⟨h3, rfl⟩)
      · simp only
        refine Tot.bind (rdNum l hb hl p3 l3 false) ?_
        rintro r (⟨_, n4, p4, h4, l4, rfl⟩ | ⟨h4, rfl⟩)
        · simp only
          refine Tot.no rfl (Tot.pure ?_)
          have e : stpAt l p = bif decide (1 < n4) then none else some ((((n1 : Int), (n2 : Int), (n3 : Int)), (n4 : Int) == 1), p4) := by
            unfold stpAt
            simp only [h1, h2, h3, h4, Option.bind_some]
          cases hd : decide (1 < n4) with
          | true =>
            rw [hd, cond_true] at e
            refine .inr ⟨.inr e, ((n1 : Int), (n2 : Int), (n3 : Int)), ((n4 : Int) == 1), p4, l4, ?_⟩
            have : decide ((n4 : Int) > 1) = true := decide_eq_true (by have := of_decide_eq_true hd; omega)
            rw [this]
          | false =>
            rw [hd, cond_false] at e
            refine .inl ⟨h0, _, p4, e, l4, ?_⟩
            have : decide ((n4 : Int) > 1) = false := decide_eq_false (by have := of_decide_eq_false hd; omega)
            rw [this]
        · refine Tot.yes rfl (Tot.pure (.inr ⟨.inr ?_, _, _, p3, l3, rfl⟩))
          have h4' := h4.resolve_left (by simp)
          unfold stpAt
          simp only [h1, h2, h3, h4', Option.bind_some, Option.bind_none]
      · simp only
        refine Tot.bind (rdNum l hb hl p2 l2 true) ?_
        rintro r (⟨hh, _⟩ | ⟨_, rfl⟩)
        · cases hh
        · refine Tot.yes rfl (Tot.pure (.inr ⟨.inr ?_, _, _, p2, l2, rfl⟩))
          have h3' := h3.resolve_left (by simp)
          unfold stpAt
          simp only [h1, h2, h3', Option.bind_some, Option.bind_none]
    · simp only
      refine Tot.bind (rdNum l hb hl p1 l1 true) ?_
      rintro r (⟨hh, _⟩ | ⟨_, rfl⟩)
      · cases hh
      · refine Tot.bind (rdNum l hb hl p1 l1 true) ?_
        rintro r (⟨hh, _⟩ | ⟨_, rfl⟩)
        · cases hh
        · refine Tot.yes rfl (Tot.pure (.inr ⟨.inr ?_, _, _, p1, l1, rfl⟩))
          have h2' := h2.resolve_left (by simp)
          unfold stpAt
          simp only [h1, h2', Option.bind_some, Option.bind_none]
  · simp only
    refine Tot.bind (rdNum l hb hl p hp true) ?_
    rintro r (⟨hh, _⟩ | ⟨_, rfl⟩)
    · cases hh
    · refine Tot.bind (rdNum l hb hl p hp true) ?_
      rintro r (⟨hh, _⟩ | ⟨_, rfl⟩)
      · cases hh
      · refine Tot.bind (rdNum l hb hl p hp true) ?_
        rintro r (⟨hh, _⟩ | ⟨_, rfl⟩)
        · cases hh
        · refine Tot.yes rfl (Tot.pure (.inr ⟨?_, _, _, p, hp, rfl⟩))
          rcases h1 with h1 | h1
          · exact .inl h1
          · refine .inr ?_
            unfold stpAt
            rw [h1]
            rfl

/-- The implementation's loop over the rows. -/
theorem implGet_l5 (l : List Int) (hb : BytesOk l) (hl : l.length ≤ 1000000000000) (n : Nat) (hn : n ≤ 1000000000) : ∀ (m i p : Nat) (acc : List Row), m + i = n → p ≤ l.length → acc.length ≤ p →
    Tot (fun k => impl_GetRows_l5 k l (n : Int) acc (i : Int) l (p : Int) false) (fun r => (∃ rs q, rowsAt l m p = some (rs, q) ∧ r = (l, acc ++ rs, l, (q : Int), false)) ∨ (rowsAt l m p = none ∧ ∃ a b c d, r = (a, b, c, d, true))) := by
  intro m
  induction m with
  | zero =>
    intro i p acc hi hp ha
    refine Tot.succ ?_
    simp only [impl_GetRows_l5]
    refine Tot.ndec (by omega) (Tot.pure (.inl ⟨[], p, rfl, ?_⟩))
    rw [List.append_nil]
  | succ m ih =>
    intro i p acc hi hp ha
    have bad : ∀ (acc : List Row) (j : Int) (q : Int), Tot (fun k => impl_GetRows_l5 k l (n : Int) acc j l q true) (fun r => ∃ a b c d, r = (a, b, c, d, true)) := by
      intro acc j q
      refine Tot.succ ?_
      simp only [impl_GetRows_l5]
      refine Tot.dite (fun _ => Tot.no rfl (Tot.pure ⟨_, _, _, _, rfl⟩)) (fun _ => Tot.pure ⟨_, _, _, _, rfl⟩)
    refine Tot.succ ?_
    simp only [impl_GetRows_l5]
    refine Tot.dec (by omega) (Tot.yes rfl ?_)
    have er : rowsAt l (m + 1) p = (rowAt l p).bind fun a => (rowsAt l m a.2).bind fun b => some (a.1 :: b.1, b.2) := rfl
    rw [er, rowAt_eq]
    refine Tot.bind (rdTxt l hb hl p hp) ?_
    rintro r (⟨s, p1, h1, l1, rfl⟩ | ⟨h1, rfl⟩)
    · simp only
      refine Tot.bind (rdStp l hb hl p1 l1 false) ?_
      rintro r (⟨_, x, p2, h2, l2, rfl⟩ | ⟨h2, sx, bx, p2, l2, rfl⟩)
      · simp only
        refine Tot.bind (rdNum l hb hl p2 l2 false) ?_
        rintro r (⟨_, z, p3, h3, l3, rfl⟩ | ⟨h3, rfl⟩)
        · simp only
          have hrow : rowAt l p = some ((s, x.1, x.2, (z : Int)), p3) := by
            rw [rowAt_eq]
            simp only [h1, h2, h3, Option.bind_some]
          have hlt := (rowAt_ok hb hrow).2.1
          refine Tot.ble (by simp only [List.length_cons, List.length_nil]; omega) ?_
          rw [w64 (n := (i : Int) + 1) (by omega) (by omega)]
          refine (ih (i + 1) p3 (acc ++ [(s, x.1, x.2, (z : Int))]) (by omega) l3 (by simp only [List.length_append, List.length_cons, List.length_nil]; omega)).mono ?_
          simp only [h1, h2, h3, Option.bind_some]
          rintro r (⟨rs, q, e, rfl⟩ | ⟨e, hr⟩)
          · refine .inl ⟨_, q, by rw [e]; rfl, ?_⟩
            rw [List.append_assoc]
            rfl
          · exact .inr ⟨by rw [e]; rfl, hr⟩
        · simp only
          have h3' := h3.resolve_left (by simp)
          refine Tot.ble (by simp only [List.length_cons, List.length_nil]; omega) ((bad _ _ _).mono ?_)
          intro r hr
          refine .inr ⟨?_, hr⟩
          simp only [h1, h2, h3', Option.bind_some, Option.bind_none]
      · simp only
        have h2' := h2.resolve_left (by simp)
        refine Tot.bind (rdNum l hb hl p2 l2 true) ?_
        rintro r (⟨hh, _⟩ | ⟨_, rfl⟩)
        · cases hh
        · refine Tot.ble (by simp only [List.length_cons, List.length_nil]; omega) ((bad _ _ _).mono ?_)
          intro r hr
          refine .inr ⟨?_, hr⟩
          simp only [h1, h2', Option.bind_some, Option.bind_none]
    · simp only
      refine Tot.bind (rdStp l hb hl p hp true) ?_
      rintro r (⟨hh, _⟩ | ⟨_, sx, bx, p2, l2, rfl⟩)
      · cases hh
      · refine Tot.bind (rdNum l hb hl p2 l2 true) ?_
        rintro r (⟨hh, _⟩ | ⟨_, rfl⟩)
        · cases hh
        · refine Tot.ble (by simp only [List.length_cons, List.length_nil]; omega) ((bad _ _ _).mono ?_)
          intro r hr
          refine .inr ⟨?_, hr⟩
          simp only [h1, Option.bind_none]

theorem rowsAt_short {l : List Int} (hb : BytesOk l) : ∀ (n p q : Nat) (rs : List Row), rowsAt l n p = some (rs, q) → AllShort rs
  | 0, p, q, rs, h => by
    simp only [rowsAt, Option.some.injEq, Prod.mk.injEq] at h
    obtain ⟨rfl, rfl⟩ := h
    intro r hr; cases hr
  | n + 1, p, q, rs, h => by
    simp only [rowsAt, Option.bind_eq_some_iff] at h
    obtain ⟨⟨r, p1⟩, h1, ⟨rs', q'⟩, h2, h⟩ := h
    simp only [Option.some.injEq, Prod.mk.injEq] at h
    obtain ⟨rfl, rfl⟩ := h
    intro x hx
    rcases List.mem_cons.1 hx with rfl | hx
    · have := (rowAt_ok hb h1).2.2.2
      unfold Short
      omega
    · exact rowsAt_short hb n p1 q' rs' h2 x hx

def rowsR (l : List Int) : List Row × Bool := match getRows l with
  | some rs => (rs, true)
  | none => ([], false)

theorem implGet (l : List Int) (hb : BytesOk l) (hl : l.length ≤ 1000000000000) : Tot (fun k => impl_GetRows k l) (fun r => r = rowsR l) := by
  unfold impl_GetRows rowsR getRows
  refine Tot.bind (rdNum l hb hl 0 (Nat.zero_le _) false) ?_
  rintro r (⟨_, n, p, h1, l1, rfl⟩ | ⟨h1, rfl⟩)
  · obtain ⟨_, n1, _, _⟩ := getN_ok hb h1
    simp only [h1, Option.bind_some]
    refine Tot.bind (implGet_l5 l hb hl n n1 n 0 p [] rfl l1 (Nat.zero_le _)) ?_
    rintro r (⟨rs, q, e, rfl⟩ | ⟨e, a, b, c, d, rfl⟩)
    · simp only [e, Option.bind_some, List.nil_append]
      obtain ⟨_, b2, b3, b4, b5⟩ := rowsAt_ok hb n p q rs l1 e
      have hsh := rowsAt_short hb n p q rs e
      refine Tot.no rfl ?_
      by_cases hq : q = l.length
      · refine Tot.no (by rw [hq]; simp) ?_
        refine Tot.bind (implRows rs (by unfold Few; omega) hsh) ?_
        rintro x rfl
        rw [decide_eq_true hq, Bool.true_and]
        refine Tot.ite (fun h => Tot.pure ?_) (fun h => Tot.pure ?_)
        · rw [Bool.not_eq_true'] at h
          rw [h]; rfl
        · rw [Bool.not_eq_false'] at h
          rw [h]; rfl
      · rw [decide_eq_false hq, Bool.false_and]
        refine Tot.yes ?_ (Tot.pure rfl)
        simp only [bne_iff_ne, ne_eq]
        omega
    · simp only [e, Option.bind_none]
      exact Tot.yes rfl (Tot.pure rfl)
  · have h1' := h1.resolve_left (by simp)
    rw [h1']
    simp only [Option.bind_none]
    refine Tot.bind (Q := fun r => r = (l, ([] : List Row), l, (0 : Int), true)) (Tot.succ ?_) ?_
    · simp only [impl_GetRows_l5]
      exact Tot.ndec (by omega) (Tot.pure rfl)
    · rintro r rfl
      exact Tot.yes rfl (Tot.pure rfl)

/-! ### The statement's own reader -/
theorem specStp (l : List Int) (hb : BytesOk l) (hl : l.length ≤ 1000000000000) (p : Int) :
    Tot (fun k => spec_l8GetStamp k l p) (fun r => (∃ n1 p1 n2 p2 n3 p3, 0 ≤ p ∧ getN l p.toNat = some (n1, p1) ∧ getN l p1 = some (n2, p2) ∧ getN l p2 = some (n3, p3) ∧ r = (((n1 : Int), (n2 : Int), (n3 : Int)), (p3 : Int), true)) ∨ (((getN l p.toNat).bind fun a => (getN l a.2).bind fun b => getN l b.2) = none ∨ p < 0) ∧ r.2.2 = false) := by
  unfold spec_l8GetStamp
  refine Tot.bind (specNum l hb hl p) ?_
  rintro r1 rfl
  refine Tot.bind (specNum l hb hl _) ?_
  rintro r2 rfl
  refine Tot.bind (specNum l hb hl _) ?_
  rintro r3 rfl
  by_cases hp : p < 0
  · have : (numR l p).2.2 = false := by unfold numR; rw [if_pos hp]
    exact Tot.no this (Tot.pure (.inr ⟨.inr hp, rfl⟩))
  · have e1 : numR l p = match getN l p.toNat with | some (n, q) => ((n : Int), (q : Int), true) | none => (0, 0, false) := by
      unfold numR; rw [if_neg hp]; cases getN l p.toNat <;> rfl
    cases h1 : getN l p.toNat with
    | none =>
      rw [h1] at e1
      simp only [e1]
      exact Tot.no rfl (Tot.pure (.inr ⟨.inl rfl, rfl⟩))
    | some a =>
      obtain ⟨n1, p1⟩ := a
      rw [h1] at e1
      simp only [e1, numR_nat, Option.bind_some]
      refine Tot.yes rfl ?_
      cases h2 : getN l p1 with
      | none => exact Tot.no rfl (Tot.pure (.inr ⟨.inl rfl, rfl⟩))
      | some b =>
        obtain ⟨n2, p2⟩ := b
        refine Tot.yes rfl ?_
        simp only [numR_nat, Option.bind_some]
        cases h3 : getN l p2 with
        | none => exact Tot.pure (.inr ⟨.inl rfl, rfl⟩)
        | some c =>
          obtain ⟨n3, p3⟩ := c
          exact Tot.pure (.inl ⟨n1, p1, n2, p2, n3, p3, by omega, rfl, h2, h3, rfl⟩)

theorem stpAt_bad {l : List Int} {p : Nat} (h : ((getN l p).bind fun a => (getN l a.2).bind fun b => getN l b.2) = none) : stpAt l p = none := by
  unfold stpAt
  cases h1 : getN l p with
  | none => rfl
  | some a =>
    rw [h1] at h
    simp only [Option.bind_some] at h ⊢
    cases h2 : getN l a.2 with
    | none => rfl
    | some b =>
      rw [h2] at h
      simp only [Option.bind_some] at h ⊢
      rw [h]
      rfl

theorem specGet_l7 (l : List Int) (hb : BytesOk l) (hl : l.length ≤ 1000000000000) (n : Nat) (hn : n ≤ 1000000000) : ∀ (m i p : Nat) (acc : List Row), m + i = n → p ≤ l.length → acc.length ≤ p →
    Tot (fun k => spec_GetRows_l7 k l [] (n : Int) (p : Int) acc (i : Int)) (fun r => (∃ rs q, rowsAt l m p = some (rs, q) ∧ r = .inr (l, [], (q : Int), acc ++ rs)) ∨ (rowsAt l m p = none ∧ r = .inl ([], false))) := by
  intro m
  induction m with
  | zero =>
    intro i p acc hi hp ha
    refine Tot.succ ?_
    simp only [spec_GetRows_l7]
    refine Tot.ndec (by omega) (Tot.pure (.inl ⟨[], p, rfl, ?_⟩))
    rw [List.append_nil]
  | succ m ih =>
    intro i p acc hi hp ha
    refine Tot.succ ?_
    simp only [spec_GetRows_l7]
    refine Tot.dec (by omega) ?_
    have er : rowsAt l (m + 1) p = (rowAt l p).bind fun a => (rowsAt l m a.2).bind fun b => some (a.1 :: b.1, b.2) := rfl
    rw [er, rowAt_eq]
    refine Tot.bind (specGetT l hb hl p) ?_
    rintro r rfl
    rw [txtR_nat]
    cases h1 : getT l p with
    | none =>
      simp only [Option.bind_none]
      refine Tot.bind (specStp l hb hl _) (fun r2 _ => ?_)
      refine Tot.bind (specNum l hb hl _) (fun r3 _ => ?_)
      refine Tot.bind (specNum l hb hl _) (fun r4 _ => ?_)
      exact Tot.yes rfl (Tot.pure (.inr ⟨trivial, rfl⟩))
    | some a =>
      obtain ⟨s, p1⟩ := a
      simp only [Option.bind_some]
      refine Tot.bind (specStp l hb hl (p1 : Int)) (fun r2 hr2 => ?_)
      refine Tot.bind (specNum l hb hl _) ?_
      rintro r3 rfl
      refine Tot.bind (specNum l hb hl _) ?_
      rintro r4 rfl
      refine Tot.no rfl ?_
      rcases hr2 with ⟨n1, q1, n2, q2, n3, q3, _, e1, e2, e3, rfl⟩ | ⟨e1, e2⟩
      · rw [Int.toNat_natCast] at e1
        refine Tot.no rfl ?_
        simp only [numR_nat]
        cases h3 : getN l q3 with
        | none =>
          refine Tot.yes rfl (Tot.pure (.inr ⟨?_, rfl⟩))
          have : stpAt l p1 = none := by
            unfold stpAt
            simp only [e1, e2, e3, h3, Option.bind_some, Option.bind_none]
          rw [this]
          rfl
        | some b =>
          obtain ⟨n4, p2⟩ := b
          have es : stpAt l p1 = bif decide (1 < n4) then none else some ((((n1 : Int), (n2 : Int), (n3 : Int)), (n4 : Int) == 1), p2) := by
            unfold stpAt
            simp only [e1, e2, e3, h3, Option.bind_some]
          refine Tot.no rfl ?_
          simp only [numR_nat]
          cases h4 : getN l p2 with
          | none =>
            refine Tot.yes rfl (Tot.pure (.inr ⟨?_, rfl⟩))
            rw [es]
            cases decide (1 < n4) with
            | true => rfl
            | false => simp only [cond_false, Option.bind_some, h4, Option.bind_none]
          | some c =>
            obtain ⟨z, p3⟩ := c
            refine Tot.no rfl ?_
            cases hd : decide (1 < n4) with
            | true =>
              rw [hd, cond_true] at es
              have := of_decide_eq_true hd
              refine Tot.dec (by omega) (Tot.pure (.inr ⟨?_, rfl⟩))
              rw [es]; rfl
            | false =>
              rw [hd, cond_false] at es
              have := of_decide_eq_false hd
              have hrow : rowAt l p = some ((s, ((n1 : Int), (n2 : Int), (n3 : Int)), (n4 : Int) == 1, (z : Int)), p3) := by
                rw [rowAt_eq]
                simp only [h1, es, h4, Option.bind_some]
              obtain ⟨_, hlt, hle, _⟩ := rowAt_ok hb hrow
              refine Tot.ndec (by omega) ?_
              refine Tot.ble (by simp only [List.length_cons, List.length_nil]; omega) ?_
              rw [w64 (n := (i : Int) + 1) (by omega) (by omega)]
              refine (ih (i + 1) p3 (acc ++ [(s, ((n1 : Int), (n2 : Int), (n3 : Int)), (n4 : Int) == 1, (z : Int))]) (by omega) hle (by simp only [List.length_append, List.length_cons, List.length_nil]; omega)).mono ?_
              simp only [es, h4, Option.bind_some]
              rintro r (⟨rs, q, e, rfl⟩ | ⟨e, hr⟩)
              · refine .inl ⟨_, q, by rw [e]; rfl, ?_⟩
                rw [List.append_assoc]
                rfl
              · exact .inr ⟨by rw [e]; rfl, hr⟩
      · refine Tot.yes (by rw [e2]; rfl) (Tot.pure (.inr ⟨?_, rfl⟩))
        have e1' := e1.resolve_right (by omega)
        rw [Int.toNat_natCast] at e1'
        rw [stpAt_bad e1']
        rfl

theorem specGet (l : List Int) (hb : BytesOk l) (hl : l.length ≤ 1000000000000) : Tot (fun k => spec_GetRows k l) (fun r => r = rowsR l) := by
  unfold spec_GetRows rowsR getRows
  refine Tot.bind (specNum l hb hl 0) ?_
  rintro r rfl
  have e0 := numR_nat l 0
  simp only [Int.natCast_zero, Int.cast_ofNat_Int] at e0
  rw [e0]
  cases h1 : getN l 0 with
  | none => exact Tot.yes rfl (Tot.pure rfl)
  | some a =>
    obtain ⟨n, p⟩ := a
    obtain ⟨_, n1, _, l1⟩ := getN_ok hb h1
    refine Tot.no rfl ?_
    simp only [Option.bind_some]
    refine Tot.dite (fun h => Tot.pure ?_) (fun h => ?_)
    · cases h2 : rowsAt l n p with
      | none => rfl
      | some b =>
        obtain ⟨rs, q⟩ := b
        obtain ⟨_, _, _, b4, _⟩ := rowsAt_ok hb n p q rs l1 h2
        have : rowsOk rs = false := by
          cases hc : rowsOk rs with
          | false => rfl
          | true => have := (rowsOk_iff.1 hc).2.2; omega
        simp only [Option.bind_some, this, Bool.and_false, cond_false]
    · refine Tot.bind (specGet_l7 l hb hl n n1 n 0 p [] rfl l1 (Nat.zero_le _)) ?_
      rintro r (⟨rs, q, e, rfl⟩ | ⟨e, rfl⟩)
      · simp only [e, Option.bind_some, List.nil_append, Sum.elim_inr]
        obtain ⟨_, b2, b3, b4, b5⟩ := rowsAt_ok hb n p q rs l1 e
        have hsh := rowsAt_short hb n p q rs e
        by_cases hq : q = l.length
        · refine Tot.no (by rw [hq]; simp) ?_
          refine Tot.bind (specRows rs (by unfold Few; omega) hsh) ?_
          rintro x rfl
          rw [decide_eq_true hq, Bool.true_and]
          refine Tot.ite (fun h => Tot.pure ?_) (fun h => Tot.pure ?_)
          · rw [Bool.not_eq_true'] at h
            rw [h]; rfl
          · rw [Bool.not_eq_false'] at h
            rw [h]; rfl
        · rw [decide_eq_false hq, Bool.false_and]
          refine Tot.yes ?_ (Tot.pure rfl)
          simp only [bne_iff_ne, ne_eq]
          omega
      · simp only [e, Option.bind_none, Sum.elim_inl]
        exact Tot.pure rfl

/-! ### The same bytes -/
theorem sameBytes_l4 (a b : List Int) (hf : a.length ≤ 1000000000000) (hl : a.length = b.length) : ∀ (n i : Nat), a.length - i = n → i ≤ a.length →
    Tot (fun k => laws_sameBytes_l4 k a b (i : Int)) (fun r => (r = .inr () ∧ a.drop i = b.drop i) ∨ (r = .inl false ∧ a.drop i ≠ b.drop i)) := by
  intro n
  induction n with
  | zero =>
    intro i hd hi
    refine Tot.succ ?_
    simp only [laws_sameBytes_l4]
    refine Tot.ndec (by omega) (Tot.pure (.inl ⟨rfl, ?_⟩))
    rw [List.drop_of_length_le (by omega), List.drop_of_length_le (by omega)]
  | succ n ih =>
    intro i hd hi
    have h1 : i < a.length := by omega
    refine Tot.succ ?_
    simp only [laws_sameBytes_l4]
    refine Tot.dec (by omega) (Tot.dec (by omega) (Tot.dec (by omega) (Tot.dec (by omega) (Tot.dec (by omega) ?_))))
    rw [show Int.toNat (i : Int) = i from Int.toNat_natCast i, w64 (n := (i : Int) + 1) (by omega) (by omega), drop_getD h1, drop_getD (l := b) (p := i) (by omega)]
    refine Tot.ite (fun h => Tot.pure (.inr ⟨rfl, ?_⟩)) (fun h => ?_)
    · intro e
      injection e with e _
      rw [e] at h
      simp at h
    · have e : a.getD i 0 = b.getD i 0 := by simpa using h
      refine (ih (i + 1) (by omega) (by omega)).mono ?_
      rintro r (⟨rfl, h⟩ | ⟨rfl, h⟩)
      · exact .inl ⟨rfl, by rw [e, h]⟩
      · refine .inr ⟨rfl, fun q => h ?_⟩
        injection q

theorem sameBytes_tot (a b : List Int) (hf : a.length ≤ 1000000000000) : Tot (fun k => laws_sameBytes k a b) (fun r => r = decide (a = b)) := by
  unfold laws_sameBytes
  refine Tot.ite (fun h => Tot.pure ?_) (fun h => ?_)
  · have : a ≠ b := fun e => by subst e; simp at h
    rw [decide_eq_false this]
  · have hl : a.length = b.length := by
      have : (a.length : Int) = b.length := by simpa using h
      omega
    refine Tot.bind (sameBytes_l4 a b hf hl _ 0 rfl (Nat.zero_le _)) ?_
    rintro r (⟨rfl, h⟩ | ⟨rfl, h⟩)
    · rw [List.drop_zero, List.drop_zero] at h
      rw [decide_eq_true h]
      exact Tot.pure rfl
    · rw [List.drop_zero, List.drop_zero] at h
      rw [decide_eq_false h]
      exact Tot.pure rfl
end Go.Proofs.Ytehkignjdbkeiaa.Vf
