import Derived.Test.YtgocagaijgcnmaaGreatMan
import Derived.Test.YtgocagaijgcnmaaGreatMam
import Derived.Test.YtgocagaijgcnmaaGreatMal
section
set_option linter.unusedVariables false
set_option linter.unusedSimpArgs false
namespace Go.Proofs.YtgocagaijgcnmaaGreat.Vf
open Go
abbrev Nod := Int × Dsk × List Row × List Row
def qOk (l : List Row) : Bool := l.all J3
def I7 (n : Nod) : Bool := qOk n.2.2.2 && (inR n.1 0 20 && (Aq n.2.1 && (Iq n.2.2.1 && decide ((n.2.2.2.length : Int) ≤ 60))))
def RF (l : List Row) : Prop := l.length ≤ 1000 ∧ Li l
def NIn (n : Nod) : Prop := (DIn n.2.1 ∧ DB n.2.1) ∧ RF n.2.2.1 ∧ RF n.2.2.2
def NG (n : Nod) : Prop := I7 n = true ∧ DB n.2.1
theorem Gr {n : Nod} : I7 n = true ↔ (∀ r ∈ n.2.2.2, J3 r = true) ∧ (0 ≤ n.1 ∧ n.1 ≤ 20) ∧ Aq n.2.1 = true ∧ Iq n.2.2.1 = true ∧ n.2.2.2.length ≤ 60 := by
 unfold I7 qOk
 simp only [Bool.and_eq_true, List.all_eq_true, Iw, decide_eq_true_iff]
 constructor
 ·rintro ⟨h1, h2, h3, h4, h5⟩; exact ⟨h1, h2, h3, h4, by omega⟩
 ·rintro ⟨h1, h2, h3, h4, h5⟩; exact ⟨h1, h2, h3, h4, by omega⟩
theorem Jba {l : List Row} (h : Iq l = true) : RF l := by
 obtain ⟨_, h2, h3⟩ := Kq.1 h
 exact ⟨by omega, fun r hr => Mx (Tl (h2 r hr))⟩
theorem Zp {n : Nod} (h : NG n) : NIn n := by
 obtain ⟨h1, _, h3, h4, h5⟩ := Gr.1 h.1
 exact ⟨⟨Jz h3, h.2⟩, Jba h4, by omega, fun r hr => Mx (Tl (h1 r hr))⟩
theorem NG.g {n : Nod} (h : NG n) : DG n.2.1 := ⟨(Gr.1 h.1).2.2.1, h.2⟩
theorem My (n : Nod) (hn : NIn n) : Tot (fun k => Al k n) (fun r => r = I7 n) := by
 obtain ⟨i, ⟨a, b⟩, ro, q⟩ := n
 obtain ⟨⟨hd, _⟩, hr, hq⟩ := hn
 dsimp only at hd hr hq
 unfold Al
 have hl := hq.1
 refine Tot.bind (Q := fun r => r = bif qOk q then .inr (i, a, b, ro, q) else .inl false) ?_ ?_
 ·refine Tot.up (L := fun k i' (_ : Unit) => Dz k q (q.length : Int) i' i a b ro q) (Q := fun r => r = bif qOk q then .inr (i, a, b, ro, q) else .inl false) q.length (fun j _ => (q.drop j).all J3 = q.all J3) ?_ ?_ 0 () (Nat.zero_le _) (by rw [List.drop_zero])
  ·intro _ hj
   rw [List.drop_length] at hj
   simp only [Dz]
   exact Tot.ndec (by omega) (Tot.pure (by unfold qOk; rw [← hj]; rfl))
  ·intro j _ hj hi next
   simp only [Dz]
   rw [Bh (d := Hi) hj, List.all_cons] at hi
   refine Tot.dec (by omega) (Tot.dec (by omega) (Tot.dec (by omega) ?_))
   rw [Int.toNat_natCast, w64 (n := (j : Int) + 1) (by omega) (by omega)]
   refine Tot.bind (Iha (q.getD j Hi) (hq.2 _ (Da hj))) ?_
   rintro r rfl
   cases hc : J3 (q.getD j Hi) with
   | false => exact Tot.yes rfl (Tot.pure (by unfold qOk; rw [← hi, hc]; rfl))
   | true => exact Tot.no rfl (next () (by rw [hc, Bool.true_and] at hi; exact hi))
 ·rintro r rfl
  unfold I7
  dsimp only
  cases qOk q with
  | false => exact Tot.pure rfl
  | true =>
   simp only [cond_true, Sum.elim_inr, Bool.true_and]
   refine Tot.bind (Tot.of (Q := fun r => r = inR i 0 20) (Dja _ _ _) rfl) ?_
   rintro r rfl
   cases inR i 0 20 with
   | false => exact Tot.no rfl (Tot.pure rfl)
   | true =>
    refine Tot.yes rfl (Tot.bind (Qf (a, b) hd.1.1 hd.1.2) ?_)
    rintro r rfl
    cases Aq (a, b) with
    | false => exact Tot.no rfl (Tot.pure rfl)
    | true =>
     refine Tot.yes rfl (Tot.bind (Lca ro (by have := hr.1; unfold Few; omega) hr.2) ?_)
     rintro r rfl
     cases Iq ro with
     | false => exact Tot.no rfl (Tot.pure rfl)
     | true => exact Tot.yes rfl (Tot.pure rfl)
theorem Qh (n : Nod) (hn : NIn n) : Tot (fun k => B9 k n) (fun r => r = I7 n) := by
 obtain ⟨i, ⟨a, b⟩, ro, q⟩ := n
 obtain ⟨⟨hd, _⟩, hr, hq⟩ := hn
 dsimp only at hd hr hq
 unfold B9
 have hl := hq.1
 refine Tot.bind (Q := fun r => r = bif qOk q then .inr (i, a, b, ro, q) else .inl false) ?_ ?_
 ·refine Tot.up (L := fun k i' (_ : Unit) => Dx k i' i a b ro q) (Q := fun r => r = bif qOk q then .inr (i, a, b, ro, q) else .inl false) q.length (fun j _ => (q.drop j).all J3 = q.all J3) ?_ ?_ 0 () (Nat.zero_le _) (by rw [List.drop_zero])
  ·intro _ hj
   rw [List.drop_length] at hj
   simp only [Dx]
   exact Tot.ndec (by omega) (Tot.pure (by unfold qOk; rw [← hj]; rfl))
  ·intro j _ hj hi next
   simp only [Dx]
   rw [Bh (d := Hi) hj, List.all_cons] at hi
   refine Tot.dec (by omega) (Tot.dec (by omega) (Tot.dec (by omega) ?_))
   rw [Int.toNat_natCast, w64 (n := (j : Int) + 1) (by omega) (by omega)]
   refine Tot.bind (Iia (q.getD j Hi) (hq.2 _ (Da hj))) ?_
   rintro r rfl
   cases hc : J3 (q.getD j Hi) with
   | false => exact Tot.yes rfl (Tot.pure (by unfold qOk; rw [← hi, hc]; rfl))
   | true => exact Tot.no rfl (next () (by rw [hc, Bool.true_and] at hi; exact hi))
 ·rintro r rfl
  unfold I7
  dsimp only
  cases qOk q with
  | false => exact Tot.pure rfl
  | true =>
   simp only [cond_true, Sum.elim_inr, Bool.true_and]
   refine Tot.bind (Tot.of (Q := fun r => r = inR i 0 20) (Ro _ _ _) rfl) ?_
   rintro r rfl
   cases inR i 0 20 with
   | false => exact Tot.no rfl (Tot.pure rfl)
   | true =>
    refine Tot.yes rfl (Tot.bind (Oi (a, b) hd.1.1 hd.1.2) ?_)
    rintro r rfl
    cases Aq (a, b) with
    | false => exact Tot.no rfl (Tot.pure rfl)
    | true =>
     refine Tot.yes rfl (Tot.bind (Dma ro (by have := hr.1; unfold Few; omega) hr.2) ?_)
     rintro r rfl
     cases Iq ro with
     | false => exact Tot.no rfl (Tot.pure rfl)
     | true => exact Tot.yes rfl (Tot.pure rfl)
theorem Mf (n : Nod) (hn : NIn n) : Tot (fun k => B8 k n) (fun r => r = n) := by
 unfold B8
 have h1 := hn.2.1.1
 have h2 := hn.2.2.1
 refine Tot.bind (Jy n.2.1 hn.1.1.1.1) ?_
 rintro r rfl
 refine Tot.bind (Tot.of (Q := fun r => r = n.2.2.1) (Dga _ (by unfold Few; omega)) rfl) ?_
 rintro r rfl
 refine Tot.bind (Tot.of (Q := fun r => r = n.2.2.2) (Dga _ (by unfold Few; omega)) rfl) ?_
 rintro r rfl
 exact Tot.pure rfl
theorem K6 (n : Nod) (hn : NIn n) : Tot (fun k => Ba k n) (fun r => r = n) := by
 unfold Ba
 have h1 := hn.2.1.1
 have h2 := hn.2.2.1
 refine Tot.bind (I9 n.2.1 hn.1.1.1.1) ?_
 rintro r rfl
 refine Tot.ble (by simp only [List.length_nil]; omega) (Tot.ble (by simp only [List.length_nil]; omega) (Tot.pure ?_))
 rw [List.nil_append, List.nil_append]
theorem Fea (a b : List Row) (hf : a.length + b.length ≤ 10000000000) : Tot (fun k => Bf k a b) (fun r => r = Y4 a b) := by
 unfold Bf
 refine Tot.ble (by simp only [List.length_nil]; omega) ?_
 rw [List.nil_append]
 refine Tot.bind (Q := fun r => r = Y4 a b) ?_ (by rintro r rfl; exact Tot.pure rfl)
 refine Tot.up (L := fun k i s => C0 k b s i) (Q := fun r => r = Y4 a b) b.length (fun i s => Y4 s (b.drop i) = Y4 a b ∧ s.length ≤ a.length + i) ?_ ?_ 0 a (Nat.zero_le _) ⟨by rw [List.drop_zero], Nat.le_add_right _ _⟩
 ·rintro s ⟨hs, _⟩
  rw [List.drop_length] at hs
  simp only [C0]
  exact Tot.ndec (by omega) (Tot.pure hs)
 ·rintro i s hi ⟨hs, hl⟩ next
  simp only [C0]
  refine Tot.dec (by omega) (Tot.dec (by omega) (Tot.dec (by omega) ?_))
  rw [Int.toNat_natCast, w64 (n := (i : Int) + 1) (by omega) (by omega)]
  rw [Bh (d := Hi) hi] at hs
  refine Tot.bind (Y0 s (b.getD i Hi) (by unfold Few; omega)) ?_
  rintro m rfl
  have := Iea s (b.getD i Hi)
  exact next _ ⟨hs, by omega⟩
def Lsa (n : Nod) (l : List Row) : Nod × Bool := bif I7 n && Iq l then (bif decide ((Y4 n.2.2.1 l).length > 60) then (n, false) else ((n.1, n.2.1, Y4 n.2.2.1 l, n.2.2.2), true)) else (n, false)
theorem Bsa {a b : List Row} (ha : Iq a = true) (hb : Iq b = true) (h : (Y4 a b).length ≤ 60) : Iq (Y4 a b) = true := by
 obtain ⟨a1, a2, _⟩ := Kq.1 ha
 obtain ⟨b1, b2, _⟩ := Kq.1 hb
 exact Kq.2 ⟨Bea a1, fun r hr => (Lda hr).elim (a2 r) (b2 r), h⟩
theorem Jca {n : Nod} {l : List Row} (hn : NG n) : NG (Lsa n l).1 := by
 unfold Lsa
 rw [hn.1, Bool.true_and]
 cases hl : Iq l with
 | false => exact hn
 | true =>
  rw [cond_true]
  cases hc : decide ((Y4 n.2.2.1 l).length > 60) with
  | true => exact hn
  | false =>
   obtain ⟨h1, h2, h3, h4, h5⟩ := Gr.1 hn.1
   exact ⟨Gr.2 ⟨h1, h2, h3, Bsa h4 hl (by have := of_decide_eq_false hc; omega), h5⟩, hn.2⟩
theorem Ffa (n : Nod) (l : List Row) (h1 : n.2.2.1.length ≤ 1000) (h2 : l.length ≤ 1000) : Tot (fun k => Dy k n l) (fun r => r = bif decide ((Y4 n.2.2.1 l).length > 60) then (false, n) else (true, (n.1, n.2.1, Y4 n.2.2.1 l, n.2.2.2))) := by
 unfold Dy
 refine Tot.bind (Fea n.2.2.1 l (by omega)) ?_
 rintro r rfl
 refine Tot.dite (fun h => ?_) (fun h => ?_)
 ·rw [decide_eq_true (show (Y4 n.2.2.1 l).length > 60 by omega)]
  exact Tot.pure rfl
 ·rw [decide_eq_false (show ¬ (Y4 n.2.2.1 l).length > 60 by omega)]
  exact Tot.pure rfl
theorem Lta (n : Nod) (l : List Row) (hn : NIn n) (hl : RF l) : Tot (fun k => Ez k n l) (fun r => r = Lsa n l) := by
 have copy : Tot (fun k => (Ba k n).bind fun r3 => some (r3, false)) (fun r => r = (n, false)) := by
  refine Tot.bind (K6 n hn) ?_
  rintro r rfl
  exact Tot.pure rfl
 unfold Ez Lsa
 refine Tot.bind (K6 n hn) ?_
 rintro n rfl
 refine Tot.bind (Qh n hn) ?_
 rintro r rfl
 cases I7 n with
 | false => exact Tot.yes rfl copy
 | true =>
  refine Tot.no rfl (Tot.bind (Dma l (by have := hl.1; unfold Few; omega) hl.2) ?_)
  rintro r rfl
  cases Iq l with
  | false => exact Tot.yes rfl copy
  | true =>
   refine Tot.no rfl (Tot.bind (Ffa n l hn.2.1.1 hl.1) ?_)
   rintro r rfl
   cases decide ((Y4 n.2.2.1 l).length > 60) with
   | true => exact Tot.yes rfl copy
   | false => exact Tot.no rfl (Tot.pure rfl)
def Bta (s : ByteArray) (f : Fil) : Row := (s, f.1, f.2.1, (f.2.2.length : Int))
def Pma (n : Nod) (s : ByteArray) (f : Fil) (sure : Bool) : Nod × Int := bif (n.2.2.2.length : Int) == 60 then (n, 3) else
 ((n.1, (keep n.2.1 s f sure).1, n.2.2.1, bif (keep n.2.1 s f sure).2 == 0 && sure then n.2.2.2 ++ [Bta s f] else n.2.2.2), (keep n.2.1 s f sure).2)
def Rja (n : Nod) (s : ByteArray) (f : Fil) (sure : Bool) : Nod × Int := bif I7 n && (Cq s && Fn f) then Pma n s f sure else (n, 2)
theorem Lua {s : ByteArray} {f : Fil} (hs : Cq s = true) (hf : Fn f = true) : J3 (Bta s f) = true := by
 obtain ⟨h1, h2, h3⟩ := Mw.1 hf
 unfold J3 Bta
 dsimp only
 rw [hs, h1, Iw.2 ⟨by omega, by omega⟩]
 cases hd : f.2.1 with
 | false => rfl
 | true => rw [h3 hd]; rfl
theorem R4a {n : Nod} {s : ByteArray} {f : Fil} {sure : Bool} (hn : NG n) (hs : Cq s = true) (hf : Fn f = true) : NG (Pma n s f sure).1 := by
 obtain ⟨h1, h2, h3, h4, h5⟩ := Gr.1 hn.1
 have hk := R2a (s := s) (f := f) (sure := sure) hn.g
 unfold Pma
 cases hl : ((n.2.2.2.length : Int) == 60) with
 | true => exact hn
 | false =>
  have hl' : n.2.2.2.length ≠ 60 := by
   intro e
   rw [e] at hl
   cases hl
  refine ⟨Gr.2 ⟨?_, h2, hk.1, h4, ?_⟩, hk.2⟩
  ·show ∀ r ∈ bif (keep n.2.1 s f sure).2 == 0 && sure then n.2.2.2 ++ [Bta s f] else n.2.2.2, J3 r = true
   cases (keep n.2.1 s f sure).2 == 0 && sure with
   | false => exact h1
   | true =>
    intro r hr
    rcases List.mem_append.1 hr with hr | hr
    ·exact h1 r hr
    ·rw [List.mem_singleton.1 hr]; exact Lua hs hf
  ·show (bif (keep n.2.1 s f sure).2 == 0 && sure then n.2.2.2 ++ [Bta s f] else n.2.2.2).length ≤ 60
   cases (keep n.2.1 s f sure).2 == 0 && sure with
   | false => exact h5
   | true => rw [cond_true, List.length_append]; simp only [List.length_cons, List.length_nil]; omega
theorem R5a {n : Nod} {s : ByteArray} {f : Fil} {sure : Bool} (hn : NG n) : NG (Rja n s f sure).1 := by
 unfold Rja
 cases hs : Cq s with
 | false => rw [hn.1]; exact hn
 | true =>
  cases hf : Fn f with
  | false => rw [hn.1]; exact hn
  | true => rw [hn.1]; exact R4a hn hs hf
theorem Jda (n : Nod) (s : ByteArray) (f : Fil) (sure : Bool) (hn : NIn n) (hs : Hp s) : Tot (fun k => Ew k n s f sure) (fun r => r = ((Pma n s f sure).2, (Pma n s f sure).1)) := by
 have h1 := hn.2.2.1
 unfold Ew Pma
 cases (n.2.2.2.length : Int) == 60 with
 | true => exact Tot.yes rfl (Tot.pure rfl)
 | false =>
  refine Tot.no rfl (Tot.bind (Lqa n.2.1 s f sure hn.1.1 hn.1.2.1 hs) ?_)
  rintro r rfl
  cases (keep n.2.1 s f sure).2 == 0 with
  | false => exact Tot.no rfl (Tot.pure rfl)
  | true =>
   refine Tot.yes rfl ?_
   cases sure with
   | false => exact Tot.no rfl (Tot.pure rfl)
   | true =>
    refine Tot.yes rfl (Tot.ble (by simp only [List.length_nil]; omega) ?_)
    refine Tot.bind (Tot.of (Q := fun r => r = Bta s f) (show G5 s f = some (Bta s f) from rfl) rfl) ?_
    rintro r rfl
    refine Tot.ble (by simp only [List.length_append, List.length_cons, List.length_nil]; omega) (Tot.pure ?_)
    rw [List.nil_append]
    rfl
theorem Bua (n : Nod) (s : ByteArray) (f : Fil) (sure : Bool) (hn : NIn n) (hs : Hp s) : Tot (fun k => Dr k n s f sure) (fun r => r = Rja n s f sure) := by
 unfold Dr Rja
 refine Tot.bind (K6 n hn) ?_
 rintro n rfl
 refine Tot.bind (Qh n hn) ?_
 rintro r rfl
 cases I7 n with
 | false => exact Tot.yes rfl (Tot.pure rfl)
 | true =>
  refine Tot.no rfl (Tot.bind (Of s hs) ?_)
  rintro r rfl
  cases Cq s with
  | false => exact Tot.yes rfl (Tot.pure rfl)
  | true =>
   refine Tot.no rfl (Tot.bind (Tot.of (Q := fun r => r = Fn f) (Qg f) rfl) ?_)
   rintro r rfl
   cases Fn f with
   | false => exact Tot.yes rfl (Tot.pure rfl)
   | true =>
    refine Tot.no rfl (Tot.bind (Jda n s f sure hn hs) ?_)
    rintro r rfl
    exact Tot.pure rfl
def P0a (n : Nod) (s : ByteArray) (b : Int) : Nod × Bool := bif I7 n && ((lkD n.2.1 s).2 == 0 && (Pt n.2.1 s b).2) then ((n.1, (Pt n.2.1 s b).1, n.2.2), true) else (n, false)
theorem R6a {n : Nod} {s : ByteArray} {b : Int} (hn : NG n) : NG (P0a n s b).1 := by
 obtain ⟨h1, h2, h3, h4, h5⟩ := Gr.1 hn.1
 have hr := N8a (s := s) (n := b) hn.g
 unfold P0a
 cases I7 n && ((lkD n.2.1 s).2 == 0 && (Pt n.2.1 s b).2) with
 | false => exact hn
 | true => exact ⟨Gr.2 ⟨h1, h2, hr.1, h4, h5⟩, hr.2⟩
theorem S5 (n : Nod) (s : ByteArray) (b : Int) (hn : NIn n) (h1 : b ≤ 9223372036854775807) (h0 : -9223372036854775808 ≤ b) : Tot (fun k => Ck k n s b) (fun r => r = P0a n s b) := by
 unfold Ck P0a
 refine Tot.bind (K6 n hn) ?_
 rintro n rfl
 refine Tot.bind (E2a hn.1.1.1.1.1 hn.1.2.1 s) ?_
 rintro r rfl
 refine Tot.bind (Qh n hn) ?_
 rintro r rfl
 cases h : I7 n with
 | false => exact Tot.yes rfl (Tot.pure rfl)
 | true =>
  refine Tot.no rfl ?_
  cases hl : (lkD n.2.1 s).2 == 0 with
  | false => exact Tot.yes (by unfold bne; rw [hl]; rfl) (Tot.pure rfl)
  | true =>
   refine Tot.no (by unfold bne; rw [hl]; rfl) (Tot.bind (Oya (NG.g ⟨h, hn.1.2⟩) h1 h0) ?_)
   rintro r rfl
   cases (Pt n.2.1 s b).2 with
   | false => exact Tot.yes rfl (Tot.pure rfl)
   | true => exact Tot.no rfl (Tot.pure rfl)
theorem Fga : ∀ (m : Nat) (i : Int) (c : Cur) (z : Nod) (n : Nod), i = m → m ≤ 6 → Ek c → NG n →
  Tot (fun k => D5 k i c.1 c.2.1 c.2.2 z.1 z.2.1.1 z.2.1.2 z.2.2.1 z.2.2.2 n.1 n.2.1.1 n.2.1.2 n.2.2.1 n.2.2.2) (fun r => ∃ c' n', Ek c' ∧ NG n' ∧ r = (c'.1, c'.2.1, c'.2.2, z.1, z.2.1.1, z.2.1.2, z.2.2.1, z.2.2.2, n'.1, n'.2.1.1, n'.2.1.2, n'.2.2.1, n'.2.2.2)) := by
 intro m
 induction m with
 | zero =>
  intro i c z n hi h6 hc hn
  refine Tot.succ ?_
  simp only [D5]
  exact Tot.ndec (by omega) (Tot.pure ⟨c, n, hc, hn, rfl⟩)
 | succ m ih =>
  intro i c z n hi h6 hc hn
  refine Tot.succ ?_
  simp only [D5]
  refine Tot.dec (by omega) ?_
  rw [w64 (n := i - 1) (by omega) (by omega)]
  obtain ⟨s, c1, e1, hs, k1⟩ := Jm c hc
  refine Tot.bind (Tot.of (Q := fun r => r = (s, c1)) e1 rfl) ?_
  rintro r rfl
  refine Tot.bind (Mv c1 k1) (fun f hf => ?_)
  obtain ⟨b, c2, e2, k2⟩ := J2 f.2 hf.2 3 (by decide)
  refine Tot.bind (Tot.of (Q := fun r => r = (b, c2)) e2 rfl) ?_
  rintro r rfl
  refine Tot.bind (Bua n s f.1 (!b) (Zp hn) (Ib s hs).1) ?_
  rintro q rfl
  exact ih (i - 1) c2 z _ (by omega) (by omega) k2 (R5a hn)
def S6a : Nod := ((0 : Int), (([] : List Nmd), ([] : List Nmd)), ([] : List Row), ([] : List Row))
theorem Bva (i : Int) : Fw i = some (bif inR i 0 20 then (i, ([], []), [], []) else S6a) := by
 unfold Fw
 rw [Ro]
 simp only [Option.bind_some]
 cases inR i 0 20 <;> rfl
theorem Jea {l : List Row} (h : Dia l) (hl : l.length ≤ 60) : Iq l = true := Kq.2 ⟨h.1, fun r hr => Lfa (h.2 r hr), hl⟩
theorem Jfa (c : Cur) (hc : Ek c) : Tot (fun k => Cl k c) (fun r => NG r.1 ∧ Ek r.2) := by
 unfold Cl
 obtain ⟨x, c1, e1, x0, x1, _, k1⟩ := C3 c hc 6 (by decide)
 have x1 := x1 (by decide)
 refine Tot.bind (Tot.of (Q := fun r => r = (x, c1)) e1 rfl) ?_
 rintro r rfl
 refine Tot.bind (Tot.of (Q := fun r => r = (x, ([], []), [], [])) (by rw [Bva, Iw.2 ⟨by dsimp only; omega, by dsimp only; omega⟩]; rfl) rfl) ?_
 rintro r rfl
 obtain ⟨y, c2, e2, y0, y1, _, k2⟩ := C3 c1 k1 6 (by decide)
 have y1 := y1 (by decide)
 refine Tot.bind (Tot.of (Q := fun r => r = (y, c2)) e2 rfl) ?_
 rintro r rfl
 have hn0 : NG (x, (([] : List Nmd), ([] : List Nmd)), ([] : List Row), ([] : List Row)) := ⟨Gr.2 ⟨(by simp), ⟨by dsimp only; omega, by dsimp only; omega⟩, (show Aq ([], []) = true by decide), (show Iq [] = true by decide), (by simp)⟩, fun x hx => (by cases hx), fun x hx => (by cases hx)⟩
 refine Tot.bind (Fga y.toNat y c2 S6a _ (by omega) (by omega) k2 hn0) ?_
 rintro r ⟨c3, n, k3, hn, rfl⟩
 have rot : ∀ (n : Nod) (c : Cur), NG n → Ek c → Tot (fun k => (B7 c).bind fun r9 => (A3 r9.2 40).bind fun r10 => (Ck k n r9.1 r10.1).bind fun r11 => some (r11.1, r10.2)) (fun r => NG r.1 ∧ Ek r.2) := by
  intro n c hn hc
  obtain ⟨s, c1, e1, hs, k1⟩ := Jm c hc
  refine Tot.bind (Tot.of (Q := fun r => r = (s, c1)) e1 rfl) ?_
  rintro r rfl
  obtain ⟨x, c2, e2, x0, x1, _, k2⟩ := C3 c1 k1 40 (by decide)
  have x1 := x1 (by decide)
  refine Tot.bind (Tot.of (Q := fun r => r = (x, c2)) e2 rfl) ?_
  rintro r rfl
  refine Tot.bind (S5 n s x (Zp hn) (by omega) (by omega)) ?_
  rintro r rfl
  exact Tot.pure ⟨R6a hn, k2⟩
 obtain ⟨b, c4, e4, k4⟩ := J2 c3 k3 2 (by decide)
 refine Tot.bind (Tot.of (Q := fun r => r = (b, c4)) e4 rfl) ?_
 rintro r rfl
 refine Tot.ite (fun _ => ?_) (fun _ => ?_)
 ·refine Tot.bind (Rn c4 k4) ?_
  rintro ⟨l, c5⟩ ⟨k5, hl, hl5⟩
  refine Tot.bind (Lta n l (Zp hn) (Jba (Jea hl (by dsimp only at hl5; omega)))) ?_
  rintro r rfl
  obtain ⟨b, c6, e6, k6⟩ := J2 c5 k5 3 (by decide)
  refine Tot.bind (Tot.of (Q := fun r => r = (b, c6)) e6 rfl) ?_
  rintro r rfl
  exact Tot.ite (fun _ => rot _ c6 (Jca hn) k6) (fun _ => Tot.pure ⟨Jca hn, k6⟩)
 ·obtain ⟨b, c6, e6, k6⟩ := J2 c4 k4 3 (by decide)
  refine Tot.bind (Tot.of (Q := fun r => r = (b, c6)) e6 rfl) ?_
  rintro r rfl
  exact Tot.ite (fun _ => rot n c6 hn k6) (fun _ => Tot.pure ⟨hn, k6⟩)
theorem Naa {l : List Row} {x : Row} (h : RF l) (hl : l.length ≤ 999) (hx : Hp x.1) : RF (l ++ [x]) := by
 refine ⟨by simp only [List.length_append, List.length_cons, List.length_nil]; omega, fun y hy => ?_⟩
 rcases List.mem_append.1 hy with hy | hy
 ·exact h.2 y hy
 ·rw [List.mem_singleton.1 hy]; exact hx
theorem Fha (z n : Nod) (hs : Hp ((⟨#[97]⟩ : ByteArray))) : ∀ (m : Nat) (c : Cur) (q : List Row), 61 - q.length ≤ m → Ek c → RF q → q.length ≤ 61 →
  Tot (fun k => D6 k c.1 c.2.1 c.2.2 z.1 z.2.1.1 z.2.1.2 z.2.2.1 z.2.2.2 n.1 n.2.1.1 n.2.1.2 n.2.2.1 q) (fun r => ∃ c' q', Ek c' ∧ RF q' ∧ r = (z.1, z.2.1.1, z.2.1.2, z.2.2.1, z.2.2.2, n.1, n.2.1.1, n.2.1.2, n.2.2.1, q', c'.1, c'.2.1, c'.2.2)) := by
 intro m
 induction m with
 | zero =>
  intro c q hm hc hq hl
  refine Tot.succ ?_
  simp only [D6]
  obtain ⟨x, c1, e1, x0, x1, _, k1⟩ := C3 c hc 2 (by decide)
  have x1 := x1 (by decide)
  refine Tot.bind (Tot.of (Q := fun r => r = (x, c1)) e1 rfl) ?_
  rintro r rfl
  dsimp only
  rw [w64 (n := 60 + x) (by omega) (by omega)]
  exact Tot.ndec (by omega) (Tot.pure ⟨c1, q, k1, hq, rfl⟩)
 | succ m ih =>
  intro c q hm hc hq hl
  refine Tot.succ ?_
  simp only [D6]
  obtain ⟨x, c1, e1, x0, x1, _, k1⟩ := C3 c hc 2 (by decide)
  have x1 := x1 (by decide)
  refine Tot.bind (Tot.of (Q := fun r => r = (x, c1)) e1 rfl) ?_
  rintro r rfl
  dsimp only
  rw [w64 (n := 60 + x) (by omega) (by omega)]
  refine Tot.dite (fun h => Tot.ble (by simp only [List.length_cons, List.length_nil]; omega) ?_) (fun h => Tot.pure ⟨c1, q, k1, hq, rfl⟩)
  exact ih c1 _ (by simp only [List.length_append, List.length_cons, List.length_nil]; omega) k1 (Naa hq (by omega) hs) (by simp only [List.length_append, List.length_cons, List.length_nil]; omega)
theorem Zq (c : Cur) (hc : Ek c) : Tot (fun k => Bj k c) (fun r => NIn r.1 ∧ Ek r.2) := by
 unfold Bj
 refine Tot.bind (Jfa c hc) ?_
 rintro ⟨n, c1⟩ ⟨hg, k1⟩
 have hn := Zp hg
 have hq60 := (Gr.1 hg.1).2.2.2.2
 obtain ⟨x, c2, e2, _, _, _, k2⟩ := C3 c1 k1 12 (by decide)
 refine Tot.bind (Tot.of (Q := fun r => r = (x, c2)) e2 rfl) ?_
 rintro r rfl
 refine Tot.ite (fun _ => ?_) (fun _ => Tot.ite (fun _ => ?_) (fun _ => Tot.ite (fun _ => ?_) (fun _ => Tot.ite (fun _ => ?_) (fun _ => Tot.ite (fun _ => ?_) (fun _ => Tot.pure ⟨hn, k2⟩)))))
 ·obtain ⟨y, c3, e3, _, k3⟩ := Od c2 k2 [(-1), 20, 21] (by decide) (by decide)
  refine Tot.bind (Tot.of (Q := fun r => r = (y, c3)) e3 rfl) ?_
  rintro r rfl
  exact Tot.pure ⟨hn, k3⟩
 ·refine Tot.bind (R3a c2 k2) (fun r hr => Tot.pure ⟨⟨hr.1, hn.2⟩, hr.2⟩)
 ·refine Tot.bind (Y7 c2 k2) (fun r hr => Tot.pure ⟨⟨hn.1, ⟨by have := hr.2.1; dsimp only; omega, hr.2.2⟩, hn.2.2⟩, hr.1⟩)
 ·obtain ⟨s, c3, e3, hs, k3⟩ := Oj c2 k2
  refine Tot.bind (Tot.of (Q := fun r => r = (s, c3)) e3 rfl) ?_
  rintro r rfl
  exact Tot.ble (by dsimp only at hq60 ⊢; simp only [List.length_cons, List.length_nil]; omega) (Tot.pure ⟨⟨hn.1, hn.2.1, Naa hn.2.2 (by dsimp only at hq60 ⊢; omega) hs⟩, k3⟩)
 ·refine Tot.bind (Fha S6a n (by unfold Hp; decide) 61 c2 n.2.2.2 (by omega) k2 hn.2.2 (by dsimp only at hq60; omega)) ?_
  rintro r ⟨c3, q, k3, hq, rfl⟩
  exact Tot.pure ⟨⟨hn.1, hn.2.1, hq⟩, k3⟩
end Go.Proofs.YtgocagaijgcnmaaGreat.Vf
end

section
set_option linter.unusedVariables false
set_option linter.unusedSimpArgs false
namespace Go.Proofs.YtgocagaijgcnmaaGreat.Vf
open Go
theorem Jga (x : BitVec 32) : (cst x).getLsbD 31 = x.getLsbD 0 := by
 have h0 : (x >>> 1).getLsbD 31 = false := by
  rw [BitVec.getLsbD_ushiftRight]
  exact BitVec.getLsbD_of_ge _ _ (by decide)
 unfold cst
 cases h : x.getLsbD 0 with
 | true =>
  rw [if_pos rfl, BitVec.getLsbD_xor, h0]
  decide
 | false =>
  rw [if_neg (by simp), h0]
theorem Pl {n : Nat} {x y c : BitVec n} (h : x ^^^ c = y ^^^ c) : x = y := by
 have := congrArg (fun z => z ^^^ c) h
 simpa [BitVec.xor_assoc] using this
theorem P1a {x y : BitVec 32} (h : cst x = cst y) : x = y := by
 have h0 : x.getLsbD 0 = y.getLsbD 0 := by rw [← Jga, ← Jga, h]
 have h1 : x >>> 1 = y >>> 1 := by
  unfold cst at h
  rw [h0] at h
  cases hb : y.getLsbD 0 with
  | true => rw [hb, if_pos rfl, if_pos rfl] at h; exact Pl h
  | false => rw [hb, if_neg (by simp), if_neg (by simp)] at h; exact h
 refine BitVec.eq_of_getLsbD_eq fun i hi => ?_
 cases i with
 | zero => exact h0
 | succ i =>
  have := congrArg (fun z => z.getLsbD i) h1
  simpa [BitVec.getLsbD_ushiftRight, Nat.add_comm] using this
theorem S6 : ∀ (n : Nat) {x y : BitVec 32}, Sn n x = Sn n y → x = y
 | 0, _, _, h => h
 | n + 1, _, _, h => P1a (S6 n h)
theorem P2a {x y : BitVec 32} {b : Int} (h : cby x b = cby y b) : x = y := Pl (S6 8 h)
theorem Lva {x : BitVec 32} {a b : Int} (ha : 0 ≤ a ∧ a ≤ 255) (hb : 0 ≤ b ∧ b ≤ 255) (h : cby x a = cby x b) : a = b := by
 have h1 : x ^^^ BitVec.ofInt 32 a = x ^^^ BitVec.ofInt 32 b := S6 8 h
 rw [BitVec.xor_comm, BitVec.xor_comm x] at h1
 have h2 := Pl h1
 rw [J0a ha, J0a hb, h2]
theorem E4a : ∀ (l : List Int) {x y : BitVec 32}, l.foldl cby x = l.foldl cby y → x = y
 | [], _, _, h => h
 | _ :: l, _, _, h => P2a (E4a l h)
theorem Nba (l : List Int) : 0 ≤ crc l ∧ crc l ≤ 4294967295 := by
 unfold crc
 have := (Pka l).isLt
 omega
theorem P3a {l : List Int} {i : Nat} {y : Int} (hi : i < l.length) (hy : 0 ≤ y ∧ y ≤ 255) (hb : B4 l) (hne : y ≠ l.getD i 0) : crc (l.set i y) ≠ crc l := by
 intro h
 have h1 : Pka (l.set i y) = Pka l := BitVec.eq_of_toNat_eq (by unfold crc at h; omega)
 unfold Pka at h1
 have h2 := BitVec.not_inj.1 h1
 have e1 : l.set i y = l.take i ++ y :: l.drop (i + 1) := by rw [List.set_eq_take_append_cons_drop, if_pos hi]
 have e2 : l = l.take i ++ l.getD i 0 :: l.drop (i + 1) := by
  E7a => { lhs; rw [← List.take_append_drop i l] }
  rw [Bh (d := 0) hi]
 rw [e1, List.foldl_append, List.foldl_cons] at h2
 rw [e2] at h2
 rw [List.foldl_append, List.foldl_cons] at h2
 have e3 : (l.take i ++ l.getD i 0 :: l.drop (i + 1)).take i = l.take i := by rw [← e2]
 have e4 : (l.take i ++ l.getD i 0 :: l.drop (i + 1)).drop (i + 1) = l.drop (i + 1) := by rw [← e2]
 rw [e3, e4] at h2
 exact hne (Lva hy (hb _ (Da hi)) (E4a _ h2))
theorem R7a {a b : Int} (ha : 0 ≤ a ∧ a ≤ 4294967295) (hb : 0 ≤ b ∧ b ≤ 4294967295) (h : c4 a = c4 b) : a = b := by
 have e : ∀ c : Int, 0 ≤ c → c4 c = [c / 16777216 % 256, c / 65536 % 256, c / 256 % 256, c % 256] := fun c hc => by
  unfold c4
  rw [show (2 : Int) ^ (min (Int.toNat 24) (IntKind.bits .i64)) = 16777216 from by decide, show (2 : Int) ^ (min (Int.toNat 16) (IntKind.bits .i64)) = 65536 from by decide, show (2 : Int) ^ (min (Int.toNat 8) (IntKind.bits .i64)) = 256 from by decide,
   Int.fdiv_eq_ediv_of_nonneg _ (by omega), Int.fdiv_eq_ediv_of_nonneg _ (by omega), Int.fdiv_eq_ediv_of_nonneg _ (by omega), IntKind.wrap_u8, IntKind.wrap_u8, IntKind.wrap_u8, IntKind.wrap_u8]
 rw [e a ha.1, e b hb.1] at h
 simp only [List.cons.injEq, and_true] at h
 omega
theorem Fia {l m : List Int} {j : Nat} (h : j < l.length) : (l ++ m).getD j 0 = l.getD j 0 := by rw [List.getD_eq_getElem?_getD, List.getD_eq_getElem?_getD, List.getElem?_append_left h]
theorem Fja {l m : List Int} {j : Nat} (h : l.length ≤ j) : (l ++ m).getD j 0 = m.getD (j - l.length) 0 := by rw [List.getD_eq_getElem?_getD, List.getD_eq_getElem?_getD, List.getElem?_append_right h]
theorem Lwa {f : Fil} (hf : Fn f = true) {n : Nat} (hn : n < 8 * (Ks f).length) : Kw (Jr (Ks f) n) = none := by
 cases hg : Kw (Jr (Ks f) n) with
 | none => rfl
 | some g =>
  exfalso
  obtain ⟨g1, _, g3⟩ := J3a hg
  have hpb := Ku f
  have hj : n / 8 < (Ks f).length := by omega
  have hy := E3a ((Ks f).getD (n / 8) 0) (n % 8)
  have hne := Lra (hpb _ (Da (d := 0) hj)) (Nat.mod_lt n (show 0 < 8 by omega))
  unfold Jr at g3
  generalize Q2 ((Ks f).getD (n / 8) 0) (n % 8) = y at g3 hy hne
  generalize n / 8 = j at g3 hj hne
  have ef : Ks f = Mc f ++ c4 (crc (Mc f)) := by unfold Ks; rw [hf]; rfl
  have eg : Ks g = Mc g ++ c4 (crc (Mc g)) := by unfold Ks; rw [g1]; rfl
  have l4 : ∀ c, (c4 c).length = 4 := fun c => rfl
  rw [eg] at g3
  rw [ef] at g3 hj hne
  have hlen : (Mc g).length = (Mc f).length := by
   have := congrArg List.length g3
   rw [List.length_set, List.length_append, List.length_append, l4, l4] at this
   omega
  by_cases hjb : j < (Mc f).length
  ·rw [List.set_append_left _ _ hjb] at g3
   obtain ⟨a1, a2⟩ := List.append_inj g3 (by rw [List.length_set]; exact hlen)
   rw [Fia hjb] at hne
   have := R7a (Nba _) (Nba _) a2
   rw [a1] at this
   exact P3a hjb hy (Ll f) hne this
  ·rw [List.set_append_right _ _ (by omega)] at g3
   obtain ⟨a1, a2⟩ := List.append_inj g3 hlen
   rw [a1] at a2
   rw [Fja (by omega)] at hne
   rw [List.length_append, l4] at hj
   have : (c4 (crc (Mc f))).getD (j - (Mc f).length) 0 = y := by
    rw [a2, List.getD_eq_getElem?_getD, List.getElem?_set_self (by rw [l4]; omega), Option.getD_some]
   exact hne this.symm
end Go.Proofs.YtgocagaijgcnmaaGreat.Vf
end

section
set_option linter.unusedVariables false
set_option linter.unusedSimpArgs false
namespace Go.Proofs.YtgocagaijgcnmaaGreat.Vf
open Go
def Fka (l : List Nmd) (ns : List ByteArray) : List ByteArray := l.foldl (fun ns x => wt ns x.1) ns
def nms (d : Dsk) : List ByteArray := Fka (d.1 ++ d.2) []
def pk1 : Option Nmd → List Nmd
 | some x => [x]
 | none => []
theorem P4a (o : Option Nmd) : (pk1 o).length ≤ 1 := by cases o <;> simp [pk1]
def Se (kp : List Bool) (a b : List Nmd) : List ByteArray → Nat → List Nmd
 | [], _ => []
 | s :: ns, i => pk1 (pk (bif kp.getD i false then a else b) s) ++ Se kp a b ns (i + 1)
theorem P5a (kp : List Bool) (a b : List Nmd) (i : Nat) : Se kp a b [] i = [] := rfl
theorem Lxa (kp : List Bool) (a b : List Nmd) (s : ByteArray) (ns : List ByteArray) (i : Nat) : Se kp a b (s :: ns) i = pk1 (pk (bif kp.getD i false then a else b) s) ++ Se kp a b ns (i + 1) := rfl
def Fla (d : Dsk) (kp : List Bool) : Dsk := bif decide ((Se kp d.1 d.2 (nms d) 0).length > 60) then d else (Se kp d.1 d.2 (nms d) 0, Se kp d.1 d.2 (nms d) 0)
theorem E5a : ∀ (l : List Nmd) (ns : List ByteArray), TS ns → TS (Fka l ns)
 | [], _, h => h
 | _ :: l, _, h => E5a l _ (Iza h)
theorem Zr : ∀ (l : List Nmd) (ns : List ByteArray), (Fka l ns).length ≤ ns.length + l.length
 | [], _ => by simp [Fka]
 | x :: l, ns => by
  have h1 := Zr l (wt ns x.1)
  have h2 := E0a (l := ns) (s := x.1)
  show (Fka l (wt ns x.1)).length ≤ _
  rw [List.length_cons]
  omega
theorem R8a (d : Dsk) : TS (nms d) := E5a _ _ List.Pairwise.nil
theorem R9a (l : List Nmd) (s : ByteArray) : pk l s = (gt l s).map fun b => (s, b) := by
 unfold pk gt
 cases h : fnd l s with
 | none => rfl
 | some i => rw [Option.map_some, ← (J4 h).2]
theorem V5 (kp : List Bool) (a b : List Nmd) : ∀ (ns : List ByteArray) (i : Nat), ((Se kp a b ns i).map Prod.fst).Sublist ns
 | [], _ => List.Sublist.slnil
 | s :: ns, i => by
  unfold Se
  rw [R9a]
  cases gt (bif kp.getD i false then a else b) s with
  | none => exact (V5 kp a b ns (i + 1)).cons s
  | some c => exact (V5 kp a b ns (i + 1)).cons_cons s
theorem P6a (kp : List Bool) (a b : List Nmd) (ns : List ByteArray) (i : Nat) : (Se kp a b ns i).length ≤ ns.length := by
 have := (V5 kp a b ns i).length_le
 rwa [List.length_map] at this
theorem Fma {kp : List Bool} {a b : List Nmd} {ns : List ByteArray} {i : Nat} (h : TS ns) : Db (Se kp a b ns i) := by
 have := List.Pairwise.sublist (V5 kp a b ns i) h
 rwa [List.pairwise_map] at this
theorem Jha {kp : List Bool} {a b : List Nmd} : ∀ {ns : List ByteArray} {i : Nat} {x : Nmd}, x ∈ Se kp a b ns i → gt a x.1 = some x.2 ∨ gt b x.1 = some x.2
 | [], _, _, h => by cases h
 | s :: ns, i, x, h => by
  unfold Se at h
  rw [R9a] at h
  rcases List.mem_append.1 h with h | h
  ·cases hg : gt (bif kp.getD i false then a else b) s with
   | none => rw [hg] at h; cases h
   | some c =>
    rw [hg] at h
    rw [List.mem_singleton.1 h]
    cases hk : kp.getD i false with
    | true => rw [hk] at hg; exact .inl hg
    | false => rw [hk] at hg; exact .inr hg
  ·exact Jha h
theorem Jia {d : Dsk} {kp : List Bool} (h : DG d) : DG (Fla d kp) := by
 unfold Fla
 cases hc : decide ((Se kp d.1 d.2 (nms d) 0).length > 60) with
 | true => exact h
 | false =>
  have hl := of_decide_eq_false hc
  have n1 := (Ae.1 (Du.1 h.1).1).2.1
  have n2 := (Ae.1 (Du.1 h.1).2).2.1
  have q : Fp (Se kp d.1 d.2 (nms d) 0) = true := Ae.2 ⟨Fma (R8a d), fun x hx => (Jha hx).elim (fun e => n1 _ (K5 e)) (fun e => n2 _ (K5 e)), by omega⟩
  have b : LB (Se kp d.1 d.2 (nms d) 0) := fun x hx => (Jha hx).elim (fun e => h.2.1.gt e) (fun e => h.2.2.gt e)
  exact ⟨Du.2 ⟨q, q⟩, b, b⟩
theorem V6 {R : Type} {L : Nat → List Nmd → Option R} {Q : R → Prop} (c : List Nmd) (s : ByteArray) (acc : List Nmd) (hc : c.length ≤ 100000) (ha : acc.length ≤ 100000) (next : Tot (fun k => L k (acc ++ pk1 (pk c s))) Q) :
  Tot (fun k => (Fe k c s).bind fun r => cond (decide (r ≥ 0)) (cond (decide ((0 : Int) ≤ r)) (cond (decide (r < (List.length c : Int))) (cond (Nat.ble ((List.length acc + List.length [List.getD c (Int.toNat r) ((⟨#[]⟩ : ByteArray), [])]) * 40) 140737488355328) (L k (acc ++ [List.getD c (Int.toNat r) ((⟨#[]⟩ : ByteArray), [])])) none) none) none) (L k acc)) Q := by
 refine Tot.bind (Y8 c s (by omega)) ?_
 rintro r rfl
 unfold pk at next
 unfold Zx
 cases h : fnd c s with
 | none =>
  rw [h] at next
  simp only [pk1, List.append_nil] at next
  exact Tot.ndec (by decide) next
 | some i =>
  rw [h] at next
  have := (J4 h).1
  simp only [Int.toNat_natCast]
  exact Tot.dec (by omega) (Tot.dec (by omega) (Tot.dec (by omega) (Tot.ble (by simp only [List.length_cons, List.length_nil]; omega) next)))
theorem Jja (d : Dsk) (kp : List Bool) (hd : DG d) (hk : kp.length ≤ 1000000) : Tot (fun k => Be k d kp) (fun r => r = Fla d kp) := by
 have hin := Jz hd.1
 have g1 := (Ae.1 (Du.1 hd.1).1).2.2
 have g2 := (Ae.1 (Du.1 hd.1).2).2.2
 unfold Be
 refine Tot.bind (Qf d hin.1.1 hin.1.2) ?_
 rintro b rfl
 rw [hd.1]
 refine Tot.no rfl (Tot.ble (by simp only [List.length_nil]; omega) ?_)
 rw [List.nil_append]
 refine Tot.ble (by omega) ?_
 have hm : (d.1 ++ d.2).length ≤ 120 := by rw [List.length_append]; omega
 have hn : (nms d).length ≤ 120 := by have := Zr (d.1 ++ d.2) []; rw [List.length_nil] at this; exact Nat.le_trans this (by omega)
 refine Tot.bind (Q := fun r => r = (kp, nms d, d.1, d.2, [], [])) ?_ ?_
 ·refine Tot.up (L := fun k i s => Cg k kp s (d.1 ++ d.2) ((d.1 ++ d.2).length : Int) i d.1 d.2 [] []) (Q := fun r => r = (kp, nms d, d.1, d.2, [], [])) (d.1 ++ d.2).length (fun j s => Fka ((d.1 ++ d.2).drop j) s = nms d ∧ s.length ≤ j) ?_ ?_ 0 [] (Nat.zero_le _) ⟨rfl, Nat.le_refl _⟩
  ·rintro s ⟨h, _⟩
   rw [List.drop_length] at h
   simp (disch := omega) only [Cg, dF]
   exact Tot.pure (by rw [← h]; rfl)
  ·rintro j s hj ⟨h, hs⟩ next
   rw [Bh (d := Cb) hj] at h
   simp (disch := omega) only [Cg, dT, Int.toNat_natCast, w64]
   refine Tot.bind (Ol s _ (by omega)) ?_
   rintro q rfl
   have := E0a (l := s) (s := ((d.1 ++ d.2).getD j Cb).1)
   exact next _ ⟨h, by have e : (d.1 ++ d.2).getD j ((⟨#[]⟩ : ByteArray), ([] : List Int)) = (d.1 ++ d.2).getD j Cb := rfl; rw [e]; omega⟩
 ·rintro r rfl
  refine Tot.bind (Q := fun r => r = (Se kp d.1 d.2 (nms d) 0, d.1, d.2, [], [])) ?_ ?_
  ·refine Tot.up (L := fun k i s => Ad k kp s (nms d) ((nms d).length : Int) i d.1 d.2 [] []) (Q := fun r => r = (Se kp d.1 d.2 (nms d) 0, d.1, d.2, [], [])) (nms d).length (fun j s => s ++ Se kp d.1 d.2 ((nms d).drop j) j = Se kp d.1 d.2 (nms d) 0 ∧ s.length ≤ j) ?_ ?_ 0 [] (Nat.zero_le _) ⟨rfl, Nat.le_refl _⟩
   ·rintro s ⟨h, _⟩
    rw [List.drop_length, P5a, List.append_nil] at h
    simp (disch := omega) only [Ad, dF]
    exact Tot.pure (by rw [h])
   ·rintro j s hj ⟨h, hs⟩ next
    rw [Bh (d := Lo) hj] at h
    rw [Lxa, ← List.append_assoc] at h
    simp (disch := omega) only [Ad, dT, Int.toNat_natCast, w64]
    have hl := P4a (pk (bif kp.getD j false then d.1 else d.2) ((nms d).getD j Lo))
    have nx := next (s ++ pk1 (pk (bif kp.getD j false then d.1 else d.2) ((nms d).getD j Lo))) ⟨h, by rw [List.length_append]; omega⟩
    have e0 : (nms d).getD j (⟨#[]⟩ : ByteArray) = (nms d).getD j Lo := rfl
    rw [e0]
    refine Tot.dite (fun hc => ?_) (fun hc => ?_)
    ·refine Tot.dec (by omega) (Tot.ite (fun hk => ?_) (fun hk => ?_))
     ·rw [hk] at nx
      exact V6 (L := fun k acc => Ad k kp acc (nms d) ((nms d).length : Int) ((j : Int) + 1) d.1 d.2 [] []) d.1 _ s (by omega) (by omega) nx
     ·rw [hk] at nx
      exact V6 (L := fun k acc => Ad k kp acc (nms d) ((nms d).length : Int) ((j : Int) + 1) d.1 d.2 [] []) d.2 _ s (by omega) (by omega) nx
    ·have hk : kp.getD j false = false := by rw [List.getD_eq_getElem?_getD, List.getElem?_eq_none (by omega)]; rfl
     rw [hk] at nx
     exact V6 (L := fun k acc => Ad k kp acc (nms d) ((nms d).length : Int) ((j : Int) + 1) d.1 d.2 [] []) d.2 _ s (by omega) (by omega) nx
  ·rintro r rfl
   have hp := P6a kp d.1 d.2 (nms d) 0
   unfold Fla
   refine Tot.dite (fun h => ?_) (fun h => ?_)
   ·dsimp only at h
    rw [decide_eq_true (show (Se kp d.1 d.2 (nms d) 0).length > 60 by omega)]
    refine Tot.bind (Jy (d.1, d.2) hin.1.1) ?_
    rintro r rfl
    exact Tot.pure rfl
   ·dsimp only at h
    have hc : decide ((Se kp d.1 d.2 (nms d) 0).length > 60) = false := decide_eq_false (by omega)
    have hg := Jia (kp := kp) hd
    unfold Fla at hg
    rw [hc] at hg ⊢
    rw [cond_false] at hg
    have hf := (Jz hg.1).1.1.1
    refine Tot.bind (Jc _ hf) ?_
    rintro r rfl
    refine Tot.bind (Jc _ hf) ?_
    rintro r rfl
    exact Tot.pure rfl
end Go.Proofs.YtgocagaijgcnmaaGreat.Vf
end

section
set_option linter.unusedVariables false
set_option linter.unusedSimpArgs false
namespace Go.Proofs.YtgocagaijgcnmaaGreat.Vf
open Go
theorem P7a {d : Dsk} {s : ByteArray} {n : Int} (h : DG d) (hn : n ≤ 9223372036854775807) (hn0 : -9223372036854775808 ≤ n) : Tot (fun k => Gj k d s n) (fun r => r = Pt d s n) := by
 have hin := Jz h.1
 unfold Gj
 refine Tot.bind (Jy d hin.1.1) ?_
 rintro d rfl
 refine Tot.bind (Y8 d.1 s hin.1.1.1.1) ?_
 rintro r rfl
 refine Tot.bind (Y8 d.2 s hin.1.1.2.1) ?_
 rintro r rfl
 refine Tot.bind (Qf d hin.1.1 hin.1.2) ?_
 rintro r rfl
 rw [h.1]
 refine Tot.no rfl ?_
 unfold Pt
 unfold Zx
 cases hf : fnd d.1 s with
 | none =>
  have hg : gt d.1 s = none := by unfold gt; rw [hf]
  rw [hg]
  exact Tot.dec (by decide) (Tot.pure rfl)
 | some i =>
  have hg : gt d.1 s = some (d.1.getD i Cb).2 := by unfold gt; rw [hf]
  have hi := (J4 hf).1
  have hnm := (J4 hf).2
  have hb := J8a h.1 hg
  rw [hg]
  have e0 : d.1.getD i ((⟨#[]⟩ : ByteArray), ([] : List Int)) = d.1.getD i Cb := rfl
  simp only [Int.toNat_natCast, e0]
  refine Tot.ndec (by omega) ?_
  have out : ∀ {b : Bool}, inR n 0 (8 * ((d.1.getD i Cb).2.length : Int) - 1) = b → b = false → (d, false) = bif inR n 0 (8 * ((d.1.getD i Cb).2.length : Int) - 1) then ((wr d.1 s (Jr (d.1.getD i Cb).2 n.toNat), bif decide (gt d.2 s = some (d.1.getD i Cb).2) then wr d.2 s (Jr (d.1.getD i Cb).2 n.toNat) else d.2), true) else (d, false) := fun e e' => by rw [e, e']; rfl
  refine Tot.dite (fun hneg => Tot.pure (out rfl ?_)) (fun hneg => ?_)
  ·cases hc : inR n 0 (8 * ((d.1.getD i Cb).2.length : Int) - 1) with
   | false => rfl
   | true => have := Iw.1 hc; omega
  ·obtain ⟨m, rfl⟩ : ∃ m : Nat, n = (m : Int) := ⟨n.toNat, by omega⟩
   have et : IntKind.wrap .i64 (Int.tdiv (m : Int) 8) = ((m / 8 : Nat) : Int) := by
    rw [Int.tdiv_eq_ediv_of_nonneg (by omega), w64 (by omega) (by omega)]
    omega
   have eu : Int.tmod (m : Int) 8 = ((m % 8 : Nat) : Int) := by
    rw [Int.tmod_eq_emod_of_nonneg (by omega)]
    omega
   simp only [et, eu, Int.toNat_natCast, J9a _ _ (Nat.mod_lt m (show 0 < 8 by omega))]
   refine Tot.dec (by omega) (Tot.dec (by omega) (Tot.dite (fun hc => Tot.pure (out rfl ?_)) (fun hc => ?_)))
   ·cases hr : inR (m : Int) 0 (8 * ((d.1.getD i Cb).2.length : Int) - 1) with
    | false => rfl
    | true => have := Iw.1 hr; omega
   ·have hr : inR (m : Int) 0 (8 * ((d.1.getD i Cb).2.length : Int) - 1) = true := Iw.2 ⟨by omega, by omega⟩
    have hm8 : m / 8 < (d.1.getD i Cb).2.length := by omega
    rw [hr]
    refine Tot.ndec (by omega) (Tot.dec (by omega) (Tot.dec (by omega) (Tot.dec (by omega) (Tot.dec (by omega) (Tot.dec (by omega) (Tot.dec (by omega) ?_))))))
    have ew' : d.1.set i ((d.1.getD i Cb).1, (d.1.getD i Cb).2.set (m / 8) (Q2 ((d.1.getD i Cb).2.getD (m / 8) 0) (m % 8))) = wr d.1 s (Jr (d.1.getD i Cb).2 m) := by rw [hnm]; exact Zn (Jp h.1) hf _
    cases hf2 : fnd d.2 s with
    | none =>
     have hg2 : gt d.2 s = none := by unfold gt; rw [hf2]
     rw [hg2]
     refine Tot.ndec (by decide) (Tot.pure ?_)
     rw [ew']
     rfl
    | some j =>
     have hg2 : gt d.2 s = some (d.2.getD j Cb).2 := by unfold gt; rw [hf2]
     have hj := (J4 hf2).1
     have hjn := (J4 hf2).2
     have e1 : d.2.getD j ((⟨#[]⟩ : ByteArray), ([] : List Int)) = d.2.getD j Cb := rfl
     rw [hg2]
     simp only [Int.toNat_natCast, e1]
     refine Tot.dec (by omega) (Tot.dec (by omega) (Tot.dec (by omega) (Tot.dec (by omega) (Tot.dec (by omega) ?_))))
     rw [Om (h.2.2.gt hg2) (h.2.1.gt hg)]
     refine Tot.dite (fun he => ?_) (fun he => ?_)
     ·have hl2 : (d.2.getD j Cb).2.length = (d.1.getD i Cb).2.length := by rw [he]
      refine Tot.dec (by omega) (Tot.dec (by omega) (Tot.dec (by omega) (Tot.dec (by omega) (Tot.dec (by omega) (Tot.dec (by omega) (Tot.pure ?_))))))
      have ew2 : d.2.set j ((d.2.getD j Cb).1, (d.2.getD j Cb).2.set (m / 8) (Q2 ((d.2.getD j Cb).2.getD (m / 8) 0) (m % 8))) = wr d.2 s (Jr (d.1.getD i Cb).2 m) := by
       rw [hjn, he]
       exact Zn (Nm h.1) hf2 _
      rw [ew', ew2, he, decide_eq_true rfl]
      rfl
     ·refine Tot.pure ?_
      rw [ew', decide_eq_false (fun c => he (Option.some.inj c))]
      rfl
def clS (o : Dsk × Int) (x : Nmd) : Dsk × Int := match Kw x.2 with
 | some _ => o
 | none => ((cut o.1.1 x.1, cut o.1.2 x.1), o.2 + 1)
def N7 (d : Dsk) : Dsk × Int := d.1.foldl clS (d, 0)
theorem Raa {d : Dsk} {s : ByteArray} (h : DG d) : DG (cut d.1 s, cut d.2 s) := ⟨Du.2 ⟨Rv (Du.1 h.1).1, Rv (Du.1 h.1).2⟩, h.2.1.cut s, h.2.2.cut s⟩
theorem P8a {o : Dsk × Int} {x : Nmd} (h : DG o.1) : DG (clS o x).1 := by
 unfold clS
 cases Kw x.2 with
 | some _ => exact h
 | none => exact Raa h
theorem E6a : ∀ (l : List Nmd) (o : Dsk × Int), DG o.1 → DG (l.foldl clS o).1
 | [], _, h => h
 | _ :: l, _, h => E6a l _ (P8a h)
theorem Lya {d : Dsk} (h : DG d) : DG (N7 d).1 := E6a _ _ h
def Zy (l : List Nmd) : List ByteArray := (l.filter fun x => (Kw x.2).isNone).map Prod.fst
theorem S7 : ∀ (l : List Nmd) (o : Dsk × Int), DG o.1 → ((l.foldl clS o).2 = o.2 + ((Zy l).length : Int)) ∧ ∀ t, (t ∈ Zy l → gt (l.foldl clS o).1.1 t = none ∧ gt (l.foldl clS o).1.2 t = none) ∧ (t ∉ Zy l → gt (l.foldl clS o).1.1 t = gt o.1.1 t ∧ gt (l.foldl clS o).1.2 t = gt o.1.2 t)
 | [], o, h => ⟨by simp [Zy], fun t => ⟨fun c => by simp [Zy] at c, fun _ => ⟨rfl, rfl⟩⟩⟩
 | x :: l, o, h => by
  obtain ⟨h1, h2⟩ := S7 l (clS o x) (P8a h)
  rw [List.foldl_cons]
  cases hx : Kw x.2 with
  | some f =>
   have e : Zy (x :: l) = Zy l := by unfold Zy; rw [List.filter_cons, hx]; rfl
   have ec : clS o x = o := by unfold clS; rw [hx]
   rw [e]
   rw [ec] at h1 h2 ⊢
   exact ⟨h1, h2⟩
  | none =>
   have e : Zy (x :: l) = x.1 :: Zy l := by unfold Zy; rw [List.filter_cons, hx]; rfl
   have ec : clS o x = ((cut o.1.1 x.1, cut o.1.2 x.1), o.2 + 1) := by unfold clS; rw [hx]
   rw [e]
   rw [ec] at h1 h2 ⊢
   refine ⟨by rw [h1, List.length_cons]; omega, fun t => ⟨fun ht => ?_, fun ht => ?_⟩⟩
   ·by_cases hb : t ∈ Zy l
    ·exact (h2 t).1 hb
    ·obtain ⟨a1, a2⟩ := (h2 t).2 hb
     have : x.1 = t := by
      rcases List.mem_cons.1 ht with e | e
      ·exact e.symm
      ·exact absurd e hb
     rw [a1, a2, Tu (Jp h.1), Tu (Nm h.1), if_pos this, if_pos this]
     exact ⟨rfl, rfl⟩
   ·obtain ⟨a1, a2⟩ := (h2 t).2 (fun c => ht (List.mem_cons_of_mem _ c))
    have : x.1 ≠ t := fun e => ht (by rw [← e]; exact List.mem_cons_self)
    rw [a1, a2, Tu (Jp h.1), Tu (Nm h.1), if_neg this, if_neg this]
    exact ⟨rfl, rfl⟩
theorem Lza {d : Dsk} (hd : Aq d = true) {t : ByteArray} : t ∈ Zy d.1 ↔ ∃ b, gt d.1 t = some b ∧ Kw b = none := by
 unfold Zy
 rw [List.mem_map]
 constructor
 ·rintro ⟨x, hx, rfl⟩
  obtain ⟨h1, h2⟩ := List.mem_filter.1 hx
  exact ⟨x.2, J4a (Jp hd) h1, by simpa using h2⟩
 ·rintro ⟨b, h1, h2⟩
  exact ⟨(t, b), List.mem_filter.2 ⟨K5 h1, by simp [h2]⟩, rfl⟩
theorem Jka (d : Dsk) (hd : DG d) : Tot (fun k => Fa k d) (fun r => r = N7 d) := by
 have hin := Jz hd.1
 have hl := (Ae.1 (Du.1 hd.1).1).2.2
 unfold Fa
 refine Tot.bind (Jy d hin.1.1) ?_
 rintro d rfl
 refine Tot.bind (Qf d hin.1.1 hin.1.2) ?_
 rintro r rfl
 rw [hd.1]
 refine Tot.no rfl (Tot.bind (Q := fun r => r = ((N7 d).2, [], [], (N7 d).1)) ?_ (by rintro r rfl; exact Tot.pure rfl))
 refine Tot.up (L := fun k i (s : Dsk × Int) => Ee k s.2 d.1 (d.1.length : Int) i [] [] s.1.1 s.1.2) (Q := fun r => r = ((N7 d).2, [], [], (N7 d).1)) d.1.length (fun j s => (d.1.drop j).foldl clS s = N7 d ∧ DG s.1 ∧ 0 ≤ s.2 ∧ s.2 ≤ j) ?_ ?_ 0 (d, 0) (Nat.zero_le _) ⟨rfl, hd, Int.le_refl 0, by simp⟩
 ·rintro s ⟨h, _⟩
  rw [List.drop_length] at h
  simp (disch := omega) only [Ee, dF]
  exact Tot.pure (by rw [← h]; rfl)
 ·rintro j s hj ⟨h, hg, s0, s1⟩ next
  rw [Bh (d := Cb) hj, List.foldl_cons] at h
  have hsi := Jz hg.1
  have hx := Da (d := Cb) hj
  simp (disch := omega) only [Ee, dT, Int.toNat_natCast, w64]
  have e0 : d.1.getD j ((⟨#[]⟩ : ByteArray), ([] : List Int)) = d.1.getD j Cb := rfl
  rw [e0]
  refine Tot.bind (Rz _ (hd.2.1 _ hx) (hin.1.1.1.2 _ hx)) ?_
  rintro r rfl
  have hcg := P8a (x := d.1.getD j Cb) hg
  unfold clS at h hcg
  unfold Pk
  cases hf : Kw (d.1.getD j Cb).2 with
  | some f =>
   rw [hf] at h
   exact Tot.no rfl (next _ ⟨h, hg, s0, by omega⟩)
  | none =>
   rw [hf] at h hcg
   refine Tot.yes rfl (Tot.bind (Dsa s.1.1 _ hsi.1.1.1.1) ?_)
   rintro r rfl
   refine Tot.bind (Dsa s.1.2 _ hsi.1.1.2.1) ?_
   rintro r rfl
   rw [Mb (Jp hg.1), Mb (Nm hg.1)]
   exact next ((cut s.1.1 (d.1.getD j Cb).1, cut s.1.2 (d.1.getD j Cb).1), s.2 + 1) ⟨h, hcg, by dsimp only; omega, by dsimp only; omega⟩
end Go.Proofs.YtgocagaijgcnmaaGreat.Vf
end

section
set_option linter.unusedVariables false
set_option linter.unusedSimpArgs false
namespace Go.Proofs.YtgocagaijgcnmaaGreat.Vf
open Go
def M0a (d : Dsk) : List ByteArray := (d.1.filter fun x => (Kw x.2).isSome).map Prod.fst
def hI (d : Dsk) (out : List ByteArray) (x : Nmd) : List ByteArray := bif (lkD d x.1).2 == 0 then wt out x.1 else out
def So (d : Dsk) : List ByteArray := d.1.foldl (hI d) []
theorem Jla (d : Dsk) : ∀ (l : List Nmd) (out : List ByteArray), (l.foldl (hI d) out).length ≤ out.length + l.length
 | [], out => by simp
 | x :: l, out => by
  have h1 := Jla d l (hI d out x)
  have h2 : (hI d out x).length ≤ out.length + 1 := by
   unfold hI
   cases (lkD d x.1).2 == 0 with
   | false => exact Nat.le_succ _
   | true => exact E0a
  rw [List.foldl_cons, List.length_cons]
  omega
theorem V7 (d : Dsk) (hd : DIn d) (hb : DB d) : Tot (fun k => Dk k d) (fun r => r = So d) := by
 have hl := hd.2.1
 unfold Dk
 refine Tot.bind (Q := fun r => r = So d) ?_ (by rintro r rfl; exact Tot.pure rfl)
 refine Tot.up (L := fun k i s => Fb k s d.1 (d.1.length : Int) i d.1 d.2) (Q := fun r => r = So d) d.1.length (fun j s => (d.1.drop j).foldl (hI d) s = So d ∧ s.length ≤ j) ?_ ?_ 0 [] (Nat.zero_le _) ⟨rfl, Nat.le_refl _⟩
 ·rintro s ⟨h, _⟩
  rw [List.drop_length] at h
  simp (disch := omega) only [Fb, dF]
  exact Tot.pure h
 ·rintro j s hj ⟨h, hs⟩ next
  rw [Bh (d := Cb) hj, List.foldl_cons] at h
  simp (disch := omega) only [Fb, dT, Int.toNat_natCast, w64]
  have e0 : d.1.getD j ((⟨#[]⟩ : ByteArray), ([] : List Int)) = d.1.getD j Cb := rfl
  rw [e0]
  refine Tot.bind (V4 hd.1.1.1 hb.1 _) ?_
  rintro r rfl
  unfold hI at h
  cases hc : (lkD d (d.1.getD j Cb).1).2 == 0 with
  | false =>
   rw [hc] at h
   exact Tot.no rfl (next _ ⟨h, by omega⟩)
  | true =>
   rw [hc] at h
   refine Tot.yes rfl (Tot.bind (Ol s _ (by omega)) ?_)
   rintro r rfl
   have := E0a (l := s) (s := (d.1.getD j Cb).1)
   exact next _ ⟨h, by omega⟩
theorem Zs {p : ByteArray → Bool} : ∀ {l : List ByteArray}, (∀ y ∈ l, p y = true) → l.takeWhile p = l
 | [], _ => rfl
 | x :: l, h => by rw [List.takeWhile_cons, if_pos (h x List.mem_cons_self), Zs (fun y hy => h y (List.mem_cons_of_mem _ hy))]
theorem P9a {l : List ByteArray} {s : ByteArray} (h : ∀ y ∈ l, tlt y s = true) : wt l s = l ++ [s] := by
 have e : tpl l s = l.length := by
  unfold tpl
  rw [Zs h]
 unfold wt
 rw [e, if_neg (by omega), List.take_length, List.drop_length, List.append_nil]
theorem Rba {d : Dsk} (hs : Db d.1) {x : Nmd} (hx : x ∈ d.1) : ((lkD d x.1).2 == 0) = (Kw x.2).isSome := by
 unfold lkD
 rw [J4a hs hx]
 simp only
 cases Kw x.2 <;> rfl
theorem M1a {d : Dsk} (hs : Db d.1) : So d = M0a d := by
 have key : ∀ (l : List Nmd) (out : List ByteArray), (∀ x ∈ l, x ∈ d.1) → Db l → (∀ y ∈ out, ∀ x ∈ l, tlt y x.1 = true) → l.foldl (hI d) out = out ++ (l.filter fun x => (Kw x.2).isSome).map Prod.fst := by
  intro l
  induction l with
  | nil => intro out _ _ _; simp
  | cons x l ih =>
   intro out hm hsl ho
   obtain ⟨h1, h2⟩ := List.pairwise_cons.1 hsl
   rw [List.foldl_cons, List.filter_cons]
   have hx := Rba hs (hm x List.mem_cons_self)
   unfold hI
   rw [hx]
   cases hf : (Kw x.2).isSome with
   | false => exact ih out (fun y hy => hm y (List.mem_cons_of_mem _ hy)) h2 (fun y hy z hz => ho y hy z (List.mem_cons_of_mem _ hz))
   | true =>
    rw [cond_true, P9a (fun y hy => ho y hy x List.mem_cons_self), if_pos rfl, List.map_cons]
    have := ih (out ++ [x.1]) (fun y hy => hm y (List.mem_cons_of_mem _ hy)) h2 (fun y hy z hz => by
     rcases List.mem_append.1 hy with hy | hy
     ·exact ho y hy z (List.mem_cons_of_mem _ hz)
     ·rw [List.mem_singleton.1 hy]; exact h1 z hz)
    unfold hI at this
    rw [this, List.append_assoc]
    rfl
 unfold So M0a
 rw [key d.1 [] (fun _ h => h) hs (fun y hy => by cases hy), List.nil_append]
theorem Jma {d : Dsk} (hd : Aq d = true) {t : ByteArray} : t ∈ M0a d ↔ ∃ f, old d t = some f := by
 unfold M0a old
 rw [List.mem_map]
 constructor
 ·rintro ⟨x, hx, rfl⟩
  obtain ⟨h1, h2⟩ := List.mem_filter.1 hx
  rw [J4a (Jp hd) h1, Option.bind_some]
  exact Option.isSome_iff_exists.1 h2
 ·rintro ⟨f, hf⟩
  cases hg : gt d.1 t with
  | none => rw [hg] at hf; cases hf
  | some b =>
   rw [hg, Option.bind_some] at hf
   exact ⟨(t, b), List.mem_filter.2 ⟨K5 hg, by simp [hf]⟩, rfl⟩
def Qi (l : List ByteArray) (s : ByteArray) : Bool := l.any fun y => teq y s
theorem M2a {l : List ByteArray} {s : ByteArray} : Qi l s = true ↔ s ∈ l := by
 unfold Qi
 rw [List.any_eq_true]
 constructor
 ·rintro ⟨x, hx, e⟩; rw [← Gp.1 e]; exact hx
 ·intro h; exact ⟨s, h, Gp.2 rfl⟩
theorem M3a (l : List ByteArray) (s : ByteArray) (hl : l.length ≤ 1000000000) : Tot (fun k => G9 k l s) (fun r => r = Qi l s) := by
 unfold G9
 refine Tot.bind (Q := fun r => r = bif Qi l s then .inl true else .inr ()) ?_ (by rintro r rfl; cases Qi l s <;> exact Tot.pure rfl)
 refine Tot.up (L := fun k i (_ : Unit) => E6 k l s i) (Q := fun r => r = bif Qi l s then .inl true else .inr ()) l.length (fun j _ => Qi (l.drop j) s = Qi l s) ?_ ?_ 0 () (Nat.zero_le _) rfl
 ·intro _ h
  rw [List.drop_length] at h
  simp (disch := omega) only [E6, dF, ← h]
  exact Tot.pure rfl
 ·intro j _ hj h next
  rw [Bh (d := Lo) hj] at h
  unfold Qi at h
  rw [List.any_cons] at h
  simp (disch := omega) only [E6, dT, Int.toNat_natCast, w64]
  refine Tot.ite (fun hc => Tot.pure ?_) (fun hc => next () ?_)
  ·rw [show teq (l.getD j Lo) s = true from hc, Bool.true_or] at h
   unfold Qi
   rw [← h]
   rfl
  ·rw [show teq (l.getD j Lo) s = false from hc, Bool.false_or] at h
   exact h
def Jsa (l : List ByteArray) : Nat → ByteArray → List ByteArray × Nat
 | 0, _ => (l, 0)
 | k + 1, s => bif tlt s (l.getD k Lo) then Jsa (l.set (k + 1) (l.getD k Lo)) k s else (l, k + 1)
def Rca (l : List ByteArray) (s : ByteArray) : List ByteArray := (Jsa (l ++ [s]) l.length s).1.set (Jsa (l ++ [s]) l.length s).2 s
theorem V8 : ∀ (k : Nat) (l : List ByteArray) (s : ByteArray), (Jsa l k s).1.length = l.length ∧ (Jsa l k s).2 ≤ k ∧ ∀ y ∈ (Jsa l k s).1, y ∈ l ∨ y = Lo
 | 0, _, _ => ⟨rfl, Nat.le_refl _, fun _ h => .inl h⟩
 | k + 1, l, s => by
  unfold Jsa
  cases tlt s (l.getD k Lo) with
  | false => exact ⟨rfl, Nat.le_refl _, fun _ h => .inl h⟩
  | true =>
   obtain ⟨h1, h2, h3⟩ := V8 k (l.set (k + 1) (l.getD k Lo)) s
   rw [cond_true]
   refine ⟨by rw [h1, List.length_set], by omega, fun y hy => ?_⟩
   rcases h3 y hy with h | h
   ·rcases List.mem_or_eq_of_mem_set h with h | h
    ·exact .inl h
    ·by_cases hk : k < l.length
     ·rw [h]; exact .inl (Da hk)
     ·rw [h, List.getD_eq_getElem?_getD, List.getElem?_eq_none (by omega)]; exact .inr rfl
   ·exact .inr h
theorem M4a (l : List ByteArray) (s : ByteArray) : (Rca l s).length = l.length + 1 := by
 unfold Rca
 rw [List.length_set, (V8 _ _ _).1, List.length_append]
 rfl
theorem M5a {l : List ByteArray} {s y : ByteArray} (h : y ∈ Rca l s) : y ∈ l ∨ y = s ∨ y = Lo := by
 unfold Rca at h
 rcases List.mem_or_eq_of_mem_set h with h | h
 ·rcases (V8 _ _ _).2.2 y h with h | h
  ·rcases List.mem_append.1 h with h | h
   ·exact .inl h
   ·exact .inr (.inl (List.mem_singleton.1 h))
  ·exact .inr (.inr h)
 ·exact .inr (.inl h)
def hS1 (l : List Nmd) (j : Nat) (out : List ByteArray) (x : Nmd) : List ByteArray := bif (Kw x.2).isSome && (!(Qi out x.1) && (Zx l x.1 == (j : Int))) then Rca out x.1 else out
def hS (l : List Nmd) : List Nmd → Nat → List ByteArray → List ByteArray
 | [], _, out => out
 | x :: r, j, out => hS l r (j + 1) (hS1 l j out x)
def Zt (d : Dsk) : List ByteArray := hS d.1 d.1 0 []
theorem Jna (l : List Nmd) (j : Nat) (out : List ByteArray) (x : Nmd) : (hS1 l j out x).length ≤ out.length + 1 := by
 unfold hS1
 cases (Kw x.2).isSome && (!(Qi out x.1) && (Zx l x.1 == (j : Int))) with
 | false => exact Nat.le_succ _
 | true => rw [cond_true, M4a]; exact Nat.le_refl _
theorem Rda (l : List Nmd) (hl : Jo l) : ∀ (r : List Nmd) (j : Nat) (out : List ByteArray), (∀ x ∈ r, x ∈ l) → (∀ y ∈ out, Hp y) → (hS l r j out).length ≤ out.length + r.length ∧ ∀ y ∈ hS l r j out, Hp y
 | [], _, out, _, h => ⟨by simp [hS], h⟩
 | x :: r, j, out, hm, h => by
  have h2 := Jna l j out x
  obtain ⟨a1, a2⟩ := Rda l hl r (j + 1) (hS1 l j out x) (fun y hy => hm y (List.mem_cons_of_mem _ hy)) (fun y hy => by
   unfold hS1 at hy
   cases hc : (Kw x.2).isSome && (!(Qi out x.1) && (Zx l x.1 == (j : Int))) with
   | false => rw [hc] at hy; exact h y hy
   | true =>
    rw [hc] at hy
    rcases M5a hy with hy | rfl | rfl
    ·exact h y hy
    ·exact hl x (hm x List.mem_cons_self)
    ·unfold Hp; decide)
  refine ⟨?_, a2⟩
  show (hS l r (j + 1) (hS1 l j out x)).length ≤ _
  rw [List.length_cons]
  omega
theorem Bwa (a b : List Nmd) (j : Nat) (hj : j < a.length) (ha : a.length ≤ 100000) : ∀ (k : Nat) (x : List ByteArray), k < x.length → x.length ≤ 100000 →
  Tot (fun n => G0 n x (j : Int) (k : Int) a b) (fun r => r = ((Jsa x k (a.getD j Cb).1).1, (j : Int), ((Jsa x k (a.getD j Cb).1).2 : Int), a, b)) := by
 intro k
 induction k with
 | zero =>
  intro x hk hx
  refine Tot.succ ?_
  simp (disch := omega) only [G0, dF]
  exact Tot.pure rfl
 | succ k ih =>
  intro x hk hx
  refine Tot.succ ?_
  have e1 : ((k + 1 : Nat) : Int) - 1 = (k : Int) := by omega
  simp (disch := omega) only [G0, dT, w64, e1, Int.toNat_natCast]
  have e0 : a.getD j ((⟨#[]⟩ : ByteArray), ([] : List Int)) = a.getD j Cb := rfl
  rw [e0]
  unfold Jsa
  refine Tot.ite (fun h => ?_) (fun h => ?_)
  ·rw [Ida] at h
   rw [show tlt (a.getD j Cb).1 (x.getD k Lo) = true from h, cond_true]
   exact ih _ (by rw [List.length_set]; omega) (by rw [List.length_set]; omega)
  ·rw [Ida] at h
   rw [show tlt (a.getD j Cb).1 (x.getD k Lo) = false from h, cond_false]
   exact Tot.pure rfl
theorem M6a (d : Dsk) (hd : DIn d) (hb : DB d) : Tot (fun k => Fh k d) (fun r => r = Zt d) := by
 have hl := hd.2.1
 unfold Fh
 refine Tot.bind (Q := fun r => r = Zt d) ?_ (by rintro r rfl; exact Tot.pure rfl)
 refine Tot.up (L := fun k i s => Dt k s i d.1 d.2) (Q := fun r => r = Zt d) d.1.length (fun j s => hS d.1 (d.1.drop j) j s = Zt d ∧ s.length ≤ j) ?_ ?_ 0 [] (Nat.zero_le _) ⟨rfl, Nat.le_refl _⟩
 ·rintro s ⟨h, _⟩
  rw [List.drop_length] at h
  simp (disch := omega) only [Dt, dF]
  exact Tot.pure h
 ·rintro j s hj ⟨h, hs⟩ next
  rw [Bh (d := Cb) hj] at h
  have hlen := Jna d.1 j s (d.1.getD j Cb)
  have nx := next _ ⟨show hS d.1 (d.1.drop (j + 1)) (j + 1) (hS1 d.1 j s (d.1.getD j Cb)) = Zt d from h, by omega⟩
  have hx := Da (d := Cb) hj
  simp (disch := omega) only [Dt, dT, Int.toNat_natCast, w64]
  have e0 : d.1.getD j ((⟨#[]⟩ : ByteArray), ([] : List Int)) = d.1.getD j Cb := rfl
  rw [e0]
  unfold hS1 at nx
  refine Tot.bind (S4 _ (hb.1 _ hx) (hd.1.1.1.2 _ hx)) ?_
  rintro r rfl
  unfold Pk
  cases hf : Kw (d.1.getD j Cb).2 with
  | none =>
   rw [hf] at nx
   exact Tot.yes rfl nx
  | some f =>
   rw [hf] at nx
   refine Tot.no rfl (Tot.bind (M3a s _ (by omega)) ?_)
   rintro r rfl
   cases hc : Qi s (d.1.getD j Cb).1 with
   | true =>
    rw [hc] at nx
    exact Tot.yes rfl nx
   | false =>
    rw [hc] at nx
    refine Tot.no rfl (Tot.bind (Z1 d.1 _ (by omega)) ?_)
    rintro r rfl
    cases he : Zx d.1 (d.1.getD j Cb).1 == (j : Int) with
    | false =>
     rw [he] at nx
     exact Tot.yes (by unfold bne; rw [he]; rfl) nx
    | true =>
     rw [he] at nx
     refine Tot.no (by unfold bne; rw [he]; rfl) (Tot.ble (by simp only [List.length_cons, List.length_nil]; omega) ?_)
     have hq := Bwa d.1 d.2 j hj (by omega) s.length (s ++ [(d.1.getD j Cb).1]) (by simp) (by simp only [List.length_append, List.length_cons, List.length_nil]; omega)
     refine Tot.bind hq ?_
     rintro r rfl
     obtain ⟨w1, w2, _⟩ := V8 s.length (s ++ [(d.1.getD j Cb).1]) (d.1.getD j Cb).1
     rw [List.length_append] at w1
     simp only [List.length_cons, List.length_nil] at w1
     simp (disch := omega) only [dT, Int.toNat_natCast, w64]
     exact nx
end Go.Proofs.YtgocagaijgcnmaaGreat.Vf
end

section
set_option linter.unusedVariables false
set_option linter.unusedSimpArgs false
namespace Go.Proofs.YtgocagaijgcnmaaGreat.Vf
open Go
theorem Bxa (n : Nod) (s : ByteArray) (b : Int) (hn : NIn n) (h1 : b ≤ 9223372036854775807) (h0 : -9223372036854775808 ≤ b) : Tot (fun k => G3 k n s b) (fun r => r = P0a n s b) := by
 unfold G3 P0a
 refine Tot.bind (Mf n hn) ?_
 rintro n rfl
 refine Tot.bind (V4 hn.1.1.1.1.1 hn.1.2.1 s) ?_
 rintro r rfl
 refine Tot.bind (My n hn) ?_
 rintro r rfl
 cases h : I7 n with
 | false => exact Tot.yes rfl (Tot.pure rfl)
 | true =>
  refine Tot.no rfl ?_
  cases hl : (lkD n.2.1 s).2 == 0 with
  | false => exact Tot.yes (by unfold bne; rw [hl]; rfl) (Tot.pure rfl)
  | true =>
   refine Tot.no (by unfold bne; rw [hl]; rfl) (Tot.bind (P7a (NG.g ⟨h, hn.1.2⟩) h1 h0) ?_)
   rintro r rfl
   refine Tot.pure ?_
   cases hr : (Pt n.2.1 s b).2 with
   | true => rfl
   | false =>
    have e : (Pt n.2.1 s b).1 = n.2.1 := by
     unfold Pt at hr ⊢
     cases hg : gt n.2.1.1 s with
     | none => rfl
     | some c =>
      rw [hg] at hr
      simp only at hr ⊢
      cases hc : inR b 0 (8 * (c.length : Int) - 1) with
      | false => rfl
      | true => rw [hc] at hr; cases hr
    rw [e]
    rfl
def Nca (n : Nod) : Nod × Int := ((n.1, (N7 n.2.1).1, n.2.2), (N7 n.2.1).2)
def On (n : Nod) (kp : List Bool) : Nod := bif I7 n then (n.1, Fla n.2.1 kp, n.2.2) else n
theorem Bya {n : Nod} (hn : NG n) {d : Dsk} (hd : DG d) : NG (n.1, d, n.2.2) := by
 obtain ⟨h1, h2, h3, h4, h5⟩ := Gr.1 hn.1
 exact ⟨Gr.2 ⟨h1, h2, hd.1, h4, h5⟩, hd.2⟩
theorem Rea {n : Nod} (hn : NG n) : NG (Nca n).1 := Bya hn (Lya hn.g)
theorem M7a {n : Nod} {kp : List Bool} (hn : NG n) : NG (On n kp) := by
 unfold On
 rw [hn.1]
 exact Bya hn (Jia hn.g)
theorem Joa (n : Nod) (hn : NG n) : Tot (fun k => E7 k n) (fun r => r = Nca n) := by
 unfold E7
 refine Tot.bind (Mf n (Zp hn)) ?_
 rintro n rfl
 refine Tot.bind (Jka n.2.1 hn.g) ?_
 rintro r rfl
 exact Tot.pure rfl
theorem Jpa (n : Nod) (kp : List Bool) (hn : NIn n) (hk : kp.length ≤ 1000000) : Tot (fun k => E5 k n kp) (fun r => r = On n kp) := by
 unfold E5 On
 refine Tot.bind (Mf n hn) ?_
 rintro n rfl
 refine Tot.bind (My n hn) ?_
 rintro r rfl
 cases h : I7 n with
 | false => exact Tot.no rfl (Tot.pure rfl)
 | true =>
  refine Tot.yes rfl (Tot.bind (Jja n.2.1 kp (NG.g ⟨h, hn.1.2⟩) hk) ?_)
  rintro r rfl
  exact Tot.pure rfl
theorem V9 : ∀ (n : Nat) (i : Int) (acc : List Bool) (c : Cur), i = n → n ≤ 6 → Ek c → acc.length ≤ 6 - n →
  Tot (fun k => E4 k acc i c.1 c.2.1 c.2.2) (fun r => r.1.length ≤ 6 ∧ Ek r.2) := by
 intro n
 induction n with
 | zero =>
  intro i acc c hi h6 hc ha
  refine Tot.succ ?_
  simp only [E4]
  exact Tot.ndec (by omega) (Tot.pure ⟨by dsimp only; omega, hc⟩)
 | succ n ih =>
  intro i acc c hi h6 hc ha
  refine Tot.succ ?_
  simp only [E4]
  refine Tot.dec (by omega) ?_
  rw [w64 (n := i - 1) (by omega) (by omega)]
  obtain ⟨b, c1, e1, k1⟩ := J2 c hc 2 (by decide)
  refine Tot.bind (Tot.of (Q := fun r => r = (b, c1)) e1 rfl) ?_
  rintro r rfl
  exact Tot.ble (by simp only [List.length_cons, List.length_nil]; omega) (ih (i - 1) _ c1 (by omega) (by omega) k1 (by simp only [List.length_append, List.length_cons, List.length_nil]; omega))
theorem Fna (c : Cur) (hc : Ek c) : Tot (fun k => Dm k c) (fun r => r.1.length ≤ 6 ∧ Ek r.2) := by
 unfold Dm
 obtain ⟨x, c2, e2, h0, h1, _, k2⟩ := C3 c hc 7 (by decide)
 have h1 := h1 (by decide)
 refine Tot.bind (Tot.of (Q := fun r => r = (x, c2)) e2 rfl) ?_
 rintro r rfl
 refine Tot.bind (V9 x.toNat x [] c2 (by omega) (by omega) k2 (by simp)) (fun r hr => Tot.pure hr)
theorem Vr (a b : List ByteArray) (hl : a.length ≤ 1000000) : Tot (fun k => Bv k a b) (fun r => r = decide (a = b)) := by
 unfold Bv
 cases hc : ((a.length : Int) == (b.length : Int)) with
 | false =>
  refine Tot.yes (by unfold bne; rw [hc]; rfl) (Tot.pure (decide_eq_false ?_).symm)
  rintro rfl
  simp at hc
 | true =>
  have hlen : a.length = b.length := by have := eq_of_beq hc; omega
  refine Tot.no (by unfold bne; rw [hc]; rfl) (Tot.bind (Q := fun r => r = bif decide (a = b) then .inr () else .inl false) ?_ (by rintro r rfl; cases decide (a = b) <;> exact Tot.pure rfl))
  refine Tot.up (L := fun k i (_ : Unit) => C2 k a b i) (Q := fun r => r = bif decide (a = b) then .inr () else .inl false) a.length (fun j _ => decide (a.drop j = b.drop j) = decide (a = b)) ?_ ?_ 0 () (Nat.zero_le _) rfl
  ·intro _ h
   rw [List.drop_length, List.drop_of_length_le (by omega), decide_eq_true rfl] at h
   simp (disch := omega) only [C2, dF, ← h]
   exact Tot.pure rfl
  ·intro j _ hj h next
   rw [Bh (d := Lo) hj, Bh (d := Lo) (show j < b.length by omega)] at h
   simp (disch := omega) only [C2, dT, Int.toNat_natCast, w64]
   refine Tot.ite (fun hc => Tot.pure ?_) (fun hc => next () ?_)
   ·have hne : a.getD j Lo ≠ b.getD j Lo := fun e => by
     rw [Bool.not_eq_true'] at hc
     have : teq (a.getD j Lo) (b.getD j Lo) = false := hc
     rw [e, Gp.2 rfl] at this
     cases this
    rw [decide_eq_false (fun e => hne (List.cons.inj e).1)] at h
    rw [← h]
    rfl
   ·have he : a.getD j Lo = b.getD j Lo := by
     rw [Bool.not_eq_false'] at hc
     exact Gp.1 hc
    rw [← h, he]
    simp
theorem Bza (l : List ByteArray) (s : ByteArray) (hl : l.length ≤ 1000000000) : Tot (fun k => Fc k l s) (fun r => r = Qi l s) := by
 unfold Fc
 refine Tot.bind (Q := fun r => r = bif Qi l s then .inl true else .inr ()) ?_ (by rintro r rfl; cases Qi l s <;> exact Tot.pure rfl)
 refine Tot.up (L := fun k i (_ : Unit) => D9 k l s i) (Q := fun r => r = bif Qi l s then .inl true else .inr ()) l.length (fun j _ => Qi (l.drop j) s = Qi l s) ?_ ?_ 0 () (Nat.zero_le _) rfl
 ·intro _ h
  rw [List.drop_length] at h
  simp (disch := omega) only [D9, dF, ← h]
  exact Tot.pure rfl
 ·intro j _ hj h next
  rw [Bh (d := Lo) hj] at h
  unfold Qi at h
  rw [List.any_cons] at h
  simp (disch := omega) only [D9, dT, Int.toNat_natCast, w64]
  refine Tot.ite (fun hc => Tot.pure ?_) (fun hc => next () ?_)
  ·rw [show teq (l.getD j Lo) s = true from hc, Bool.true_or] at h
   unfold Qi
   rw [← h]
   rfl
  ·rw [show teq (l.getD j Lo) s = false from hc, Bool.false_or] at h
   exact h
end Go.Proofs.YtgocagaijgcnmaaGreat.Vf
end

section
set_option linter.unusedVariables false
set_option linter.unusedSimpArgs false
namespace Go.Proofs.YtgocagaijgcnmaaGreat.Pure
open Go Go.RowKit Go.Proofs.YtgocagaijgcnmaaGreat.Vf
theorem C0a (a0 : List Int) (hb : (a0.length : Int) ≤ 1048576) : Tot (fun k => Ch k a0) (fun r => NIn r.1 ∧ -9223372036854775808 ≤ r.2.2 ∧ r.2.2 ≤ 9223372036854775807) := by
 unfold Ch
 refine Tot.bind (Xw a0 hb) (fun c hc => ?_)
 refine Tot.bind (Zq c hc) ?_
 rintro ⟨n, c1⟩ ⟨hn, k1⟩
 dsimp only at hn k1
 obtain ⟨s, c2, e2, hs, k2⟩ := Jm c1 k1
 refine Tot.bind (Tot.of (Q := fun r => r = (s, c2)) e2 rfl) ?_
 rintro r rfl
 refine Tot.bind (M6a n.2.1 hn.1.1 hn.1.2) ?_
 rintro r rfl
 have hl := (Rda n.2.1.1 hn.1.1.1.2.1 n.2.1.1 0 [] (fun _ h => h) (fun y hy => by cases hy)).1
 have h2 := hn.1.1.2.1
 rw [List.length_nil] at hl
 have fin : ∀ (c : Cur) (t : ByteArray), Ek c → Tot (fun k => (B3 c [0, 1, 9, 33, (-1), 5000]).bind fun r8 => some (n, t, r8.1)) (fun r => NIn r.1 ∧ -9223372036854775808 ≤ r.2.2 ∧ r.2.2 ≤ 9223372036854775807) := by
  intro c t hc
  obtain ⟨x, c', e, hx, _⟩ := Od c hc [0, 1, 9, 33, (-1), 5000] (by decide) (by decide)
  refine Tot.bind (Tot.of (Q := fun r => r = (x, c')) e rfl) ?_
  rintro r rfl
  simp only [List.mem_cons, List.not_mem_nil, or_false] at hx
  exact Tot.pure ⟨hn, by dsimp only; omega, by dsimp only; omega⟩
 have hl' : (Zt n.2.1).length ≤ 1000 := by unfold Zt; omega
 refine Tot.dite (fun h => ?_) (fun _ => fin c2 s k2)
 obtain ⟨b, c3, e3, k3⟩ := J2 c2 k2 4 (by decide)
 refine Tot.bind (Tot.of (Q := fun r => r = (b, c3)) e3 rfl) ?_
 rintro r rfl
 refine Tot.ite (fun _ => ?_) (fun _ => fin c3 s k3)
 obtain ⟨x, c4, e4, x0, x1, _, k4⟩ := C3 c3 k3 ((Zt n.2.1).length : Int) (by omega)
 have x1 := x1 (by omega)
 refine Tot.bind (Tot.of (Q := fun r => r = (x, c4)) e4 rfl) ?_
 rintro r rfl
 exact Tot.dec (by omega) (Tot.dec (by omega) (fin c4 _ k4))
theorem FnNodesFall : ∀ (a0 : List Int), Ty.fit ti (.sl 5 (.i .u8)) a0 → ∃ k, Dg k a0 = some true := by
 intro a0 _
 refine Tot.law (f := fun k => Dg k a0) ?_
 unfold Dg Hr
 refine Tot.bind (Tot.pure (Q := fun b => b = decide ((List.length a0 : Int) > 1048576)) rfl) ?_
 rintro b rfl
 refine Tot.dite (fun _ => Tot.pure rfl) (fun hb => ?_)
 have hdr : Tot (fun k => Br k a0) (fun r => NIn r.1 ∧ r.2.length ≤ 6) := by
  unfold Br
  refine Tot.bind (Xw a0 (by omega)) (fun c hc => ?_)
  refine Tot.bind (Zq c hc) (fun n hn => ?_)
  exact Tot.bind (Fna n.2 hn.2) (fun l hl => Tot.pure ⟨hn.1, hl.1⟩)
 refine Tot.bind hdr ?_
 rintro ⟨n, kp⟩ ⟨hn, hk⟩
 dsimp only at hn hk
 dsimp only
 have hr := hn.2.1.1
 have hq := hn.2.2.1
 refine Tot.bind (Jpa n kp hn (by omega)) ?_
 rintro x rfl
 have hxi : NIn (On n kp) ∧ I7 (On n kp) = I7 n ∧ (On n kp).2.2 = n.2.2 := by
  cases h : I7 n with
  | false => unfold On; rw [h]; exact ⟨hn, h, rfl⟩
  | true =>
   have hg := M7a (kp := kp) (n := n) ⟨h, hn.1.2⟩
   exact ⟨Zp hg, hg.1, by unfold On; rw [h]; rfl⟩
 obtain ⟨hxi, hxo, hx2⟩ := hxi
 refine Tot.bind (C0a a0 (by omega)) ?_
 rintro ⟨m, s, bit⟩ ⟨hm, b0, b1⟩
 dsimp only at hm b0 b1
 dsimp only
 refine Tot.bind (Bxa m s bit hm b1 b0) ?_
 rintro y rfl
 refine Tot.bind (S5 m s bit hm b1 b0) ?_
 rintro y rfl
 refine Tot.no (by simp) ?_
 refine Tot.bind (My n hn) ?_
 rintro r rfl
 refine Tot.bind (Qh n hn) ?_
 rintro r rfl
 refine Tot.no (by simp) ?_
 refine Tot.bind (My _ hxi) ?_
 rintro r rfl
 refine Tot.bind (My n hn) ?_
 rintro r rfl
 refine Tot.no (by rw [hxo]; simp) ?_
 rw [hx2]
 refine Tot.bind (Pq _ _ (by unfold Few; omega) (by unfold Few; omega)) ?_
 rintro r rfl
 refine Tot.no (by simp) (Tot.bind (Pq _ _ (by unfold Few; omega) (by unfold Few; omega)) ?_)
 rintro r rfl
 refine Tot.no (by simp) ?_
 unfold P0a
 cases hc : I7 m && ((lkD m.2.1 s).2 == 0 && (Pt m.2.1 s bit).2) with
 | false =>
  refine Tot.yes rfl (Tot.bind (V7 m.2.1 hm.1.1 hm.1.2) ?_)
  rintro r rfl
  refine Tot.bind (V7 m.2.1 hm.1.1 hm.1.2) ?_
  rintro r rfl
  have := Jla m.2.1 m.2.1.1 []
  have h2 := hm.1.1.2.1
  refine Tot.bind (Vr _ _ (by unfold So; rw [List.length_nil] at this; omega)) ?_
  rintro r rfl
  exact Tot.pure (decide_eq_true rfl)
 | true =>
  rw [Bool.and_eq_true, Bool.and_eq_true] at hc
  obtain ⟨h1, h2, h3⟩ := hc
  have hg : NG m := ⟨h1, hm.1.2⟩
  have hyg := Bya hg (N8a (s := s) (n := bit) hg.g)
  have hyi := Zp hyg
  simp only [cond_true]
  obtain ⟨b, hb1, hb2⟩ := J7a.1 (show lkD m.2.1 s = ((lkD m.2.1 s).1, 0) by rw [← eq_of_beq h2])
  obtain ⟨f1, _, f3⟩ := J3a hb2
  have hrot : ∃ c, gt (Pt m.2.1 s bit).1.1 s = some c ∧ Kw c = none := by
   unfold Pt at h3 ⊢
   rw [hb1] at h3 ⊢
   simp only at h3 ⊢
   cases hc : inR bit 0 (8 * (b.length : Int) - 1) with
   | false => rw [hc] at h3; cases h3
   | true =>
    obtain ⟨i0, i1⟩ := Iw.1 hc
    refine ⟨Jr b bit.toNat, ?_, ?_⟩
    ·show gt (wr m.2.1.1 s (Jr b bit.toNat)) s = _
     rw [S5a (Jp hg.g.1), if_pos rfl]
    ·rw [← f3]
     rw [← f3] at i1
     exact Lwa f1 (by omega)
  obtain ⟨c, c1, c2⟩ := hrot
  have hbad : lkD (Pt m.2.1 s bit).1 s = (Pla, 2) := by unfold lkD; rw [c1]; simp only [c2]
  refine Tot.no rfl (Tot.bind (V4 hyi.1.1.1.1.1 hyi.1.2.1 s) ?_)
  rintro r rfl
  refine Tot.bind (Joa _ hyg) ?_
  rintro r rfl
  dsimp only
  rw [hbad]
  have hag := Rea hyg
  have hai := Zp hag
  obtain ⟨n1, n2⟩ := S7 (Pt m.2.1 s bit).1.1 ((Pt m.2.1 s bit).1, 0) hyg.g
  have hin : s ∈ Zy (Pt m.2.1 s bit).1.1 := (Lza hyg.g.1).2 ⟨c, c1, c2⟩
  have hlen : 1 ≤ (Zy (Pt m.2.1 s bit).1.1).length := List.length_pos_of_mem hin
  refine Tot.yes rfl (Tot.dec (by unfold Nca N7; dsimp only; rw [n1]; omega) (Tot.bind (V7 _ hai.1.1 hai.1.2) ?_))
  rintro r rfl
  have hl := Jla (Nca (m.1, (Pt m.2.1 s bit).1, m.2.2)).1.2.1 (Nca (m.1, (Pt m.2.1 s bit).1, m.2.2)).1.2.1.1 []
  have hl2 := hai.1.1.2.1
  rw [List.length_nil] at hl
  refine Tot.bind (Bza _ _ (by unfold So; omega)) ?_
  rintro r rfl
  have hno : Qi (So (Nca (m.1, (Pt m.2.1 s bit).1, m.2.2)).1.2.1) s = false := by
   cases hh : Qi (So (Nca (m.1, (Pt m.2.1 s bit).1, m.2.2)).1.2.1) s with
   | false => rfl
   | true =>
    have h4 := M2a.1 hh
    rw [M1a (Jp hag.g.1)] at h4
    obtain ⟨f, hf⟩ := (Jma hag.g.1).1 h4
    unfold old at hf
    have h5 : gt (Nca (m.1, (Pt m.2.1 s bit).1, m.2.2)).1.2.1.1 s = none := ((n2 s).1 hin).1
    rw [h5] at hf
    cases hf
  refine Tot.yes (by rw [hno]; rfl) (Tot.bind (My _ hai) ?_)
  rintro r rfl
  exact Tot.pure hag.1
end Go.Proofs.YtgocagaijgcnmaaGreat.Pure
end
