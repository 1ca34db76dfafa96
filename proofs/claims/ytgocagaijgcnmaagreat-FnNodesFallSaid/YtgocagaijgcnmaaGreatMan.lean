import Derived.Test.YtgocagaijgcnmaaGreatMam
section
set_option linter.unusedVariables false
set_option linter.unusedSimpArgs false
namespace Go.Proofs.YtgocagaijgcnmaaGreat.Vf
open Go
def Db (l : List Nmd) : Prop := l.Pairwise (fun a b => tlt a.1 b.1 = true)
theorem Bja : ∀ (p : Option ByteArray) (l : List Nmd), chn p l = true ↔ Db l ∧ (∀ r ∈ l, nOk r = true) ∧ (∀ q, p = some q → ∀ r ∈ l, tlt q r.1 = true)
 | p, [] => by
  have : chn p [] = true := by cases p <;> rfl
  simp [this, Db]
 | none, r :: l => by
  simp only [chn, Bool.and_eq_true, Bja (some r.1) l, Db, List.pairwise_cons]
  constructor
  ·rintro ⟨h1, h2, h3, h4⟩
   exact ⟨⟨fun a ha => h4 _ rfl a ha, h2⟩, fun a ha => by rcases List.mem_cons.1 ha with rfl | ha; exact h1; exact h3 a ha, fun q hq => by cases hq⟩
  ·rintro ⟨⟨h1, h2⟩, h3, _⟩
   exact ⟨h3 r (by simp), h2, fun a ha => h3 a (List.mem_cons_of_mem _ ha), fun q hq a ha => by cases hq; exact h1 a ha⟩
 | some q, r :: l => by
  simp only [chn, Bool.and_eq_true, Bja (some r.1) l, Db, List.pairwise_cons]
  constructor
  ·rintro ⟨h1, h0, h2, h3, h4⟩
   refine ⟨⟨fun a ha => h4 _ rfl a ha, h2⟩, fun a ha => by rcases List.mem_cons.1 ha with rfl | ha; exact h1; exact h3 a ha, fun q' hq a ha => ?_⟩
   cases hq
   rcases List.mem_cons.1 ha with rfl | ha
   ·exact h0
   ·exact Jn h0 (h4 _ rfl a ha)
  ·rintro ⟨⟨h1, h2⟩, h3, h4⟩
   exact ⟨h3 r (by simp), h4 q rfl r (by simp), h2, fun a ha => h3 a (List.mem_cons_of_mem _ ha), fun q' hq a ha => by cases hq; exact h1 a ha⟩
theorem Ae {l : List Nmd} : Fp l = true ↔ Db l ∧ (∀ r ∈ l, nOk r = true) ∧ l.length ≤ 60 := by
 unfold Fp
 simp only [Bool.and_eq_true, Bja, decide_eq_true_eq]
 constructor
 ·rintro ⟨⟨h1, h2, _⟩, h3⟩
  exact ⟨h1, h2, by omega⟩
 ·rintro ⟨h1, h2, h3⟩
  exact ⟨⟨h1, h2, fun q hq => by cases hq⟩, by omega⟩
theorem Ma {x : Nmd} : nOk x = true ↔ Cq x.1 = true ∧ x.2.length ≤ 400 := by
 unfold nOk
 simp only [Bool.and_eq_true, Bool.not_eq_true', decide_eq_false_iff_not]
 constructor
 ·rintro ⟨h1, h2⟩; exact ⟨h1, by omega⟩
 ·rintro ⟨h1, h2⟩; exact ⟨h1, by omega⟩
theorem Ps {l : List Nmd} (h : Fp l = true) : V2 l ∧ Jo l := by
 obtain ⟨_, h2, h3⟩ := Ae.1 h
 refine ⟨⟨by omega, fun x hx => by have := (Ma.1 (h2 x hx)).2; omega⟩, fun x hx => ?_⟩
 have := Rt (Ma.1 (h2 x hx)).1
 unfold Hp
 omega
theorem Dva (y : Nmd) (l : List Nmd) (s : ByteArray) : fnd (y :: l) s = if teq y.1 s then some 0 else (fnd l s).map (· + 1) := by
 unfold fnd
 rw [List.findIdx?_cons]
theorem Lha {l : List Nmd} {s : ByteArray} : fnd l s = none ↔ ∀ x ∈ l, x.1 ≠ s := by
 unfold fnd
 rw [List.findIdx?_eq_none_iff]
 constructor
 ·intro h x hx e
  have := h x hx
  rw [Gp.2 e] at this
  cases this
 ·intro h x hx
  cases ht : teq x.1 s with
  | false => rfl
  | true => exact absurd (Gp.1 ht) (h x hx)
theorem Mb : ∀ {l : List Nmd} {s : ByteArray}, Db l → del l s = cut l s
 | [], s, _ => rfl
 | y :: l, s, h => by
  have hc := List.pairwise_cons.1 h
  have ih := Mb (l := l) (s := s) hc.2
  unfold del cut at *
  rw [Dva, List.filter_cons]
  cases ht : teq y.1 s with
  | true =>
   have hno : ∀ x ∈ l, (!(teq x.1 s)) = true := fun x hx => by
    cases hx2 : teq x.1 s with
    | false => rfl
    | true =>
     have e1 := Gp.1 ht
     have e2 := Gp.1 hx2
     have := hc.1 x hx
     rw [e1, e2, Ii] at this
     cases this
   rw [if_pos rfl, if_neg (by simp)]
   show [] ++ l = _
   rw [List.nil_append, List.filter_eq_self.2 hno]
  | false =>
   rw [if_neg (by simp), if_pos (show (!false) = true from rfl), ← ih]
   cases hf : fnd l s with
   | none => rfl
   | some i => rfl
theorem Jg {l : List Nmd} {s : ByteArray} (h : Db l) : Db (cut l s) := h.sublist List.filter_sublist
theorem Ka {l : List Nmd} {s : ByteArray} : (cut l s).Sublist l := List.filter_sublist
theorem Rv {l : List Nmd} {s : ByteArray} (h : Fp l = true) : Fp (cut l s) = true := by
 obtain ⟨h1, h2, h3⟩ := Ae.1 h
 exact Ae.2 ⟨Jg h1, fun x hx => h2 x (Ka.subset hx), by have := (Ka (l := l) (s := s)).length_le; omega⟩
theorem Ira {l m : List Nmd} (h : m.Sublist l) (hf : V2 l) : V2 m := ⟨by have := h.length_le; have := hf.1; omega, fun x hx => hf.2 x (h.subset hx)⟩
theorem Z2 {l m : List Nmd} (h : m.Sublist l) (hf : Jo l) : Jo m := fun x hx => hf x (h.subset hx)
end Go.Proofs.YtgocagaijgcnmaaGreat.Vf
end

section
set_option linter.unusedVariables false
set_option linter.unusedSimpArgs false
namespace Go.Proofs.YtgocagaijgcnmaaGreat.Vf
open Go
theorem Faa (l : List Int) (x4 : Int) : ∀ (n : Nat) (x3 i : Int), 0 ≤ i → 8 - i = n → Tot (fun k => Ei k l x3 x4 i) (fun r => r.1 = l ∧ r.2.2 = x4) := by
 intro n
 induction n with
 | zero =>
  intro x3 i h0 hn
  refine Tot.succ ?_
  simp only [Ei]
  exact Tot.ndec (by omega) (Tot.pure ⟨rfl, rfl⟩)
 | succ n ih =>
  intro x3 i h0 hn
  refine Tot.succ ?_
  simp only [Ei]
  refine Tot.dec (by omega) ?_
  rw [w64 (n := i + 1) (by omega) (by omega)]
  exact Tot.ite (fun _ => ih _ (i + 1) (by omega) (by omega)) (fun _ => ih _ (i + 1) (by omega) (by omega))
theorem Fba (l : List Int) (hl : l.length ≤ 1000000000000) : ∀ (n i : Nat) (x3 : Int), l.length - i = n → i ≤ l.length → Tot (fun k => Ev k l x3 (i : Int)) (fun _ => True) := by
 intro n
 induction n with
 | zero =>
  intro i x3 hd hi
  refine Tot.succ ?_
  simp only [Ev]
  exact Tot.ndec (by omega) (Tot.pure trivial)
 | succ n ih =>
  intro i x3 hd hi
  refine Tot.succ ?_
  simp only [Ev]
  refine Tot.dec (by omega) (Tot.dec (by omega) (Tot.dec (by omega) ?_))
  refine Tot.bind (Faa l (i : Int) 8 _ 0 (by decide) (by decide)) ?_
  rintro ⟨a, b, c⟩ ⟨h1, h2⟩
  simp only at h1 h2
  subst h1 h2
  dsimp only
  rw [w64 (n := (i : Int) + 1) (by omega) (by omega)]
  exact ih (i + 1) b (by omega) (by omega)
theorem Bka (l : List Int) (hl : l.length ≤ 1000000000000) : Tot (fun k => H8 k l) (fun _ => True) := by
 unfold H8
 refine Tot.bind (Fba l hl _ 0 _ rfl (Nat.zero_le _)) (fun r _ => Tot.pure trivial)
theorem Rw (f : Fil) (hf : Mua f) : Tot (fun k => B2 k f) (fun r => r.length ≤ 1000) := by
 unfold B2
 have hfo : ∃ b, Bi f = some b := by
  unfold Bi
  rw [Rp]
  simp only [Option.bind_some]
  cases Ia f.1 <;> cases decide ((List.length f.2.2 : Int) ≤ 200) <;> cases f.2.1 <;> exact ⟨_, rfl⟩
 obtain ⟨b, hb⟩ := hfo
 have hl : f.2.2.length ≤ 9 := by have := hf.2.2.1; omega
 refine Tot.bind (Tot.of (Q := fun r => r = b) hb rfl) ?_
 rintro r rfl
 refine Tot.ite (fun _ => Tot.pure (by simp)) (fun _ => ?_)
 refine Tot.bind (Tk [] f.1 (by simp)) ?_
 rintro a rfl
 refine Tot.bind (Tot.of (Q := fun r => r = F7a f.2.1) (Dqa _) rfl) ?_
 rintro c rfl
 have h1 := V1 f.1
 refine Tot.bind (Ph _ _ (by simp only [List.length_append, List.length_nil]; omega)) ?_
 rintro d rfl
 have h2 := (Hz (Ea (F7a f.2.1))).1
 have h3 : (Hd f.2.2).size = f.2.2.length := Jf _
 refine Tot.bind (Doa _ _ (by simp only [List.length_append, List.length_nil]; omega) (by omega)) ?_
 rintro e rfl
 have h4 := Ima (Hd f.2.2)
 refine Tot.bind (Bka _ (by simp only [List.length_append, List.length_nil]; omega)) (fun q _ => ?_)
 refine Tot.ble (by simp only [List.length_append, List.length_cons, List.length_nil]; omega) (Tot.pure ?_)
 simp only [List.length_append, List.length_cons, List.length_nil]
 omega
theorem V3 (d out : Dsk) (s : ByteArray) (hd : Mxa d ∧ Tm d) (ho : Mxa out ∧ Tm out) (hs : Hp s) : Tot (fun k => C9 k d out s) (fun r => r = bif Aq d && (Cq s && Aq out) then (out, true) else (d, false)) := by
 unfold C9
 refine Tot.bind (Oi d hd.1 hd.2) ?_
 rintro b rfl
 cases h1 : Aq d with
 | false =>
  refine Tot.yes rfl (Tot.bind (I9 d hd.1) ?_)
  rintro r rfl
  exact Tot.pure rfl
 | true =>
  refine Tot.no rfl (Tot.bind (Of s hs) ?_)
  rintro b rfl
  cases h2 : Cq s with
  | false =>
   refine Tot.yes rfl (Tot.bind (I9 d hd.1) ?_)
   rintro r rfl
   exact Tot.pure rfl
  | true =>
   refine Tot.no rfl (Tot.bind (Oi out ho.1 ho.2) ?_)
   rintro b rfl
   cases h3 : Aq out with
   | false =>
    refine Tot.yes rfl (Tot.bind (I9 d hd.1) ?_)
    rintro r rfl
    exact Tot.pure rfl
   | true => exact Tot.no rfl (Tot.pure rfl)
theorem Tn (d : Dsk) (s : ByteArray) (hd : Mxa d ∧ Tm d) (hs : Hp s) : Tot (fun k => Cd k d s) (fun r => r = bif (fnd d.1 s).isSome && (Aq d && (Cq s && Aq (cut d.1 s, d.2))) then ((cut d.1 s, d.2), true) else (d, false)) := by
 unfold Cd
 refine Tot.bind (I9 d hd.1) ?_
 rintro r rfl
 refine Tot.bind (Z1 r.1 s hd.1.1.1) ?_
 rintro i rfl
 unfold Zx
 cases h : fnd r.1 s with
 | none => exact Tot.dec (by decide) (Tot.pure rfl)
 | some i =>
  dsimp only
  refine Tot.ndec (by omega) (Tot.bind (Iqa r.1 s hd.1.1.1) ?_)
  rintro c rfl
  refine Tot.bind (V3 r (cut r.1 s, r.2) s hd ⟨⟨Ira Ka hd.1.1, hd.1.2⟩, Z2 Ka hd.2.1, hd.2.2⟩ hs) ?_
  rintro e rfl
  exact Tot.pure rfl
end Go.Proofs.YtgocagaijgcnmaaGreat.Vf
end

section
set_option linter.unusedVariables false
set_option linter.unusedSimpArgs false
namespace Go.Proofs.YtgocagaijgcnmaaGreat.Vf
open Go
def ptl (x : Nmd) : Bool → List Nmd → List Nmd
 | p, [] => bif p then [] else [x]
 | p, y :: l => (bif !p && !(tlt y.1 x.1) then [x] else []) ++ ((bif !(teq y.1 x.1) then [y] else []) ++ ptl x (p || !(tlt y.1 x.1)) l)
theorem Bla (l : List Nmd) (s : ByteArray) (b : List Int) (hf : l.length ≤ 1000000000000) : ∀ (n i : Nat) (acc : List Nmd) (p : Bool), l.length - i = n → i ≤ l.length → acc.length ≤ 2 * i →
  Tot (fun k => Bd k l s acc p (i : Int) s b) (fun r => r.1 ++ (bif r.2.1 then [] else [(s, b)]) = acc ++ ptl (s, b) p (l.drop i) ∧ r.2.2 = (s, b) ∧ r.1.length ≤ 2 * l.length) := by
 intro n
 induction n with
 | zero =>
  intro i acc p hd hi ha
  refine Tot.succ ?_
  simp only [Bd]
  refine Tot.ndec (by omega) (Tot.pure ?_)
  rw [List.drop_of_length_le (by omega)]
  exact ⟨rfl, rfl, by dsimp only; omega⟩
 | succ n ih =>
  intro i acc p hd hi ha
  have hlt : i < l.length := by omega
  refine Tot.succ ?_
  simp only [Bd]
  refine Tot.dec (by omega) ?_
  rw [show Int.toNat (i : Int) = i from Int.toNat_natCast i, w64 (n := (i : Int) + 1) (by omega) (by omega), Bh (d := Cb) hlt]
  have e0 : l.getD i ((⟨#[]⟩ : ByteArray), ([] : List Int)) = l.getD i Cb := rfl
  rw [e0]
  have Ap : ∀ (ac : List Nmd) (q : Bool), ac.length ≤ 2 * i + 1 → Tot (fun k => cond (decide ((0 : Int) ≤ i)) (cond (decide ((i : Int) < (List.length l : Int))) (cond (!((l.getD i Cb).1.toList == s.toList)) (cond (decide ((0 : Int) ≤ i)) (cond (decide ((i : Int) < (List.length l : Int))) (cond (Nat.ble ((List.length ac + List.length [l.getD i Cb]) * 40) 140737488355328) (Bd k l s (ac ++ [l.getD i Cb]) q ((i : Int) + 1) s b) none) none) none) (Bd k l s ac q ((i : Int) + 1) s b)) none) none)
    (fun r => r.1 ++ (bif r.2.1 then [] else [(s, b)]) = ac ++ ((bif !(teq (l.getD i Cb).1 s) then [l.getD i Cb] else []) ++ ptl (s, b) q (l.drop (i + 1))) ∧ r.2.2 = (s, b) ∧ r.1.length ≤ 2 * l.length) := by
   intro ac q hac
   refine Tot.dec (by omega) (Tot.dec (by omega) (Tot.ite (fun h => ?_) (fun h => ?_)))
   ·have h' : (!(teq (l.getD i Cb).1 s)) = true := h
    rw [h']
    refine Tot.dec (by omega) (Tot.dec (by omega) (Tot.ble (by simp only [List.length_cons, List.length_nil]; omega) ?_))
    refine (ih (i + 1) (ac ++ [l.getD i Cb]) q (by omega) (by omega) (by simp only [List.length_append, List.length_cons, List.length_nil]; omega)).mono ?_
    rintro r ⟨h1, h2, h3⟩
    refine ⟨?_, h2, h3⟩
    rw [h1, List.append_assoc]
    rfl
   ·have h' : (!(teq (l.getD i Cb).1 s)) = false := h
    rw [h']
    exact ih (i + 1) ac q (by omega) (by omega) (by omega)
  cases p with
  | true =>
   refine Tot.no rfl ?_
   refine (Ap acc true (by omega)).mono ?_
   rintro r ⟨h1, h2, h3⟩
   exact ⟨h1, h2, h3⟩
  | false =>
   refine Tot.yes rfl (Tot.dec (by omega) (Tot.dec (by omega) (Tot.ite (fun h => ?_) (fun h => ?_))))
   ·have h' : (!(tlt (l.getD i Cb).1 s)) = true := h
    refine Tot.ble (by simp only [List.length_cons, List.length_nil]; omega) ?_
    refine (Ap (acc ++ [(s, b)]) true (by simp only [List.length_append, List.length_cons, List.length_nil]; omega)).mono ?_
    rintro r ⟨h1, h2, h3⟩
    refine ⟨?_, h2, h3⟩
    rw [h1]
    simp only [ptl, h', Bool.not_false, Bool.and_self, Bool.false_or, cond_true, List.append_assoc]
   ·have h' : (!(tlt (l.getD i Cb).1 s)) = false := h
    refine (Ap acc false (by omega)).mono ?_
    rintro r ⟨h1, h2, h3⟩
    refine ⟨?_, h2, h3⟩
    rw [h1]
    simp only [ptl, h', Bool.not_false, Bool.and_false, Bool.false_or, cond_false, List.nil_append]
theorem Dwa (l : List Nmd) (s : ByteArray) (b : List Int) (hf : l.length ≤ 1000000000000) (hb : b.length ≤ 1000000000000) : Tot (fun k => Fk k l s b) (fun r => r = ptl (s, b) false l) := by
 unfold Fk
 refine Tot.ble (Bia b hb) ?_
 rw [List.nil_append]
 refine Tot.bind (Bla l s b hf _ 0 [] false rfl (Nat.zero_le _) (Nat.zero_le _)) ?_
 rintro ⟨r, q, x, y⟩ ⟨h1, h2, h3⟩
 rw [List.drop_zero, List.nil_append] at h1
 dsimp only at h1 h2 h3
 dsimp only
 cases q with
 | true =>
  refine Tot.no rfl (Tot.pure ?_)
  rw [← h1]; simp
 | false =>
  refine Tot.yes rfl (Tot.ble (by simp only [List.length_cons, List.length_nil]; omega) (Tot.pure ?_))
  rw [← h1]
  obtain ⟨rfl, rfl⟩ := Prod.mk.inj h2
  rfl
theorem Isa (x : Nmd) : ∀ (p : Bool) (l : List Nmd), ∀ y ∈ ptl x p l, y ∈ l ∨ y = x := by
 intro p l
 induction l generalizing p with
 | nil => intro y hy; cases p <;> simp_all [ptl]
 | cons a l ih =>
  intro y hy
  simp only [ptl, List.mem_append] at hy
  rcases hy with hy | hy | hy
  ·revert hy; cases (!p && !(tlt a.1 x.1)) <;> simp_all
  ·revert hy; cases (!(teq a.1 x.1)) <;> simp_all
  ·rcases ih _ y hy with h | h
   ·exact Or.inl (List.mem_cons_of_mem _ h)
   ·exact Or.inr h
theorem Opa (x : Nmd) : ∀ (p : Bool) (l : List Nmd), (ptl x p l).length ≤ l.length + (bif p then 0 else 1) := by
 intro p l
 induction l generalizing p with
 | nil => cases p <;> simp [ptl]
 | cons a l ih =>
  simp only [ptl, List.length_append, List.length_cons]
  have := ih (p || !(tlt a.1 x.1))
  revert this
  cases p <;> cases tlt a.1 x.1 <;> cases teq a.1 x.1 <;> simp <;> omega
theorem Lia (x : Nmd) : ∀ (l : List Nmd), ptl x true l = cut l x.1 := by
 intro l
 induction l with
 | nil => rfl
 | cons a l ih =>
  simp only [ptl, Bool.not_true, Bool.false_and, cond_false, List.nil_append, Bool.true_or, ih, cut, List.filter_cons]
  cases teq a.1 x.1 <;> simp
theorem Tp (x : Nmd) : ∀ {l : List Nmd}, Db l → ptl x false l = ins (cut l x.1) x := by
 intro l
 induction l with
 | nil => intro _; rfl
 | cons a l ih =>
  intro h
  have hl : Db l := (List.pairwise_cons.1 h).2
  have ha := (List.pairwise_cons.1 h).1
  simp only [ptl, Bool.not_false, Bool.true_and, Bool.false_or]
  cases ht : tlt a.1 x.1 with
  | true =>
   have he : teq a.1 x.1 = false := by
    cases hq : teq a.1 x.1 with
    | false => rfl
    | true => rw [(Gp.1 hq), Ii] at ht; cases ht
   simp only [he, Bool.not_true, Bool.not_false, cond_false, cond_true, List.nil_append, ih hl, cut, List.filter_cons, if_true]
   unfold ins plc
   rw [List.takeWhile_cons, if_pos ht]
   rfl
  | false =>
   have hc : plc (cut (a :: l) x.1) x.1 = 0 := by
    unfold plc cut
    rw [List.length_eq_zero_iff]
    rw [List.filter_cons]
    cases hq : teq a.1 x.1 with
    | false => rw [Bool.not_false, if_pos rfl, List.takeWhile_cons, if_neg (by rw [ht]; simp)]
    | true =>
     have hx := (Gp.1 hq)
     simp only [Bool.not_true, Bool.false_eq_true, if_false]
     cases hf : l.filter (fun y => !(teq y.1 x.1)) with
     | nil => rfl
     | cons b m =>
      have hb : b ∈ l := by
       have : b ∈ l.filter (fun y => !(teq y.1 x.1)) := by rw [hf]; exact List.mem_cons_self
       exact (List.mem_filter.1 this).1
      have hab := ha b hb
      rw [hx] at hab
      rw [List.takeWhile_cons, if_neg (by rw [Rl hab]; simp)]
   simp only [Bool.not_false, cond_true, Lia]
   unfold ins
   rw [hc]
   simp only [List.take_zero, List.nil_append, List.drop_zero, cut, List.filter_cons]
   cases teq a.1 x.1 <;> simp
end Go.Proofs.YtgocagaijgcnmaaGreat.Vf
end

section
set_option linter.unusedVariables false
set_option linter.unusedSimpArgs false
namespace Go.Proofs.YtgocagaijgcnmaaGreat.Vf
open Go
theorem Ita {l : List Nmd} {x : Nmd} {p : Bool} (hl : V2 l) (hl' : l.length ≤ 999999999999) (hx : x.2.length ≤ 1000000000000) : V2 (ptl x p l) := by
 refine ⟨?_, fun y hy => ?_⟩
 ·have := Opa x p l
  revert this
  cases p <;> simp <;> omega
 ·rcases Isa x p l y hy with h | rfl
  ·exact hl.2 y h
  ·exact hx
theorem Z3 {l : List Nmd} {x : Nmd} {p : Bool} (hl : Jo l) (hx : Hp x.1) : Jo (ptl x p l) := by
 intro y hy
 rcases Isa x p l y hy with h | rfl
 ·exact hl y h
 ·exact hx
def DIn (d : Dsk) : Prop := (Mxa d ∧ Tm d) ∧ d.1.length ≤ 1000 ∧ d.2.length ≤ 1000
theorem Jz {d : Dsk} (h : Aq d = true) : DIn d := by
 unfold Aq at h
 rw [Bool.and_eq_true] at h
 have h1 := Ps h.1
 have h2 := Ps h.2
 exact ⟨⟨⟨h1.1, h2.1⟩, h1.2, h2.2⟩, by have := (Ae.1 h.1).2.2; omega, by have := (Ae.1 h.2).2.2; omega⟩
theorem Z4 (d : Dsk) (s : ByteArray) (b : List Int) (hd : DIn d) (hs : Hp s) (hb : b.length ≤ 1000000000000) : Tot (fun k => Az k d s b) (fun r => r = bif Aq d && (Cq s && Aq (ptl (s, b) false d.1, d.2)) then ((ptl (s, b) false d.1, d.2), true) else (d, false)) := by
 unfold Az
 refine Tot.bind (I9 d hd.1.1) ?_
 rintro r rfl
 refine Tot.bind (Dwa r.1 s b hd.1.1.1.1 hb) ?_
 rintro c rfl
 refine Tot.bind (V3 r (ptl (s, b) false r.1, r.2) s hd.1 ⟨⟨Ita hd.1.1.1 (by have := hd.2.1; omega) hb, hd.1.1.2⟩, Z3 hd.1.2.1 hs, hd.1.2.2⟩ hs) ?_
 rintro e rfl
 exact Tot.pure rfl
def syS (d : Dsk) (s : ByteArray) : List Nmd := match fnd d.1 s with
 | some i => ptl (s, (d.1.getD i Cb).2) false (cut d.2 s)
 | none => cut d.2 s
theorem Qta {d : Dsk} {s : ByteArray} (hd : DIn d) (hs : Hp s) : V2 (syS d s) ∧ Jo (syS d s) := by
 unfold syS
 have h1 := Ira (Ka (l := d.2) (s := s)) hd.1.1.2
 have h2 := Z2 (Ka (l := d.2) (s := s)) hd.1.2.2
 cases h : fnd d.1 s with
 | none => exact ⟨h1, h2⟩
 | some i =>
  have hb := hd.1.1.1.2 _ (Da (d := Cb) (J4 h).1)
  have hc : (cut d.2 s).length ≤ d.2.length := (Ka (l := d.2) (s := s)).length_le
  exact ⟨Ita h1 (by have := hd.2.2; omega) hb, Z3 h2 hs⟩
theorem Dxa (d : Dsk) (s : ByteArray) (hd : DIn d) (hs : Hp s) : Tot (fun k => B0 k d s) (fun r => r = bif Aq d && (Cq s && Aq (d.1, syS d s)) then ((d.1, syS d s), true) else (d, false)) := by
 unfold B0
 have hin := Qta hd hs
 refine Tot.bind (I9 d hd.1.1) ?_
 rintro r rfl
 refine Tot.bind (Dua r s hd.1.1.1) ?_
 rintro b rfl
 refine Tot.bind (Iqa r.2 s hd.1.1.2.1) ?_
 rintro c rfl
 have e : ∀ o, o = syS r s → Tot (fun k => (C9 k r (r.1, o) s).bind fun r5 => some (r5.1, r5.2)) (fun q => q = bif Aq r && (Cq s && Aq (r.1, syS r s)) then ((r.1, syS r s), true) else (r, false)) := by
  rintro o rfl
  refine Tot.bind (V3 r (r.1, syS r s) s hd.1 ⟨⟨hd.1.1.1, hin.1⟩, hd.1.2.1, hin.2⟩ hs) ?_
  rintro e rfl
  exact Tot.pure rfl
 have hc : (cut r.2 s).length ≤ r.2.length := (Ka (l := r.2) (s := s)).length_le
 cases h : fnd r.1 s with
 | none =>
  have h' : rdN r.1 s = ([], false) := by unfold rdN; rw [h]
  rw [h']
  refine Tot.no rfl (e _ ?_)
  unfold syS; rw [h]
 | some i =>
  have h' : rdN r.1 s = ((r.1.getD i Cb).2, true) := by unfold rdN; rw [h]
  rw [h']
  have hb := hd.1.1.1.2 _ (Da (d := Cb) (J4 h).1)
  refine Tot.yes rfl (Tot.bind (Dwa (cut r.2 s) s _ (by have := hd.2.2; omega) hb) ?_)
  rintro o rfl
  refine e _ ?_
  unfold syS; rw [h]
def syI (d : Dsk) (s : ByteArray) : List Nmd := match fnd d.1 s with
 | some i => ins (del d.2 s) (s, (d.1.getD i Cb).2)
 | none => del d.2 s
end Go.Proofs.YtgocagaijgcnmaaGreat.Vf
end

section
set_option linter.unusedVariables false
set_option linter.unusedSimpArgs false
namespace Go.Proofs.YtgocagaijgcnmaaGreat.Vf
open Go
theorem Iua {d o : Dsk} {b : Bool} (hd : Aq d = true) : Aq (bif Aq d && (b && Aq o) then (o, true) else (d, false)).1 = true := by
 cases b <;> cases h : Aq o <;> simp [hd, h]
theorem Lja {d o : Dsk} {a b : Bool} (hd : Aq d = true) : Aq (bif a && (Aq d && (b && Aq o)) then (o, true) else (d, false)).1 = true := by
 cases a <;> cases b <;> cases h : Aq o <;> simp [hd, h]
theorem Iva : ∀ (n : Nat) (i : Int) (c : Cur) (a0 a1 : List Nmd) (d : Dsk), i = n → n ≤ 6 → Ek c → Aq d = true →
  Tot (fun k => Am k i c.1 c.2.1 c.2.2 a0 a1 d.1 d.2) (fun r => Aq (r.2.2.1, r.2.2.2.1) = true ∧ Ek r.2.2.2.2) := by
 intro n
 induction n with
 | zero =>
  intro i c a0 a1 d hi h6 hc hd
  refine Tot.succ ?_
  simp only [Am]
  exact Tot.ndec (by omega) (Tot.pure ⟨hd, hc⟩)
 | succ n ih =>
  intro i c a0 a1 d hi h6 hc hd
  refine Tot.succ ?_
  simp only [Am]
  refine Tot.dec (by omega) ?_
  rw [w64 (n := i - 1) (by omega) (by omega)]
  obtain ⟨s, c1, e1, hs, k1⟩ := Jm c hc
  refine Tot.bind (Tot.of (Q := fun r => r = (s, c1)) e1 rfl) ?_
  rintro r rfl
  obtain ⟨x, c2, e2, _, _, _, k2⟩ := C3 c1 k1 6 (by decide)
  refine Tot.bind (Tot.of (Q := fun r => r = (x, c2)) e2 rfl) ?_
  rintro r rfl
  dsimp only
  have hin := Jz hd
  have hsh := (Ib s hs).1
  have wr : Tot (fun k => (Bc k c2).bind fun r5 => (B2 k r5.1).bind fun r6 => (Az k (d.1, d.2) s r6).bind fun r7 => Am k (i - 1) r5.2.1 r5.2.2.1 r5.2.2.2 a0 a1 r7.1.1 r7.1.2) (fun r => Aq (r.2.2.1, r.2.2.2.1) = true ∧ Ek r.2.2.2.2) := by
   refine Tot.bind (Mv c2 k2) (fun f hf => ?_)
   refine Tot.bind (Rw f.1 hf.1) (fun b hb => ?_)
   refine Tot.bind (Z4 d s b hin hsh (by omega)) (fun q hq => ?_)
   have hq' := Iua (d := d) (o := (ptl (s, b) false d.1, d.2)) (b := Cq s) hd
   rw [← hq] at hq'
   exact ih (i - 1) f.2 a0 a1 q.1 (by omega) (by omega) hf.2 hq'
  have sy : Tot (fun k => (B0 k (d.1, d.2) s).bind fun r4 => Am k (i - 1) c2.1 c2.2.1 c2.2.2 a0 a1 r4.1.1 r4.1.2) (fun r => Aq (r.2.2.1, r.2.2.2.1) = true ∧ Ek r.2.2.2.2) := by
   refine Tot.bind (Dxa d s hin hsh) (fun q hq => ?_)
   have hq' := Iua (d := d) (o := (d.1, syS d s)) (b := Cq s) hd
   rw [← hq] at hq'
   exact ih (i - 1) c2 a0 a1 q.1 (by omega) (by omega) k2 hq'
  refine Tot.ite (fun _ => ?_) (fun _ => Tot.ite (fun h => Tot.ite (fun _ => sy) (fun _ => wr)) (fun _ => Tot.ite (fun _ => sy) (fun _ => wr)))
  refine Tot.bind (Tn d s hin.1 hsh) (fun q hq => ?_)
  have hq' := Lja (d := d) (o := (cut d.1 s, d.2)) (a := (fnd d.1 s).isSome) (b := Cq s) hd
  rw [← hq] at hq'
  exact ih (i - 1) c2 a0 a1 q.1 (by omega) (by omega) k2 hq'
theorem Iwa (c : Cur) (hc : Ek c) : Tot (fun k => Cm k c) (fun r => Aq r.1 = true ∧ Ek r.2) := by
 unfold Cm
 obtain ⟨x, c2, e2, h0, h1, _, k2⟩ := C3 c hc 7 (by decide)
 have h1 := h1 (by decide)
 refine Tot.bind (Tot.of (Q := fun r => r = (x, c2)) e2 rfl) ?_
 rintro r rfl
 refine Tot.bind (Iva x.toNat x c2 [] [] ([], []) (by omega) (by omega) k2 (by decide)) (fun r hr => ?_)
 exact Tot.pure hr
theorem Oj (c : Cur) (hc : Ek c) : ∃ x c', Dw c = some (x, c') ∧ Hp x ∧ Ek c' := by
 obtain ⟨b, c1, e1, k1⟩ := J2 c hc 5 (by decide)
 unfold Dw
 cases b with
 | true =>
  obtain ⟨x, c', e, hx, k⟩ := Dda c1 k1 [(⟨#[]⟩ : ByteArray), (⟨#[65]⟩ : ByteArray), (⟨#[97, 32, 98]⟩ : ByteArray), (⟨#[116, 119, 101, 110, 116, 121, 111, 110, 101, 98, 121, 116, 101, 115, 116, 119, 101, 110, 116, 121, 111]⟩ : ByteArray), (⟨#[116, 119, 101, 110, 116, 121, 98, 121, 116, 101, 115, 116, 119, 101, 110, 116, 121, 98, 121, 116]⟩ : ByteArray), (⟨#[47]⟩ : ByteArray)] (by decide) (by decide)
  refine ⟨x, c', by simp only [e1, e, Option.bind_some, cond_true], ?_, k⟩
  simp only [List.mem_cons, List.not_mem_nil, or_false] at hx
  unfold Hp
  rcases hx with rfl | rfl | rfl | rfl | rfl | rfl <;> decide
 | false =>
  obtain ⟨x, c', e, hx, k⟩ := Jm c1 k1
  exact ⟨x, c', by simp only [e1, e, Option.bind_some, cond_false], (Ib x hx).1, k⟩
theorem Ixa {l : List Nmd} {x : Nmd} (h : V2 l) (hl : l.length ≤ 999) (hx : x.2.length ≤ 1000000000000) : V2 (l ++ [x]) := by
 refine ⟨by simp only [List.length_append, List.length_cons, List.length_nil]; omega, fun y hy => ?_⟩
 rcases List.mem_append.1 hy with hy | hy
 ·exact h.2 y hy
 ·rw [List.mem_singleton.1 hy]; exact hx
theorem Z5 {l : List Nmd} {x : Nmd} (h : Jo l) (hx : Hp x.1) : Jo (l ++ [x]) := by
 intro y hy
 rcases List.mem_append.1 hy with hy | hy
 ·exact h y hy
 ·rw [List.mem_singleton.1 hy]; exact hx
theorem Lka (c : Cur) (hc : Ek c) : Tot (fun k => G6 k c) (fun r => DIn r.1 ∧ Ek r.2) := by
 unfold G6
 refine Tot.bind (Iwa c hc) (fun d hd => ?_)
 obtain ⟨hd, k0⟩ := hd
 have hin := Jz hd
 have hd' := hd
 unfold Aq at hd'
 rw [Bool.and_eq_true] at hd'
 have g1 := (Ae.1 hd'.1).2.2
 have g2 := (Ae.1 hd'.2).2.2
 obtain ⟨x, c2, e2, _, _, _, k2⟩ := C3 d.2 k0 12 (by decide)
 refine Tot.bind (Tot.of (Q := fun r => r = (x, c2)) e2 rfl) ?_
 rintro r rfl
 refine Tot.ite (fun _ => ?_) (fun _ => Tot.ite (fun _ => ?_) (fun _ => Tot.pure ⟨hin, k2⟩))
 ·obtain ⟨s, c3, e3, hs, k3⟩ := Oj c2 k2
  refine Tot.bind (Tot.of (Q := fun r => r = (s, c3)) e3 rfl) ?_
  rintro r rfl
  refine Tot.ble (by simp only [List.length_cons, List.length_nil]; omega) (Tot.pure ⟨⟨⟨⟨Ixa hin.1.1.1 (by omega) (Nat.zero_le _), hin.1.1.2⟩, Z5 hin.1.2.1 hs, hin.1.2.2⟩, ?_, hin.2.2⟩, k3⟩)
  simp only [List.length_append, List.length_cons, List.length_nil]; omega
 ·obtain ⟨s, c3, e3, hs, k3⟩ := Oj c2 k2
  refine Tot.bind (Tot.of (Q := fun r => r = (s, c3)) e3 rfl) ?_
  rintro r rfl
  obtain ⟨y, c4, e4, y0, y1, _, k4⟩ := C3 c3 k3 2 (by decide)
  have y1 := y1 (by decide)
  refine Tot.bind (Tot.of (Q := fun r => r = (y, c4)) e4 rfl) ?_
  rintro r rfl
  dsimp only
  rw [w64 (n := 400 + y) (by omega) (by omega)]
  refine Tot.dec rfl (Tot.dec (by omega) (Tot.dec (by omega) (Tot.ble (by simp only [List.length_cons, List.length_nil]; omega) (Tot.pure ⟨⟨⟨⟨hin.1.1.1, Ixa hin.1.1.2 (by omega) ?_⟩, hin.1.2.1, Z5 hin.1.2.2 hs⟩, hin.2.1, ?_⟩, k4⟩))))
  ·simp only [List.length_replicate]; omega
  ·simp only [List.length_append, List.length_cons, List.length_nil]; omega
end Go.Proofs.YtgocagaijgcnmaaGreat.Vf
end

section
set_option linter.unusedVariables false
set_option linter.unusedSimpArgs false
namespace Go.Proofs.YtgocagaijgcnmaaGreat.Vf
open Go
end Go.Proofs.YtgocagaijgcnmaaGreat.Vf
end

section
set_option linter.unusedVariables false
set_option linter.unusedSimpArgs false
namespace Go.Proofs.YtgocagaijgcnmaaGreat.Vf
open Go
theorem N6 (p : Nmd → Bool) : ∀ l : List Nmd, l.take (l.takeWhile p).length = l.takeWhile p ∧ l.drop (l.takeWhile p).length = l.dropWhile p
 | [] => ⟨rfl, rfl⟩
 | y :: l => by
  obtain ⟨h1, h2⟩ := N6 p l
  simp only [List.takeWhile_cons, List.dropWhile_cons]
  cases p y with
  | true => simp [h1, h2]
  | false => simp
theorem Z6 {p : Nmd → Bool} : ∀ {l : List Nmd} {y : Nmd}, y ∈ l.takeWhile p → p y = true
 | [], y, h => by simp at h
 | z :: l, y, h => by
  simp only [List.takeWhile_cons] at h
  cases hz : p z with
  | false => rw [hz] at h; simp at h
  | true =>
   rw [hz] at h
   simp only [if_true] at h
   rcases List.mem_cons.1 h with rfl | h
   ·exact hz
   ·exact Z6 h
theorem Mya (l : List Nmd) (x : Nmd) : ins l x = l.takeWhile (fun y => tlt y.1 x.1) ++ ([x] ++ l.dropWhile (fun y => tlt y.1 x.1)) := by
 unfold ins plc
 obtain ⟨h1, h2⟩ := N6 (fun y => tlt y.1 x.1) l
 rw [h1, h2, List.append_assoc]
theorem Tq {x : Nmd} : ∀ {l : List Nmd}, Db l → (∀ y ∈ l, y.1 ≠ x.1) → ∀ z ∈ l.dropWhile (fun y => tlt y.1 x.1), tlt x.1 z.1 = true
 | [], _, _, z, hz => by simp at hz
 | y :: l, hs, hn, z, hz => by
  obtain ⟨h1, h2⟩ := List.pairwise_cons.1 hs
  simp only [List.dropWhile_cons] at hz
  cases hy : tlt y.1 x.1 with
  | true =>
   rw [hy] at hz
   simp only [if_true] at hz
   exact Tq h2 (fun w hw => hn w (List.mem_cons_of_mem _ hw)) z hz
  | false =>
   rw [hy] at hz
   simp only [Bool.false_eq_true, if_false] at hz
   have hxy : tlt x.1 y.1 = true := by
    cases hh : tlt x.1 y.1 with
    | true => rfl
    | false => exact absurd (Uv hy hh) (hn y (by simp))
   rcases List.mem_cons.1 hz with rfl | hz
   ·exact hxy
   ·exact Jn hxy (h1 z hz)
theorem Pi {l : List Nmd} {x : Nmd} (hs : Db l) (hn : ∀ y ∈ l, y.1 ≠ x.1) : Db (ins l x) := by
 rw [Mya]
 have hs' : Db (l.takeWhile (fun y => tlt y.1 x.1) ++ l.dropWhile (fun y => tlt y.1 x.1)) := by rw [List.takeWhile_append_dropWhile]; exact hs
 obtain ⟨h1, h2, h3⟩ := List.pairwise_append.1 hs'
 have h4 : ∀ y ∈ l.takeWhile (fun y => tlt y.1 x.1), tlt y.1 x.1 = true := fun y hy => Z6 (p := fun y => tlt y.1 x.1) hy
 refine List.pairwise_append.2 ⟨h1, List.pairwise_cons.2 ⟨fun z hz => Tq hs hn z hz, h2⟩, fun a ha b hb => ?_⟩
 rcases List.mem_cons.1 hb with rfl | hb
 ·exact h4 a ha
 ·exact h3 a ha b hb
theorem Pj {l : List Nmd} {x y : Nmd} : y ∈ ins l x ↔ y = x ∨ y ∈ l := by
 rw [Mya]
 have e := List.takeWhile_append_dropWhile (p := fun y : Nmd => tlt y.1 x.1) (l := l)
 constructor
 ·intro h
  rcases List.mem_append.1 h with h | h
  ·right; rw [← e]; exact List.mem_append_left _ h
  ·rcases List.mem_cons.1 h with h | h
   ·exact .inl h
   ·right; rw [← e]; exact List.mem_append_right _ h
 ·rintro (rfl | h)
  ·exact List.mem_append_right _ (by simp)
  ·rw [← e] at h
   rcases List.mem_append.1 h with h | h
   ·exact List.mem_append_left _ h
   ·exact List.mem_append_right _ (List.mem_cons_of_mem _ h)
theorem Mza {l : List Nmd} {x : Nmd} (hl : Fp l = true) (hn : ∀ y ∈ l, y.1 ≠ x.1) (hx : nOk x = true) : Fp (ins l x) = decide ((ins l x).length ≤ 60) := by
 obtain ⟨h1, h2, h3⟩ := Ae.1 hl
 by_cases h : (ins l x).length ≤ 60
 ·rw [decide_eq_true h]
  exact Ae.2 ⟨Pi h1 hn, fun y hy => by rcases Pj.1 hy with rfl | hy; exact hx; exact h2 y hy, h⟩
 ·rw [decide_eq_false h]
  cases hc : Fp (ins l x) with
  | false => rfl
  | true => exact absurd (Ae.1 hc).2.2 h
theorem Tr {l : List Nmd} {s : ByteArray} : ∀ y ∈ cut l s, y.1 ≠ s := fun y hy e => by
 have := (List.mem_filter.1 hy).2
 simp [e, Gp.2 rfl] at this
theorem Oqa {l : List Nmd} {s : ByteArray} : cut (cut l s) s = cut l s := by
 unfold cut
 rw [List.filter_filter]
 congr 1
 funext x
 simp
theorem Ora {d : Dsk} {s : ByteArray} (hd : Aq d = true) : syS d s = syI d s := by
 unfold Aq at hd
 rw [Bool.and_eq_true] at hd
 have hs := (Ae.1 hd.2).1
 unfold syS syI
 rw [Mb hs]
 cases fnd d.1 s with
 | none => rfl
 | some i =>
  show ptl _ false (cut d.2 s) = ins (cut d.2 s) _
  rw [Tp _ (Jg hs)]
  show ins (cut (cut d.2 s) s) _ = _
  rw [Oqa]
theorem Iya {d : Dsk} {s : ByteArray} (hd : Aq d = true) (hs : Cq s = true) : Aq (d.1, syI d s) = decide ((syI d s).length ≤ 60) := by
 have hd' := hd
 unfold Aq at hd'
 rw [Bool.and_eq_true] at hd'
 have h2 := Ae.1 hd'.2
 unfold Aq
 rw [hd'.1, Bool.true_and]
 unfold syI
 rw [Mb h2.1]
 cases h : fnd d.1 s with
 | none => show Fp (cut d.2 s) = decide ((cut d.2 s).length ≤ 60); rw [Rv hd'.2, decide_eq_true (Ae.1 (Rv (s := s) hd'.2)).2.2]
 | some i =>
  refine Mza (Rv hd'.2) Tr (Ma.2 ⟨hs, ?_⟩)
  have h1 := (Ae.1 hd'.1).2.1 _ (Da (d := Cb) (J4 h).1)
  exact (Ma.1 h1).2
theorem Osa {l : List Nmd} (hs : Db l) {x y : Nmd} (hx : x ∈ l) (hy : y ∈ l) (e : x.1 = y.1) : x = y := by
 induction l with
 | nil => simp at hx
 | cons z l ih =>
  obtain ⟨h1, h2⟩ := List.pairwise_cons.1 hs
  rcases List.mem_cons.1 hx with hx' | hx'
  ·rcases List.mem_cons.1 hy with hy' | hy'
   ·rw [hx', hy']
   ·have := h1 y hy'; rw [← hx', e, Ii] at this; cases this
  ·rcases List.mem_cons.1 hy with hy' | hy'
   ·have := h1 x hx'; rw [← hy', e, Ii] at this; cases this
   ·exact ih h2 hx' hy'
end Go.Proofs.YtgocagaijgcnmaaGreat.Vf
end

section
set_option linter.unusedVariables false
set_option linter.unusedSimpArgs false
namespace Go.Proofs.YtgocagaijgcnmaaGreat.Vf
open Go
def wrI (d : Dsk) (s : ByteArray) (b : List Int) : List Nmd := ins (del d.1 s) (s, b)
theorem Dya {d : Dsk} {s : ByteArray} {b : List Int} (hd : Aq d = true) (hs : Cq s = true) : ptl (s, b) false d.1 = wrI d s b ∧ Aq (wrI d s b, d.2) = (decide (b.length ≤ 400) && decide ((wrI d s b).length ≤ 60)) := by
 have hd' := hd
 unfold Aq at hd'
 rw [Bool.and_eq_true] at hd'
 have h1 := Ae.1 hd'.1
 have e1 : wrI d s b = ins (cut d.1 s) (s, b) := by unfold wrI; rw [Mb h1.1]
 refine ⟨by rw [e1]; exact Tp _ h1.1, ?_⟩
 unfold Aq
 rw [hd'.2, Bool.and_true, e1]
 by_cases hb : b.length ≤ 400
 ·rw [decide_eq_true hb, Bool.true_and]
  exact Mza (Rv hd'.1) Tr (Ma.2 ⟨hs, hb⟩)
 ·rw [decide_eq_false hb, Bool.false_and]
  cases hc : Fp (ins (cut d.1 s) (s, b)) with
  | false => rfl
  | true => exact absurd (Ma.1 ((Ae.1 hc).2.1 (s, b) (Pj.2 (.inl rfl)))).2 hb
end Go.Proofs.YtgocagaijgcnmaaGreat.Vf
end

section
set_option linter.unusedVariables false
set_option linter.unusedSimpArgs false
namespace Go.Proofs.YtgocagaijgcnmaaGreat.Vf
open Go
def TS (l : List ByteArray) : Prop := l.Pairwise (fun a b => tlt a b = true)
def pk (l : List Nmd) (s : ByteArray) : Option Nmd := match fnd l s with
 | some i => some (l.getD i Cb)
 | none => none
def Lo : ByteArray := ⟨#[]⟩
def tpl (l : List ByteArray) (s : ByteArray) : Nat := (l.takeWhile (fun y => tlt y s)).length
def wt (l : List ByteArray) (s : ByteArray) : List ByteArray := if tpl l s < l.length ∧ teq (l.getD (tpl l s) Lo) s = true then l else l.take (tpl l s) ++ [s] ++ l.drop (tpl l s)
theorem N0a (l : List ByteArray) (s : ByteArray) : tpl l s ≤ l.length := (List.takeWhile_sublist _).length_le
theorem Q1 (l : List ByteArray) (s : ByteArray) (hf : l.length ≤ 1000000000000) : ∀ (n i : Nat), l.length - i = n → i ≤ l.length →
  Tot (fun k => Cf k l s (i : Int)) (fun r => r = (l, s, ((i + tpl (l.drop i) s : Nat) : Int))) := by
 intro n
 induction n with
 | zero =>
  intro i hd hi
  refine Tot.succ ?_
  simp only [Cf]
  refine Tot.ndec (by omega) (Tot.pure ?_)
  rw [List.drop_of_length_le (by omega)]
  rfl
 | succ n ih =>
  intro i hd hi
  have hlt : i < l.length := by omega
  refine Tot.succ ?_
  simp only [Cf]
  refine Tot.dec (by omega) (Tot.dec (by omega) (Tot.dec (by omega) ?_))
  rw [show Int.toNat (i : Int) = i from Int.toNat_natCast i, w64 (n := (i : Int) + 1) (by omega) (by omega), Bh (d := Lo) hlt]
  have e0 : l.getD i (⟨#[]⟩ : ByteArray) = l.getD i Lo := rfl
  rw [e0]
  have e1 : tpl (l.getD i Lo :: l.drop (i + 1)) s = if tlt (l.getD i Lo) s then tpl (l.drop (i + 1)) s + 1 else 0 := by
   unfold tpl
   rw [List.takeWhile_cons]
   split <;> rfl
  rw [e1]
  refine Tot.ite (fun h => ?_) (fun h => ?_)
  ·have h' : tlt (l.getD i Lo) s = true := h
   rw [if_pos h']
   refine (ih (i + 1) (by omega) (by omega)).mono ?_
   rintro r rfl
   rw [show i + 1 + tpl (l.drop (i + 1)) s = i + (tpl (l.drop (i + 1)) s + 1) by omega]
  ·have h' : ¬ (tlt (l.getD i Lo) s = true) := by
    have : tlt (l.getD i Lo) s = false := h
    rw [this]; simp
   rw [if_neg h']
   exact Tot.pure rfl
theorem Ol (l : List ByteArray) (s : ByteArray) (hf : l.length ≤ 1000000) : Tot (fun k => Ca k l s) (fun r => r = wt l s) := by
 unfold Ca
 refine Tot.bind (Q1 l s (by omega) _ 0 rfl (Nat.zero_le _)) ?_
 intro r hr
 rw [List.drop_zero, Nat.zero_add] at hr
 subst hr
 have hj := N0a l s
 generalize hjj : tpl l s = j at *
 dsimp only
 have hno : ¬ (j < l.length ∧ teq (l.getD j Lo) s = true) → Tot (fun k => cond (decide ((0 : Int) ≤ (j : Int))) (cond (decide ((j : Int) ≤ (List.length l : Int))) (cond (Nat.ble ((List.length ([] : List ByteArray) + List.length (List.take (Int.toNat (j : Int)) l)) * 16) 140737488355328) (let v3 : List ByteArray := ([] : List ByteArray) ++ (List.take (Int.toNat (j : Int)) l); cond (Nat.ble ((List.length v3 + List.length [s]) * 16) 140737488355328) (cond (decide ((0 : Int) ≤ (j : Int))) (cond (decide ((j : Int) ≤ (List.length l : Int))) (cond (Nat.ble ((List.length (v3 ++ [s]) + List.length (List.drop (Int.toNat (j : Int)) l)) * 16) 140737488355328) (some ((v3 ++ [s]) ++ (List.drop (Int.toNat (j : Int)) l))) none) none) none) none) none) none) none)
   (fun r => r = wt l s) := by
  intro hn
  refine Tot.dec (by omega) (Tot.dec (by omega) ?_)
  rw [show Int.toNat (j : Int) = j from Int.toNat_natCast j]
  refine Tot.ble (by simp only [List.length_nil, List.length_take]; omega) ?_
  refine Tot.ble (by simp only [List.length_append, List.length_nil, List.length_take, List.length_cons]; omega) ?_
  refine Tot.dec (by omega) (Tot.dec (by omega) (Tot.ble (by simp only [List.length_append, List.length_nil, List.length_take, List.length_drop, List.length_cons]; omega) (Tot.pure ?_)))
  unfold wt
  rw [hjj, if_neg hn, List.nil_append]
 refine Tot.dite (fun h => ?_) (fun h => hno (fun hh => h (by omega)))
 refine Tot.dec (by omega) (Tot.dec h ?_)
 rw [show Int.toNat (j : Int) = j from Int.toNat_natCast j] at *
 refine Tot.ite (fun he => Tot.pure ?_) (fun he => hno (fun hh => ?_))
 ·unfold wt
  rw [hjj, if_pos ⟨by omega, he⟩]
 ·have h2 : teq (l.getD j Lo) s = false := he
  rw [h2] at hh
  cases hh.2
theorem Dza (p : ByteArray → Bool) : ∀ l : List ByteArray, l.take (l.takeWhile p).length = l.takeWhile p ∧ l.drop (l.takeWhile p).length = l.dropWhile p
 | [] => ⟨rfl, rfl⟩
 | y :: l => by
  obtain ⟨h1, h2⟩ := Dza p l
  simp only [List.takeWhile_cons, List.dropWhile_cons]
  cases p y with
  | true => simp [h1, h2]
  | false => simp
theorem Tt {p : ByteArray → Bool} : ∀ {l : List ByteArray} {y : ByteArray}, y ∈ l.takeWhile p → p y = true
 | [], y, h => by simp at h
 | z :: l, y, h => by
  simp only [List.takeWhile_cons] at h
  cases hz : p z with
  | false => rw [hz] at h; simp at h
  | true =>
   rw [hz] at h
   simp only [if_true] at h
   rcases List.mem_cons.1 h with rfl | h
   ·exact hz
   ·exact Tt h
theorem Rx {s : ByteArray} : ∀ {l : List ByteArray}, TS l → (∀ y r, l.dropWhile (fun y => tlt y s) = y :: r → y ≠ s) → ∀ z ∈ l.dropWhile (fun y => tlt y s), tlt s z = true
 | [], _, _, z, hz => by simp at hz
 | y :: l, hs, hn, z, hz => by
  obtain ⟨h1, h2⟩ := List.pairwise_cons.1 hs
  simp only [List.dropWhile_cons] at hz hn
  cases hy : tlt y s with
  | true =>
   rw [hy] at hz hn
   simp only [if_true] at hz hn
   exact Rx h2 hn z hz
  | false =>
   rw [hy] at hz hn
   simp only [Bool.false_eq_true, if_false] at hz hn
   have hxy : tlt s y = true := by
    cases hh : tlt s y with
    | true => rfl
    | false => exact absurd (Uv hy hh) (hn y l rfl)
   rcases List.mem_cons.1 hz with rfl | hz
   ·exact hxy
   ·exact Jn hxy (h1 z hz)
theorem Iza {l : List ByteArray} {s : ByteArray} (hs : TS l) : TS (wt l s) := by
 unfold wt
 by_cases h : tpl l s < l.length ∧ teq (l.getD (tpl l s) Lo) s = true
 ·rw [if_pos h]; exact hs
 ·rw [if_neg h]
  obtain ⟨e1, e2⟩ := Dza (fun y => tlt y s) l
  have hd : ∀ y r, l.dropWhile (fun y => tlt y s) = y :: r → y ≠ s := by
   intro y r hr hy
   rw [← e2] at hr
   have hlt : tpl l s < l.length := by
    rcases Nat.lt_or_ge (tpl l s) l.length with h' | h'
    ·exact h'
    ·have : l.drop (tpl l s) = [] := List.drop_of_length_le h'
     unfold tpl at this
     rw [this] at hr
     cases hr
   have : l.drop (tpl l s) = l.getD (tpl l s) Lo :: l.drop (tpl l s + 1) := Bh hlt
   unfold tpl at this
   rw [this] at hr
   simp only [List.cons.injEq] at hr
   exact h ⟨hlt, Gp.2 (hr.1.trans hy)⟩
  have e1' : l.take (tpl l s) = l.takeWhile (fun y => tlt y s) := e1
  have e2' : l.drop (tpl l s) = l.dropWhile (fun y => tlt y s) := e2
  rw [e1', e2', List.append_assoc]
  have hs' : TS (l.takeWhile (fun y => tlt y s) ++ l.dropWhile (fun y => tlt y s)) := by rw [List.takeWhile_append_dropWhile]; exact hs
  obtain ⟨h1, h2, h3⟩ := List.pairwise_append.1 hs'
  refine List.pairwise_append.2 ⟨h1, List.pairwise_cons.2 ⟨fun z hz => Rx hs hd z hz, h2⟩, fun a ha b hb => ?_⟩
  rcases List.mem_cons.1 hb with rfl | hb
  ·exact Tt (p := fun y => tlt y b) ha
  ·exact h3 a ha b hb
end Go.Proofs.YtgocagaijgcnmaaGreat.Vf
end

section
set_option linter.unusedVariables false
set_option linter.unusedSimpArgs false
namespace Go.Proofs.YtgocagaijgcnmaaGreat.Vf
open Go
theorem E0a {l : List ByteArray} {s : ByteArray} : (wt l s).length ≤ l.length + 1 := by
 unfold wt
 have := N0a l s
 split
 ·omega
 ·simp only [List.length_append, List.length_take, List.length_drop, List.length_cons, List.length_nil]; omega
end Go.Proofs.YtgocagaijgcnmaaGreat.Vf
end

section
set_option linter.unusedVariables false
set_option linter.unusedSimpArgs false
namespace Go.Proofs.YtgocagaijgcnmaaGreat.Vf
open Go
section
variable {α σ R : Type} {a b : α} {p : Prop} [Decidable p]
theorem dT (h : p) : cond (decide p) a b = a := by rw [decide_eq_true h]; rfl
theorem dF (h : ¬ p) : cond (decide p) a b = b := by rw [decide_eq_false h]; rfl
theorem Tot.up {L : Nat → Int → σ → Option R} {Q : R → Prop} (n : Nat) (I : Nat → σ → Prop) (hend : ∀ s, I n s → Tot (fun k => L (k + 1) (n : Int) s) Q)
  (hstep : ∀ i s, i < n → I i s → (∀ s', I (i + 1) s' → Tot (fun k => L k ((i : Int) + 1) s') Q) → Tot (fun k => L (k + 1) (i : Int) s) Q) :
  ∀ (i : Nat) (s : σ), i ≤ n → I i s → Tot (fun k => L k (i : Int) s) Q := by
 suffices h : ∀ (m i : Nat) (s : σ), n - i = m → i ≤ n → I i s → Tot (fun k => L k (i : Int) s) Q from fun i s hi hs => h _ i s rfl hi hs
 intro m
 induction m with
 | zero =>
  intro i s hm hi hs
  obtain rfl : i = n := by omega
  exact Tot.succ (hend s hs)
 | succ m ih =>
  intro i s hm hi hs
  refine Tot.succ (hstep i s (by omega) hs fun s' hs' => ?_)
  have := ih (i + 1) s' (by omega) (by omega) hs'
  rwa [show (((i + 1 : Nat)) : Int) = (i : Int) + 1 by omega] at this
end
def cst (x : BitVec 32) : BitVec 32 := if x.getLsbD 0 then (x >>> 1) ^^^ 2197175160#32 else x >>> 1
def Sn : Nat → BitVec 32 → BitVec 32
 | 0, x => x
 | n + 1, x => Sn n (cst x)
def cby (x : BitVec 32) (b : Int) : BitVec 32 := Sn 8 (x ^^^ BitVec.ofInt 32 b)
def Pka (l : List Int) : BitVec 32 := ~~~ (l.foldl cby 4294967295#32)
def crc (l : List Int) : Int := ((Pka l).toNat : Int)
theorem S9a (v : BitVec 32) : v.getLsbD 0 = decide (v.toNat % 2 = 1) := by
 rw [BitVec.getLsbD, Nat.testBit_zero]
theorem Bma (v : BitVec 32) : BitVec.ofInt (IntKind.bits .u32) (v.toNat : Int) = v := by
 show BitVec.ofInt 32 (v.toNat : Int) = v
 rw [BitVec.ofInt_natCast, BitVec.ofNat_toNat, BitVec.setWidth_eq]
theorem Bna (n : Nat) (h : n < 4294967296) : (BitVec.ofInt (IntKind.bits .i64) (n : Int)).toNat = n := Og n (by omega)
theorem Rva (v : BitVec 32) : IntKind.wrap .u32 (v.toNat : Int) = (v.toNat : Int) := Go.IntWalk.u32_in _ ⟨by omega, by have := v.isLt; omega⟩
theorem sh1 (v : BitVec 32) : Int.fdiv (v.toNat : Int) 2 = ((v >>> 1).toNat : Int) := by
 rw [Int.fdiv_eq_ediv_of_nonneg _ (by omega), BitVec.toNat_ushiftRight, Nat.shiftRight_eq_div_pow]
 omega
theorem Rwa (v : BitVec 32) : ((IntKind.wrap .u32 ((BitVec.ofInt (IntKind.bits .u32) (v.toNat : Int) &&& BitVec.ofInt (IntKind.bits .u32) 1).toNat)) == 1) = v.getLsbD 0 := by
 show (IntKind.wrap .u32 (((BitVec.ofInt 32 (v.toNat : Int) &&& BitVec.ofInt 32 1).toNat : Nat) : Int) == 1) = _
 rw [show BitVec.ofInt 32 (v.toNat : Int) = v from Bma v, Rva, S9a, BitVec.toNat_and, show (BitVec.ofInt 32 1).toNat = 1 from by decide, Nat.and_one_is_mod, Bool.eq_iff_iff, beq_iff_eq, decide_eq_true_iff]
 omega
theorem Rxa (v : BitVec 32) : ((IntKind.wrap .i64 ((BitVec.ofInt (IntKind.bits .i64) (v.toNat : Int) &&& BitVec.ofInt (IntKind.bits .i64) 1).toNat)) == 1) = v.getLsbD 0 := by
 have := v.isLt
 rw [S9a, BitVec.toNat_and, Bna _ v.isLt, show (BitVec.ofInt (IntKind.bits .i64) 1).toNat = 1 from by decide, Nat.and_one_is_mod, w64 (by omega) (by omega), Bool.eq_iff_iff, beq_iff_eq, decide_eq_true_iff]
 omega
theorem Saa (v w : BitVec 32) (x : Int) (h : BitVec.ofInt 32 x = w) : IntKind.wrap .u32 ((BitVec.ofInt (IntKind.bits .u32) (v.toNat : Int) ^^^ BitVec.ofInt (IntKind.bits .u32) x).toNat) = ((v ^^^ w).toNat : Int) := by
 show IntKind.wrap .u32 (((BitVec.ofInt 32 (v.toNat : Int) ^^^ BitVec.ofInt 32 x).toNat : Nat) : Int) = _
 rw [show BitVec.ofInt 32 (v.toNat : Int) = v from Bma v, h]
 exact Rva _
theorem Rya (v w : BitVec 32) : IntKind.wrap .i64 ((BitVec.ofInt (IntKind.bits .i64) (v.toNat : Int) ^^^ BitVec.ofInt (IntKind.bits .i64) (w.toNat : Int)).toNat) = ((v ^^^ w).toNat : Int) := by
 have := (v ^^^ w).isLt
 rw [BitVec.toNat_xor, Bna _ v.isLt, Bna _ w.isLt, ← BitVec.toNat_xor]
 exact w64 (by omega) (by omega)
theorem Sba (K : IntKind) (h : 1 ≤ IntKind.bits K) : (2 : Int) ^ (min (Int.toNat 1) (IntKind.bits K)) = 2 := by
 rw [show Int.toNat 1 = 1 from rfl, Nat.min_eq_left h]; rfl
theorem Fca (l : List Int) (x8 x9 : Int) : ∀ (n : Nat) (v : BitVec 32) (i : Int), 0 ≤ i → 8 - i = n → Tot (fun k => G8 k (v.toNat : Int) l x8 x9 i) (fun r => r = (((Sn n v).toNat : Int), l, x8, x9)) := by
 intro n
 induction n with
 | zero =>
  intro v i h0 hn
  refine Tot.succ ?_
  simp only [G8]
  exact Tot.ndec (by omega) (Tot.pure rfl)
 | succ n ih =>
  intro v i h0 hn
  refine Tot.succ ?_
  simp only [G8]
  refine Tot.dec (by omega) ?_
  rw [w64 (n := i + 1) (by omega) (by omega), Rwa, Sba _ (by decide), sh1, Saa _ 2197175160#32 _ (by decide)]
  have e : Sn (n + 1) v = Sn n (cst v) := rfl
  rw [e]
  refine Tot.ite (fun h => ?_) (fun h => ?_)
  ·have := ih (v >>> 1 ^^^ 2197175160#32) (i + 1) (by omega) (by omega)
   rwa [show v >>> 1 ^^^ 2197175160#32 = cst v by unfold cst; rw [if_pos h]] at this ⊢
  ·have := ih (v >>> 1) (i + 1) (by omega) (by omega)
   rwa [show v >>> 1 = cst v by unfold cst; rw [if_neg (by rw [h]; simp)]] at this ⊢
theorem Boa (l : List Int) (x4 : Int) : ∀ (n : Nat) (v : BitVec 32) (i : Int), 0 ≤ i → 8 - i = n → Tot (fun k => Ei k l (v.toNat : Int) x4 i) (fun r => r = (l, ((Sn n v).toNat : Int), x4)) := by
 intro n
 induction n with
 | zero =>
  intro v i h0 hn
  refine Tot.succ ?_
  simp only [Ei]
  exact Tot.ndec (by omega) (Tot.pure rfl)
 | succ n ih =>
  intro v i h0 hn
  refine Tot.succ ?_
  simp only [Ei]
  have hp : (2197175160 : Int) = ((2197175160#32 : BitVec 32).toNat : Int) := by decide
  refine Tot.dec (by omega) ?_
  rw [w64 (n := i + 1) (by omega) (by omega), Rxa, Sba _ (by decide), sh1, hp, Rya]
  have e : Sn (n + 1) v = Sn n (cst v) := rfl
  rw [e]
  refine Tot.ite (fun h => ?_) (fun h => ?_)
  ·have := ih (v >>> 1 ^^^ 2197175160#32) (i + 1) (by omega) (by omega)
   rwa [show v >>> 1 ^^^ 2197175160#32 = cst v by unfold cst; rw [if_pos h]] at this ⊢
  ·have := ih (v >>> 1) (i + 1) (by omega) (by omega)
   rwa [show v >>> 1 = cst v by unfold cst; rw [if_neg (by rw [h]; simp)]] at this ⊢
theorem J0a {b : Int} (h : 0 ≤ b ∧ b ≤ 255) : b = ((BitVec.ofInt 32 b).toNat : Int) := by
 rw [BitVec.toNat_ofInt]
 omega
theorem Ota (l : List Int) (hb : B4 l) (hl : l.length ≤ 1000000000000) : Tot (fun k => Hu k l) (fun r => r = crc l) := by
 unfold Hu
 refine Tot.bind (Q := fun r => r = (((l.foldl cby 4294967295#32).toNat : Nat) : Int)) ?_ ?_
 ·have := Tot.up (L := fun k i s => Gi k s l (l.length : Int) i) (Q := fun r => r = (((l.foldl cby 4294967295#32).toNat : Nat) : Int)) l.length (fun i s => ∃ v : BitVec 32, s = (v.toNat : Int) ∧ (l.drop i).foldl cby v = l.foldl cby 4294967295#32) ?_ ?_ 0 4294967295 (Nat.zero_le _) ⟨4294967295#32, by decide, by rw [List.drop_zero]⟩
  ·exact this
  ·rintro s ⟨v, rfl, hv⟩
   simp only [Gi]
   rw [List.drop_length] at hv
   exact Tot.ndec (by omega) (Tot.pure (by rw [← hv]; rfl))
  ·rintro i s hi ⟨v, rfl, hv⟩ next
   simp only [Gi]
   have hx := hb _ (Da (d := 0) hi)
   refine Tot.dec (by omega) (Tot.dec (by omega) (Tot.dec (by omega) ?_))
   rw [Int.toNat_natCast, Go.IntWalk.u32_in _ ⟨hx.1, by omega⟩, Saa v _ _ rfl]
   refine Tot.bind (Fca l _ _ 8 _ 0 (by decide) (by decide)) ?_
   rintro r rfl
   simp only
   rw [w64 (n := (i : Int) + 1) (by omega) (by omega)]
   refine next _ ⟨_, rfl, ?_⟩
   rw [Bh (d := 0) hi, List.foldl_cons] at hv
   exact hv
 ·rintro r rfl
  refine Tot.pure ?_
  unfold crc Pka
  have hm : BitVec.ofInt 32 (if IntKind.signed .u32 then -1 else IntKind.max .u32) = BitVec.allOnes 32 := by decide
  have e : BitVec.allOnes 32 ^^^ l.foldl cby 4294967295#32 = ~~~ (l.foldl cby 4294967295#32) := by rw [BitVec.xor_comm]; exact BitVec.xor_allOnes
  show IntKind.wrap .i64 (IntKind.wrap .u32 (((BitVec.ofInt 32 (if IntKind.signed .u32 then -1 else IntKind.max .u32) ^^^ BitVec.ofInt 32 ((l.foldl cby 4294967295#32).toNat : Int)).toNat : Nat) : Int)) = _
  rw [show BitVec.ofInt 32 ((l.foldl cby 4294967295#32).toNat : Int) = l.foldl cby 4294967295#32 from Bma _, hm, e]
  have := (~~~ (l.foldl cby 4294967295#32)).isLt
  rw [Rva, w64 (by omega) (by omega)]
theorem Oua (l : List Int) (hb : B4 l) (hl : l.length ≤ 1000000000000) : Tot (fun k => H8 k l) (fun r => r = crc l) := by
 unfold H8
 refine Tot.bind (Q := fun r => r = (((l.foldl cby 4294967295#32).toNat : Nat) : Int)) ?_ ?_
 ·have := Tot.up (L := fun k i s => Ev k l s i) (Q := fun r => r = (((l.foldl cby 4294967295#32).toNat : Nat) : Int)) l.length (fun i s => ∃ v : BitVec 32, s = (v.toNat : Int) ∧ (l.drop i).foldl cby v = l.foldl cby 4294967295#32) ?_ ?_ 0 4294967295 (Nat.zero_le _) ⟨4294967295#32, by decide, by rw [List.drop_zero]⟩
  ·exact this
  ·rintro s ⟨v, rfl, hv⟩
   simp only [Ev]
   rw [List.drop_length] at hv
   exact Tot.ndec (by omega) (Tot.pure (by rw [← hv]; rfl))
  ·rintro i s hi ⟨v, rfl, hv⟩ next
   simp only [Ev]
   have hx := hb _ (Da (d := 0) hi)
   refine Tot.dec (by omega) (Tot.dec (by omega) (Tot.dec (by omega) ?_))
   rw [Int.toNat_natCast, w64 (n := l.getD i 0) (by omega) (by omega), J0a hx, Rya]
   refine Tot.bind (Boa l _ 8 _ 0 (by decide) (by decide)) ?_
   rintro r rfl
   simp only
   rw [w64 (n := (i : Int) + 1) (by omega) (by omega)]
   refine next _ ⟨_, rfl, ?_⟩
   rw [Bh (d := 0) hi, List.foldl_cons] at hv
   exact hv
 ·rintro r rfl
  refine Tot.pure ?_
  have hp : (4294967295 : Int) = ((BitVec.allOnes 32 : BitVec 32).toNat : Int) := by decide
  rw [hp, Rya, BitVec.xor_allOnes]
  rfl
end Go.Proofs.YtgocagaijgcnmaaGreat.Vf
end

section
set_option linter.unusedVariables false
set_option linter.unusedSimpArgs false
namespace Go.Proofs.YtgocagaijgcnmaaGreat.Vf
open Go
def Pla : Fil := (((0 : Int), ((0 : Int), (0 : Int))), (false, ([] : List Int)))
def Fn (f : Fil) : Bool := Ia f.1 && (decide ((f.2.2.length : Int) ≤ 200) && (!f.2.1 || ((f.2.2.length : Int) == 0)))
theorem Lla (f : Fil) : D7 f = some (Fn f) := by
 unfold D7 Fn
 rw [Y3]
 simp only [Option.bind_some]
 cases Ia f.1 <;> cases decide ((List.length f.2.2 : Int) ≤ 200) <;> cases f.2.1 <;> rfl
theorem Qg (f : Fil) : Bi f = some (Fn f) := by
 unfold Bi Fn
 rw [Rp]
 simp only [Option.bind_some]
 cases Ia f.1 <;> cases decide ((List.length f.2.2 : Int) ≤ 200) <;> cases f.2.1 <;> rfl
theorem Mw {f : Fil} : Fn f = true ↔ Ia f.1 = true ∧ f.2.2.length ≤ 200 ∧ (f.2.1 = true → f.2.2 = []) := by
 unfold Fn
 rw [Bool.and_eq_true, Bool.and_eq_true, decide_eq_true_iff]
 have : (!f.2.1 || ((f.2.2.length : Int) == 0)) = true ↔ (f.2.1 = true → f.2.2 = []) := by
  cases f.2.1 with
  | false => simp
  | true => simp
 rw [this]
 constructor
 ·rintro ⟨h1, h2, h3⟩; exact ⟨h1, by omega, h3⟩
 ·rintro ⟨h1, h2, h3⟩; exact ⟨h1, by omega, h3⟩
theorem J1a (a b : Fil) : H0 a b = some (sle b.1 a.1) := by unfold H0; rw [Dfa]; rfl
def hdF (s : Stp) (d : Bool) : List Int := Jra s ++ Zw (Ea (F7a d))
def Mc (f : Fil) : List Int := hdF f.1 f.2.1 ++ txt (Hd f.2.2)
def c4 (c : Int) : List Int := [IntKind.wrap .u8 (Int.fdiv c (2 ^ (min (Int.toNat 24) (IntKind.bits .i64)))), IntKind.wrap .u8 (Int.fdiv c (2 ^ (min (Int.toNat 16) (IntKind.bits .i64)))), IntKind.wrap .u8 (Int.fdiv c (2 ^ (min (Int.toNat 8) (IntKind.bits .i64)))), IntKind.wrap .u8 c]
def Ks (f : Fil) : List Int := bif Fn f then Mc f ++ c4 (crc (Mc f)) else []
theorem Kt {a b : List Int} (ha : B4 a) (hb : B4 b) : B4 (a ++ b) := fun x hx => (List.mem_append.1 hx).elim (ha x) (hb x)
theorem Md (n : Int) : B4 (Zw (Ea n)) := F6a _ (Rr n)
theorem J2a (s : Stp) (d : Bool) : B4 (hdF s d) := Kt (Kt (Md _) (Kt (Md _) (Md _))) (Md _)
theorem Ll (f : Fil) : B4 (Mc f) := Kt (J2a _ _) (Kt (Md _) (Ti _))
theorem Lma (c : Int) : B4 (c4 c) := by
 intro x hx
 simp only [c4, List.mem_cons, List.not_mem_nil, or_false] at hx
 rcases hx with rfl | rfl | rfl | rfl <;> exact Xv _
theorem Ku (f : Fil) : B4 (Ks f) := by
 unfold Ks
 cases Fn f with
 | false => intro x hx; simp at hx
 | true => exact Kt (Ll f) (Lma _)
theorem Bpa (s : Stp) (d : Bool) : (hdF s d).length ≤ 20 := by
 have h1 := V1 s
 have h2 := (Hz (Ea (F7a d))).1
 unfold hdF
 rw [List.length_append]
 omega
theorem Ry (f : Fil) : (Mc f).length ≤ 25 + f.2.2.length := by
 have h1 := Bpa f.1 f.2.1
 have h2 := Ima (Hd f.2.2)
 have h3 : (Hd f.2.2).size = f.2.2.length := Jf _
 unfold Mc
 rw [List.length_append]
 omega
theorem E1a (f : Fil) : (Ks f).length ≤ 229 := by
 unfold Ks
 cases h : Fn f with
 | false => simp
 | true =>
  have h1 := Ry f
  have h2 := (Mw.1 h).2.1
  rw [cond_true, List.length_append]
  simp only [c4, List.length_cons, List.length_nil]
  omega
theorem Nk (f : Fil) : Tot (fun k => D8 k f) (fun r => r = Ks f) := by
 unfold D8 Ks
 refine Tot.bind (Tot.of (Q := fun b => b = Fn f) (Lla f) rfl) ?_
 rintro b rfl
 cases h : Fn f with
 | false => exact Tot.yes rfl (Tot.pure rfl)
 | true =>
  have h2 := (Mw.1 h).2.1
  have h3 : (Hd f.2.2).size = f.2.2.length := Jf _
  have h4 := Bpa f.1 f.2.1
  have h5 := Ry f
  refine Tot.no rfl (Tot.bind (F8a [] f.1 f.2.1 (by simp)) ?_)
  rintro r rfl
  rw [List.nil_append]
  refine Tot.bind (Lea _ _ (by unfold hdF at h4; omega) (by omega)) ?_
  rintro r rfl
  have e : Jra f.1 ++ Zw (Ea (F7a f.2.1)) ++ txt (Hd f.2.2) = Mc f := rfl
  rw [e]
  refine Tot.bind (Ota _ (Ll f) (by omega)) ?_
  rintro r rfl
  exact Tot.ble (by simp only [List.length_cons, List.length_nil]; omega) (Tot.pure rfl)
theorem Nl (f : Fil) : Tot (fun k => B2 k f) (fun r => r = Ks f) := by
 unfold B2 Ks
 refine Tot.bind (Tot.of (Q := fun b => b = Fn f) (Qg f) rfl) ?_
 rintro b rfl
 cases h : Fn f with
 | false => exact Tot.yes rfl (Tot.pure rfl)
 | true =>
  have h2 := (Mw.1 h).2.1
  have h3 : (Hd f.2.2).size = f.2.2.length := Jf _
  have h4 := Bpa f.1 f.2.1
  have h5 := Ry f
  have h6 := V1 f.1
  refine Tot.no rfl (Tot.bind (Tk [] f.1 (by simp)) ?_)
  rintro r rfl
  rw [List.nil_append]
  refine Tot.bind (Tot.of (Q := fun r => r = F7a f.2.1) (Dqa _) rfl) ?_
  rintro c rfl
  refine Tot.bind (Ph _ _ (by omega)) ?_
  rintro d rfl
  refine Tot.bind (Doa _ _ (by unfold hdF at h4; omega) (by omega)) ?_
  rintro r rfl
  have e : Jra f.1 ++ Zw (Ea (F7a f.2.1)) ++ txt (Hd f.2.2) = Mc f := rfl
  rw [e]
  refine Tot.bind (Oua _ (Ll f) (by omega)) ?_
  rintro r rfl
  exact Tot.ble (by simp only [List.length_cons, List.length_nil]; omega) (Tot.pure rfl)
def Kw (b : List Int) : Option Fil := (N0 b 0).bind fun a => (Fta b a.2).bind fun t => bif Fn (a.1.1, a.1.2, bytesOf t.1) && decide (Ks (a.1.1, a.1.2, bytesOf t.1) = b) then some (a.1.1, a.1.2, bytesOf t.1) else none
def Pk (b : List Int) : Fil × Bool := match Kw b with
 | some f => (f, true)
 | none => (Pla, false)
theorem J3a {b : List Int} {f : Fil} (h : Kw b = some f) : Fn f = true ∧ B4 f.2.2 ∧ Ks f = b := by
 unfold Kw at h
 simp only [Option.bind_eq_some_iff] at h
 obtain ⟨a, _, t, _, h⟩ := h
 cases hc : (Fn (a.1.1, a.1.2, bytesOf t.1) && decide (Ks (a.1.1, a.1.2, bytesOf t.1) = b)) with
 | false => rw [hc] at h; cases h
 | true =>
  rw [hc] at h
  simp only [cond_true, Option.some.injEq] at h
  subst h
  rw [Bool.and_eq_true, decide_eq_true_iff] at hc
  exact ⟨hc.1, Ti _, hc.2⟩
theorem Lna {l : List Int} {q : Nat} {s : Stp} {d : Bool} (hb : B4 l) (h : N0 l 0 = some ((s, d), q)) : l = hdF s d ++ l.drop q ∧ q ≤ l.length := by
 unfold N0 at h
 simp only [Option.bind_eq_some_iff] at h
 obtain ⟨⟨t, p2⟩, h2, ⟨c, p3⟩, h3, ⟨n, p4⟩, h4, ⟨e, p5⟩, h5, h⟩ := h
 obtain ⟨b1, b2, b3, b4⟩ := Nj hb h2
 obtain ⟨c1, c2, c3, c4⟩ := Nj hb h3
 obtain ⟨d1, d2, d3, d4⟩ := Nj hb h4
 obtain ⟨e1, e2, e3, e4⟩ := Nj hb h5
 cases hd : decide (1 < e) with
 | true => simp only [hd, cond_true] at h; cases h
 | false =>
  simp only [hd, cond_false, Option.some.injEq, Prod.mk.injEq] at h
  obtain ⟨⟨⟨rfl, rfl, rfl⟩, rfl⟩, rfl⟩ := h
  have he : e ≤ 1 := by
   have := of_decide_eq_false hd
   omega
  have hbit : Ea (F7a ((e : Int) == 1)) = e := by
   have : e = 0 ∨ e = 1 := by omega
   rcases this with rfl | rfl <;> decide
  have k : ∀ n : Nat, n ≤ 1000000000 → Ea (n : Int) = n := fun n hn => by unfold Ea; omega
  simp only at b1 b2 c1 c2 d1 d2 e1 e2
  refine ⟨?_, e4⟩
  rw [List.drop_zero] at b1
  unfold hdF Jra
  simp only
  rw [k t b2, k c c2, k n d2, hbit, List.append_assoc, List.append_assoc, List.append_assoc, ← e1, ← d1, ← c1, ← b1]
theorem Om {a b : List Int} (ha : B4 a) (hb : B4 b) : ((Hd a).toList == (Hd b).toList) = decide (a = b) := by
 have : teq (Hd a) (Hd b) = decide (a = b) := by
  rw [Bool.eq_iff_iff, Gp, decide_eq_true_iff]
  constructor
  ·intro h
   have := congrArg bytesOf h
   rwa [Lk ha, Lk hb] at this
  ·rintro rfl; rfl
 exact this
theorem Loa (l : List Int) (hb : B4 l) (hl : l.length ≤ 1000000000000) (p : Int) (hp : p ≤ 1000000000000) :
  Tot (fun k => Bn k (l, p, true)) (fun r => r = ((⟨#[]⟩ : ByteArray), l, p, true)) := by
 unfold Bn
 refine Tot.bind (Dpa l hb hl p hp) ?_
 rintro r rfl
 exact Tot.yes rfl (Tot.pure rfl)
theorem Lpa {f : Fil} : (((Ks f).length : Int) == 0) = !(Fn f) := by
 unfold Ks
 cases h : Fn f with
 | false => rfl
 | true =>
  rw [cond_true, List.length_append, Bool.not_true, beq_eq_false_iff_ne]
  simp only [c4, List.length_cons, List.length_nil]
  omega
theorem Rz (b : List Int) (hb : B4 b) (hl : b.length ≤ 1000000000000) : Tot (fun k => C7 k b) (fun r => r = Pk b) := by
 unfold C7
 refine Tot.bind (Rua b hb hl 0 (Nat.zero_le _) false) ?_
 rintro r (⟨_, ⟨s, d⟩, q, h1, h2, rfl⟩ | ⟨h1, s, d, q, h2, rfl⟩)
 ·refine Tot.bind (Rta b hb hl q h2) ?_
  rintro r (⟨t, q2, h3, h4, rfl⟩ | ⟨h3, rfl⟩)
  ·have hsz := (Bha hb h3).2.1
   refine Tot.ble (by dsimp only; omega) (Tot.bind (Nk _) ?_)
   rintro r rfl
   refine Tot.no rfl ?_
   have e : Pk b = bif Fn (s, d, bytesOf t) && decide (Ks (s, d, bytesOf t) = b) then ((s, d, bytesOf t), true) else (Pla, false) := by
    unfold Pk Kw
    simp only [h1, h3, Option.bind_some]
    cases Fn (s, d, bytesOf t) && decide (Ks (s, d, bytesOf t) = b) <;> rfl
   simp only
   rw [e, Lpa]
   cases hf : Fn (s, d, bytesOf t) with
   | false => exact Tot.yes rfl (Tot.pure rfl)
   | true =>
    refine Tot.no rfl ?_
    rw [Om (Ku _) hb]
    cases decide (Ks (s, d, bytesOf t) = b) with
    | false => exact Tot.yes rfl (Tot.pure rfl)
    | true => exact Tot.no rfl (Tot.pure rfl)
  ·refine Tot.ble (Nat.zero_le _) (Tot.bind (Nk _) ?_)
   rintro r rfl
   refine Tot.yes rfl (Tot.pure ?_)
   unfold Pk Kw
   simp only [h1, h3, Option.bind_some, Option.bind_none]
   rfl
 ·refine Tot.bind (Loa b hb hl q (by omega)) ?_
  rintro r rfl
  refine Tot.ble (Nat.zero_le _) (Tot.bind (Nk _) ?_)
  rintro r rfl
  refine Tot.yes rfl (Tot.pure ?_)
  unfold Pk Kw
  simp only [h1.resolve_left (by simp), Option.bind_none]
  rfl
theorem S4 (b : List Int) (hb : B4 b) (hl : b.length ≤ 1000000000000) : Tot (fun k => Dq k b) (fun r => r = Pk b) := by
 have none_of : Kw b = none → Pk b = (Pla, false) := fun h => by unfold Pk; rw [h]
 unfold Dq
 refine Tot.bind (Ooa b hb hl 0) ?_
 rintro r (⟨n1, p1, n2, p2, n3, p3, _, g1, g2, g3, rfl⟩ | ⟨h, hr⟩)
 ·refine Tot.bind (Pg b hb hl (p3 : Int)) ?_
  rintro r rfl
  rw [Qe]
  have g1' : Lj b 0 = some (n1, p1) := g1
  cases g4 : Lj b p3 with
  | none =>
   refine Tot.bind (V0 b hb hl 0) ?_
   rintro r rfl
   refine Tot.no rfl (Tot.yes rfl (Tot.pure (none_of ?_).symm))
   unfold Kw N0
   simp only [g1', g2, g3, g4, Option.bind_some, Option.bind_none]
  | some x =>
   obtain ⟨n4, p4⟩ := x
   simp only
   have es : N0 b 0 = bif decide (1 < n4) then none else some ((((n1 : Int), (n2 : Int), (n3 : Int)), (n4 : Int) == 1), p4) := by
    unfold N0
    simp only [g1', g2, g3, g4, Option.bind_some]
   refine Tot.bind (V0 b hb hl (p4 : Int)) ?_
   rintro r rfl
   rw [Dra]
   refine Tot.no rfl (Tot.no rfl ?_)
   cases g5 : Fta b p4 with
   | none =>
    refine Tot.yes rfl (Tot.pure (none_of ?_).symm)
    unfold Kw
    rw [es]
    cases decide (1 < n4) with
    | true => rfl
    | false => simp only [cond_false, Option.bind_some, g5, Option.bind_none]
   | some y =>
    obtain ⟨t, q⟩ := y
    refine Tot.no rfl (Tot.dite (fun h => Tot.pure (none_of ?_).symm) (fun h => ?_))
    ·unfold Kw
     rw [es, decide_eq_true (by omega)]
     rfl
    ·rw [decide_eq_false (by omega), cond_false] at es
     have hq := Bha hb g5
     simp only
     rw [w64 (n := (q : Int) + 4) (by omega) (by omega)]
     have ef : Kw b = bif Fn (((n1 : Int), (n2 : Int), (n3 : Int)), (n4 : Int) == 1, bytesOf t) && decide (Ks (((n1 : Int), (n2 : Int), (n3 : Int)), (n4 : Int) == 1, bytesOf t) = b) then some (((n1 : Int), (n2 : Int), (n3 : Int)), (n4 : Int) == 1, bytesOf t) else none := by
      unfold Kw
      simp only [es, g5, Option.bind_some]
     refine Tot.ite (fun h4 => Tot.pure (none_of ?_).symm) (fun h4 => ?_)
     ·rw [ef]
      cases hc : (Fn (((n1 : Int), (n2 : Int), (n3 : Int)), (n4 : Int) == 1, bytesOf t) && decide (Ks (((n1 : Int), (n2 : Int), (n3 : Int)), (n4 : Int) == 1, bytesOf t) = b)) with
      | false => rfl
      | true =>
       exfalso
       rw [Bool.and_eq_true, decide_eq_true_iff] at hc
       have a1 := (Lna hb es).1
       rw [hq.1] at a1
       have a2 := hc.2
       unfold Ks at a2
       rw [hc.1, cond_true] at a2
       unfold Mc at a2
       simp only at a2
       rw [Uz, List.append_assoc] at a2
       rw [← a2] at a1
       have a3 := List.append_cancel_left (List.append_cancel_left a1)
       have a4 := congrArg List.length a3
       rw [a2, List.length_drop] at a4
       simp only [c4, List.length_cons, List.length_nil] at a4
       have : (q : Int) + 4 = (b.length : Int) := by omega
       simp [this] at h4
     ·refine Tot.ble (by simp only [List.length_nil]; omega) ?_
      rw [List.nil_append]
      refine Tot.bind (Tot.of (Q := fun r => r = Fn (((n1 : Int), (n2 : Int), (n3 : Int)), (n4 : Int) == 1, bytesOf t)) (Qg _) rfl) ?_
      rintro r rfl
      unfold Pk
      rw [ef]
      cases hf : Fn (((n1 : Int), (n2 : Int), (n3 : Int)), (n4 : Int) == 1, bytesOf t) with
      | false => exact Tot.yes rfl (Tot.pure rfl)
      | true =>
       refine Tot.no rfl (Tot.bind (Nl _) ?_)
       rintro r rfl
       rw [Om (Ku _) hb, Bool.true_and]
       cases decide (Ks (((n1 : Int), (n2 : Int), (n3 : Int)), (n4 : Int) == 1, bytesOf t) = b) with
       | false => exact Tot.yes rfl (Tot.pure rfl)
       | true => exact Tot.no rfl (Tot.pure rfl)
 ·obtain ⟨r1, r2, r3⟩ := r
  simp only at hr
  subst hr
  refine Tot.bind (Pg b hb hl _) ?_
  rintro r rfl
  refine Tot.bind (V0 b hb hl _) ?_
  rintro r rfl
  refine Tot.yes rfl (Tot.pure (none_of ?_).symm)
  unfold Kw
  rw [Ina (p := 0) (h.resolve_right (by omega))]
  rfl
end Go.Proofs.YtgocagaijgcnmaaGreat.Vf
end

section
set_option linter.unusedVariables false
set_option linter.unusedSimpArgs false
namespace Go.Proofs.YtgocagaijgcnmaaGreat.Vf
open Go
def gt (l : List Nmd) (s : ByteArray) : Option (List Int) := match fnd l s with
 | some i => some (l.getD i Cb).2
 | none => none
theorem Ova (y : Nmd) (l : List Nmd) (s : ByteArray) : gt (y :: l) s = if y.1 = s then some y.2 else gt l s := by
 unfold gt
 rw [Dva]
 by_cases h : y.1 = s
 ·rw [if_pos (Gp.2 h), if_pos h]; rfl
 ·rw [if_neg (fun c => h (Gp.1 c)), if_neg h]
  cases fnd l s <;> rfl
theorem K5 {l : List Nmd} {s : ByteArray} {b : List Int} (h : gt l s = some b) : (s, b) ∈ l := by
 induction l with
 | nil => cases h
 | cons y l ih =>
  rw [Ova] at h
  by_cases e : y.1 = s
  ·rw [if_pos e] at h
   cases h
   subst e
   exact List.mem_cons_self
  ·rw [if_neg e] at h
   exact List.mem_cons_of_mem _ (ih h)
theorem Me {l : List Nmd} {s : ByteArray} : gt l s = none ↔ ∀ x ∈ l, x.1 ≠ s := by
 rw [← Lha]
 unfold gt
 cases fnd l s with
 | none => simp
 | some i => simp
theorem J4a {l : List Nmd} (hs : Db l) {x : Nmd} (hx : x ∈ l) : gt l x.1 = some x.2 := by
 cases h : gt l x.1 with
 | none => exact absurd rfl (Me.1 h x hx)
 | some b => rw [show x = (x.1, b) from Osa hs hx (K5 h) rfl]
theorem Z7 {l : List Nmd} (hs : Db l) {s : ByteArray} {b : List Int} : gt l s = some b ↔ (s, b) ∈ l := ⟨K5, fun h => J4a hs h⟩
theorem Z8 {l : List Nmd} {s : ByteArray} : (gt l s).isSome = (fnd l s).isSome := by
 unfold gt
 cases fnd l s <;> rfl
theorem Tu {l : List Nmd} (hs : Db l) {s t : ByteArray} : gt (cut l s) t = if s = t then none else gt l t := by
 by_cases h : s = t
 ·subst h
  rw [if_pos rfl, Me]
  exact Tr
 ·rw [if_neg h]
  cases hg : gt l t with
  | none => exact Me.2 fun x hx => Me.1 hg x (Ka.subset hx)
  | some b =>
   rw [Z7 (Jg hs)]
   refine List.mem_filter.2 ⟨K5 hg, ?_⟩
   cases ht : teq t s with
   | false => simp [ht]
   | true => exact absurd (Gp.1 ht).symm h
theorem N1a {l : List Nmd} (hs : Db l) {x : Nmd} (hn : ∀ y ∈ l, y.1 ≠ x.1) {t : ByteArray} : gt (ins l x) t = if x.1 = t then some x.2 else gt l t := by
 have hi := Pi hs hn
 by_cases h : x.1 = t
 ·subst h
  rw [if_pos rfl, Z7 hi]
  exact Pj.2 (.inl rfl)
 ·rw [if_neg h]
  cases hg : gt l t with
  | none =>
   refine Me.2 fun y hy => ?_
   rcases Pj.1 hy with rfl | hy
   ·exact h
   ·exact Me.1 hg y hy
  | some b =>
   rw [Z7 hi]
   exact Pj.2 (.inr (K5 hg))
theorem Qua : ∀ {l m : List Nmd}, Db l → Db m → (∀ s, gt l s = gt m s) → l = m := by
 have key : ∀ {l m : List Nmd}, Db l → Db m → (∀ s, gt l s = gt m s) → ∀ x ∈ l, x ∈ m := fun hl hm h x hx => by
  have := h x.1
  rw [J4a hl hx] at this
  exact K5 this.symm
 intro l m hl hm h
 have h1 : ∀ x, x ∈ l ↔ x ∈ m := fun x => ⟨key hl hm h x, key hm hl (fun s => (h s).symm) x⟩
 clear h key
 induction l generalizing m with
 | nil =>
  cases m with
  | nil => rfl
  | cons y m => exact absurd ((h1 y).2 (by simp)) (by simp)
 | cons x l ih =>
  cases m with
  | nil => exact absurd ((h1 x).1 (by simp)) (by simp)
  | cons y m =>
   obtain ⟨a1, a2⟩ := List.pairwise_cons.1 hl
   obtain ⟨b1, b2⟩ := List.pairwise_cons.1 hm
   have e : x = y := by
    rcases List.mem_cons.1 ((h1 x).1 (by simp)) with h | h
    ·exact h
    ·rcases List.mem_cons.1 ((h1 y).2 (by simp)) with h' | h'
     ·exact h'.symm
     ·have c1 := a1 y h'
      rw [Rl (b1 x h)] at c1
      cases c1
   subst e
   congr 1
   refine ih a2 b2 fun z => ⟨fun hz => ?_, fun hz => ?_⟩
   ·rcases List.mem_cons.1 ((h1 z).1 (List.mem_cons_of_mem _ hz)) with rfl | h
    ·have c := a1 z hz
     rw [Ii] at c
     cases c
    ·exact h
   ·rcases List.mem_cons.1 ((h1 z).2 (List.mem_cons_of_mem _ hz)) with rfl | h
    ·have c := b1 z hz
     rw [Ii] at c
     cases c
    ·exact h
theorem N2a (l : List Nmd) (s : ByteArray) : rdN l s = match gt l s with | some b => (b, true) | none => ([], false) := by
 unfold rdN gt
 cases fnd l s <;> rfl
theorem Mx {s : ByteArray} (h : Cq s = true) : Hp s := by
 have := (Rt h).2
 unfold Hp
 omega
theorem Du {d : Dsk} : Aq d = true ↔ Fp d.1 = true ∧ Fp d.2 = true := by
 unfold Aq
 rw [Bool.and_eq_true]
theorem Jp {d : Dsk} (h : Aq d = true) : Db d.1 := (Ae.1 (Du.1 h).1).1
theorem Nm {d : Dsk} (h : Aq d = true) : Db d.2 := (Ae.1 (Du.1 h).2).1
def LB (l : List Nmd) : Prop := ∀ x ∈ l, B4 x.2
def DB (d : Dsk) : Prop := LB d.1 ∧ LB d.2
theorem LB.cut {l : List Nmd} (h : LB l) (s : ByteArray) : LB (cut l s) := fun x hx => h x (Ka.subset hx)
theorem LB.ins {l : List Nmd} (h : LB l) {x : Nmd} (hx : B4 x.2) : LB (ins l x) := fun y hy => by
 rcases Pj.1 hy with rfl | hy
 ·exact hx
 ·exact h y hy
theorem LB.gt {l : List Nmd} (h : LB l) {s : ByteArray} {b : List Int} (hg : gt l s = some b) : B4 b := h _ (K5 hg)
theorem J5a : B4 [] := fun x hx => by cases hx
def wr (l : List Nmd) (s : ByteArray) (b : List Int) : List Nmd := ins (cut l s) (s, b)
def sy (d : Dsk) (s : ByteArray) : List Nmd := match gt d.1 s with
 | some b => wr d.2 s b
 | none => cut d.2 s
def wrD (d : Dsk) (s : ByteArray) (b : List Int) : Dsk × Bool := bif decide (b.length ≤ 400) && decide ((wr d.1 s b).length ≤ 60) then ((wr d.1 s b, d.2), true) else (d, false)
def syD (d : Dsk) (s : ByteArray) : Dsk × Bool := bif decide ((sy d s).length ≤ 60) then ((d.1, sy d s), true) else (d, false)
def rmD (d : Dsk) (s : ByteArray) : Dsk × Bool := bif (gt d.1 s).isSome then ((cut d.1 s, d.2), true) else (d, false)
section
variable {d : Dsk} {s : ByteArray} {b : List Int}
theorem N3a (hd : Aq d = true) : wrI d s b = wr d.1 s b := by
 unfold wrI wr
 rw [Mb (Jp hd)]
theorem N4a (hd : Aq d = true) : syI d s = sy d s := by
 unfold syI sy gt wr
 rw [Mb (Nm hd)]
 cases fnd d.1 s <;> rfl
theorem Tv (hd : Aq d = true) (hs : Cq s = true) (hb : b.length ≤ 1000000000000) : Tot (fun k => Az k d s b) (fun r => r = wrD d s b) := by
 refine (Z4 d s b (Jz hd) (Mx hs) hb).mono ?_
 rintro r rfl
 obtain ⟨h1, h2⟩ := Dya (b := b) hd hs
 rw [hd, hs, h1, h2, N3a hd]
 rfl
theorem Z9 (hd : Aq d = true) (hs : Cq s = true) : Tot (fun k => B0 k d s) (fun r => r = syD d s) := by
 refine (Dxa d s (Jz hd) (Mx hs)).mono ?_
 rintro r rfl
 rw [hd, hs, Ora hd, Iya hd hs, N4a hd]
 rfl
theorem Owa (hd : Aq d = true) (hs : Cq s = true) (hb : b.length ≤ 400) (hl : (wr d.1 s b).length ≤ 60) : Aq (wr d.1 s b, d.2) = true := by
 have := (Dya (b := b) hd hs).2
 rw [N3a hd, decide_eq_true hb, decide_eq_true hl] at this
 exact this
theorem Rza (hd : Aq d = true) (hs : Cq s = true) (hl : (sy d s).length ≤ 60) : Aq (d.1, sy d s) = true := by
 have := Iya hd hs
 rw [N4a hd, decide_eq_true hl] at this
 exact this
theorem J6a (hd : Aq d = true) (hs : Cq s = true) : Aq (wrD d s b).1 = true := by
 unfold wrD
 cases hc : decide (b.length ≤ 400) && decide ((wr d.1 s b).length ≤ 60) with
 | false => exact hd
 | true =>
  rw [Bool.and_eq_true, decide_eq_true_iff, decide_eq_true_iff] at hc
  exact Owa hd hs hc.1 hc.2
theorem Qva (hd : Aq d = true) (hs : Cq s = true) : Aq (syD d s).1 = true := by
 unfold syD
 cases hc : decide ((sy d s).length ≤ 60) with
 | false => exact hd
 | true => exact Rza hd hs (of_decide_eq_true hc)
theorem N5a (hd : Aq d = true) : Aq (rmD d s).1 = true := by
 unfold rmD
 cases (gt d.1 s).isSome with
 | false => exact hd
 | true => exact Du.2 ⟨Rv (Du.1 hd).1, (Du.1 hd).2⟩
theorem Qwa (hd : Aq d = true) (h : (gt d.1 s).isSome = true) : Cq s = true := by
 cases hg : gt d.1 s with
 | none => rw [hg] at h; cases h
 | some b => exact (Ma.1 ((Ae.1 (Du.1 hd).1).2.1 _ (K5 hg))).1
theorem Bqa (hd : Aq d = true) (hs : Hp s) : Tot (fun k => Cd k d s) (fun r => r = rmD d s) := by
 refine (Tn d s (Jz hd).1 hs).mono ?_
 rintro r rfl
 unfold rmD
 rw [hd, ← Z8]
 cases h : (gt d.1 s).isSome with
 | false => rfl
 | true =>
  have h1 : Aq (cut d.1 s, d.2) = true := by
   have := N5a (s := s) hd
   unfold rmD at this
   rw [h] at this
   exact this
  rw [Qwa hd h, h1]
  rfl
end
def lkD (d : Dsk) (s : ByteArray) : Fil × Int := match gt d.1 s with
 | none => (Pla, 1)
 | some b => match Kw b with
  | some f => (f, 0)
  | none => (Pla, 2)
theorem N6a {l : List Nmd} {s : ByteArray} {b : List Int} (h : V2 l) (hg : gt l s = some b) : b.length ≤ 1000000000000 := h.2 _ (K5 hg)
theorem V4 {d : Dsk} (hf : V2 d.1) (hb : LB d.1) (s : ByteArray) : Tot (fun k => El k d s) (fun r => r = lkD d s) := by
 unfold El lkD
 refine Tot.bind (Lga d s hf) ?_
 rintro r rfl
 rw [N2a]
 cases hg : gt d.1 s with
 | none => exact Tot.yes rfl (Tot.pure rfl)
 | some b =>
  refine Tot.no rfl (Tot.bind (Rz b (hb.gt hg) (N6a hf hg)) ?_)
  rintro r rfl
  unfold Pk
  dsimp only
  cases Kw b with
  | none => exact Tot.yes rfl (Tot.pure rfl)
  | some f => exact Tot.no rfl (Tot.pure rfl)
theorem E2a {d : Dsk} (hf : V2 d.1) (hb : LB d.1) (s : ByteArray) : Tot (fun k => Gt k d s) (fun r => r = lkD d s) := by
 unfold Gt lkD
 refine Tot.bind (Dua d s hf) ?_
 rintro r rfl
 rw [N2a]
 cases hg : gt d.1 s with
 | none => exact Tot.yes rfl (Tot.pure rfl)
 | some b =>
  refine Tot.no rfl (Tot.bind (S4 b (hb.gt hg) (N6a hf hg)) ?_)
  rintro r rfl
  unfold Pk
  dsimp only
  cases Kw b with
  | none => exact Tot.yes rfl (Tot.pure rfl)
  | some f => exact Tot.no rfl (Tot.pure rfl)
theorem J7a {d : Dsk} {s : ByteArray} {f : Fil} : lkD d s = (f, 0) ↔ ∃ b, gt d.1 s = some b ∧ Kw b = some f := by
 unfold lkD
 cases gt d.1 s with
 | none => simp
 | some b => cases h : Kw b <;> simp [h]
def old (d : Dsk) (s : ByteArray) : Option Fil := (gt d.1 s).bind Kw
def kp1 (d : Dsk) (s : ByteArray) (f : Fil) : Option (Dsk × Int) :=
 let w := bif (wrD d s (Ks f)).2 then some ((wrD d s (Ks f)).1, (0 : Int)) else none
 match old d s with
 | some o => bif sle o.1 f.1 then w else some (d, 1)
 | none => w
def kp2 (d : Dsk) (s : ByteArray) (sure : Bool) (x : Dsk × Int) : Dsk × Int := bif sure then (bif (syD x.1 s).2 then ((syD x.1 s).1, x.2) else (d, 3)) else x
def Zh (d : Dsk) (s : ByteArray) (f : Fil) (sure : Bool) : Dsk × Int := match kp1 d s f with
 | some x => kp2 d s sure x
 | none => (d, 3)
def keep (d : Dsk) (s : ByteArray) (f : Fil) (sure : Bool) : Dsk × Int := bif Aq d && (Cq s && Fn f) then Zh d s f sure else (d, 2)
theorem Qxa {d : Dsk} {s : ByteArray} {f : Fil} (hd : Aq d = true) (hs : Cq s = true) {x : Dsk × Int} (h : kp1 d s f = some x) : Aq x.1 = true := by
 have hw : ∀ x, (bif (wrD d s (Ks f)).2 then some ((wrD d s (Ks f)).1, (0 : Int)) else none) = some x → Aq x.1 = true := by
  intro x h
  cases hc : (wrD d s (Ks f)).2 with
  | false => rw [hc] at h; cases h
  | true => rw [hc] at h; cases h; exact J6a hd hs
 unfold kp1 at h
 simp only at h
 split at h
 ·rename_i o _
  cases hc : sle o.1 f.1 with
  | false => rw [hc] at h; cases h; exact hd
  | true => rw [hc] at h; exact hw _ h
 ·exact hw _ h
theorem Qya {d : Dsk} {s : ByteArray} (hd : Aq d = true) (hs : Cq s = true) {x : Dsk} {c : Int} (hx : Aq x = true) :
  Tot (fun k => (B0 k x s).bind fun r => cond (!r.2) ((A9 k d).bind fun q => some (q, 3)) (some (r.1, c))) (fun r => r = kp2 d s true (x, c)) := by
 unfold kp2
 refine Tot.bind (Z9 hx hs) ?_
 rintro r rfl
 cases h : (syD x s).2 with
 | true => exact Tot.no rfl (Tot.pure rfl)
 | false =>
  refine Tot.yes rfl (Tot.bind (I9 d (Jz hd).1.1) ?_)
  rintro q rfl
  exact Tot.pure rfl
theorem Lqa (d : Dsk) (s : ByteArray) (f : Fil) (sure : Bool) (hd : DIn d) (hb : LB d.1) (hs : Hp s) : Tot (fun k => Hk k d s f sure) (fun r => r = keep d s f sure) := by
 have bad : Tot (fun k => (A9 k d).bind fun r2 => some (r2, (2 : Int))) (fun r => r = (d, 2)) := by
  refine Tot.bind (I9 d hd.1.1) ?_
  rintro q rfl
  exact Tot.pure rfl
 unfold Hk keep
 refine Tot.bind (Oi d hd.1.1 hd.1.2) ?_
 rintro r rfl
 cases h1 : Aq d with
 | false => exact Tot.yes rfl bad
 | true =>
  refine Tot.no rfl (Tot.bind (Of s hs) ?_)
  rintro r rfl
  cases h2 : Cq s with
  | false => exact Tot.yes rfl bad
  | true =>
   refine Tot.no rfl (Tot.bind (Tot.of (Q := fun b => b = Fn f) (Qg f) rfl) ?_)
   rintro r rfl
   cases h3 : Fn f with
   | false => exact Tot.yes rfl bad
   | true =>
    refine Tot.no rfl (Tot.bind (E2a hd.1.1.1 hb s) ?_)
    rintro r rfl
    have hlen := E1a f
    have w : (kp1 d s f = bif (wrD d s (Ks f)).2 then some ((wrD d s (Ks f)).1, (0 : Int)) else none) → Tot (fun k => (B2 k f).bind fun r12 => (Az k d s r12).bind fun r13 => cond r13.2 (cond sure ((B0 k r13.1 s).bind fun r14 => cond (!r14.2) ((A9 k d).bind fun r15 => some (r15, (3 : Int))) (some (r14.1, 0))) (cond (!r13.2) ((A9 k d).bind fun r16 => some (r16, 3)) (some (r13.1, 0)))) (cond (!r13.2) ((A9 k d).bind fun r17 => some (r17, 3)) (some (r13.1, 0)))) (fun r => r = Zh d s f sure) := by
     intro e
     refine Tot.bind (Nl f) ?_
     rintro r rfl
     refine Tot.bind (Tv h1 h2 (by omega)) ?_
     rintro r rfl
     unfold Zh
     rw [e]
     cases h4 : (wrD d s (Ks f)).2 with
     | false =>
      refine Tot.no rfl (Tot.yes rfl (Tot.bind (I9 d hd.1.1) ?_))
      rintro q rfl
      exact Tot.pure rfl
     | true =>
      refine Tot.yes rfl ?_
      cases sure with
      | true => exact Tot.yes rfl (Qya h1 h2 (J6a h1 h2))
      | false => exact Tot.no rfl (Tot.no rfl (Tot.pure rfl))
    have eo : old d s = (gt d.1 s).bind Kw := rfl
    unfold lkD
    cases hg : gt d.1 s with
    | none =>
     rw [hg] at eo
     refine Tot.no rfl (w ?_)
     unfold kp1
     rw [eo]
     rfl
    | some b =>
     rw [hg] at eo
     have eo : old d s = Kw b := eo
     simp only
     cases ho : Kw b with
     | none =>
      refine Tot.no rfl (w ?_)
      unfold kp1
      rw [eo, ho]
     | some o =>
      rw [ho] at eo
      refine Tot.yes rfl (Tot.bind (Tot.of (Q := fun b => b = sle o.1 f.1) (J1a f o) rfl) ?_)
      rintro r rfl
      cases hl : sle o.1 f.1 with
      | true =>
       refine Tot.no rfl (w ?_)
       unfold kp1
       simp only [eo, hl, cond_true]
      | false =>
       have e1 : Zh d s f sure = kp2 d s sure (d, 1) := by
        unfold Zh kp1
        simp only [eo, hl, cond_false]
       refine Tot.yes rfl ?_
       show Tot _ (fun r => r = Zh d s f sure)
       rw [e1]
       refine Tot.bind (I9 d hd.1.1) ?_
       rintro q rfl
       cases sure with
       | true => exact Tot.yes rfl (Qya h1 h2 h1)
       | false => exact Tot.no rfl (Tot.pure rfl)
end Go.Proofs.YtgocagaijgcnmaaGreat.Vf
end

section
set_option linter.unusedVariables false
set_option linter.unusedSimpArgs false
namespace Go.Proofs.YtgocagaijgcnmaaGreat.Vf
open Go
def DG (d : Dsk) : Prop := Aq d = true ∧ DB d
theorem J8a {d : Dsk} {s : ByteArray} {b : List Int} (hd : Aq d = true) (h : gt d.1 s = some b) : b.length ≤ 400 := (Ma.1 ((Ae.1 (Du.1 hd).1).2.1 _ (K5 h))).2
theorem N7a {d : Dsk} {s : ByteArray} {b : List Int} (h : DB d) (hb : B4 b) : DB (wrD d s b).1 := by
 unfold wrD
 cases decide (b.length ≤ 400) && decide ((wr d.1 s b).length ≤ 60) with
 | false => exact h
 | true => exact ⟨(h.1.cut s).ins hb, h.2⟩
theorem S0a {d : Dsk} {s : ByteArray} (h : DB d) : LB (sy d s) := by
 unfold sy
 cases hg : gt d.1 s with
 | none => exact h.2.cut s
 | some b => exact (h.2.cut s).ins (h.1.gt hg)
theorem Qza {d : Dsk} {s : ByteArray} (h : DB d) : DB (syD d s).1 := by
 unfold syD
 cases decide ((sy d s).length ≤ 60) with
 | false => exact h
 | true => exact ⟨h.1, S0a h⟩
theorem R0a {d : Dsk} {s : ByteArray} (h : DB d) : DB (rmD d s).1 := by
 unfold rmD
 cases (gt d.1 s).isSome with
 | false => exact h
 | true => exact ⟨h.1.cut s, h.2⟩
theorem S1a {d : Dsk} {s : ByteArray} {b : List Int} (h : DG d) (hs : Cq s = true) (hb : B4 b) : DG (wrD d s b).1 := ⟨J6a h.1 hs, N7a h.2 hb⟩
theorem R1a {d : Dsk} {s : ByteArray} (h : DG d) (hs : Cq s = true) : DG (syD d s).1 := ⟨Qva h.1 hs, Qza h.2⟩
theorem S2a {d : Dsk} {s : ByteArray} (h : DG d) : DG (rmD d s).1 := ⟨N5a h.1, R0a h.2⟩
theorem S3a {d : Dsk} {s : ByteArray} {f : Fil} (hd : DG d) (hs : Cq s = true) {x : Dsk × Int} (h : kp1 d s f = some x) : DG x.1 := by
 refine ⟨Qxa hd.1 hs h, ?_⟩
 have hw : ∀ x, (bif (wrD d s (Ks f)).2 then some ((wrD d s (Ks f)).1, (0 : Int)) else none) = some x → DB x.1 := by
  intro x h
  cases hc : (wrD d s (Ks f)).2 with
  | false => rw [hc] at h; cases h
  | true => rw [hc] at h; cases h; exact N7a hd.2 (Ku f)
 unfold kp1 at h
 simp only at h
 split at h
 ·rename_i o _
  cases hc : sle o.1 f.1 with
  | false => rw [hc] at h; cases h; exact hd.2
  | true => rw [hc] at h; exact hw _ h
 ·exact hw _ h
theorem S4a {d : Dsk} {s : ByteArray} {sure : Bool} (hd : DG d) (hs : Cq s = true) {x : Dsk × Int} (hx : DG x.1) : DG (kp2 d s sure x).1 := by
 unfold kp2
 cases sure with
 | false => exact hx
 | true =>
  rw [cond_true]
  cases (syD x.1 s).2 with
  | false => exact hd
  | true => exact R1a hx hs
theorem Oxa {d : Dsk} {s : ByteArray} {f : Fil} {sure : Bool} (hd : DG d) (hs : Cq s = true) : DG (Zh d s f sure).1 := by
 unfold Zh
 cases h : kp1 d s f with
 | none => exact hd
 | some x => exact S4a hd hs (S3a hd hs h)
theorem R2a {d : Dsk} {s : ByteArray} {f : Fil} {sure : Bool} (hd : DG d) : DG (keep d s f sure).1 := by
 unfold keep
 cases h : Cq s with
 | false => rw [hd.1]; exact hd
 | true =>
  cases Fn f with
  | false => rw [hd.1]; exact hd
  | true => rw [hd.1]; exact Oxa hd h
def Q2 (b : Int) (j : Nat) : Int := ((BitVec.ofInt 8 b ^^^ BitVec.twoPow 8 j).toNat : Int)
theorem E3a (b : Int) (j : Nat) : 0 ≤ Q2 b j ∧ Q2 b j ≤ 255 := by
 unfold Q2
 have := (BitVec.ofInt 8 b ^^^ BitVec.twoPow 8 j).isLt
 omega
theorem J9a (b : Int) : ∀ j, j < 8 → IntKind.wrap .u8 ((BitVec.ofInt (IntKind.bits .u8) b ^^^ BitVec.ofInt (IntKind.bits .u8) (IntKind.wrap .u8 ((1 : Int) * 2 ^ (min j (IntKind.bits .u8))))).toNat) = Q2 b j := by
 intro j hj
 have h1 : ∀ j, j < 8 → BitVec.ofInt 8 (IntKind.wrap .u8 ((1 : Int) * 2 ^ (min j 8))) = BitVec.twoPow 8 j := by decide
 show IntKind.wrap .u8 (((BitVec.ofInt 8 b ^^^ BitVec.ofInt 8 (IntKind.wrap .u8 ((1 : Int) * 2 ^ (min j 8)))).toNat : Nat) : Int) = _
 rw [h1 j hj]
 have := (BitVec.ofInt 8 b ^^^ BitVec.twoPow 8 j).isLt
 rw [Y6 _ (by omega)]
 rfl
theorem Lra {b : Int} (hb : 0 ≤ b ∧ b ≤ 255) {j : Nat} (hj : j < 8) : Q2 b j ≠ b := by
 intro h
 unfold Q2 at h
 have h1 : b = ((BitVec.ofInt 8 b).toNat : Int) := by rw [BitVec.toNat_ofInt]; omega
 have h2 : (BitVec.ofInt 8 b ^^^ BitVec.twoPow 8 j).toNat = (BitVec.ofInt 8 b).toNat := by omega
 have h3 := BitVec.eq_of_toNat_eq h2
 have h4 : BitVec.twoPow 8 j = 0#8 := by
  have := congrArg (fun x => BitVec.ofInt 8 b ^^^ x) h3
  simpa [← BitVec.xor_assoc] using this
 have h5 : ∀ j, j < 8 → BitVec.twoPow 8 j ≠ 0#8 := by decide
 exact h5 j hj h4
def Jr (l : List Int) (n : Nat) : List Int := l.set (n / 8) (Q2 (l.getD (n / 8) 0) (n % 8))
theorem Zi (l : List Int) (n : Nat) : (Jr l n).length = l.length := by unfold Jr; rw [List.length_set]
theorem Bra {l : List Int} (h : B4 l) (n : Nat) : B4 (Jr l n) := fun x hx => by
 rcases List.mem_or_eq_of_mem_set hx with h' | rfl
 ·exact h x h'
 ·exact E3a _ _
def Pt (d : Dsk) (s : ByteArray) (n : Int) : Dsk × Bool := match gt d.1 s with
 | none => (d, false)
 | some b => bif inR n 0 (8 * (b.length : Int) - 1) then ((wr d.1 s (Jr b n.toNat), bif decide (gt d.2 s = some b) then wr d.2 s (Jr b n.toNat) else d.2), true) else (d, false)
theorem Zn {l : List Nmd} (hs : Db l) {s : ByteArray} {i : Nat} (h : fnd l s = some i) (b : List Int) : l.set i (s, b) = wr l s b := by
 obtain ⟨hi, hn⟩ := J4 h
 have hm : (l.set i (s, b)).map Prod.fst = l.map Prod.fst := by
  rw [List.map_set]
  apply List.ext_getElem?
  intro j
  by_cases hj : i = j
  ·subst hj
   rw [List.getElem?_set_self (by rw [List.length_map]; exact hi), List.getElem?_map, List.getElem?_eq_getElem hi]
   rw [List.getD_eq_getElem?_getD, List.getElem?_eq_getElem hi] at hn
   exact congrArg some hn.symm
  ·rw [List.getElem?_set_ne hj]
 have h1 : Db (l.set i (s, b)) := by
  have e : ∀ m : List Nmd, Db m ↔ (m.map Prod.fst).Pairwise (fun a b => tlt a b = true) := fun m => by
   unfold Db
   rw [List.pairwise_map]
  rw [e, hm, ← e]
  exact hs
 refine Qua h1 (Pi (Jg hs) Tr) fun t => ?_
 have h2 := N1a (x := (s, b)) (t := t) (Jg hs (s := s)) Tr
 unfold wr
 rw [h2]
 by_cases ht : s = t
 ·subst ht
  rw [if_pos rfl, Z7 h1]
  exact List.mem_set hi _
 ·rw [if_neg ht, Tu hs, if_neg ht]
  cases hg : gt l t with
  | none =>
   refine Me.2 fun x hx => ?_
   rcases List.mem_or_eq_of_mem_set hx with h' | rfl
   ·exact Me.1 hg x h'
   ·exact ht
  | some c =>
   rw [Z7 h1]
   obtain ⟨j, hj, e⟩ := List.mem_iff_getElem.1 (K5 hg)
   have hij : i ≠ j := by
    rintro rfl
    rw [List.getD_eq_getElem?_getD, List.getElem?_eq_getElem hi, Option.getD_some, e] at hn
    exact ht hn.symm
   refine List.mem_iff_getElem.2 ⟨j, by rw [List.length_set]; exact hj, ?_⟩
   rw [List.getElem_set_ne hij]
   exact e
theorem Zo {l : List Nmd} {s : ByteArray} {b : List Int} (hs : Db l) (h : (gt l s).isSome = true) : (wr l s b).length = l.length := by
 rw [Z8] at h
 obtain ⟨i, hi⟩ := Option.isSome_iff_exists.1 h
 rw [← Zn hs hi, List.length_set]
theorem N8a {d : Dsk} {s : ByteArray} {n : Int} (h : DG d) : DG (Pt d s n).1 := by
 unfold Pt
 cases hg : gt d.1 s with
 | none => exact h
 | some b =>
  simp only
  cases inR n 0 (8 * (b.length : Int) - 1) with
  | false => exact h
  | true =>
   have hn := Qwa h.1 (s := s) (by rw [hg]; rfl)
   have hb := J8a h.1 hg
   have hbb := Bra (h.2.1.gt hg) n.toNat
   have l1 := Zo (b := Jr b n.toNat) (Jp h.1) (s := s) (by rw [hg]; rfl)
   have q1 := Owa h.1 hn (b := Jr b n.toNat) (by rw [Zi]; exact hb) (by rw [l1]; exact (Ae.1 (Du.1 h.1).1).2.2)
   rw [cond_true]
   cases hc : decide (gt d.2 s = some b) with
   | false => exact ⟨q1, (h.2.1.cut s).ins hbb, h.2.2⟩
   | true =>
    have hg2 := of_decide_eq_true hc
    have l2 := Zo (b := Jr b n.toNat) (Nm h.1) (s := s) (by rw [hg2]; rfl)
    have h' : Aq (d.2, d.1) = true := Du.2 ⟨(Du.1 h.1).2, (Du.1 h.1).1⟩
    have q2 := Owa h' hn (b := Jr b n.toNat) (by rw [Zi]; exact hb) (by show (wr d.2 s _).length ≤ 60; rw [l2]; exact (Ae.1 (Du.1 h.1).2).2.2)
    exact ⟨Du.2 ⟨(Du.1 q1).1, (Du.1 q2).1⟩, (h.2.1.cut s).ins hbb, (h.2.2.cut s).ins hbb⟩
theorem Oya {d : Dsk} {s : ByteArray} {n : Int} (h : DG d) (hn : n ≤ 9223372036854775807) (hn0 : -9223372036854775808 ≤ n) : Tot (fun k => Ge k d s n) (fun r => r = Pt d s n) := by
 have hin := Jz h.1
 unfold Ge
 refine Tot.bind (I9 d hin.1.1) ?_
 rintro d rfl
 refine Tot.bind (Z1 d.1 s hin.1.1.1.1) ?_
 rintro r rfl
 refine Tot.bind (Oi d hin.1.1 hin.1.2) ?_
 rintro r rfl
 rw [h.1]
 refine Tot.no rfl ?_
 unfold Pt
 unfold Zx
 cases hf : fnd d.1 s with
 | none =>
  have hg : gt d.1 s = none := by unfold gt; rw [hf]
  rw [hg]
  exact Tot.dec (by decide) (Tot.pure rfl)
 | some i =>
  have hg : gt d.1 s = some (d.1.getD i Cb).2 := by unfold gt; rw [hf]
  have hi := (J4 hf).1
  have hnm := (J4 hf).2
  have hb := J8a h.1 hg
  rw [hg]
  have e0 : d.1.getD i ((⟨#[]⟩ : ByteArray), ([] : List Int)) = d.1.getD i Cb := rfl
  simp only [Int.toNat_natCast, e0]
  refine Tot.ndec (by omega) (Tot.dec (by omega) (Tot.dec (by omega) ?_))
  rw [w64 (n := 8 * ((d.1.getD i Cb).2.length : Int)) (by omega) (by omega), w64 (n := 8 * ((d.1.getD i Cb).2.length : Int) - 1) (by omega) (by omega)]
  refine Tot.bind (Tot.of (Q := fun b => b = inR n 0 (8 * ((d.1.getD i Cb).2.length : Int) - 1)) (Ro _ _ _) rfl) ?_
  rintro r rfl
  cases hr : inR n 0 (8 * ((d.1.getD i Cb).2.length : Int) - 1) with
  | false => exact Tot.yes rfl (Tot.pure rfl)
  | true =>
   obtain ⟨n0, n1⟩ := Iw.1 hr
   obtain ⟨m, rfl⟩ : ∃ m : Nat, n = (m : Int) := ⟨n.toNat, by omega⟩
   have hm8 : m / 8 < (d.1.getD i Cb).2.length := by omega
   have et : IntKind.wrap .i64 (Int.tdiv (m : Int) 8) = ((m / 8 : Nat) : Int) := by
    rw [Int.tdiv_eq_ediv_of_nonneg (by omega), w64 (by omega) (by omega)]
    omega
   have eu : IntKind.wrap .u64 (Int.tmod (m : Int) 8) = ((m % 8 : Nat) : Int) := by
    have h8 : ∀ j : Nat, j < 8 → IntKind.wrap .u64 (j : Int) = (j : Int) := by decide
    rw [Int.tmod_eq_emod_of_nonneg (by omega), ← h8 (m % 8) (by omega)]
    congr 1
   refine Tot.no rfl (Tot.bind (Z1 d.2 s hin.1.1.2.1) ?_)
   rintro r rfl
   simp only [et, eu, Int.toNat_natCast, J9a _ _ (Nat.mod_lt m (show 0 < 8 by omega))]
   have ew : d.1.set i ((d.1.getD i Cb).1, Jr (d.1.getD i Cb).2 m) = wr d.1 s (Jr (d.1.getD i Cb).2 m) := by rw [hnm]; exact Zn (Jp h.1) hf _
   have ew' : d.1.set i ((d.1.getD i Cb).1, (d.1.getD i Cb).2.set (m / 8) (Q2 ((d.1.getD i Cb).2.getD (m / 8) 0) (m % 8))) = wr d.1 s (Jr (d.1.getD i Cb).2 m) := ew
   unfold Zx
   cases hf2 : fnd d.2 s with
   | none =>
    have hg2 : gt d.2 s = none := by unfold gt; rw [hf2]
    rw [hg2]
    refine Tot.ndec (by decide) (Tot.dec (by omega) (Tot.dec (by omega) (Tot.dec (by omega) (Tot.dec (by omega) (Tot.ndec (by omega) (Tot.dec (by omega) (Tot.dec (by omega) (Tot.pure ?_))))))))
    rw [ew']
    rfl
   | some j =>
    have hg2 : gt d.2 s = some (d.2.getD j Cb).2 := by unfold gt; rw [hf2]
    have hj := (J4 hf2).1
    have hjn := (J4 hf2).2
    have e1 : d.2.getD j ((⟨#[]⟩ : ByteArray), ([] : List Int)) = d.2.getD j Cb := rfl
    rw [hg2]
    simp only [Int.toNat_natCast, e1]
    refine Tot.dec (by omega) (Tot.dec (by omega) (Tot.dec (by omega) (Tot.dec (by omega) (Tot.dec (by omega) (Tot.dec (by omega) (Tot.dec (by omega) (Tot.dec (by omega) (Tot.dec (by omega) (Tot.ndec (by omega) (Tot.dec (by omega) (Tot.dec (by omega) ?_)))))))))))
    rw [Om (h.2.2.gt hg2) (h.2.1.gt hg)]
    refine Tot.dite (fun he => ?_) (fun he => ?_)
    ·have hl2 : (d.2.getD j Cb).2.length = (d.1.getD i Cb).2.length := by rw [he]
     refine Tot.dec (by omega) (Tot.dec (by omega) (Tot.dec (by omega) (Tot.dec (by omega) (Tot.ndec (by omega) (Tot.dec (by omega) (Tot.dec (by omega) (Tot.pure ?_)))))))
     have ew2 : d.2.set j ((d.2.getD j Cb).1, (d.2.getD j Cb).2.set (m / 8) (Q2 ((d.2.getD j Cb).2.getD (m / 8) 0) (m % 8))) = wr d.2 s (Jr (d.1.getD i Cb).2 m) := by
      rw [hjn, he]
      exact Zn (Nm h.1) hf2 _
     rw [ew', ew2, he, decide_eq_true rfl]
     rfl
    ·refine Tot.pure ?_
     rw [ew', decide_eq_false (fun c => he (Option.some.inj c))]
     rfl
theorem Fda : ∀ (n : Nat) (i : Int) (c : Cur) (a0 a1 : List Nmd) (d : Dsk), i = n → n ≤ 6 → Ek c → DG d →
  Tot (fun k => Am k i c.1 c.2.1 c.2.2 a0 a1 d.1 d.2) (fun r => DG (r.2.2.1, r.2.2.2.1) ∧ Ek r.2.2.2.2) := by
 intro n
 induction n with
 | zero =>
  intro i c a0 a1 d hi h6 hc hd
  refine Tot.succ ?_
  simp only [Am]
  exact Tot.ndec (by omega) (Tot.pure ⟨hd, hc⟩)
 | succ n ih =>
  intro i c a0 a1 d hi h6 hc hd
  refine Tot.succ ?_
  simp only [Am]
  refine Tot.dec (by omega) ?_
  rw [w64 (n := i - 1) (by omega) (by omega)]
  obtain ⟨s, c1, e1, hs, k1⟩ := Jm c hc
  refine Tot.bind (Tot.of (Q := fun r => r = (s, c1)) e1 rfl) ?_
  rintro r rfl
  obtain ⟨x, c2, e2, _, _, _, k2⟩ := C3 c1 k1 6 (by decide)
  refine Tot.bind (Tot.of (Q := fun r => r = (x, c2)) e2 rfl) ?_
  rintro r rfl
  dsimp only
  obtain ⟨hsh, hsn⟩ := Ib s hs
  have wr : Tot (fun k => (Bc k c2).bind fun r5 => (B2 k r5.1).bind fun r6 => (Az k (d.1, d.2) s r6).bind fun r7 => Am k (i - 1) r5.2.1 r5.2.2.1 r5.2.2.2 a0 a1 r7.1.1 r7.1.2) (fun r => DG (r.2.2.1, r.2.2.2.1) ∧ Ek r.2.2.2.2) := by
   refine Tot.bind (Mv c2 k2) (fun f hf => ?_)
   refine Tot.bind (Nl f.1) ?_
   rintro b rfl
   refine Tot.bind (Tv hd.1 hsn (by have := E1a f.1; omega)) ?_
   rintro q rfl
   exact ih (i - 1) f.2 a0 a1 _ (by omega) (by omega) hf.2 (S1a hd hsn (Ku _))
  have sy : Tot (fun k => (B0 k (d.1, d.2) s).bind fun r4 => Am k (i - 1) c2.1 c2.2.1 c2.2.2 a0 a1 r4.1.1 r4.1.2) (fun r => DG (r.2.2.1, r.2.2.2.1) ∧ Ek r.2.2.2.2) := by
   refine Tot.bind (Z9 hd.1 hsn) ?_
   rintro q rfl
   exact ih (i - 1) c2 a0 a1 _ (by omega) (by omega) k2 (R1a hd hsn)
  refine Tot.ite (fun _ => ?_) (fun _ => Tot.ite (fun h => Tot.ite (fun _ => sy) (fun _ => wr)) (fun _ => Tot.ite (fun _ => sy) (fun _ => wr)))
  refine Tot.bind (Bqa hd.1 hsh) ?_
  rintro q rfl
  exact ih (i - 1) c2 a0 a1 _ (by omega) (by omega) k2 (S2a hd)
theorem lb0 : LB [] := fun x hx => by cases hx
theorem dg0 : DG ([], []) := ⟨by decide, ⟨lb0, lb0⟩⟩
theorem Oza (c : Cur) (hc : Ek c) : Tot (fun k => Cm k c) (fun r => DG r.1 ∧ Ek r.2) := by
 unfold Cm
 obtain ⟨x, c2, e2, h0, h1, _, k2⟩ := C3 c hc 7 (by decide)
 have h1 := h1 (by decide)
 refine Tot.bind (Tot.of (Q := fun r => r = (x, c2)) e2 rfl) ?_
 rintro r rfl
 exact Tot.bind (Fda x.toNat x c2 [] [] ([], []) (by omega) (by omega) k2 dg0) (fun r hr => Tot.pure hr)
theorem N9a {l : List Nmd} {x : Nmd} (h : LB l) (hx : B4 x.2) : LB (l ++ [x]) := fun y hy => by
 rcases List.mem_append.1 hy with hy | hy
 ·exact h y hy
 ·rw [List.mem_singleton.1 hy]; exact hx
theorem Jaa (n : Nat) : B4 (List.replicate n 0) := fun x hx => by
 rw [List.eq_of_mem_replicate hx]
 omega
theorem R3a (c : Cur) (hc : Ek c) : Tot (fun k => G6 k c) (fun r => (DIn r.1 ∧ DB r.1) ∧ Ek r.2) := by
 have h0 := Lka c hc
 have h1 : Tot (fun k => G6 k c) (fun r => DB r.1) := by
  unfold G6
  refine Tot.bind (Oza c hc) (fun d hd => ?_)
  obtain ⟨hd, k0⟩ := hd
  have hin := Jz hd.1
  have g1 := (Ae.1 (Du.1 hd.1).1).2.2
  have g2 := (Ae.1 (Du.1 hd.1).2).2.2
  obtain ⟨x, c2, e2, _, _, _, k2⟩ := C3 d.2 k0 12 (by decide)
  refine Tot.bind (Tot.of (Q := fun r => r = (x, c2)) e2 rfl) ?_
  rintro r rfl
  refine Tot.ite (fun _ => ?_) (fun _ => Tot.ite (fun _ => ?_) (fun _ => Tot.pure hd.2))
  ·obtain ⟨s, c3, e3, hs, k3⟩ := Oj c2 k2
   refine Tot.bind (Tot.of (Q := fun r => r = (s, c3)) e3 rfl) ?_
   rintro r rfl
   exact Tot.ble (by simp only [List.length_cons, List.length_nil]; omega) (Tot.pure ⟨N9a hd.2.1 J5a, hd.2.2⟩)
  ·obtain ⟨s, c3, e3, hs, k3⟩ := Oj c2 k2
   refine Tot.bind (Tot.of (Q := fun r => r = (s, c3)) e3 rfl) ?_
   rintro r rfl
   obtain ⟨y, c4, e4, y0, y1, _, k4⟩ := C3 c3 k3 2 (by decide)
   have y1 := y1 (by decide)
   refine Tot.bind (Tot.of (Q := fun r => r = (y, c4)) e4 rfl) ?_
   rintro r rfl
   dsimp only
   rw [w64 (n := 400 + y) (by omega) (by omega)]
   exact Tot.dec rfl (Tot.dec (by omega) (Tot.dec (by omega) (Tot.ble (by simp only [List.length_cons, List.length_nil]; omega) (Tot.pure ⟨hd.2.1, N9a hd.2.2 (Jaa _)⟩))))
 exact (h0.and h1).mono fun r h => ⟨⟨h.1.1, h.2⟩, h.1.2⟩
end Go.Proofs.YtgocagaijgcnmaaGreat.Vf
end

section
set_option linter.unusedVariables false
set_option linter.unusedSimpArgs false
namespace Go.Proofs.YtgocagaijgcnmaaGreat.Vf
open Go
section
variable {d : Dsk} {s : ByteArray} {f : Fil} {sure : Bool}
theorem S5a {l : List Nmd} (hs : Db l) {s t : ByteArray} {b : List Int} : gt (wr l s b) t = if s = t then some b else gt l t := by
 unfold wr
 rw [N1a (x := (s, b)) (Jg hs) Tr]
 by_cases h : s = t
 ·rw [if_pos h, if_pos h]
 ·rw [if_neg h, if_neg h, Tu hs, if_neg h]
end
end Go.Proofs.YtgocagaijgcnmaaGreat.Vf
end
