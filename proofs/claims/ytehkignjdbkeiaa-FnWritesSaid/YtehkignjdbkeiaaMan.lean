import Derived.Test.YtehkignjdbkeiaaMam
import Derived.Test.YtehkignjdbkeiaaMal
section
set_option linter.unusedVariables false
set_option linter.unusedSimpArgs false
namespace Go.Proofs.Ytehkignjdbkeiaa.Vf
open Go
theorem wt_len {l : List ByteArray} {s : ByteArray} : (wt l s).length ≤ l.length + 1 := by
 unfold wt
 have := tpl_le l s
 split
 ·omega
 ·simp only [List.length_append, List.length_take, List.length_drop, List.length_cons, List.length_nil]; omega
theorem implFallX_l5 (kp : List Bool) (m : List Nmd) (a b : List Nmd) (hm : m.length ≤ 100000) : ∀ (n i : Nat) (ns : List ByteArray), m.length - i = n → i ≤ m.length → ns.length ≤ i → TS ns →
  Tot (fun k => impl_FallDisk_l5 k kp ns m (m.length : Int) (i : Int) a b [] []) (fun r => (∀ x ∈ m.drop i, x.1 ∈ r.2.1) ∧ (∀ y ∈ ns, y ∈ r.2.1) ∧ r.2.1.length ≤ m.length ∧ TS r.2.1 ∧ r.1 = kp ∧ r.2.2 = (a, b, [], [])) := by
 intro n
 induction n with
 | zero =>
  intro i ns hd hi hn ht
  refine Tot.succ ?_
  simp only [impl_FallDisk_l5]
  refine Tot.ndec (by omega) (Tot.pure ⟨?_, fun y hy => hy, by dsimp only; omega, ht, rfl, rfl⟩)
  rw [List.drop_of_length_le (by omega)]
  intro x hx; cases hx
 | succ n ih =>
  intro i ns hd hi hn ht
  have hlt : i < m.length := by omega
  refine Tot.succ ?_
  simp only [impl_FallDisk_l5]
  refine Tot.dec (by omega) (Tot.dec (by omega) (Tot.dec (by omega) ?_))
  rw [show Int.toNat (i : Int) = i from Int.toNat_natCast i, w64 (n := (i : Int) + 1) (by omega) (by omega), drop_cons (d := nmd0) hlt]
  have e0 : m.getD i ((⟨#[]⟩ : ByteArray), ([] : List Int)) = m.getD i nmd0 := rfl
  rw [e0]
  refine Tot.bind (implWithTextX ns (m.getD i nmd0).1 (by omega)) ?_
  rintro q rfl
  have hl := wt_len (l := ns) (s := (m.getD i nmd0).1)
  refine (ih (i + 1) _ (by omega) (by omega) (by omega) (wt_sorted ht)).mono ?_
  rintro r ⟨g1, g2, g3⟩
  refine ⟨fun x hx => ?_, fun y hy => g2 y (wt_mem.2 (.inr hy)), g3⟩
  rcases List.mem_cons.1 hx with rfl | hx
  ·exact g2 _ (wt_mem.2 (.inl rfl))
  ·exact g1 x hx
theorem implFall0_l11 (ns : List ByteArray) (a b : List Nmd) (hb : b.length ≤ 100000) (hm : ns.length ≤ 100000) : ∀ (n i : Nat) (acc : List Nmd), ns.length - i = n → i ≤ ns.length → acc.length ≤ i →
  Tot (fun k => impl_FallDisk_l11 k [] acc ns (ns.length : Int) (i : Int) a b [] []) (fun r => r = (acc ++ (ns.drop i).filterMap (pk b), a, b, [], [])) := by
 intro n
 induction n with
 | zero =>
  intro i acc hd hi hn
  refine Tot.succ ?_
  simp only [impl_FallDisk_l11]
  refine Tot.ndec (by omega) (Tot.pure ?_)
  rw [List.drop_of_length_le (by omega), List.filterMap_nil, List.append_nil]
 | succ n ih =>
  intro i acc hd hi hn
  have hlt : i < ns.length := by omega
  refine Tot.succ ?_
  simp only [impl_FallDisk_l11]
  refine Tot.dec (by omega) (Tot.dec (by omega) (Tot.dec (by omega) ?_))
  rw [show Int.toNat (i : Int) = i from Int.toNat_natCast i, w64 (n := (i : Int) + 1) (by omega) (by omega), drop_cons (d := txt0) hlt, List.filterMap_cons]
  have e0 : ns.getD i (⟨#[]⟩ : ByteArray) = ns.getD i txt0 := rfl
  rw [e0]
  refine Tot.ndec (by simp only [List.length_nil]; omega) ?_
  refine Tot.bind (implAt b _ (by omega)) ?_
  rintro q rfl
  unfold fndI pk
  cases h : fnd b (ns.getD i txt0) with
  | none =>
   refine Tot.ndec (by decide) ((ih (i + 1) acc (by omega) (by omega) (by omega)).mono ?_)
   rintro r rfl
   rfl
  | some j =>
   have hl1 := (fnd_lt h).1
   dsimp only
   refine Tot.dec (by omega) (Tot.dec (by omega) (Tot.dec (by omega) ?_))
   rw [show Int.toNat (j : Int) = j from Int.toNat_natCast j]
   have e1 : b.getD j ((⟨#[]⟩ : ByteArray), ([] : List Int)) = b.getD j nmd0 := rfl
   rw [e1]
   refine Tot.ble (by simp only [List.length_cons, List.length_nil]; omega) ((ih (i + 1) (acc ++ [b.getD j nmd0]) (by omega) (by omega) (by simp only [List.length_append, List.length_cons, List.length_nil]; omega)).mono ?_)
   rintro r rfl
   rw [List.append_assoc]
   rfl
theorem implFall0 (d : Dsk) (hd : diskOk d = true) : Tot (fun k => impl_FallDisk k d []) (fun r => r = (d.2, d.2)) := by
 have hin := din_ok hd
 have hd' := hd
 unfold diskOk at hd'
 rw [Bool.and_eq_true] at hd'
 have g1 := (namedsOk_iff.1 hd'.1).2.2
 have g2 := namedsOk_iff.1 hd'.2
 unfold impl_FallDisk
 refine Tot.bind (implDisk d hin.1.1 hin.1.2) ?_
 rintro b rfl
 rw [hd]
 refine Tot.no rfl (Tot.ble (by simp only [List.length_nil]; omega) ?_)
 rw [List.nil_append]
 refine Tot.ble (by omega) ?_
 have hm : (d.1 ++ d.2).length ≤ 120 := by rw [List.length_append]; omega
 refine Tot.bind (implFallX_l5 [] (d.1 ++ d.2) d.1 d.2 (by omega) _ 0 [] rfl (Nat.zero_le _) (Nat.zero_le _) List.Pairwise.nil) ?_
 rintro ⟨r1, r2, r3, r4, r5, r6⟩ ⟨h1, _, h3, ht, h4, h5⟩
 dsimp only at h1 h3 ht h4 h5
 simp only [Prod.mk.injEq] at h5
 obtain ⟨rfl, rfl, rfl, rfl⟩ := h5
 subst h4
 dsimp only
 refine Tot.bind (implFall0_l11 r2 d.1 d.2 (by omega) (by omega) _ 0 [] rfl (Nat.zero_le _) (Nat.zero_le _)) ?_
 rintro q rfl
 dsimp only
 rw [List.drop_zero] at *
 have hall : r2.filterMap (pk d.2) = d.2 := pick_all r2 d.2 ht g2.1 (fun x hx => h1 x (List.mem_append_right _ hx))
 rw [List.nil_append, hall]
 refine Tot.ndec (by omega) ?_
 refine Tot.bind (implCopyNamed d.2 hin.1.1.2) ?_
 rintro r rfl
 refine Tot.bind (implCopyNamed d.2 hin.1.1.2) ?_
 rintro r' e
 subst e
 exact Tot.pure rfl
end Go.Proofs.Ytehkignjdbkeiaa.Vf
end

section
set_option linter.unusedVariables false
set_option linter.unusedSimpArgs false
namespace Go.Proofs.Ytehkignjdbkeiaa.Pure
open Go Go.RowKit Go.Proofs.Ytehkignjdbkeiaa.Vf
theorem writes_loop (s : ByteArray) (b : List Int) (d : Dsk) (x1 x2 : List Nmd) (hd : NFew d.1) (hx : NFew x1) (hr : ∀ y ∈ d.1, y.1 ≠ s → rdN x1 y.1 = (y.2, true)) : ∀ (n i : Nat), d.1.length - i = n → i ≤ d.1.length →
  Tot (fun k => laws_FnWrites_l12 k s b (i : Int) d.1 d.2 x1 x2) (fun r => r = .inr (s, b, d.1, d.2, x1, x2)) := by
 have hl0 := hd.1
 intro n
 induction n with
 | zero =>
  intro i h1 hi
  refine Tot.succ ?_
  simp only [laws_FnWrites_l12]
  exact Tot.ndec (by omega) (Tot.pure rfl)
 | succ n ih =>
  intro i h1 hi
  have hlt : i < d.1.length := by omega
  refine Tot.succ ?_
  simp only [laws_FnWrites_l12]
  rw [show Int.toNat (i : Int) = i from Int.toNat_natCast i, w64 (n := (i : Int) + 1) (by omega) (by omega)]
  have e0 : d.1.getD i ((⟨#[]⟩ : ByteArray), ([] : List Int)) = d.1.getD i nmd0 := rfl
  rw [e0]
  refine Tot.dec (by omega) (Tot.dec (by omega) (Tot.dec (by omega) ?_))
  refine Tot.bind (implRead (x1, x2) (d.1.getD i nmd0).1 hx) ?_
  rintro q rfl
  refine Tot.dec (by omega) (Tot.dec (by omega) (Tot.ite (fun h => ?_) (fun h => ?_)))
  ·have hne : (d.1.getD i nmd0).1 ≠ s := by
    intro e
    rw [e] at h
    simp at h
   have hm : d.1.getD i nmd0 ∈ d.1 := getD_mem' hlt
   dsimp only
   rw [hr _ hm hne]
   refine Tot.no rfl (Tot.dec (by omega) (Tot.dec (by omega) ?_))
   refine Tot.bind (sameBytes_tot _ _ (hd.2 _ hm)) ?_
   rintro c rfl
   refine Tot.no (by simp) (ih (i + 1) (by omega) (by omega))
  ·exact ih (i + 1) (by omega) (by omega)
theorem FnWrites : ∀ (a0 : List Int), Ty.fit ti (.sl 5 (.i .u8)) a0 → ∃ k, laws_FnWrites k a0 = some true := by
 intro a0 _
 refine Tot.law (f := fun k => laws_FnWrites k a0) ?_
 unfold laws_FnWrites laws_big
 refine Tot.bind (Tot.pure (Q := fun b => b = decide ((List.length a0 : Int) > 1048576)) rfl) ?_
 rintro b rfl
 refine Tot.dite (fun _ => Tot.pure rfl) (fun hb => ?_)
 have hdr : Tot (fun k => spec_DrawWriteName k a0) (fun r => DIn r.1 ∧ Short r.2.1 ∧ r.2.2.length ≤ 1000) := by
  unfold spec_DrawWriteName
  refine Tot.bind (l1New_tot a0 (by omega)) (fun c hc => ?_)
  refine Tot.bind (l1Some_tot c hc) ?_
  rintro ⟨b0, c0⟩ ⟨k0, _, l0⟩
  dsimp only at k0 l0
  dsimp only
  obtain ⟨o, c1, e1, k1⟩ := l1Once_ok c0 k0 12 (by decide)
  refine Tot.bind (Tot.of (Q := fun r => r = (o, c1)) e1 rfl) ?_
  rintro q rfl
  refine Tot.ite (fun _ => ?_) (fun _ => ?_)
  ·obtain ⟨x, c2, e2, h0, h1, _, k2⟩ := l1Below_ok c1 k1 2 (by decide)
   have := h1 (by decide)
   refine Tot.bind (Tot.of (Q := fun r => r = (x, c2)) e2 rfl) ?_
   rintro q rfl
   dsimp only
   rw [w64 (n := 400 + x) (by omega) (by omega)]
   refine Tot.dec rfl (Tot.dec (by omega) (Tot.dec (by omega) ?_))
   refine Tot.bind (l9Any_in c2 k2) (fun r hr => ?_)
   obtain ⟨s, c3, e3, hs, k3⟩ := l3Any_ok r.2 hr.2
   refine Tot.bind (Tot.of (Q := fun r => r = (s, c3)) e3 rfl) ?_
   rintro q rfl
   exact Tot.pure ⟨hr.1, hs, by rw [List.length_replicate]; omega⟩
  ·refine Tot.bind (l9Any_in c1 k1) (fun r hr => ?_)
   obtain ⟨s, c3, e3, hs, k3⟩ := l3Any_ok r.2 hr.2
   refine Tot.bind (Tot.of (Q := fun r => r = (s, c3)) e3 rfl) ?_
   rintro q rfl
   exact Tot.pure ⟨hr.1, hs, by dsimp only; omega⟩
 refine Tot.bind hdr ?_
 rintro ⟨d, s, b⟩ ⟨hd, hs, hbl⟩
 dsimp only at hd hs hbl
 dsimp only
 refine Tot.bind (implWrite d s b hd hs (by omega)) ?_
 rintro x rfl
 refine Tot.bind (specWrite d s b hd hs (by omega)) ?_
 rintro y rfl
 have refuse : Tot (fun k => (laws_sameNamed k d.1 d.1).bind fun r5 => cond r5 ((laws_sameNamed k d.2 d.2).bind fun r6 => some r6) (some false)) (fun b => b = true) := by
  refine Tot.bind (sameNamed_tot d.1 d.1 hd.1.1.1) ?_
  rintro b rfl
  refine Tot.yes (decide_eq_true rfl) ?_
  refine Tot.bind (sameNamed_tot d.2 d.2 hd.1.1.2) ?_
  rintro b rfl
  exact Tot.pure (decide_eq_true rfl)
 cases hdk : diskOk d with
 | false =>
  rw [Bool.false_and, Bool.false_and]
  exact Tot.no rfl (Tot.yes rfl (Tot.yes rfl refuse))
 | true =>
  rw [Bool.true_and, Bool.true_and]
  cases hno : nameOk s with
  | false =>
   rw [Bool.false_and, Bool.false_and]
   exact Tot.no rfl (Tot.yes rfl (Tot.yes rfl refuse))
  | true =>
   obtain ⟨w1, w2⟩ := write_ok (b := b) hdk hno
   rw [Bool.true_and, Bool.true_and, w1, w2]
   cases hc : (decide (b.length ≤ 400) && decide ((wrI d s b).length ≤ 60)) with
   | false => exact Tot.no rfl (Tot.yes rfl (Tot.yes rfl refuse))
   | true =>
    have hx : diskOk (wrI d s b, d.2) = true := by rw [w2, hc]
    have hxi := din_ok hx
    have hdk' := hdk
    have hx' := hx
    unfold diskOk at hdk' hx'
    rw [Bool.and_eq_true] at hdk' hx'
    have hs1 := (namedsOk_iff.1 hdk'.1).1
    have hsx := (namedsOk_iff.1 hx'.1).1
    have ew : wrI d s b = ins (cut d.1 s) (s, b) := by unfold wrI; rw [del_cut hs1]
    have hmem : (s, b) ∈ wrI d s b := by rw [ew]; exact ins_mem.2 (.inl rfl)
    have hrd : rdN (wrI d s b) s = (b, true) := fnd_is hsx hmem
    refine Tot.no rfl (Tot.no rfl ?_)
    simp only [cond_true]
    refine Tot.bind (implRead (wrI d s b, d.2) s hxi.1.1.1) ?_
    rintro q rfl
    rw [hrd]
    refine Tot.no rfl ?_
    refine Tot.bind (sameBytes_tot b b (by omega)) ?_
    rintro c rfl
    refine Tot.no (by simp) ?_
    refine Tot.bind (implDisk (wrI d s b, d.2) hxi.1.1 hxi.1.2) ?_
    rintro c rfl
    rw [hx]
    refine Tot.no rfl ?_
    refine Tot.bind (sameNamed_tot d.2 d.2 hd.1.1.2) ?_
    rintro c rfl
    refine Tot.no (by simp) ?_
    refine Tot.bind (writes_loop s b d (wrI d s b) d.2 hd.1.1.1 hxi.1.1.1 (fun y hy hne => fnd_is hsx ?_) _ 0 rfl (Nat.zero_le _)) ?_
    ·rw [ew]
     exact ins_mem.2 (.inr (List.mem_filter.2 ⟨hy, by
      have : teq y.1 s = false := by
       cases h : teq y.1 s with
       | false => rfl
       | true => exact absurd (teq_iff.1 h) hne
      simp [this]⟩))
    ·rintro r rfl
     dsimp only [Sum.elim_inr]
     refine Tot.bind (implFall0 (wrI d s b, d.2) hx) ?_
     rintro f rfl
     refine Tot.bind (implSync (wrI d s b, d.2) s hxi hs) ?_
     rintro u rfl
     rw [hx, hno, Bool.true_and, Bool.true_and]
     by_cases hl : (syI (wrI d s b, d.2) s).length ≤ 60
     ·have hy : diskOk ((wrI d s b, d.2).1, syI (wrI d s b, d.2) s) = true := by rw [sync_ok hx hno, decide_eq_true hl]
      have hyi := din_ok hy
      have hsy := (namedsOk_iff.1 (show namedsOk (syI (wrI d s b, d.2) s) = true by
       have := hy
       unfold diskOk at this
       rw [Bool.and_eq_true] at this
       exact this.2)).1
      have hin : (s, b) ∈ syI (wrI d s b, d.2) s := by
       have h1 := hrd
       unfold rdN at h1
       unfold syI
       dsimp only
       cases hf : fnd (wrI d s b) s with
       | none => rw [hf] at h1; cases h1
       | some j =>
        rw [hf] at h1
        simp only [Prod.mk.injEq, and_true] at h1
        dsimp only
        rw [h1]
        exact ins_mem.2 (.inl rfl)
      rw [decide_eq_true hl]
      simp only [cond_true]
      refine Tot.bind (implFall0 _ hy) ?_
      rintro f rfl
      refine Tot.bind (implRead (syI (wrI d s b, d.2) s, syI (wrI d s b, d.2) s) s hyi.1.1.2) ?_
      rintro v rfl
      rw [fnd_is hsy hin]
      refine Tot.bind (sameNamed_tot d.2 d.2 hd.1.1.2) ?_
      rintro c rfl
      refine Tot.yes (decide_eq_true rfl) (Tot.no rfl (Tot.yes rfl ?_))
      refine Tot.bind (sameBytes_tot b b (by omega)) ?_
      rintro c rfl
      exact Tot.pure (decide_eq_true rfl)
     ·rw [decide_eq_false hl]
      simp only [cond_false]
      refine Tot.bind (implFall0 (wrI d s b, d.2) hx) ?_
      rintro f rfl
      refine Tot.bind (implRead (d.2, d.2) s hd.1.1.2) ?_
      rintro v rfl
      refine Tot.bind (sameNamed_tot d.2 d.2 hd.1.1.2) ?_
      rintro c rfl
      exact Tot.yes (decide_eq_true rfl) (Tot.yes rfl (Tot.pure rfl))
end Go.Proofs.Ytehkignjdbkeiaa.Pure
end
