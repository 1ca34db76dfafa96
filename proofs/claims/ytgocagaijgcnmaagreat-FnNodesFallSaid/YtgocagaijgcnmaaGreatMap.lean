import Derived.Test.YtgocagaijgcnmaaGreatMao
import Derived.Test.YtgocagaijgcnmaaGreatMal
section
set_option linter.unusedVariables false
set_option linter.unusedSimpArgs false
namespace Go.Proofs.YtgocagaijgcnmaaGreat.Vf
open Go
theorem implNodeRot (n : Nod) (s : ByteArray) (b : Int) (hn : NIn n) (h1 : b ≤ 9223372036854775807) (h0 : -9223372036854775808 ≤ b) : Tot (fun k => impl_NodeRot k n s b) (fun r => r = rotN n s b) := by
 unfold impl_NodeRot rotN
 refine Tot.bind (implCopyNode n hn) ?_
 rintro n rfl
 refine Tot.bind (implLook hn.1.1.1.1.1 hn.1.2.1 s) ?_
 rintro r rfl
 refine Tot.bind (implNode n hn) ?_
 rintro r rfl
 cases h : nodeOk n with
 | false => exact Tot.yes rfl (Tot.pure rfl)
 | true =>
  refine Tot.no rfl ?_
  cases hl : (lkD n.2.1 s).2 == 0 with
  | false => exact Tot.yes (by unfold bne; rw [hl]; rfl) (Tot.pure rfl)
  | true =>
   refine Tot.no (by unfold bne; rw [hl]; rfl) (Tot.bind (implRot (NG.g ⟨h, hn.1.2⟩) h1 h0) ?_)
   rintro r rfl
   refine Tot.pure ?_
   cases hr : (rotR n.2.1 s b).2 with
   | true => rfl
   | false =>
    have e : (rotR n.2.1 s b).1 = n.2.1 := by
     unfold rotR at hr ⊢
     cases hg : gt n.2.1.1 s with
     | none => rfl
     | some c =>
      rw [hg] at hr
      simp only at hr ⊢
      cases hc : inR b 0 (8 * (c.length : Int) - 1) with
      | false => rfl
      | true => rw [hc] at hr; cases hr
    rw [e]
    rfl
def audN (n : Nod) : Nod × Int := ((n.1, (cleanR n.2.1).1, n.2.2), (cleanR n.2.1).2)
def crashN (n : Nod) (kp : List Bool) : Nod := bif nodeOk n then (n.1, fallR n.2.1 kp, n.2.2) else n
theorem disk_ng {n : Nod} (hn : NG n) {d : Dsk} (hd : DG d) : NG (n.1, d, n.2.2) := by
 obtain ⟨h1, h2, h3, h4, h5⟩ := nodeOk_iff.1 hn.1
 exact ⟨nodeOk_iff.2 ⟨h1, h2, hd.1, h4, h5⟩, hd.2⟩
theorem audN_g {n : Nod} (hn : NG n) : NG (audN n).1 := disk_ng hn (cleanR_g hn.g)
theorem crashN_g {n : Nod} {kp : List Bool} (hn : NG n) : NG (crashN n kp) := by
 unfold crashN
 rw [hn.1]
 exact disk_ng hn (fallR_g hn.g)
theorem implAudit (n : Nod) (hn : NG n) : Tot (fun k => impl_NodeAudit k n) (fun r => r = audN n) := by
 unfold impl_NodeAudit
 refine Tot.bind (implCopyNode n (ng_in hn)) ?_
 rintro n rfl
 refine Tot.bind (implClean n.2.1 hn.g) ?_
 rintro r rfl
 exact Tot.pure rfl
theorem implCrash (n : Nod) (kp : List Bool) (hn : NIn n) (hk : kp.length ≤ 1000000) : Tot (fun k => impl_NodeCrash k n kp) (fun r => r = crashN n kp) := by
 unfold impl_NodeCrash crashN
 refine Tot.bind (implCopyNode n hn) ?_
 rintro n rfl
 refine Tot.bind (implNode n hn) ?_
 rintro r rfl
 cases h : nodeOk n with
 | false => exact Tot.no rfl (Tot.pure rfl)
 | true =>
  refine Tot.yes rfl (Tot.bind (implFallR n.2.1 kp (NG.g ⟨h, hn.1.2⟩) hk) ?_)
  rintro r rfl
  exact Tot.pure rfl
theorem l9Keep_len_l3 : ∀ (n : Nat) (i : Int) (acc : List Bool) (c : Cur), i = n → n ≤ 6 → CurOk c → acc.length ≤ 6 - n →
  Tot (fun k => spec_l9Keep_l3 k acc i c.1 c.2.1 c.2.2) (fun r => r.1.length ≤ 6 ∧ CurOk r.2) := by
 intro n
 induction n with
 | zero =>
  intro i acc c hi h6 hc ha
  refine Tot.succ ?_
  simp only [spec_l9Keep_l3]
  exact Tot.ndec (by omega) (Tot.pure ⟨by dsimp only; omega, hc⟩)
 | succ n ih =>
  intro i acc c hi h6 hc ha
  refine Tot.succ ?_
  simp only [spec_l9Keep_l3]
  refine Tot.dec (by omega) ?_
  rw [w64 (n := i - 1) (by omega) (by omega)]
  obtain ⟨b, c1, e1, k1⟩ := l1Once_ok c hc 2 (by decide)
  refine Tot.bind (Tot.of (Q := fun r => r = (b, c1)) e1 rfl) ?_
  rintro r rfl
  exact Tot.ble (by simp only [List.length_cons, List.length_nil]; omega) (ih (i - 1) _ c1 (by omega) (by omega) k1 (by simp only [List.length_append, List.length_cons, List.length_nil]; omega))
theorem l9Keep_len (c : Cur) (hc : CurOk c) : Tot (fun k => spec_l9Keep k c) (fun r => r.1.length ≤ 6 ∧ CurOk r.2) := by
 unfold spec_l9Keep
 obtain ⟨x, c2, e2, h0, h1, _, k2⟩ := l1Below_ok c hc 7 (by decide)
 have h1 := h1 (by decide)
 refine Tot.bind (Tot.of (Q := fun r => r = (x, c2)) e2 rfl) ?_
 rintro r rfl
 refine Tot.bind (l9Keep_len_l3 x.toNat x [] c2 (by omega) (by omega) k2 (by simp)) (fun r hr => Tot.pure hr)
theorem sameTexts_tot (a b : List ByteArray) (hl : a.length ≤ 1000000) : Tot (fun k => laws_sameTexts k a b) (fun r => r = decide (a = b)) := by
 unfold laws_sameTexts
 cases hc : ((a.length : Int) == (b.length : Int)) with
 | false =>
  refine Tot.yes (by unfold bne; rw [hc]; rfl) (Tot.pure (decide_eq_false ?_).symm)
  rintro rfl
  simp at hc
 | true =>
  have hlen : a.length = b.length := by have := eq_of_beq hc; omega
  refine Tot.no (by unfold bne; rw [hc]; rfl) (Tot.bind (Q := fun r => r = bif decide (a = b) then .inr () else .inl false) ?_ (by rintro r rfl; cases decide (a = b) <;> exact Tot.pure rfl))
  refine Tot.up (L := fun k i (_ : Unit) => laws_sameTexts_l4 k a b i) (Q := fun r => r = bif decide (a = b) then .inr () else .inl false) a.length (fun j _ => decide (a.drop j = b.drop j) = decide (a = b)) ?_ ?_ 0 () (Nat.zero_le _) rfl
  ·intro _ h
   rw [List.drop_length, List.drop_of_length_le (by omega), decide_eq_true rfl] at h
   simp (disch := omega) only [laws_sameTexts_l4, dF, ← h]
   exact Tot.pure rfl
  ·intro j _ hj h next
   rw [drop_cons (d := txt0) hj, drop_cons (d := txt0) (show j < b.length by omega)] at h
   simp (disch := omega) only [laws_sameTexts_l4, dT, Int.toNat_natCast, w64]
   refine Tot.ite (fun hc => Tot.pure ?_) (fun hc => next () ?_)
   ·have hne : a.getD j txt0 ≠ b.getD j txt0 := fun e => by
     rw [Bool.not_eq_true'] at hc
     have : teq (a.getD j txt0) (b.getD j txt0) = false := hc
     rw [e, teq_iff.2 rfl] at this
     cases this
    rw [decide_eq_false (fun e => hne (List.cons.inj e).1)] at h
    rw [← h]
    rfl
   ·have he : a.getD j txt0 = b.getD j txt0 := by
     rw [Bool.not_eq_false'] at hc
     exact teq_iff.1 hc
    rw [← h, he]
    simp
theorem hasText_tot (l : List ByteArray) (s : ByteArray) (hl : l.length ≤ 1000000000) : Tot (fun k => laws_hasText k l s) (fun r => r = hasT l s) := by
 unfold laws_hasText
 refine Tot.bind (Q := fun r => r = bif hasT l s then .inl true else .inr ()) ?_ (by rintro r rfl; cases hasT l s <;> exact Tot.pure rfl)
 refine Tot.up (L := fun k i (_ : Unit) => laws_hasText_l2 k l s i) (Q := fun r => r = bif hasT l s then .inl true else .inr ()) l.length (fun j _ => hasT (l.drop j) s = hasT l s) ?_ ?_ 0 () (Nat.zero_le _) rfl
 ·intro _ h
  rw [List.drop_length] at h
  simp (disch := omega) only [laws_hasText_l2, dF, ← h]
  exact Tot.pure rfl
 ·intro j _ hj h next
  rw [drop_cons (d := txt0) hj] at h
  unfold hasT at h
  rw [List.any_cons] at h
  simp (disch := omega) only [laws_hasText_l2, dT, Int.toNat_natCast, w64]
  refine Tot.ite (fun hc => Tot.pure ?_) (fun hc => next () ?_)
  ·rw [show teq (l.getD j txt0) s = true from hc, Bool.true_or] at h
   unfold hasT
   rw [← h]
   rfl
  ·rw [show teq (l.getD j txt0) s = false from hc, Bool.false_or] at h
   exact h
end Go.Proofs.YtgocagaijgcnmaaGreat.Vf
end

section
set_option linter.unusedVariables false
set_option linter.unusedSimpArgs false
namespace Go.Proofs.YtgocagaijgcnmaaGreat.Pure
open Go Go.RowKit Go.Proofs.YtgocagaijgcnmaaGreat.Vf
theorem drawRot_tot (a0 : List Int) (hb : (a0.length : Int) ≤ 1048576) : Tot (fun k => spec_DrawNodeRot k a0) (fun r => NIn r.1 ∧ -9223372036854775808 ≤ r.2.2 ∧ r.2.2 ≤ 9223372036854775807) := by
 unfold spec_DrawNodeRot
 refine Tot.bind (l1New_tot a0 hb) (fun c hc => ?_)
 refine Tot.bind (l12Any_in c hc) ?_
 rintro ⟨n, c1⟩ ⟨hn, k1⟩
 dsimp only at hn k1
 obtain ⟨s, c2, e2, hs, k2⟩ := l3Name_ok c1 k1
 refine Tot.bind (Tot.of (Q := fun r => r = (s, c2)) e2 rfl) ?_
 rintro r rfl
 refine Tot.bind (specHeld n.2.1 hn.1.1 hn.1.2) ?_
 rintro r rfl
 have hl := (hS_ok n.2.1.1 hn.1.1.1.2.1 n.2.1.1 0 [] (fun _ h => h) (fun y hy => by cases hy)).1
 have h2 := hn.1.1.2.1
 rw [List.length_nil] at hl
 have fin : ∀ (c : Cur) (t : ByteArray), CurOk c → Tot (fun k => (spec_l1Int c [0, 1, 9, 33, (-1), 5000]).bind fun r8 => some (n, t, r8.1)) (fun r => NIn r.1 ∧ -9223372036854775808 ≤ r.2.2 ∧ r.2.2 ≤ 9223372036854775807) := by
  intro c t hc
  obtain ⟨x, c', e, hx, _⟩ := l1Int_ok c hc [0, 1, 9, 33, (-1), 5000] (by decide) (by decide)
  refine Tot.bind (Tot.of (Q := fun r => r = (x, c')) e rfl) ?_
  rintro r rfl
  simp only [List.mem_cons, List.not_mem_nil, or_false] at hx
  exact Tot.pure ⟨hn, by dsimp only; omega, by dsimp only; omega⟩
 have hl' : (heldS n.2.1).length ≤ 1000 := by unfold heldS; omega
 refine Tot.dite (fun h => ?_) (fun _ => fin c2 s k2)
 obtain ⟨b, c3, e3, k3⟩ := l1Once_ok c2 k2 4 (by decide)
 refine Tot.bind (Tot.of (Q := fun r => r = (b, c3)) e3 rfl) ?_
 rintro r rfl
 refine Tot.ite (fun _ => ?_) (fun _ => fin c3 s k3)
 obtain ⟨x, c4, e4, x0, x1, _, k4⟩ := l1Below_ok c3 k3 ((heldS n.2.1).length : Int) (by omega)
 have x1 := x1 (by omega)
 refine Tot.bind (Tot.of (Q := fun r => r = (x, c4)) e4 rfl) ?_
 rintro r rfl
 exact Tot.dec (by omega) (Tot.dec (by omega) (fin c4 _ k4))
theorem FnNodesFall : ∀ (a0 : List Int), Ty.fit ti (.sl 5 (.i .u8)) a0 → ∃ k, laws_FnNodesFall k a0 = some true := by
 intro a0 _
 refine Tot.law (f := fun k => laws_FnNodesFall k a0) ?_
 unfold laws_FnNodesFall laws_big
 refine Tot.bind (Tot.pure (Q := fun b => b = decide ((List.length a0 : Int) > 1048576)) rfl) ?_
 rintro b rfl
 refine Tot.dite (fun _ => Tot.pure rfl) (fun hb => ?_)
 have hdr : Tot (fun k => spec_DrawNodeCrash k a0) (fun r => NIn r.1 ∧ r.2.length ≤ 6) := by
  unfold spec_DrawNodeCrash
  refine Tot.bind (l1New_tot a0 (by omega)) (fun c hc => ?_)
  refine Tot.bind (l12Any_in c hc) (fun n hn => ?_)
  exact Tot.bind (l9Keep_len n.2 hn.2) (fun l hl => Tot.pure ⟨hn.1, hl.1⟩)
 refine Tot.bind hdr ?_
 rintro ⟨n, kp⟩ ⟨hn, hk⟩
 dsimp only at hn hk
 dsimp only
 have hr := hn.2.1.1
 have hq := hn.2.2.1
 refine Tot.bind (implCrash n kp hn (by omega)) ?_
 rintro x rfl
 have hxi : NIn (crashN n kp) ∧ nodeOk (crashN n kp) = nodeOk n ∧ (crashN n kp).2.2 = n.2.2 := by
  cases h : nodeOk n with
  | false => unfold crashN; rw [h]; exact ⟨hn, h, rfl⟩
  | true =>
   have hg := crashN_g (kp := kp) (n := n) ⟨h, hn.1.2⟩
   exact ⟨ng_in hg, hg.1, by unfold crashN; rw [h]; rfl⟩
 obtain ⟨hxi, hxo, hx2⟩ := hxi
 refine Tot.bind (drawRot_tot a0 (by omega)) ?_
 rintro ⟨m, s, bit⟩ ⟨hm, b0, b1⟩
 dsimp only at hm b0 b1
 dsimp only
 refine Tot.bind (implNodeRot m s bit hm b1 b0) ?_
 rintro y rfl
 refine Tot.bind (specNodeRot m s bit hm b1 b0) ?_
 rintro y rfl
 refine Tot.no (by simp) ?_
 refine Tot.bind (implNode n hn) ?_
 rintro r rfl
 refine Tot.bind (specNode n hn) ?_
 rintro r rfl
 refine Tot.no (by simp) ?_
 refine Tot.bind (implNode _ hxi) ?_
 rintro r rfl
 refine Tot.bind (implNode n hn) ?_
 rintro r rfl
 refine Tot.no (by rw [hxo]; simp) ?_
 rw [hx2]
 refine Tot.bind (sameRows_tot _ _ (by unfold Few; omega) (by unfold Few; omega)) ?_
 rintro r rfl
 refine Tot.no (by simp) (Tot.bind (sameRows_tot _ _ (by unfold Few; omega) (by unfold Few; omega)) ?_)
 rintro r rfl
 refine Tot.no (by simp) ?_
 unfold rotN
 cases hc : nodeOk m && ((lkD m.2.1 s).2 == 0 && (rotR m.2.1 s bit).2) with
 | false =>
  refine Tot.yes rfl (Tot.bind (implHeld m.2.1 hm.1.1 hm.1.2) ?_)
  rintro r rfl
  refine Tot.bind (implHeld m.2.1 hm.1.1 hm.1.2) ?_
  rintro r rfl
  have := hI_len m.2.1 m.2.1.1 []
  have h2 := hm.1.1.2.1
  refine Tot.bind (sameTexts_tot _ _ (by unfold heldI; rw [List.length_nil] at this; omega)) ?_
  rintro r rfl
  exact Tot.pure (decide_eq_true rfl)
 | true =>
  rw [Bool.and_eq_true, Bool.and_eq_true] at hc
  obtain ⟨h1, h2, h3⟩ := hc
  have hg : NG m := ⟨h1, hm.1.2⟩
  have hyg := disk_ng hg (rotR_g (s := s) (n := bit) hg.g)
  have hyi := ng_in hyg
  simp only [cond_true]
  obtain ⟨b, hb1, hb2⟩ := look_good.1 (show lkD m.2.1 s = ((lkD m.2.1 s).1, 0) by rw [← eq_of_beq h2])
  obtain ⟨f1, _, f3⟩ := getF_ok hb2
  have hrot : ∃ c, gt (rotR m.2.1 s bit).1.1 s = some c ∧ getF c = none := by
   unfold rotR at h3 ⊢
   rw [hb1] at h3 ⊢
   simp only at h3 ⊢
   cases hc : inR bit 0 (8 * (b.length : Int) - 1) with
   | false => rw [hc] at h3; cases h3
   | true =>
    obtain ⟨i0, i1⟩ := inR_iff.1 hc
    refine ⟨flipL b bit.toNat, ?_, ?_⟩
    ·show gt (wr m.2.1.1 s (flipL b bit.toNat)) s = _
     rw [gt_wr (disk_s1 hg.g.1), if_pos rfl]
    ·rw [← f3]
     rw [← f3] at i1
     exact flip_bad f1 (by omega)
  obtain ⟨c, c1, c2⟩ := hrot
  have hbad : lkD (rotR m.2.1 s bit).1 s = (fil0, 2) := by unfold lkD; rw [c1]; simp only [c2]
  refine Tot.no rfl (Tot.bind (implLook hyi.1.1.1.1.1 hyi.1.2.1 s) ?_)
  rintro r rfl
  refine Tot.bind (implAudit _ hyg) ?_
  rintro r rfl
  dsimp only
  rw [hbad]
  have hag := audN_g hyg
  have hai := ng_in hag
  obtain ⟨n1, n2⟩ := cleans_spec (rotR m.2.1 s bit).1.1 ((rotR m.2.1 s bit).1, 0) hyg.g
  have hin : s ∈ bads (rotR m.2.1 s bit).1.1 := (bads_mem hyg.g.1).2 ⟨c, c1, c2⟩
  have hlen : 1 ≤ (bads (rotR m.2.1 s bit).1.1).length := List.length_pos_of_mem hin
  refine Tot.yes rfl (Tot.dec (by unfold audN cleanR; dsimp only; rw [n1]; omega) (Tot.bind (implHeld _ hai.1.1 hai.1.2) ?_))
  rintro r rfl
  have hl := hI_len (audN (m.1, (rotR m.2.1 s bit).1, m.2.2)).1.2.1 (audN (m.1, (rotR m.2.1 s bit).1, m.2.2)).1.2.1.1 []
  have hl2 := hai.1.1.2.1
  rw [List.length_nil] at hl
  refine Tot.bind (hasText_tot _ _ (by unfold heldI; omega)) ?_
  rintro r rfl
  have hno : hasT (heldI (audN (m.1, (rotR m.2.1 s bit).1, m.2.2)).1.2.1) s = false := by
   cases hh : hasT (heldI (audN (m.1, (rotR m.2.1 s bit).1, m.2.2)).1.2.1) s with
   | false => rfl
   | true =>
    have h4 := hasT_iff.1 hh
    rw [heldI_eq (disk_s1 hag.g.1)] at h4
    obtain ⟨f, hf⟩ := (heldR_mem hag.g.1).1 h4
    unfold old at hf
    have h5 : gt (audN (m.1, (rotR m.2.1 s bit).1, m.2.2)).1.2.1.1 s = none := ((n2 s).1 hin).1
    rw [h5] at hf
    cases hf
  refine Tot.yes (by rw [hno]; rfl) (Tot.bind (implNode _ hai) ?_)
  rintro r rfl
  exact Tot.pure hag.1
end Go.Proofs.YtgocagaijgcnmaaGreat.Pure
end
