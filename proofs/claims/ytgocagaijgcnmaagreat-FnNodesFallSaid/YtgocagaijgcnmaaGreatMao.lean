import Derived.Test.YtgocagaijgcnmaaGreatMan
import Derived.Test.YtgocagaijgcnmaaGreatMam
section
set_option linter.unusedVariables false
set_option linter.unusedSimpArgs false
namespace Go.Proofs.YtgocagaijgcnmaaGreat.Vf
open Go
def gt (l : List Nmd) (s : ByteArray) : Option (List Int) := match fnd l s with
 | some i => some (l.getD i nmd0).2
 | none => none
theorem gt_cons (y : Nmd) (l : List Nmd) (s : ByteArray) : gt (y :: l) s = if y.1 = s then some y.2 else gt l s := by
 unfold gt
 rw [fnd_cons]
 by_cases h : y.1 = s
 ·rw [if_pos (teq_iff.2 h), if_pos h]; rfl
 ·rw [if_neg (fun c => h (teq_iff.1 c)), if_neg h]
  cases fnd l s <;> rfl
theorem gt_mem {l : List Nmd} {s : ByteArray} {b : List Int} (h : gt l s = some b) : (s, b) ∈ l := by
 induction l with
 | nil => cases h
 | cons y l ih =>
  rw [gt_cons] at h
  by_cases e : y.1 = s
  ·rw [if_pos e] at h
   cases h
   subst e
   exact List.mem_cons_self
  ·rw [if_neg e] at h
   exact List.mem_cons_of_mem _ (ih h)
theorem gt_none {l : List Nmd} {s : ByteArray} : gt l s = none ↔ ∀ x ∈ l, x.1 ≠ s := by
 rw [← fnd_none]
 unfold gt
 cases fnd l s with
 | none => simp
 | some i => simp
theorem gt_of {l : List Nmd} (hs : SortedN l) {x : Nmd} (hx : x ∈ l) : gt l x.1 = some x.2 := by
 cases h : gt l x.1 with
 | none => exact absurd rfl (gt_none.1 h x hx)
 | some b => rw [show x = (x.1, b) from is_uniq hs hx (gt_mem h) rfl]
theorem gt_iff {l : List Nmd} (hs : SortedN l) {s : ByteArray} {b : List Int} : gt l s = some b ↔ (s, b) ∈ l := ⟨gt_mem, fun h => gt_of hs h⟩
theorem gt_isSome {l : List Nmd} {s : ByteArray} : (gt l s).isSome = (fnd l s).isSome := by
 unfold gt
 cases fnd l s <;> rfl
theorem gt_cut {l : List Nmd} (hs : SortedN l) {s t : ByteArray} : gt (cut l s) t = if s = t then none else gt l t := by
 by_cases h : s = t
 ·subst h
  rw [if_pos rfl, gt_none]
  exact cut_no
 ·rw [if_neg h]
  cases hg : gt l t with
  | none => exact gt_none.2 fun x hx => gt_none.1 hg x (cut_sub.subset hx)
  | some b =>
   rw [gt_iff (cut_sorted hs)]
   refine List.mem_filter.2 ⟨gt_mem hg, ?_⟩
   cases ht : teq t s with
   | false => simp [ht]
   | true => exact absurd (teq_iff.1 ht).symm h
theorem gt_ins {l : List Nmd} (hs : SortedN l) {x : Nmd} (hn : ∀ y ∈ l, y.1 ≠ x.1) {t : ByteArray} : gt (ins l x) t = if x.1 = t then some x.2 else gt l t := by
 have hi := ins_sorted hs hn
 by_cases h : x.1 = t
 ·subst h
  rw [if_pos rfl, gt_iff hi]
  exact ins_mem.2 (.inl rfl)
 ·rw [if_neg h]
  cases hg : gt l t with
  | none =>
   refine gt_none.2 fun y hy => ?_
   rcases ins_mem.1 hy with rfl | hy
   ·exact h
   ·exact gt_none.1 hg y hy
  | some b =>
   rw [gt_iff hi]
   exact ins_mem.2 (.inr (gt_mem hg))
theorem gt_ext : ∀ {l m : List Nmd}, SortedN l → SortedN m → (∀ s, gt l s = gt m s) → l = m := by
 have key : ∀ {l m : List Nmd}, SortedN l → SortedN m → (∀ s, gt l s = gt m s) → ∀ x ∈ l, x ∈ m := fun hl hm h x hx => by
  have := h x.1
  rw [gt_of hl hx] at this
  exact gt_mem this.symm
 intro l m hl hm h
 have h1 : ∀ x, x ∈ l ↔ x ∈ m := fun x => ⟨key hl hm h x, key hm hl (fun s => (h s).symm) x⟩
 clear h key
 induction l generalizing m with
 | nil =>
  cases m with
  | nil => rfl
  | cons y m => exact absurd ((h1 y).2 (by simp)) (by simp)
 | cons x l ih =>
  cases m with
  | nil => exact absurd ((h1 x).1 (by simp)) (by simp)
  | cons y m =>
   obtain ⟨a1, a2⟩ := List.pairwise_cons.1 hl
   obtain ⟨b1, b2⟩ := List.pairwise_cons.1 hm
   have e : x = y := by
    rcases List.mem_cons.1 ((h1 x).1 (by simp)) with h | h
    ·exact h
    ·rcases List.mem_cons.1 ((h1 y).2 (by simp)) with h' | h'
     ·exact h'.symm
     ·have c1 := a1 y h'
      rw [tlt_asymm (b1 x h)] at c1
      cases c1
   subst e
   congr 1
   refine ih a2 b2 fun z => ⟨fun hz => ?_, fun hz => ?_⟩
   ·rcases List.mem_cons.1 ((h1 z).1 (List.mem_cons_of_mem _ hz)) with rfl | h
    ·have c := a1 z hz
     rw [tlt_irrefl] at c
     cases c
    ·exact h
   ·rcases List.mem_cons.1 ((h1 z).2 (List.mem_cons_of_mem _ hz)) with rfl | h
    ·have c := b1 z hz
     rw [tlt_irrefl] at c
     cases c
    ·exact h
theorem rdN_gt (l : List Nmd) (s : ByteArray) : rdN l s = match gt l s with | some b => (b, true) | none => ([], false) := by
 unfold rdN gt
 cases fnd l s <;> rfl
theorem name_short {s : ByteArray} (h : nameOk s = true) : Short s := by
 have := (nameOk_size h).2
 unfold Short
 omega
theorem disk_iff {d : Dsk} : diskOk d = true ↔ namedsOk d.1 = true ∧ namedsOk d.2 = true := by
 unfold diskOk
 rw [Bool.and_eq_true]
theorem disk_s1 {d : Dsk} (h : diskOk d = true) : SortedN d.1 := (namedsOk_iff.1 (disk_iff.1 h).1).1
theorem disk_s2 {d : Dsk} (h : diskOk d = true) : SortedN d.2 := (namedsOk_iff.1 (disk_iff.1 h).2).1
def LB (l : List Nmd) : Prop := ∀ x ∈ l, BytesOk x.2
def DB (d : Dsk) : Prop := LB d.1 ∧ LB d.2
theorem LB.cut {l : List Nmd} (h : LB l) (s : ByteArray) : LB (cut l s) := fun x hx => h x (cut_sub.subset hx)
theorem LB.ins {l : List Nmd} (h : LB l) {x : Nmd} (hx : BytesOk x.2) : LB (ins l x) := fun y hy => by
 rcases ins_mem.1 hy with rfl | hy
 ·exact hx
 ·exact h y hy
theorem LB.gt {l : List Nmd} (h : LB l) {s : ByteArray} {b : List Int} (hg : gt l s = some b) : BytesOk b := h _ (gt_mem hg)
theorem nil_bytes : BytesOk [] := fun x hx => by cases hx
def wr (l : List Nmd) (s : ByteArray) (b : List Int) : List Nmd := ins (cut l s) (s, b)
def sy (d : Dsk) (s : ByteArray) : List Nmd := match gt d.1 s with
 | some b => wr d.2 s b
 | none => cut d.2 s
def wrD (d : Dsk) (s : ByteArray) (b : List Int) : Dsk × Bool := bif decide (b.length ≤ 400) && decide ((wr d.1 s b).length ≤ 60) then ((wr d.1 s b, d.2), true) else (d, false)
def syD (d : Dsk) (s : ByteArray) : Dsk × Bool := bif decide ((sy d s).length ≤ 60) then ((d.1, sy d s), true) else (d, false)
def rmD (d : Dsk) (s : ByteArray) : Dsk × Bool := bif (gt d.1 s).isSome then ((cut d.1 s, d.2), true) else (d, false)
section
variable {d : Dsk} {s : ByteArray} {b : List Int}
theorem wrI_wr (hd : diskOk d = true) : wrI d s b = wr d.1 s b := by
 unfold wrI wr
 rw [del_cut (disk_s1 hd)]
theorem syI_sy (hd : diskOk d = true) : syI d s = sy d s := by
 unfold syI sy gt wr
 rw [del_cut (disk_s2 hd)]
 cases fnd d.1 s <;> rfl
theorem specWriteR (hd : diskOk d = true) (hs : nameOk s = true) (hb : b.length ≤ 1000000000000) : Tot (fun k => spec_WriteName k d s b) (fun r => r = wrD d s b) := by
 refine (specWrite d s b (din_ok hd) (name_short hs) hb).mono ?_
 rintro r rfl
 obtain ⟨h1, h2⟩ := write_ok (b := b) hd hs
 rw [hd, hs, h1, h2, wrI_wr hd]
 rfl
theorem specSyncR (hd : diskOk d = true) (hs : nameOk s = true) : Tot (fun k => spec_SyncName k d s) (fun r => r = syD d s) := by
 refine (specSync d s (din_ok hd) (name_short hs)).mono ?_
 rintro r rfl
 rw [hd, hs, syS_syI hd, sync_ok hd hs, syI_sy hd]
 rfl
theorem wr_ok (hd : diskOk d = true) (hs : nameOk s = true) (hb : b.length ≤ 400) (hl : (wr d.1 s b).length ≤ 60) : diskOk (wr d.1 s b, d.2) = true := by
 have := (write_ok (b := b) hd hs).2
 rw [wrI_wr hd, decide_eq_true hb, decide_eq_true hl] at this
 exact this
theorem sy_ok (hd : diskOk d = true) (hs : nameOk s = true) (hl : (sy d s).length ≤ 60) : diskOk (d.1, sy d s) = true := by
 have := sync_ok hd hs
 rw [syI_sy hd, decide_eq_true hl] at this
 exact this
theorem wrD_ok (hd : diskOk d = true) (hs : nameOk s = true) : diskOk (wrD d s b).1 = true := by
 unfold wrD
 cases hc : decide (b.length ≤ 400) && decide ((wr d.1 s b).length ≤ 60) with
 | false => exact hd
 | true =>
  rw [Bool.and_eq_true, decide_eq_true_iff, decide_eq_true_iff] at hc
  exact wr_ok hd hs hc.1 hc.2
theorem syD_ok (hd : diskOk d = true) (hs : nameOk s = true) : diskOk (syD d s).1 = true := by
 unfold syD
 cases hc : decide ((sy d s).length ≤ 60) with
 | false => exact hd
 | true => exact sy_ok hd hs (of_decide_eq_true hc)
theorem rmD_ok (hd : diskOk d = true) : diskOk (rmD d s).1 = true := by
 unfold rmD
 cases (gt d.1 s).isSome with
 | false => exact hd
 | true => exact disk_iff.2 ⟨cut_ok (disk_iff.1 hd).1, (disk_iff.1 hd).2⟩
theorem gt_ok (hd : diskOk d = true) (h : (gt d.1 s).isSome = true) : nameOk s = true := by
 cases hg : gt d.1 s with
 | none => rw [hg] at h; cases h
 | some b => exact (nOk_iff.1 ((namedsOk_iff.1 (disk_iff.1 hd).1).2.1 _ (gt_mem hg))).1
theorem specRemoveR (hd : diskOk d = true) (hs : Short s) : Tot (fun k => spec_RemoveName k d s) (fun r => r = rmD d s) := by
 refine (specRemove d s (din_ok hd).1 hs).mono ?_
 rintro r rfl
 unfold rmD
 rw [hd, ← gt_isSome]
 cases h : (gt d.1 s).isSome with
 | false => rfl
 | true =>
  have h1 : diskOk (cut d.1 s, d.2) = true := by
   have := rmD_ok (s := s) hd
   unfold rmD at this
   rw [h] at this
   exact this
  rw [gt_ok hd h, h1]
  rfl
end
def lkD (d : Dsk) (s : ByteArray) : Fil × Int := match gt d.1 s with
 | none => (fil0, 1)
 | some b => match getF b with
  | some f => (f, 0)
  | none => (fil0, 2)
theorem gt_few {l : List Nmd} {s : ByteArray} {b : List Int} (h : NFew l) (hg : gt l s = some b) : b.length ≤ 1000000000000 := h.2 _ (gt_mem hg)
theorem implLook {d : Dsk} (hf : NFew d.1) (hb : LB d.1) (s : ByteArray) : Tot (fun k => impl_Look k d s) (fun r => r = lkD d s) := by
 unfold impl_Look lkD
 refine Tot.bind (implRead d s hf) ?_
 rintro r rfl
 rw [rdN_gt]
 cases hg : gt d.1 s with
 | none => exact Tot.yes rfl (Tot.pure rfl)
 | some b =>
  refine Tot.no rfl (Tot.bind (implGetFile b (hb.gt hg) (gt_few hf hg)) ?_)
  rintro r rfl
  unfold getFR
  dsimp only
  cases getF b with
  | none => exact Tot.yes rfl (Tot.pure rfl)
  | some f => exact Tot.no rfl (Tot.pure rfl)
theorem specLook {d : Dsk} (hf : NFew d.1) (hb : LB d.1) (s : ByteArray) : Tot (fun k => spec_Look k d s) (fun r => r = lkD d s) := by
 unfold spec_Look lkD
 refine Tot.bind (specRead d s hf) ?_
 rintro r rfl
 rw [rdN_gt]
 cases hg : gt d.1 s with
 | none => exact Tot.yes rfl (Tot.pure rfl)
 | some b =>
  refine Tot.no rfl (Tot.bind (specGetFile b (hb.gt hg) (gt_few hf hg)) ?_)
  rintro r rfl
  unfold getFR
  dsimp only
  cases getF b with
  | none => exact Tot.yes rfl (Tot.pure rfl)
  | some f => exact Tot.no rfl (Tot.pure rfl)
theorem look_good {d : Dsk} {s : ByteArray} {f : Fil} : lkD d s = (f, 0) ↔ ∃ b, gt d.1 s = some b ∧ getF b = some f := by
 unfold lkD
 cases gt d.1 s with
 | none => simp
 | some b => cases h : getF b <;> simp [h]
def old (d : Dsk) (s : ByteArray) : Option Fil := (gt d.1 s).bind getF
def kp1 (d : Dsk) (s : ByteArray) (f : Fil) : Option (Dsk × Int) :=
 let w := bif (wrD d s (putF f)).2 then some ((wrD d s (putF f)).1, (0 : Int)) else none
 match old d s with
 | some o => bif sle o.1 f.1 then w else some (d, 1)
 | none => w
def kp2 (d : Dsk) (s : ByteArray) (sure : Bool) (x : Dsk × Int) : Dsk × Int := bif sure then (bif (syD x.1 s).2 then ((syD x.1 s).1, x.2) else (d, 3)) else x
def keepR (d : Dsk) (s : ByteArray) (f : Fil) (sure : Bool) : Dsk × Int := match kp1 d s f with
 | some x => kp2 d s sure x
 | none => (d, 3)
def keep (d : Dsk) (s : ByteArray) (f : Fil) (sure : Bool) : Dsk × Int := bif diskOk d && (nameOk s && fileOk f) then keepR d s f sure else (d, 2)
theorem kp1_ok {d : Dsk} {s : ByteArray} {f : Fil} (hd : diskOk d = true) (hs : nameOk s = true) {x : Dsk × Int} (h : kp1 d s f = some x) : diskOk x.1 = true := by
 have hw : ∀ x, (bif (wrD d s (putF f)).2 then some ((wrD d s (putF f)).1, (0 : Int)) else none) = some x → diskOk x.1 = true := by
  intro x h
  cases hc : (wrD d s (putF f)).2 with
  | false => rw [hc] at h; cases h
  | true => rw [hc] at h; cases h; exact wrD_ok hd hs
 unfold kp1 at h
 simp only at h
 split at h
 ·rename_i o _
  cases hc : sle o.1 f.1 with
  | false => rw [hc] at h; cases h; exact hd
  | true => rw [hc] at h; exact hw _ h
 ·exact hw _ h
theorem sync4 {d : Dsk} {s : ByteArray} (hd : diskOk d = true) (hs : nameOk s = true) {x : Dsk} {c : Int} (hx : diskOk x = true) :
  Tot (fun k => (spec_SyncName k x s).bind fun r => cond (!r.2) ((spec_l9Copy k d).bind fun q => some (q, 3)) (some (r.1, c))) (fun r => r = kp2 d s true (x, c)) := by
 unfold kp2
 refine Tot.bind (specSyncR hx hs) ?_
 rintro r rfl
 cases h : (syD x s).2 with
 | true => exact Tot.no rfl (Tot.pure rfl)
 | false =>
  refine Tot.yes rfl (Tot.bind (specCopy d (din_ok hd).1.1) ?_)
  rintro q rfl
  exact Tot.pure rfl
theorem specKeep (d : Dsk) (s : ByteArray) (f : Fil) (sure : Bool) (hd : DIn d) (hb : LB d.1) (hs : Short s) : Tot (fun k => spec_Keep k d s f sure) (fun r => r = keep d s f sure) := by
 have bad : Tot (fun k => (spec_l9Copy k d).bind fun r2 => some (r2, (2 : Int))) (fun r => r = (d, 2)) := by
  refine Tot.bind (specCopy d hd.1.1) ?_
  rintro q rfl
  exact Tot.pure rfl
 unfold spec_Keep keep
 refine Tot.bind (specDisk d hd.1.1 hd.1.2) ?_
 rintro r rfl
 cases h1 : diskOk d with
 | false => exact Tot.yes rfl bad
 | true =>
  refine Tot.no rfl (Tot.bind (specName s hs) ?_)
  rintro r rfl
  cases h2 : nameOk s with
  | false => exact Tot.yes rfl bad
  | true =>
   refine Tot.no rfl (Tot.bind (Tot.of (Q := fun b => b = fileOk f) (specFile f) rfl) ?_)
   rintro r rfl
   cases h3 : fileOk f with
   | false => exact Tot.yes rfl bad
   | true =>
    refine Tot.no rfl (Tot.bind (specLook hd.1.1.1 hb s) ?_)
    rintro r rfl
    have hlen := putF_len f
    have w : (kp1 d s f = bif (wrD d s (putF f)).2 then some ((wrD d s (putF f)).1, (0 : Int)) else none) → Tot (fun k => (spec_PutFile k f).bind fun r12 => (spec_WriteName k d s r12).bind fun r13 => cond r13.2 (cond sure ((spec_SyncName k r13.1 s).bind fun r14 => cond (!r14.2) ((spec_l9Copy k d).bind fun r15 => some (r15, (3 : Int))) (some (r14.1, 0))) (cond (!r13.2) ((spec_l9Copy k d).bind fun r16 => some (r16, 3)) (some (r13.1, 0)))) (cond (!r13.2) ((spec_l9Copy k d).bind fun r17 => some (r17, 3)) (some (r13.1, 0)))) (fun r => r = keepR d s f sure) := by
     intro e
     refine Tot.bind (specPutFile f) ?_
     rintro r rfl
     refine Tot.bind (specWriteR h1 h2 (by omega)) ?_
     rintro r rfl
     unfold keepR
     rw [e]
     cases h4 : (wrD d s (putF f)).2 with
     | false =>
      refine Tot.no rfl (Tot.yes rfl (Tot.bind (specCopy d hd.1.1) ?_))
      rintro q rfl
      exact Tot.pure rfl
     | true =>
      refine Tot.yes rfl ?_
      cases sure with
      | true => exact Tot.yes rfl (sync4 h1 h2 (wrD_ok h1 h2))
      | false => exact Tot.no rfl (Tot.no rfl (Tot.pure rfl))
    have eo : old d s = (gt d.1 s).bind getF := rfl
    unfold lkD
    cases hg : gt d.1 s with
    | none =>
     rw [hg] at eo
     refine Tot.no rfl (w ?_)
     unfold kp1
     rw [eo]
     rfl
    | some b =>
     rw [hg] at eo
     have eo : old d s = getF b := eo
     simp only
     cases ho : getF b with
     | none =>
      refine Tot.no rfl (w ?_)
      unfold kp1
      rw [eo, ho]
     | some o =>
      rw [ho] at eo
      refine Tot.yes rfl (Tot.bind (Tot.of (Q := fun b => b = sle o.1 f.1) (specNewer f o) rfl) ?_)
      rintro r rfl
      cases hl : sle o.1 f.1 with
      | true =>
       refine Tot.no rfl (w ?_)
       unfold kp1
       simp only [eo, hl, cond_true]
      | false =>
       have e1 : keepR d s f sure = kp2 d s sure (d, 1) := by
        unfold keepR kp1
        simp only [eo, hl, cond_false]
       refine Tot.yes rfl ?_
       show Tot _ (fun r => r = keepR d s f sure)
       rw [e1]
       refine Tot.bind (specCopy d hd.1.1) ?_
       rintro q rfl
       cases sure with
       | true => exact Tot.yes rfl (sync4 h1 h2 h1)
       | false => exact Tot.no rfl (Tot.pure rfl)
end Go.Proofs.YtgocagaijgcnmaaGreat.Vf
end

section
set_option linter.unusedVariables false
set_option linter.unusedSimpArgs false
namespace Go.Proofs.YtgocagaijgcnmaaGreat.Vf
open Go
def DG (d : Dsk) : Prop := diskOk d = true ∧ DB d
theorem gt_len {d : Dsk} {s : ByteArray} {b : List Int} (hd : diskOk d = true) (h : gt d.1 s = some b) : b.length ≤ 400 := (nOk_iff.1 ((namedsOk_iff.1 (disk_iff.1 hd).1).2.1 _ (gt_mem h))).2
theorem wrD_db {d : Dsk} {s : ByteArray} {b : List Int} (h : DB d) (hb : BytesOk b) : DB (wrD d s b).1 := by
 unfold wrD
 cases decide (b.length ≤ 400) && decide ((wr d.1 s b).length ≤ 60) with
 | false => exact h
 | true => exact ⟨(h.1.cut s).ins hb, h.2⟩
theorem sy_lb {d : Dsk} {s : ByteArray} (h : DB d) : LB (sy d s) := by
 unfold sy
 cases hg : gt d.1 s with
 | none => exact h.2.cut s
 | some b => exact (h.2.cut s).ins (h.1.gt hg)
theorem syD_db {d : Dsk} {s : ByteArray} (h : DB d) : DB (syD d s).1 := by
 unfold syD
 cases decide ((sy d s).length ≤ 60) with
 | false => exact h
 | true => exact ⟨h.1, sy_lb h⟩
theorem rmD_db {d : Dsk} {s : ByteArray} (h : DB d) : DB (rmD d s).1 := by
 unfold rmD
 cases (gt d.1 s).isSome with
 | false => exact h
 | true => exact ⟨h.1.cut s, h.2⟩
theorem wrD_g {d : Dsk} {s : ByteArray} {b : List Int} (h : DG d) (hs : nameOk s = true) (hb : BytesOk b) : DG (wrD d s b).1 := ⟨wrD_ok h.1 hs, wrD_db h.2 hb⟩
theorem syD_g {d : Dsk} {s : ByteArray} (h : DG d) (hs : nameOk s = true) : DG (syD d s).1 := ⟨syD_ok h.1 hs, syD_db h.2⟩
theorem rmD_g {d : Dsk} {s : ByteArray} (h : DG d) : DG (rmD d s).1 := ⟨rmD_ok h.1, rmD_db h.2⟩
theorem kp1_g {d : Dsk} {s : ByteArray} {f : Fil} (hd : DG d) (hs : nameOk s = true) {x : Dsk × Int} (h : kp1 d s f = some x) : DG x.1 := by
 refine ⟨kp1_ok hd.1 hs h, ?_⟩
 have hw : ∀ x, (bif (wrD d s (putF f)).2 then some ((wrD d s (putF f)).1, (0 : Int)) else none) = some x → DB x.1 := by
  intro x h
  cases hc : (wrD d s (putF f)).2 with
  | false => rw [hc] at h; cases h
  | true => rw [hc] at h; cases h; exact wrD_db hd.2 (putF_bytes f)
 unfold kp1 at h
 simp only at h
 split at h
 ·rename_i o _
  cases hc : sle o.1 f.1 with
  | false => rw [hc] at h; cases h; exact hd.2
  | true => rw [hc] at h; exact hw _ h
 ·exact hw _ h
theorem kp2_g {d : Dsk} {s : ByteArray} {sure : Bool} (hd : DG d) (hs : nameOk s = true) {x : Dsk × Int} (hx : DG x.1) : DG (kp2 d s sure x).1 := by
 unfold kp2
 cases sure with
 | false => exact hx
 | true =>
  rw [cond_true]
  cases (syD x.1 s).2 with
  | false => exact hd
  | true => exact syD_g hx hs
theorem keepR_g {d : Dsk} {s : ByteArray} {f : Fil} {sure : Bool} (hd : DG d) (hs : nameOk s = true) : DG (keepR d s f sure).1 := by
 unfold keepR
 cases h : kp1 d s f with
 | none => exact hd
 | some x => exact kp2_g hd hs (kp1_g hd hs h)
theorem keep_g {d : Dsk} {s : ByteArray} {f : Fil} {sure : Bool} (hd : DG d) : DG (keep d s f sure).1 := by
 unfold keep
 cases h : nameOk s with
 | false => rw [hd.1]; exact hd
 | true =>
  cases fileOk f with
  | false => rw [hd.1]; exact hd
  | true => rw [hd.1]; exact keepR_g hd h
def flipB (b : Int) (j : Nat) : Int := ((BitVec.ofInt 8 b ^^^ BitVec.twoPow 8 j).toNat : Int)
theorem flipB_ok (b : Int) (j : Nat) : 0 ≤ flipB b j ∧ flipB b j ≤ 255 := by
 unfold flipB
 have := (BitVec.ofInt 8 b ^^^ BitVec.twoPow 8 j).isLt
 omega
theorem flip_eq (b : Int) : ∀ j, j < 8 → IntKind.wrap .u8 ((BitVec.ofInt (IntKind.bits .u8) b ^^^ BitVec.ofInt (IntKind.bits .u8) (IntKind.wrap .u8 ((1 : Int) * 2 ^ (min j (IntKind.bits .u8))))).toNat) = flipB b j := by
 intro j hj
 have h1 : ∀ j, j < 8 → BitVec.ofInt 8 (IntKind.wrap .u8 ((1 : Int) * 2 ^ (min j 8))) = BitVec.twoPow 8 j := by decide
 show IntKind.wrap .u8 (((BitVec.ofInt 8 b ^^^ BitVec.ofInt 8 (IntKind.wrap .u8 ((1 : Int) * 2 ^ (min j 8)))).toNat : Nat) : Int) = _
 rw [h1 j hj]
 have := (BitVec.ofInt 8 b ^^^ BitVec.twoPow 8 j).isLt
 rw [u8_low _ (by omega)]
 rfl
theorem flipB_ne {b : Int} (hb : 0 ≤ b ∧ b ≤ 255) {j : Nat} (hj : j < 8) : flipB b j ≠ b := by
 intro h
 unfold flipB at h
 have h1 : b = ((BitVec.ofInt 8 b).toNat : Int) := by rw [BitVec.toNat_ofInt]; omega
 have h2 : (BitVec.ofInt 8 b ^^^ BitVec.twoPow 8 j).toNat = (BitVec.ofInt 8 b).toNat := by omega
 have h3 := BitVec.eq_of_toNat_eq h2
 have h4 : BitVec.twoPow 8 j = 0#8 := by
  have := congrArg (fun x => BitVec.ofInt 8 b ^^^ x) h3
  simpa [← BitVec.xor_assoc] using this
 have h5 : ∀ j, j < 8 → BitVec.twoPow 8 j ≠ 0#8 := by decide
 exact h5 j hj h4
def flipL (l : List Int) (n : Nat) : List Int := l.set (n / 8) (flipB (l.getD (n / 8) 0) (n % 8))
theorem flipL_len (l : List Int) (n : Nat) : (flipL l n).length = l.length := by unfold flipL; rw [List.length_set]
theorem flipL_bytes {l : List Int} (h : BytesOk l) (n : Nat) : BytesOk (flipL l n) := fun x hx => by
 rcases List.mem_or_eq_of_mem_set hx with h' | rfl
 ·exact h x h'
 ·exact flipB_ok _ _
def rotR (d : Dsk) (s : ByteArray) (n : Int) : Dsk × Bool := match gt d.1 s with
 | none => (d, false)
 | some b => bif inR n 0 (8 * (b.length : Int) - 1) then ((wr d.1 s (flipL b n.toNat), bif decide (gt d.2 s = some b) then wr d.2 s (flipL b n.toNat) else d.2), true) else (d, false)
theorem set_wr {l : List Nmd} (hs : SortedN l) {s : ByteArray} {i : Nat} (h : fnd l s = some i) (b : List Int) : l.set i (s, b) = wr l s b := by
 obtain ⟨hi, hn⟩ := fnd_lt h
 have hm : (l.set i (s, b)).map Prod.fst = l.map Prod.fst := by
  rw [List.map_set]
  apply List.ext_getElem?
  intro j
  by_cases hj : i = j
  ·subst hj
   rw [List.getElem?_set_self (by rw [List.length_map]; exact hi), List.getElem?_map, List.getElem?_eq_getElem hi]
   rw [List.getD_eq_getElem?_getD, List.getElem?_eq_getElem hi] at hn
   exact congrArg some hn.symm
  ·rw [List.getElem?_set_ne hj]
 have h1 : SortedN (l.set i (s, b)) := by
  have e : ∀ m : List Nmd, SortedN m ↔ (m.map Prod.fst).Pairwise (fun a b => tlt a b = true) := fun m => by
   unfold SortedN
   rw [List.pairwise_map]
  rw [e, hm, ← e]
  exact hs
 refine gt_ext h1 (ins_sorted (cut_sorted hs) cut_no) fun t => ?_
 have h2 := gt_ins (x := (s, b)) (t := t) (cut_sorted hs (s := s)) cut_no
 unfold wr
 rw [h2]
 by_cases ht : s = t
 ·subst ht
  rw [if_pos rfl, gt_iff h1]
  exact List.mem_set hi _
 ·rw [if_neg ht, gt_cut hs, if_neg ht]
  cases hg : gt l t with
  | none =>
   refine gt_none.2 fun x hx => ?_
   rcases List.mem_or_eq_of_mem_set hx with h' | rfl
   ·exact gt_none.1 hg x h'
   ·exact ht
  | some c =>
   rw [gt_iff h1]
   obtain ⟨j, hj, e⟩ := List.mem_iff_getElem.1 (gt_mem hg)
   have hij : i ≠ j := by
    rintro rfl
    rw [List.getD_eq_getElem?_getD, List.getElem?_eq_getElem hi, Option.getD_some, e] at hn
    exact ht hn.symm
   refine List.mem_iff_getElem.2 ⟨j, by rw [List.length_set]; exact hj, ?_⟩
   rw [List.getElem_set_ne hij]
   exact e
theorem wr_len_eq {l : List Nmd} {s : ByteArray} {b : List Int} (hs : SortedN l) (h : (gt l s).isSome = true) : (wr l s b).length = l.length := by
 rw [gt_isSome] at h
 obtain ⟨i, hi⟩ := Option.isSome_iff_exists.1 h
 rw [← set_wr hs hi, List.length_set]
theorem rotR_g {d : Dsk} {s : ByteArray} {n : Int} (h : DG d) : DG (rotR d s n).1 := by
 unfold rotR
 cases hg : gt d.1 s with
 | none => exact h
 | some b =>
  simp only
  cases inR n 0 (8 * (b.length : Int) - 1) with
  | false => exact h
  | true =>
   have hn := gt_ok h.1 (s := s) (by rw [hg]; rfl)
   have hb := gt_len h.1 hg
   have hbb := flipL_bytes (h.2.1.gt hg) n.toNat
   have l1 := wr_len_eq (b := flipL b n.toNat) (disk_s1 h.1) (s := s) (by rw [hg]; rfl)
   have q1 := wr_ok h.1 hn (b := flipL b n.toNat) (by rw [flipL_len]; exact hb) (by rw [l1]; exact (namedsOk_iff.1 (disk_iff.1 h.1).1).2.2)
   rw [cond_true]
   cases hc : decide (gt d.2 s = some b) with
   | false => exact ⟨q1, (h.2.1.cut s).ins hbb, h.2.2⟩
   | true =>
    have hg2 := of_decide_eq_true hc
    have l2 := wr_len_eq (b := flipL b n.toNat) (disk_s2 h.1) (s := s) (by rw [hg2]; rfl)
    have h' : diskOk (d.2, d.1) = true := disk_iff.2 ⟨(disk_iff.1 h.1).2, (disk_iff.1 h.1).1⟩
    have q2 := wr_ok h' hn (b := flipL b n.toNat) (by rw [flipL_len]; exact hb) (by show (wr d.2 s _).length ≤ 60; rw [l2]; exact (namedsOk_iff.1 (disk_iff.1 h.1).2).2.2)
    exact ⟨disk_iff.2 ⟨(disk_iff.1 q1).1, (disk_iff.1 q2).1⟩, (h.2.1.cut s).ins hbb, (h.2.2.cut s).ins hbb⟩
theorem specRot {d : Dsk} {s : ByteArray} {n : Int} (h : DG d) (hn : n ≤ 9223372036854775807) (hn0 : -9223372036854775808 ≤ n) : Tot (fun k => spec_RotBit k d s n) (fun r => r = rotR d s n) := by
 have hin := din_ok h.1
 unfold spec_RotBit
 refine Tot.bind (specCopy d hin.1.1) ?_
 rintro d rfl
 refine Tot.bind (specAt d.1 s hin.1.1.1.1) ?_
 rintro r rfl
 refine Tot.bind (specDisk d hin.1.1 hin.1.2) ?_
 rintro r rfl
 rw [h.1]
 refine Tot.no rfl ?_
 unfold rotR
 unfold fndI
 cases hf : fnd d.1 s with
 | none =>
  have hg : gt d.1 s = none := by unfold gt; rw [hf]
  rw [hg]
  exact Tot.dec (by decide) (Tot.pure rfl)
 | some i =>
  have hg : gt d.1 s = some (d.1.getD i nmd0).2 := by unfold gt; rw [hf]
  have hi := (fnd_lt hf).1
  have hnm := (fnd_lt hf).2
  have hb := gt_len h.1 hg
  rw [hg]
  have e0 : d.1.getD i ((⟨#[]⟩ : ByteArray), ([] : List Int)) = d.1.getD i nmd0 := rfl
  simp only [Int.toNat_natCast, e0]
  refine Tot.ndec (by omega) (Tot.dec (by omega) (Tot.dec (by omega) ?_))
  rw [w64 (n := 8 * ((d.1.getD i nmd0).2.length : Int)) (by omega) (by omega), w64 (n := 8 * ((d.1.getD i nmd0).2.length : Int) - 1) (by omega) (by omega)]
  refine Tot.bind (Tot.of (Q := fun b => b = inR n 0 (8 * ((d.1.getD i nmd0).2.length : Int) - 1)) (specIn _ _ _) rfl) ?_
  rintro r rfl
  cases hr : inR n 0 (8 * ((d.1.getD i nmd0).2.length : Int) - 1) with
  | false => exact Tot.yes rfl (Tot.pure rfl)
  | true =>
   obtain ⟨n0, n1⟩ := inR_iff.1 hr
   obtain ⟨m, rfl⟩ : ∃ m : Nat, n = (m : Int) := ⟨n.toNat, by omega⟩
   have hm8 : m / 8 < (d.1.getD i nmd0).2.length := by omega
   have et : IntKind.wrap .i64 (Int.tdiv (m : Int) 8) = ((m / 8 : Nat) : Int) := by
    rw [Int.tdiv_eq_ediv_of_nonneg (by omega), w64 (by omega) (by omega)]
    omega
   have eu : IntKind.wrap .u64 (Int.tmod (m : Int) 8) = ((m % 8 : Nat) : Int) := by
    have h8 : ∀ j : Nat, j < 8 → IntKind.wrap .u64 (j : Int) = (j : Int) := by decide
    rw [Int.tmod_eq_emod_of_nonneg (by omega), ← h8 (m % 8) (by omega)]
    congr 1
   refine Tot.no rfl (Tot.bind (specAt d.2 s hin.1.1.2.1) ?_)
   rintro r rfl
   simp only [et, eu, Int.toNat_natCast, flip_eq _ _ (Nat.mod_lt m (show 0 < 8 by omega))]
   have ew : d.1.set i ((d.1.getD i nmd0).1, flipL (d.1.getD i nmd0).2 m) = wr d.1 s (flipL (d.1.getD i nmd0).2 m) := by rw [hnm]; exact set_wr (disk_s1 h.1) hf _
   have ew' : d.1.set i ((d.1.getD i nmd0).1, (d.1.getD i nmd0).2.set (m / 8) (flipB ((d.1.getD i nmd0).2.getD (m / 8) 0) (m % 8))) = wr d.1 s (flipL (d.1.getD i nmd0).2 m) := ew
   unfold fndI
   cases hf2 : fnd d.2 s with
   | none =>
    have hg2 : gt d.2 s = none := by unfold gt; rw [hf2]
    rw [hg2]
    refine Tot.ndec (by decide) (Tot.dec (by omega) (Tot.dec (by omega) (Tot.dec (by omega) (Tot.dec (by omega) (Tot.ndec (by omega) (Tot.dec (by omega) (Tot.dec (by omega) (Tot.pure ?_))))))))
    rw [ew']
    rfl
   | some j =>
    have hg2 : gt d.2 s = some (d.2.getD j nmd0).2 := by unfold gt; rw [hf2]
    have hj := (fnd_lt hf2).1
    have hjn := (fnd_lt hf2).2
    have e1 : d.2.getD j ((⟨#[]⟩ : ByteArray), ([] : List Int)) = d.2.getD j nmd0 := rfl
    rw [hg2]
    simp only [Int.toNat_natCast, e1]
    refine Tot.dec (by omega) (Tot.dec (by omega) (Tot.dec (by omega) (Tot.dec (by omega) (Tot.dec (by omega) (Tot.dec (by omega) (Tot.dec (by omega) (Tot.dec (by omega) (Tot.dec (by omega) (Tot.ndec (by omega) (Tot.dec (by omega) (Tot.dec (by omega) ?_)))))))))))
    rw [strOf_inj (h.2.2.gt hg2) (h.2.1.gt hg)]
    refine Tot.dite (fun he => ?_) (fun he => ?_)
    ·have hl2 : (d.2.getD j nmd0).2.length = (d.1.getD i nmd0).2.length := by rw [he]
     refine Tot.dec (by omega) (Tot.dec (by omega) (Tot.dec (by omega) (Tot.dec (by omega) (Tot.ndec (by omega) (Tot.dec (by omega) (Tot.dec (by omega) (Tot.pure ?_)))))))
     have ew2 : d.2.set j ((d.2.getD j nmd0).1, (d.2.getD j nmd0).2.set (m / 8) (flipB ((d.2.getD j nmd0).2.getD (m / 8) 0) (m % 8))) = wr d.2 s (flipL (d.1.getD i nmd0).2 m) := by
      rw [hjn, he]
      exact set_wr (disk_s2 h.1) hf2 _
     rw [ew', ew2, he, decide_eq_true rfl]
     rfl
    ·refine Tot.pure ?_
     rw [ew', decide_eq_false (fun c => he (Option.some.inj c))]
     rfl
theorem l9DrawG_l3 : ∀ (n : Nat) (i : Int) (c : Cur) (a0 a1 : List Nmd) (d : Dsk), i = n → n ≤ 6 → CurOk c → DG d →
  Tot (fun k => spec_l9Draw_l3 k i c.1 c.2.1 c.2.2 a0 a1 d.1 d.2) (fun r => DG (r.2.2.1, r.2.2.2.1) ∧ CurOk r.2.2.2.2) := by
 intro n
 induction n with
 | zero =>
  intro i c a0 a1 d hi h6 hc hd
  refine Tot.succ ?_
  simp only [spec_l9Draw_l3]
  exact Tot.ndec (by omega) (Tot.pure ⟨hd, hc⟩)
 | succ n ih =>
  intro i c a0 a1 d hi h6 hc hd
  refine Tot.succ ?_
  simp only [spec_l9Draw_l3]
  refine Tot.dec (by omega) ?_
  rw [w64 (n := i - 1) (by omega) (by omega)]
  obtain ⟨s, c1, e1, hs, k1⟩ := l3Name_ok c hc
  refine Tot.bind (Tot.of (Q := fun r => r = (s, c1)) e1 rfl) ?_
  rintro r rfl
  obtain ⟨x, c2, e2, _, _, _, k2⟩ := l1Below_ok c1 k1 6 (by decide)
  refine Tot.bind (Tot.of (Q := fun r => r = (x, c2)) e2 rfl) ?_
  rintro r rfl
  dsimp only
  obtain ⟨hsh, hsn⟩ := drawn_short s hs
  have wr : Tot (fun k => (spec_l8Draw k c2).bind fun r5 => (spec_PutFile k r5.1).bind fun r6 => (spec_WriteName k (d.1, d.2) s r6).bind fun r7 => spec_l9Draw_l3 k (i - 1) r5.2.1 r5.2.2.1 r5.2.2.2 a0 a1 r7.1.1 r7.1.2) (fun r => DG (r.2.2.1, r.2.2.2.1) ∧ CurOk r.2.2.2.2) := by
   refine Tot.bind (l8Draw_tot c2 k2) (fun f hf => ?_)
   refine Tot.bind (specPutFile f.1) ?_
   rintro b rfl
   refine Tot.bind (specWriteR hd.1 hsn (by have := putF_len f.1; omega)) ?_
   rintro q rfl
   exact ih (i - 1) f.2 a0 a1 _ (by omega) (by omega) hf.2 (wrD_g hd hsn (putF_bytes _))
  have sy : Tot (fun k => (spec_SyncName k (d.1, d.2) s).bind fun r4 => spec_l9Draw_l3 k (i - 1) c2.1 c2.2.1 c2.2.2 a0 a1 r4.1.1 r4.1.2) (fun r => DG (r.2.2.1, r.2.2.2.1) ∧ CurOk r.2.2.2.2) := by
   refine Tot.bind (specSyncR hd.1 hsn) ?_
   rintro q rfl
   exact ih (i - 1) c2 a0 a1 _ (by omega) (by omega) k2 (syD_g hd hsn)
  refine Tot.ite (fun _ => ?_) (fun _ => Tot.ite (fun h => Tot.ite (fun _ => sy) (fun _ => wr)) (fun _ => Tot.ite (fun _ => sy) (fun _ => wr)))
  refine Tot.bind (specRemoveR hd.1 hsh) ?_
  rintro q rfl
  exact ih (i - 1) c2 a0 a1 _ (by omega) (by omega) k2 (rmD_g hd)
theorem lb0 : LB [] := fun x hx => by cases hx
theorem dg0 : DG ([], []) := ⟨by decide, ⟨lb0, lb0⟩⟩
theorem l9DrawG (c : Cur) (hc : CurOk c) : Tot (fun k => spec_l9Draw k c) (fun r => DG r.1 ∧ CurOk r.2) := by
 unfold spec_l9Draw
 obtain ⟨x, c2, e2, h0, h1, _, k2⟩ := l1Below_ok c hc 7 (by decide)
 have h1 := h1 (by decide)
 refine Tot.bind (Tot.of (Q := fun r => r = (x, c2)) e2 rfl) ?_
 rintro r rfl
 exact Tot.bind (l9DrawG_l3 x.toNat x c2 [] [] ([], []) (by omega) (by omega) k2 dg0) (fun r hr => Tot.pure hr)
theorem lb_app {l : List Nmd} {x : Nmd} (h : LB l) (hx : BytesOk x.2) : LB (l ++ [x]) := fun y hy => by
 rcases List.mem_append.1 hy with hy | hy
 ·exact h y hy
 ·rw [List.mem_singleton.1 hy]; exact hx
theorem rep_bytes (n : Nat) : BytesOk (List.replicate n 0) := fun x hx => by
 rw [List.eq_of_mem_replicate hx]
 omega
theorem l9AnyB (c : Cur) (hc : CurOk c) : Tot (fun k => spec_l9Any k c) (fun r => (DIn r.1 ∧ DB r.1) ∧ CurOk r.2) := by
 have h0 := l9Any_in c hc
 have h1 : Tot (fun k => spec_l9Any k c) (fun r => DB r.1) := by
  unfold spec_l9Any
  refine Tot.bind (l9DrawG c hc) (fun d hd => ?_)
  obtain ⟨hd, k0⟩ := hd
  have hin := din_ok hd.1
  have g1 := (namedsOk_iff.1 (disk_iff.1 hd.1).1).2.2
  have g2 := (namedsOk_iff.1 (disk_iff.1 hd.1).2).2.2
  obtain ⟨x, c2, e2, _, _, _, k2⟩ := l1Below_ok d.2 k0 12 (by decide)
  refine Tot.bind (Tot.of (Q := fun r => r = (x, c2)) e2 rfl) ?_
  rintro r rfl
  refine Tot.ite (fun _ => ?_) (fun _ => Tot.ite (fun _ => ?_) (fun _ => Tot.pure hd.2))
  ·obtain ⟨s, c3, e3, hs, k3⟩ := l3Any_ok c2 k2
   refine Tot.bind (Tot.of (Q := fun r => r = (s, c3)) e3 rfl) ?_
   rintro r rfl
   exact Tot.ble (by simp only [List.length_cons, List.length_nil]; omega) (Tot.pure ⟨lb_app hd.2.1 nil_bytes, hd.2.2⟩)
  ·obtain ⟨s, c3, e3, hs, k3⟩ := l3Any_ok c2 k2
   refine Tot.bind (Tot.of (Q := fun r => r = (s, c3)) e3 rfl) ?_
   rintro r rfl
   obtain ⟨y, c4, e4, y0, y1, _, k4⟩ := l1Below_ok c3 k3 2 (by decide)
   have y1 := y1 (by decide)
   refine Tot.bind (Tot.of (Q := fun r => r = (y, c4)) e4 rfl) ?_
   rintro r rfl
   dsimp only
   rw [w64 (n := 400 + y) (by omega) (by omega)]
   exact Tot.dec rfl (Tot.dec (by omega) (Tot.dec (by omega) (Tot.ble (by simp only [List.length_cons, List.length_nil]; omega) (Tot.pure ⟨hd.2.1, lb_app hd.2.2 (rep_bytes _)⟩))))
 exact (h0.and h1).mono fun r h => ⟨⟨h.1.1, h.2⟩, h.1.2⟩
end Go.Proofs.YtgocagaijgcnmaaGreat.Vf
end

section
set_option linter.unusedVariables false
set_option linter.unusedSimpArgs false
namespace Go.Proofs.YtgocagaijgcnmaaGreat.Vf
open Go
section
variable {d : Dsk} {s : ByteArray} {f : Fil} {sure : Bool}
theorem gt_wr {l : List Nmd} (hs : SortedN l) {s t : ByteArray} {b : List Int} : gt (wr l s b) t = if s = t then some b else gt l t := by
 unfold wr
 rw [gt_ins (x := (s, b)) (cut_sorted hs) cut_no]
 by_cases h : s = t
 ·rw [if_pos h, if_pos h]
 ·rw [if_neg h, if_neg h, gt_cut hs, if_neg h]
end
end Go.Proofs.YtgocagaijgcnmaaGreat.Vf
end

section
set_option linter.unusedVariables false
set_option linter.unusedSimpArgs false
namespace Go.Proofs.YtgocagaijgcnmaaGreat.Vf
open Go
abbrev Nod := Int × Dsk × List Row × List Row
def qOk (l : List Row) : Bool := l.all rowOk
def nodeOk (n : Nod) : Bool := qOk n.2.2.2 && (inR n.1 0 20 && (diskOk n.2.1 && (rowsOk n.2.2.1 && decide ((n.2.2.2.length : Int) ≤ 60))))
def RF (l : List Row) : Prop := l.length ≤ 1000 ∧ AllShort l
def NIn (n : Nod) : Prop := (DIn n.2.1 ∧ DB n.2.1) ∧ RF n.2.2.1 ∧ RF n.2.2.2
def NG (n : Nod) : Prop := nodeOk n = true ∧ DB n.2.1
theorem nodeOk_iff {n : Nod} : nodeOk n = true ↔ (∀ r ∈ n.2.2.2, rowOk r = true) ∧ (0 ≤ n.1 ∧ n.1 ≤ 20) ∧ diskOk n.2.1 = true ∧ rowsOk n.2.2.1 = true ∧ n.2.2.2.length ≤ 60 := by
 unfold nodeOk qOk
 simp only [Bool.and_eq_true, List.all_eq_true, inR_iff, decide_eq_true_iff]
 constructor
 ·rintro ⟨h1, h2, h3, h4, h5⟩; exact ⟨h1, h2, h3, h4, by omega⟩
 ·rintro ⟨h1, h2, h3, h4, h5⟩; exact ⟨h1, h2, h3, h4, by omega⟩
theorem rows_rf {l : List Row} (h : rowsOk l = true) : RF l := by
 obtain ⟨_, h2, h3⟩ := rowsOk_iff.1 h
 exact ⟨by omega, fun r hr => name_short (rowOk_name (h2 r hr))⟩
theorem ng_in {n : Nod} (h : NG n) : NIn n := by
 obtain ⟨h1, _, h3, h4, h5⟩ := nodeOk_iff.1 h.1
 exact ⟨⟨din_ok h3, h.2⟩, rows_rf h4, by omega, fun r hr => name_short (rowOk_name (h1 r hr))⟩
theorem NG.g {n : Nod} (h : NG n) : DG n.2.1 := ⟨(nodeOk_iff.1 h.1).2.2.1, h.2⟩
theorem implNode (n : Nod) (hn : NIn n) : Tot (fun k => impl_NodeOk k n) (fun r => r = nodeOk n) := by
 obtain ⟨i, ⟨a, b⟩, ro, q⟩ := n
 obtain ⟨⟨hd, _⟩, hr, hq⟩ := hn
 dsimp only at hd hr hq
 unfold impl_NodeOk
 have hl := hq.1
 refine Tot.bind (Q := fun r => r = bif qOk q then .inr (i, a, b, ro, q) else .inl false) ?_ ?_
 ·refine Tot.up (L := fun k i' (_ : Unit) => impl_NodeOk_l2 k q (q.length : Int) i' i a b ro q) (Q := fun r => r = bif qOk q then .inr (i, a, b, ro, q) else .inl false) q.length (fun j _ => (q.drop j).all rowOk = q.all rowOk) ?_ ?_ 0 () (Nat.zero_le _) (by rw [List.drop_zero])
  ·intro _ hj
   rw [List.drop_length] at hj
   simp only [impl_NodeOk_l2]
   exact Tot.ndec (by omega) (Tot.pure (by unfold qOk; rw [← hj]; rfl))
  ·intro j _ hj hi next
   simp only [impl_NodeOk_l2]
   rw [drop_cons (d := row0) hj, List.all_cons] at hi
   refine Tot.dec (by omega) (Tot.dec (by omega) (Tot.dec (by omega) ?_))
   rw [Int.toNat_natCast, w64 (n := (j : Int) + 1) (by omega) (by omega)]
   refine Tot.bind (implRow (q.getD j row0) (hq.2 _ (getD_mem' hj))) ?_
   rintro r rfl
   cases hc : rowOk (q.getD j row0) with
   | false => exact Tot.yes rfl (Tot.pure (by unfold qOk; rw [← hi, hc]; rfl))
   | true => exact Tot.no rfl (next () (by rw [hc, Bool.true_and] at hi; exact hi))
 ·rintro r rfl
  unfold nodeOk
  dsimp only
  cases qOk q with
  | false => exact Tot.pure rfl
  | true =>
   simp only [cond_true, Sum.elim_inr, Bool.true_and]
   refine Tot.bind (Tot.of (Q := fun r => r = inR i 0 20) (implIn _ _ _) rfl) ?_
   rintro r rfl
   cases inR i 0 20 with
   | false => exact Tot.no rfl (Tot.pure rfl)
   | true =>
    refine Tot.yes rfl (Tot.bind (implDisk (a, b) hd.1.1 hd.1.2) ?_)
    rintro r rfl
    cases diskOk (a, b) with
    | false => exact Tot.no rfl (Tot.pure rfl)
    | true =>
     refine Tot.yes rfl (Tot.bind (implRows ro (by have := hr.1; unfold Few; omega) hr.2) ?_)
     rintro r rfl
     cases rowsOk ro with
     | false => exact Tot.no rfl (Tot.pure rfl)
     | true => exact Tot.yes rfl (Tot.pure rfl)
theorem specNode (n : Nod) (hn : NIn n) : Tot (fun k => spec_NodeOk k n) (fun r => r = nodeOk n) := by
 obtain ⟨i, ⟨a, b⟩, ro, q⟩ := n
 obtain ⟨⟨hd, _⟩, hr, hq⟩ := hn
 dsimp only at hd hr hq
 unfold spec_NodeOk
 have hl := hq.1
 refine Tot.bind (Q := fun r => r = bif qOk q then .inr (i, a, b, ro, q) else .inl false) ?_ ?_
 ·refine Tot.up (L := fun k i' (_ : Unit) => spec_NodeOk_l2 k i' i a b ro q) (Q := fun r => r = bif qOk q then .inr (i, a, b, ro, q) else .inl false) q.length (fun j _ => (q.drop j).all rowOk = q.all rowOk) ?_ ?_ 0 () (Nat.zero_le _) (by rw [List.drop_zero])
  ·intro _ hj
   rw [List.drop_length] at hj
   simp only [spec_NodeOk_l2]
   exact Tot.ndec (by omega) (Tot.pure (by unfold qOk; rw [← hj]; rfl))
  ·intro j _ hj hi next
   simp only [spec_NodeOk_l2]
   rw [drop_cons (d := row0) hj, List.all_cons] at hi
   refine Tot.dec (by omega) (Tot.dec (by omega) (Tot.dec (by omega) ?_))
   rw [Int.toNat_natCast, w64 (n := (j : Int) + 1) (by omega) (by omega)]
   refine Tot.bind (specRow (q.getD j row0) (hq.2 _ (getD_mem' hj))) ?_
   rintro r rfl
   cases hc : rowOk (q.getD j row0) with
   | false => exact Tot.yes rfl (Tot.pure (by unfold qOk; rw [← hi, hc]; rfl))
   | true => exact Tot.no rfl (next () (by rw [hc, Bool.true_and] at hi; exact hi))
 ·rintro r rfl
  unfold nodeOk
  dsimp only
  cases qOk q with
  | false => exact Tot.pure rfl
  | true =>
   simp only [cond_true, Sum.elim_inr, Bool.true_and]
   refine Tot.bind (Tot.of (Q := fun r => r = inR i 0 20) (specIn _ _ _) rfl) ?_
   rintro r rfl
   cases inR i 0 20 with
   | false => exact Tot.no rfl (Tot.pure rfl)
   | true =>
    refine Tot.yes rfl (Tot.bind (specDisk (a, b) hd.1.1 hd.1.2) ?_)
    rintro r rfl
    cases diskOk (a, b) with
    | false => exact Tot.no rfl (Tot.pure rfl)
    | true =>
     refine Tot.yes rfl (Tot.bind (specRows ro (by have := hr.1; unfold Few; omega) hr.2) ?_)
     rintro r rfl
     cases rowsOk ro with
     | false => exact Tot.no rfl (Tot.pure rfl)
     | true => exact Tot.yes rfl (Tot.pure rfl)
theorem implCopyNode (n : Nod) (hn : NIn n) : Tot (fun k => impl_copyNode k n) (fun r => r = n) := by
 unfold impl_copyNode
 have h1 := hn.2.1.1
 have h2 := hn.2.2.1
 refine Tot.bind (implCopyDisk n.2.1 hn.1.1.1.1) ?_
 rintro r rfl
 refine Tot.bind (Tot.of (Q := fun r => r = n.2.2.1) (implCopy _ (by unfold Few; omega)) rfl) ?_
 rintro r rfl
 refine Tot.bind (Tot.of (Q := fun r => r = n.2.2.2) (implCopy _ (by unfold Few; omega)) rfl) ?_
 rintro r rfl
 exact Tot.pure rfl
theorem specCopyNode (n : Nod) (hn : NIn n) : Tot (fun k => spec_l12Copy k n) (fun r => r = n) := by
 unfold spec_l12Copy
 have h1 := hn.2.1.1
 have h2 := hn.2.2.1
 refine Tot.bind (specCopy n.2.1 hn.1.1.1.1) ?_
 rintro r rfl
 refine Tot.ble (by simp only [List.length_nil]; omega) (Tot.ble (by simp only [List.length_nil]; omega) (Tot.pure ?_))
 rw [List.nil_append, List.nil_append]
theorem specMerges (a b : List Row) (hf : a.length + b.length ≤ 10000000000) : Tot (fun k => spec_MergeRows k a b) (fun r => r = mrgs a b) := by
 unfold spec_MergeRows
 refine Tot.ble (by simp only [List.length_nil]; omega) ?_
 rw [List.nil_append]
 refine Tot.bind (Q := fun r => r = mrgs a b) ?_ (by rintro r rfl; exact Tot.pure rfl)
 refine Tot.up (L := fun k i s => spec_MergeRows_l3 k b s i) (Q := fun r => r = mrgs a b) b.length (fun i s => mrgs s (b.drop i) = mrgs a b ∧ s.length ≤ a.length + i) ?_ ?_ 0 a (Nat.zero_le _) ⟨by rw [List.drop_zero], Nat.le_add_right _ _⟩
 ·rintro s ⟨hs, _⟩
  rw [List.drop_length] at hs
  simp only [spec_MergeRows_l3]
  exact Tot.ndec (by omega) (Tot.pure hs)
 ·rintro i s hi ⟨hs, hl⟩ next
  simp only [spec_MergeRows_l3]
  refine Tot.dec (by omega) (Tot.dec (by omega) (Tot.dec (by omega) ?_))
  rw [Int.toNat_natCast, w64 (n := (i : Int) + 1) (by omega) (by omega)]
  rw [drop_cons (d := row0) hi] at hs
  refine Tot.bind (specMerge s (b.getD i row0) (by unfold Few; omega)) ?_
  rintro m rfl
  have := mrg_len s (b.getD i row0)
  exact next _ ⟨hs, by omega⟩
def takeN (n : Nod) (l : List Row) : Nod × Bool := bif nodeOk n && rowsOk l then (bif decide ((mrgs n.2.2.1 l).length > 60) then (n, false) else ((n.1, n.2.1, mrgs n.2.2.1 l, n.2.2.2), true)) else (n, false)
theorem mrgs_rowsOk {a b : List Row} (ha : rowsOk a = true) (hb : rowsOk b = true) (h : (mrgs a b).length ≤ 60) : rowsOk (mrgs a b) = true := by
 obtain ⟨a1, a2, _⟩ := rowsOk_iff.1 ha
 obtain ⟨b1, b2, _⟩ := rowsOk_iff.1 hb
 exact rowsOk_iff.2 ⟨mrgs_sorted a1, fun r hr => (mem_mrgs hr).elim (a2 r) (b2 r), h⟩
theorem takeN_g {n : Nod} {l : List Row} (hn : NG n) : NG (takeN n l).1 := by
 unfold takeN
 rw [hn.1, Bool.true_and]
 cases hl : rowsOk l with
 | false => exact hn
 | true =>
  rw [cond_true]
  cases hc : decide ((mrgs n.2.2.1 l).length > 60) with
  | true => exact hn
  | false =>
   obtain ⟨h1, h2, h3, h4, h5⟩ := nodeOk_iff.1 hn.1
   exact ⟨nodeOk_iff.2 ⟨h1, h2, h3, mrgs_rowsOk h4 hl (by have := of_decide_eq_false hc; omega), h5⟩, hn.2⟩
theorem specTake12 (n : Nod) (l : List Row) (h1 : n.2.2.1.length ≤ 1000) (h2 : l.length ≤ 1000) : Tot (fun k => spec_l12Take_o k n l) (fun r => r = bif decide ((mrgs n.2.2.1 l).length > 60) then (false, n) else (true, (n.1, n.2.1, mrgs n.2.2.1 l, n.2.2.2))) := by
 unfold spec_l12Take_o
 refine Tot.bind (specMerges n.2.2.1 l (by omega)) ?_
 rintro r rfl
 refine Tot.dite (fun h => ?_) (fun h => ?_)
 ·rw [decide_eq_true (show (mrgs n.2.2.1 l).length > 60 by omega)]
  exact Tot.pure rfl
 ·rw [decide_eq_false (show ¬ (mrgs n.2.2.1 l).length > 60 by omega)]
  exact Tot.pure rfl
theorem specTake (n : Nod) (l : List Row) (hn : NIn n) (hl : RF l) : Tot (fun k => spec_NodeTake k n l) (fun r => r = takeN n l) := by
 have copy : Tot (fun k => (spec_l12Copy k n).bind fun r3 => some (r3, false)) (fun r => r = (n, false)) := by
  refine Tot.bind (specCopyNode n hn) ?_
  rintro r rfl
  exact Tot.pure rfl
 unfold spec_NodeTake takeN
 refine Tot.bind (specCopyNode n hn) ?_
 rintro n rfl
 refine Tot.bind (specNode n hn) ?_
 rintro r rfl
 cases nodeOk n with
 | false => exact Tot.yes rfl copy
 | true =>
  refine Tot.no rfl (Tot.bind (specRows l (by have := hl.1; unfold Few; omega) hl.2) ?_)
  rintro r rfl
  cases rowsOk l with
  | false => exact Tot.yes rfl copy
  | true =>
   refine Tot.no rfl (Tot.bind (specTake12 n l hn.2.1.1 hl.1) ?_)
   rintro r rfl
   cases decide ((mrgs n.2.2.1 l).length > 60) with
   | true => exact Tot.yes rfl copy
   | false => exact Tot.no rfl (Tot.pure rfl)
def rowOf (s : ByteArray) (f : Fil) : Row := (s, f.1, f.2.1, (f.2.2.length : Int))
def putR (n : Nod) (s : ByteArray) (f : Fil) (sure : Bool) : Nod × Int := bif (n.2.2.2.length : Int) == 60 then (n, 3) else
 ((n.1, (keep n.2.1 s f sure).1, n.2.2.1, bif (keep n.2.1 s f sure).2 == 0 && sure then n.2.2.2 ++ [rowOf s f] else n.2.2.2), (keep n.2.1 s f sure).2)
def putN (n : Nod) (s : ByteArray) (f : Fil) (sure : Bool) : Nod × Int := bif nodeOk n && (nameOk s && fileOk f) then putR n s f sure else (n, 2)
theorem rowOf_ok {s : ByteArray} {f : Fil} (hs : nameOk s = true) (hf : fileOk f = true) : rowOk (rowOf s f) = true := by
 obtain ⟨h1, h2, h3⟩ := fileOk_iff.1 hf
 unfold rowOk rowOf
 dsimp only
 rw [hs, h1, inR_iff.2 ⟨by omega, by omega⟩]
 cases hd : f.2.1 with
 | false => rfl
 | true => rw [h3 hd]; rfl
theorem putR_g {n : Nod} {s : ByteArray} {f : Fil} {sure : Bool} (hn : NG n) (hs : nameOk s = true) (hf : fileOk f = true) : NG (putR n s f sure).1 := by
 obtain ⟨h1, h2, h3, h4, h5⟩ := nodeOk_iff.1 hn.1
 have hk := keep_g (s := s) (f := f) (sure := sure) hn.g
 unfold putR
 cases hl : ((n.2.2.2.length : Int) == 60) with
 | true => exact hn
 | false =>
  have hl' : n.2.2.2.length ≠ 60 := by
   intro e
   rw [e] at hl
   cases hl
  refine ⟨nodeOk_iff.2 ⟨?_, h2, hk.1, h4, ?_⟩, hk.2⟩
  ·show ∀ r ∈ bif (keep n.2.1 s f sure).2 == 0 && sure then n.2.2.2 ++ [rowOf s f] else n.2.2.2, rowOk r = true
   cases (keep n.2.1 s f sure).2 == 0 && sure with
   | false => exact h1
   | true =>
    intro r hr
    rcases List.mem_append.1 hr with hr | hr
    ·exact h1 r hr
    ·rw [List.mem_singleton.1 hr]; exact rowOf_ok hs hf
  ·show (bif (keep n.2.1 s f sure).2 == 0 && sure then n.2.2.2 ++ [rowOf s f] else n.2.2.2).length ≤ 60
   cases (keep n.2.1 s f sure).2 == 0 && sure with
   | false => exact h5
   | true => rw [cond_true, List.length_append]; simp only [List.length_cons, List.length_nil]; omega
theorem putN_g {n : Nod} {s : ByteArray} {f : Fil} {sure : Bool} (hn : NG n) : NG (putN n s f sure).1 := by
 unfold putN
 cases hs : nameOk s with
 | false => rw [hn.1]; exact hn
 | true =>
  cases hf : fileOk f with
  | false => rw [hn.1]; exact hn
  | true => rw [hn.1]; exact putR_g hn hs hf
theorem specPut12 (n : Nod) (s : ByteArray) (f : Fil) (sure : Bool) (hn : NIn n) (hs : Short s) : Tot (fun k => spec_l12Put_o k n s f sure) (fun r => r = ((putR n s f sure).2, (putR n s f sure).1)) := by
 have h1 := hn.2.2.1
 unfold spec_l12Put_o putR
 cases (n.2.2.2.length : Int) == 60 with
 | true => exact Tot.yes rfl (Tot.pure rfl)
 | false =>
  refine Tot.no rfl (Tot.bind (specKeep n.2.1 s f sure hn.1.1 hn.1.2.1 hs) ?_)
  rintro r rfl
  cases (keep n.2.1 s f sure).2 == 0 with
  | false => exact Tot.no rfl (Tot.pure rfl)
  | true =>
   refine Tot.yes rfl ?_
   cases sure with
   | false => exact Tot.no rfl (Tot.pure rfl)
   | true =>
    refine Tot.yes rfl (Tot.ble (by simp only [List.length_nil]; omega) ?_)
    refine Tot.bind (Tot.of (Q := fun r => r = rowOf s f) (show spec_RowOf s f = some (rowOf s f) from rfl) rfl) ?_
    rintro r rfl
    refine Tot.ble (by simp only [List.length_append, List.length_cons, List.length_nil]; omega) (Tot.pure ?_)
    rw [List.nil_append]
    rfl
theorem specNodePut (n : Nod) (s : ByteArray) (f : Fil) (sure : Bool) (hn : NIn n) (hs : Short s) : Tot (fun k => spec_NodePut k n s f sure) (fun r => r = putN n s f sure) := by
 unfold spec_NodePut putN
 refine Tot.bind (specCopyNode n hn) ?_
 rintro n rfl
 refine Tot.bind (specNode n hn) ?_
 rintro r rfl
 cases nodeOk n with
 | false => exact Tot.yes rfl (Tot.pure rfl)
 | true =>
  refine Tot.no rfl (Tot.bind (specName s hs) ?_)
  rintro r rfl
  cases nameOk s with
  | false => exact Tot.yes rfl (Tot.pure rfl)
  | true =>
   refine Tot.no rfl (Tot.bind (Tot.of (Q := fun r => r = fileOk f) (specFile f) rfl) ?_)
   rintro r rfl
   cases fileOk f with
   | false => exact Tot.yes rfl (Tot.pure rfl)
   | true =>
    refine Tot.no rfl (Tot.bind (specPut12 n s f sure hn hs) ?_)
    rintro r rfl
    exact Tot.pure rfl
def rotN (n : Nod) (s : ByteArray) (b : Int) : Nod × Bool := bif nodeOk n && ((lkD n.2.1 s).2 == 0 && (rotR n.2.1 s b).2) then ((n.1, (rotR n.2.1 s b).1, n.2.2), true) else (n, false)
theorem rotN_g {n : Nod} {s : ByteArray} {b : Int} (hn : NG n) : NG (rotN n s b).1 := by
 obtain ⟨h1, h2, h3, h4, h5⟩ := nodeOk_iff.1 hn.1
 have hr := rotR_g (s := s) (n := b) hn.g
 unfold rotN
 cases nodeOk n && ((lkD n.2.1 s).2 == 0 && (rotR n.2.1 s b).2) with
 | false => exact hn
 | true => exact ⟨nodeOk_iff.2 ⟨h1, h2, hr.1, h4, h5⟩, hr.2⟩
theorem specNodeRot (n : Nod) (s : ByteArray) (b : Int) (hn : NIn n) (h1 : b ≤ 9223372036854775807) (h0 : -9223372036854775808 ≤ b) : Tot (fun k => spec_NodeRot k n s b) (fun r => r = rotN n s b) := by
 unfold spec_NodeRot rotN
 refine Tot.bind (specCopyNode n hn) ?_
 rintro n rfl
 refine Tot.bind (specLook hn.1.1.1.1.1 hn.1.2.1 s) ?_
 rintro r rfl
 refine Tot.bind (specNode n hn) ?_
 rintro r rfl
 cases h : nodeOk n with
 | false => exact Tot.yes rfl (Tot.pure rfl)
 | true =>
  refine Tot.no rfl ?_
  cases hl : (lkD n.2.1 s).2 == 0 with
  | false => exact Tot.yes (by unfold bne; rw [hl]; rfl) (Tot.pure rfl)
  | true =>
   refine Tot.no (by unfold bne; rw [hl]; rfl) (Tot.bind (specRot (NG.g ⟨h, hn.1.2⟩) h1 h0) ?_)
   rintro r rfl
   cases (rotR n.2.1 s b).2 with
   | false => exact Tot.yes rfl (Tot.pure rfl)
   | true => exact Tot.no rfl (Tot.pure rfl)
theorem l12Draw_l3 : ∀ (m : Nat) (i : Int) (c : Cur) (z : Nod) (n : Nod), i = m → m ≤ 6 → CurOk c → NG n →
  Tot (fun k => spec_l12Draw_l3 k i c.1 c.2.1 c.2.2 z.1 z.2.1.1 z.2.1.2 z.2.2.1 z.2.2.2 n.1 n.2.1.1 n.2.1.2 n.2.2.1 n.2.2.2) (fun r => ∃ c' n', CurOk c' ∧ NG n' ∧ r = (c'.1, c'.2.1, c'.2.2, z.1, z.2.1.1, z.2.1.2, z.2.2.1, z.2.2.2, n'.1, n'.2.1.1, n'.2.1.2, n'.2.2.1, n'.2.2.2)) := by
 intro m
 induction m with
 | zero =>
  intro i c z n hi h6 hc hn
  refine Tot.succ ?_
  simp only [spec_l12Draw_l3]
  exact Tot.ndec (by omega) (Tot.pure ⟨c, n, hc, hn, rfl⟩)
 | succ m ih =>
  intro i c z n hi h6 hc hn
  refine Tot.succ ?_
  simp only [spec_l12Draw_l3]
  refine Tot.dec (by omega) ?_
  rw [w64 (n := i - 1) (by omega) (by omega)]
  obtain ⟨s, c1, e1, hs, k1⟩ := l3Name_ok c hc
  refine Tot.bind (Tot.of (Q := fun r => r = (s, c1)) e1 rfl) ?_
  rintro r rfl
  refine Tot.bind (l8Draw_tot c1 k1) (fun f hf => ?_)
  obtain ⟨b, c2, e2, k2⟩ := l1Once_ok f.2 hf.2 3 (by decide)
  refine Tot.bind (Tot.of (Q := fun r => r = (b, c2)) e2 rfl) ?_
  rintro r rfl
  refine Tot.bind (specNodePut n s f.1 (!b) (ng_in hn) (drawn_short s hs).1) ?_
  rintro q rfl
  exact ih (i - 1) c2 z _ (by omega) (by omega) k2 (putN_g hn)
def nod0 : Nod := ((0 : Int), (([] : List Nmd), ([] : List Nmd)), ([] : List Row), ([] : List Row))
theorem specNodeNew (i : Int) : spec_NodeNew i = some (bif inR i 0 20 then (i, ([], []), [], []) else nod0) := by
 unfold spec_NodeNew
 rw [specIn]
 simp only [Option.bind_some]
 cases inR i 0 20 <;> rfl
theorem rowsIn_ok {l : List Row} (h : RowsIn l) (hl : l.length ≤ 60) : rowsOk l = true := rowsOk_iff.2 ⟨h.1, fun r hr => rowIn_ok (h.2 r hr), hl⟩
theorem l12Draw_g (c : Cur) (hc : CurOk c) : Tot (fun k => spec_l12Draw k c) (fun r => NG r.1 ∧ CurOk r.2) := by
 unfold spec_l12Draw
 obtain ⟨x, c1, e1, x0, x1, _, k1⟩ := l1Below_ok c hc 6 (by decide)
 have x1 := x1 (by decide)
 refine Tot.bind (Tot.of (Q := fun r => r = (x, c1)) e1 rfl) ?_
 rintro r rfl
 refine Tot.bind (Tot.of (Q := fun r => r = (x, ([], []), [], [])) (by rw [specNodeNew, inR_iff.2 ⟨by dsimp only; omega, by dsimp only; omega⟩]; rfl) rfl) ?_
 rintro r rfl
 obtain ⟨y, c2, e2, y0, y1, _, k2⟩ := l1Below_ok c1 k1 6 (by decide)
 have y1 := y1 (by decide)
 refine Tot.bind (Tot.of (Q := fun r => r = (y, c2)) e2 rfl) ?_
 rintro r rfl
 have hn0 : NG (x, (([] : List Nmd), ([] : List Nmd)), ([] : List Row), ([] : List Row)) := ⟨nodeOk_iff.2 ⟨(by simp), ⟨by dsimp only; omega, by dsimp only; omega⟩, (show diskOk ([], []) = true by decide), (show rowsOk [] = true by decide), (by simp)⟩, fun x hx => (by cases hx), fun x hx => (by cases hx)⟩
 refine Tot.bind (l12Draw_l3 y.toNat y c2 nod0 _ (by omega) (by omega) k2 hn0) ?_
 rintro r ⟨c3, n, k3, hn, rfl⟩
 have rot : ∀ (n : Nod) (c : Cur), NG n → CurOk c → Tot (fun k => (spec_l3Name c).bind fun r9 => (spec_l1Below r9.2 40).bind fun r10 => (spec_NodeRot k n r9.1 r10.1).bind fun r11 => some (r11.1, r10.2)) (fun r => NG r.1 ∧ CurOk r.2) := by
  intro n c hn hc
  obtain ⟨s, c1, e1, hs, k1⟩ := l3Name_ok c hc
  refine Tot.bind (Tot.of (Q := fun r => r = (s, c1)) e1 rfl) ?_
  rintro r rfl
  obtain ⟨x, c2, e2, x0, x1, _, k2⟩ := l1Below_ok c1 k1 40 (by decide)
  have x1 := x1 (by decide)
  refine Tot.bind (Tot.of (Q := fun r => r = (x, c2)) e2 rfl) ?_
  rintro r rfl
  refine Tot.bind (specNodeRot n s x (ng_in hn) (by omega) (by omega)) ?_
  rintro r rfl
  exact Tot.pure ⟨rotN_g hn, k2⟩
 obtain ⟨b, c4, e4, k4⟩ := l1Once_ok c3 k3 2 (by decide)
 refine Tot.bind (Tot.of (Q := fun r => r = (b, c4)) e4 rfl) ?_
 rintro r rfl
 refine Tot.ite (fun _ => ?_) (fun _ => ?_)
 ·refine Tot.bind (l11Draw_tot c4 k4) ?_
  rintro ⟨l, c5⟩ ⟨k5, hl, hl5⟩
  refine Tot.bind (specTake n l (ng_in hn) (rows_rf (rowsIn_ok hl (by dsimp only at hl5; omega)))) ?_
  rintro r rfl
  obtain ⟨b, c6, e6, k6⟩ := l1Once_ok c5 k5 3 (by decide)
  refine Tot.bind (Tot.of (Q := fun r => r = (b, c6)) e6 rfl) ?_
  rintro r rfl
  exact Tot.ite (fun _ => rot _ c6 (takeN_g hn) k6) (fun _ => Tot.pure ⟨takeN_g hn, k6⟩)
 ·obtain ⟨b, c6, e6, k6⟩ := l1Once_ok c4 k4 3 (by decide)
  refine Tot.bind (Tot.of (Q := fun r => r = (b, c6)) e6 rfl) ?_
  rintro r rfl
  exact Tot.ite (fun _ => rot n c6 hn k6) (fun _ => Tot.pure ⟨hn, k6⟩)
theorem rf_app {l : List Row} {x : Row} (h : RF l) (hl : l.length ≤ 999) (hx : Short x.1) : RF (l ++ [x]) := by
 refine ⟨by simp only [List.length_append, List.length_cons, List.length_nil]; omega, fun y hy => ?_⟩
 rcases List.mem_append.1 hy with hy | hy
 ·exact h.2 y hy
 ·rw [List.mem_singleton.1 hy]; exact hx
theorem l12Any_l12 (z n : Nod) (hs : Short ((⟨#[97]⟩ : ByteArray))) : ∀ (m : Nat) (c : Cur) (q : List Row), 61 - q.length ≤ m → CurOk c → RF q → q.length ≤ 61 →
  Tot (fun k => spec_l12Any_l12 k c.1 c.2.1 c.2.2 z.1 z.2.1.1 z.2.1.2 z.2.2.1 z.2.2.2 n.1 n.2.1.1 n.2.1.2 n.2.2.1 q) (fun r => ∃ c' q', CurOk c' ∧ RF q' ∧ r = (z.1, z.2.1.1, z.2.1.2, z.2.2.1, z.2.2.2, n.1, n.2.1.1, n.2.1.2, n.2.2.1, q', c'.1, c'.2.1, c'.2.2)) := by
 intro m
 induction m with
 | zero =>
  intro c q hm hc hq hl
  refine Tot.succ ?_
  simp only [spec_l12Any_l12]
  obtain ⟨x, c1, e1, x0, x1, _, k1⟩ := l1Below_ok c hc 2 (by decide)
  have x1 := x1 (by decide)
  refine Tot.bind (Tot.of (Q := fun r => r = (x, c1)) e1 rfl) ?_
  rintro r rfl
  dsimp only
  rw [w64 (n := 60 + x) (by omega) (by omega)]
  exact Tot.ndec (by omega) (Tot.pure ⟨c1, q, k1, hq, rfl⟩)
 | succ m ih =>
  intro c q hm hc hq hl
  refine Tot.succ ?_
  simp only [spec_l12Any_l12]
  obtain ⟨x, c1, e1, x0, x1, _, k1⟩ := l1Below_ok c hc 2 (by decide)
  have x1 := x1 (by decide)
  refine Tot.bind (Tot.of (Q := fun r => r = (x, c1)) e1 rfl) ?_
  rintro r rfl
  dsimp only
  rw [w64 (n := 60 + x) (by omega) (by omega)]
  refine Tot.dite (fun h => Tot.ble (by simp only [List.length_cons, List.length_nil]; omega) ?_) (fun h => Tot.pure ⟨c1, q, k1, hq, rfl⟩)
  exact ih c1 _ (by simp only [List.length_append, List.length_cons, List.length_nil]; omega) k1 (rf_app hq (by omega) hs) (by simp only [List.length_append, List.length_cons, List.length_nil]; omega)
theorem l12Any_in (c : Cur) (hc : CurOk c) : Tot (fun k => spec_l12Any k c) (fun r => NIn r.1 ∧ CurOk r.2) := by
 unfold spec_l12Any
 refine Tot.bind (l12Draw_g c hc) ?_
 rintro ⟨n, c1⟩ ⟨hg, k1⟩
 have hn := ng_in hg
 have hq60 := (nodeOk_iff.1 hg.1).2.2.2.2
 obtain ⟨x, c2, e2, _, _, _, k2⟩ := l1Below_ok c1 k1 12 (by decide)
 refine Tot.bind (Tot.of (Q := fun r => r = (x, c2)) e2 rfl) ?_
 rintro r rfl
 refine Tot.ite (fun _ => ?_) (fun _ => Tot.ite (fun _ => ?_) (fun _ => Tot.ite (fun _ => ?_) (fun _ => Tot.ite (fun _ => ?_) (fun _ => Tot.ite (fun _ => ?_) (fun _ => Tot.pure ⟨hn, k2⟩)))))
 ·obtain ⟨y, c3, e3, _, k3⟩ := l1Int_ok c2 k2 [(-1), 20, 21] (by decide) (by decide)
  refine Tot.bind (Tot.of (Q := fun r => r = (y, c3)) e3 rfl) ?_
  rintro r rfl
  exact Tot.pure ⟨hn, k3⟩
 ·refine Tot.bind (l9AnyB c2 k2) (fun r hr => Tot.pure ⟨⟨hr.1, hn.2⟩, hr.2⟩)
 ·refine Tot.bind (l11Any_short c2 k2) (fun r hr => Tot.pure ⟨⟨hn.1, ⟨by have := hr.2.1; dsimp only; omega, hr.2.2⟩, hn.2.2⟩, hr.1⟩)
 ·obtain ⟨s, c3, e3, hs, k3⟩ := l3Any_ok c2 k2
  refine Tot.bind (Tot.of (Q := fun r => r = (s, c3)) e3 rfl) ?_
  rintro r rfl
  exact Tot.ble (by dsimp only at hq60 ⊢; simp only [List.length_cons, List.length_nil]; omega) (Tot.pure ⟨⟨hn.1, hn.2.1, rf_app hn.2.2 (by dsimp only at hq60 ⊢; omega) hs⟩, k3⟩)
 ·refine Tot.bind (l12Any_l12 nod0 n (by unfold Short; decide) 61 c2 n.2.2.2 (by omega) k2 hn.2.2 (by dsimp only at hq60; omega)) ?_
  rintro r ⟨c3, q, k3, hq, rfl⟩
  exact Tot.pure ⟨⟨hn.1, hn.2.1, hq⟩, k3⟩
end Go.Proofs.YtgocagaijgcnmaaGreat.Vf
end

section
set_option linter.unusedVariables false
set_option linter.unusedSimpArgs false
namespace Go.Proofs.YtgocagaijgcnmaaGreat.Vf
open Go
theorem cst_bit (x : BitVec 32) : (cst x).getLsbD 31 = x.getLsbD 0 := by
 have h0 : (x >>> 1).getLsbD 31 = false := by
  rw [BitVec.getLsbD_ushiftRight]
  exact BitVec.getLsbD_of_ge _ _ (by decide)
 unfold cst
 cases h : x.getLsbD 0 with
 | true =>
  rw [if_pos rfl, BitVec.getLsbD_xor, h0]
  decide
 | false =>
  rw [if_neg (by simp), h0]
theorem xor_cancel {n : Nat} {x y c : BitVec n} (h : x ^^^ c = y ^^^ c) : x = y := by
 have := congrArg (fun z => z ^^^ c) h
 simpa [BitVec.xor_assoc] using this
theorem cst_inj {x y : BitVec 32} (h : cst x = cst y) : x = y := by
 have h0 : x.getLsbD 0 = y.getLsbD 0 := by rw [← cst_bit, ← cst_bit, h]
 have h1 : x >>> 1 = y >>> 1 := by
  unfold cst at h
  rw [h0] at h
  cases hb : y.getLsbD 0 with
  | true => rw [hb, if_pos rfl, if_pos rfl] at h; exact xor_cancel h
  | false => rw [hb, if_neg (by simp), if_neg (by simp)] at h; exact h
 refine BitVec.eq_of_getLsbD_eq fun i hi => ?_
 cases i with
 | zero => exact h0
 | succ i =>
  have := congrArg (fun z => z.getLsbD i) h1
  simpa [BitVec.getLsbD_ushiftRight, Nat.add_comm] using this
theorem citer_inj : ∀ (n : Nat) {x y : BitVec 32}, citer n x = citer n y → x = y
 | 0, _, _, h => h
 | n + 1, _, _, h => cst_inj (citer_inj n h)
theorem cby_inj {x y : BitVec 32} {b : Int} (h : cby x b = cby y b) : x = y := xor_cancel (citer_inj 8 h)
theorem cby_inj2 {x : BitVec 32} {a b : Int} (ha : 0 ≤ a ∧ a ≤ 255) (hb : 0 ≤ b ∧ b ≤ 255) (h : cby x a = cby x b) : a = b := by
 have h1 : x ^^^ BitVec.ofInt 32 a = x ^^^ BitVec.ofInt 32 b := citer_inj 8 h
 rw [BitVec.xor_comm, BitVec.xor_comm x] at h1
 have h2 := xor_cancel h1
 rw [byte32 ha, byte32 hb, h2]
theorem fold_inj : ∀ (l : List Int) {x y : BitVec 32}, l.foldl cby x = l.foldl cby y → x = y
 | [], _, _, h => h
 | _ :: l, _, _, h => cby_inj (fold_inj l h)
theorem crc_lt (l : List Int) : 0 ≤ crc l ∧ crc l ≤ 4294967295 := by
 unfold crc
 have := (crcV l).isLt
 omega
theorem crc_set {l : List Int} {i : Nat} {y : Int} (hi : i < l.length) (hy : 0 ≤ y ∧ y ≤ 255) (hb : BytesOk l) (hne : y ≠ l.getD i 0) : crc (l.set i y) ≠ crc l := by
 intro h
 have h1 : crcV (l.set i y) = crcV l := BitVec.eq_of_toNat_eq (by unfold crc at h; omega)
 unfold crcV at h1
 have h2 := BitVec.not_inj.1 h1
 have e1 : l.set i y = l.take i ++ y :: l.drop (i + 1) := by rw [List.set_eq_take_append_cons_drop, if_pos hi]
 have e2 : l = l.take i ++ l.getD i 0 :: l.drop (i + 1) := by
  conv => { lhs; rw [← List.take_append_drop i l] }
  rw [drop_cons (d := 0) hi]
 rw [e1, List.foldl_append, List.foldl_cons] at h2
 rw [e2] at h2
 rw [List.foldl_append, List.foldl_cons] at h2
 have e3 : (l.take i ++ l.getD i 0 :: l.drop (i + 1)).take i = l.take i := by rw [← e2]
 have e4 : (l.take i ++ l.getD i 0 :: l.drop (i + 1)).drop (i + 1) = l.drop (i + 1) := by rw [← e2]
 rw [e3, e4] at h2
 exact hne (cby_inj2 hy (hb _ (getD_mem' hi)) (fold_inj _ h2))
theorem c4_inj {a b : Int} (ha : 0 ≤ a ∧ a ≤ 4294967295) (hb : 0 ≤ b ∧ b ≤ 4294967295) (h : c4 a = c4 b) : a = b := by
 have e : ∀ c : Int, 0 ≤ c → c4 c = [c / 16777216 % 256, c / 65536 % 256, c / 256 % 256, c % 256] := fun c hc => by
  unfold c4
  rw [show (2 : Int) ^ (min (Int.toNat 24) (IntKind.bits .i64)) = 16777216 from by decide, show (2 : Int) ^ (min (Int.toNat 16) (IntKind.bits .i64)) = 65536 from by decide, show (2 : Int) ^ (min (Int.toNat 8) (IntKind.bits .i64)) = 256 from by decide,
   Int.fdiv_eq_ediv_of_nonneg _ (by omega), Int.fdiv_eq_ediv_of_nonneg _ (by omega), Int.fdiv_eq_ediv_of_nonneg _ (by omega), IntKind.wrap_u8, IntKind.wrap_u8, IntKind.wrap_u8, IntKind.wrap_u8]
 rw [e a ha.1, e b hb.1] at h
 simp only [List.cons.injEq, and_true] at h
 omega
theorem getD_app_l {l m : List Int} {j : Nat} (h : j < l.length) : (l ++ m).getD j 0 = l.getD j 0 := by rw [List.getD_eq_getElem?_getD, List.getD_eq_getElem?_getD, List.getElem?_append_left h]
theorem getD_app_r {l m : List Int} {j : Nat} (h : l.length ≤ j) : (l ++ m).getD j 0 = m.getD (j - l.length) 0 := by rw [List.getD_eq_getElem?_getD, List.getD_eq_getElem?_getD, List.getElem?_append_right h]
theorem flip_bad {f : Fil} (hf : fileOk f = true) {n : Nat} (hn : n < 8 * (putF f).length) : getF (flipL (putF f) n) = none := by
 cases hg : getF (flipL (putF f) n) with
 | none => rfl
 | some g =>
  exfalso
  obtain ⟨g1, _, g3⟩ := getF_ok hg
  have hpb := putF_bytes f
  have hj : n / 8 < (putF f).length := by omega
  have hy := flipB_ok ((putF f).getD (n / 8) 0) (n % 8)
  have hne := flipB_ne (hpb _ (getD_mem' (d := 0) hj)) (Nat.mod_lt n (show 0 < 8 by omega))
  unfold flipL at g3
  generalize flipB ((putF f).getD (n / 8) 0) (n % 8) = y at g3 hy hne
  generalize n / 8 = j at g3 hj hne
  have ef : putF f = bodyF f ++ c4 (crc (bodyF f)) := by unfold putF; rw [hf]; rfl
  have eg : putF g = bodyF g ++ c4 (crc (bodyF g)) := by unfold putF; rw [g1]; rfl
  have l4 : ∀ c, (c4 c).length = 4 := fun c => rfl
  rw [eg] at g3
  rw [ef] at g3 hj hne
  have hlen : (bodyF g).length = (bodyF f).length := by
   have := congrArg List.length g3
   rw [List.length_set, List.length_append, List.length_append, l4, l4] at this
   omega
  by_cases hjb : j < (bodyF f).length
  ·rw [List.set_append_left _ _ hjb] at g3
   obtain ⟨a1, a2⟩ := List.append_inj g3 (by rw [List.length_set]; exact hlen)
   rw [getD_app_l hjb] at hne
   have := c4_inj (crc_lt _) (crc_lt _) a2
   rw [a1] at this
   exact crc_set hjb hy (bodyF_bytes f) hne this
  ·rw [List.set_append_right _ _ (by omega)] at g3
   obtain ⟨a1, a2⟩ := List.append_inj g3 hlen
   rw [a1] at a2
   rw [getD_app_r (by omega)] at hne
   rw [List.length_append, l4] at hj
   have : (c4 (crc (bodyF f))).getD (j - (bodyF f).length) 0 = y := by
    rw [a2, List.getD_eq_getElem?_getD, List.getElem?_set_self (by rw [l4]; omega), Option.getD_some]
   exact hne this.symm
end Go.Proofs.YtgocagaijgcnmaaGreat.Vf
end

section
set_option linter.unusedVariables false
set_option linter.unusedSimpArgs false
namespace Go.Proofs.YtgocagaijgcnmaaGreat.Vf
open Go
def nmsOf (l : List Nmd) (ns : List ByteArray) : List ByteArray := l.foldl (fun ns x => wt ns x.1) ns
def nms (d : Dsk) : List ByteArray := nmsOf (d.1 ++ d.2) []
def pk1 : Option Nmd → List Nmd
 | some x => [x]
 | none => []
theorem pk1_len (o : Option Nmd) : (pk1 o).length ≤ 1 := by cases o <;> simp [pk1]
def pckL (kp : List Bool) (a b : List Nmd) : List ByteArray → Nat → List Nmd
 | [], _ => []
 | s :: ns, i => pk1 (pk (bif kp.getD i false then a else b) s) ++ pckL kp a b ns (i + 1)
theorem pck_nil (kp : List Bool) (a b : List Nmd) (i : Nat) : pckL kp a b [] i = [] := rfl
theorem pck_cons (kp : List Bool) (a b : List Nmd) (s : ByteArray) (ns : List ByteArray) (i : Nat) : pckL kp a b (s :: ns) i = pk1 (pk (bif kp.getD i false then a else b) s) ++ pckL kp a b ns (i + 1) := rfl
def fallR (d : Dsk) (kp : List Bool) : Dsk := bif decide ((pckL kp d.1 d.2 (nms d) 0).length > 60) then d else (pckL kp d.1 d.2 (nms d) 0, pckL kp d.1 d.2 (nms d) 0)
theorem nmsOf_ts : ∀ (l : List Nmd) (ns : List ByteArray), TS ns → TS (nmsOf l ns)
 | [], _, h => h
 | _ :: l, _, h => nmsOf_ts l _ (wt_sorted h)
theorem nmsOf_len : ∀ (l : List Nmd) (ns : List ByteArray), (nmsOf l ns).length ≤ ns.length + l.length
 | [], _ => by simp [nmsOf]
 | x :: l, ns => by
  have h1 := nmsOf_len l (wt ns x.1)
  have h2 := wt_len (l := ns) (s := x.1)
  show (nmsOf l (wt ns x.1)).length ≤ _
  rw [List.length_cons]
  omega
theorem nms_ts (d : Dsk) : TS (nms d) := nmsOf_ts _ _ List.Pairwise.nil
theorem pk_gt (l : List Nmd) (s : ByteArray) : pk l s = (gt l s).map fun b => (s, b) := by
 unfold pk gt
 cases h : fnd l s with
 | none => rfl
 | some i => rw [Option.map_some, ← (fnd_lt h).2]
theorem pck_sub (kp : List Bool) (a b : List Nmd) : ∀ (ns : List ByteArray) (i : Nat), ((pckL kp a b ns i).map Prod.fst).Sublist ns
 | [], _ => List.Sublist.slnil
 | s :: ns, i => by
  unfold pckL
  rw [pk_gt]
  cases gt (bif kp.getD i false then a else b) s with
  | none => exact (pck_sub kp a b ns (i + 1)).cons s
  | some c => exact (pck_sub kp a b ns (i + 1)).cons_cons s
theorem pck_len (kp : List Bool) (a b : List Nmd) (ns : List ByteArray) (i : Nat) : (pckL kp a b ns i).length ≤ ns.length := by
 have := (pck_sub kp a b ns i).length_le
 rwa [List.length_map] at this
theorem pck_sorted {kp : List Bool} {a b : List Nmd} {ns : List ByteArray} {i : Nat} (h : TS ns) : SortedN (pckL kp a b ns i) := by
 have := List.Pairwise.sublist (pck_sub kp a b ns i) h
 rwa [List.pairwise_map] at this
theorem pck_in {kp : List Bool} {a b : List Nmd} : ∀ {ns : List ByteArray} {i : Nat} {x : Nmd}, x ∈ pckL kp a b ns i → gt a x.1 = some x.2 ∨ gt b x.1 = some x.2
 | [], _, _, h => by cases h
 | s :: ns, i, x, h => by
  unfold pckL at h
  rw [pk_gt] at h
  rcases List.mem_append.1 h with h | h
  ·cases hg : gt (bif kp.getD i false then a else b) s with
   | none => rw [hg] at h; cases h
   | some c =>
    rw [hg] at h
    rw [List.mem_singleton.1 h]
    cases hk : kp.getD i false with
    | true => rw [hk] at hg; exact .inl hg
    | false => rw [hk] at hg; exact .inr hg
  ·exact pck_in h
theorem fallR_g {d : Dsk} {kp : List Bool} (h : DG d) : DG (fallR d kp) := by
 unfold fallR
 cases hc : decide ((pckL kp d.1 d.2 (nms d) 0).length > 60) with
 | true => exact h
 | false =>
  have hl := of_decide_eq_false hc
  have n1 := (namedsOk_iff.1 (disk_iff.1 h.1).1).2.1
  have n2 := (namedsOk_iff.1 (disk_iff.1 h.1).2).2.1
  have q : namedsOk (pckL kp d.1 d.2 (nms d) 0) = true := namedsOk_iff.2 ⟨pck_sorted (nms_ts d), fun x hx => (pck_in hx).elim (fun e => n1 _ (gt_mem e)) (fun e => n2 _ (gt_mem e)), by omega⟩
  have b : LB (pckL kp d.1 d.2 (nms d) 0) := fun x hx => (pck_in hx).elim (fun e => h.2.1.gt e) (fun e => h.2.2.gt e)
  exact ⟨disk_iff.2 ⟨q, q⟩, b, b⟩
theorem implPick {R : Type} {L : Nat → List Nmd → Option R} {Q : R → Prop} (c : List Nmd) (s : ByteArray) (acc : List Nmd) (hc : c.length ≤ 100000) (ha : acc.length ≤ 100000) (next : Tot (fun k => L k (acc ++ pk1 (pk c s))) Q) :
  Tot (fun k => (impl_at k c s).bind fun r => cond (decide (r ≥ 0)) (cond (decide ((0 : Int) ≤ r)) (cond (decide (r < (List.length c : Int))) (cond (Nat.ble ((List.length acc + List.length [List.getD c (Int.toNat r) ((⟨#[]⟩ : ByteArray), [])]) * 40) 140737488355328) (L k (acc ++ [List.getD c (Int.toNat r) ((⟨#[]⟩ : ByteArray), [])])) none) none) none) (L k acc)) Q := by
 refine Tot.bind (implAt c s (by omega)) ?_
 rintro r rfl
 unfold pk at next
 unfold fndI
 cases h : fnd c s with
 | none =>
  rw [h] at next
  simp only [pk1, List.append_nil] at next
  exact Tot.ndec (by decide) next
 | some i =>
  rw [h] at next
  have := (fnd_lt h).1
  simp only [Int.toNat_natCast]
  exact Tot.dec (by omega) (Tot.dec (by omega) (Tot.dec (by omega) (Tot.ble (by simp only [List.length_cons, List.length_nil]; omega) next)))
theorem implFallR (d : Dsk) (kp : List Bool) (hd : DG d) (hk : kp.length ≤ 1000000) : Tot (fun k => impl_FallDisk k d kp) (fun r => r = fallR d kp) := by
 have hin := din_ok hd.1
 have g1 := (namedsOk_iff.1 (disk_iff.1 hd.1).1).2.2
 have g2 := (namedsOk_iff.1 (disk_iff.1 hd.1).2).2.2
 unfold impl_FallDisk
 refine Tot.bind (implDisk d hin.1.1 hin.1.2) ?_
 rintro b rfl
 rw [hd.1]
 refine Tot.no rfl (Tot.ble (by simp only [List.length_nil]; omega) ?_)
 rw [List.nil_append]
 refine Tot.ble (by omega) ?_
 have hm : (d.1 ++ d.2).length ≤ 120 := by rw [List.length_append]; omega
 have hn : (nms d).length ≤ 120 := by have := nmsOf_len (d.1 ++ d.2) []; rw [List.length_nil] at this; exact Nat.le_trans this (by omega)
 refine Tot.bind (Q := fun r => r = (kp, nms d, d.1, d.2, [], [])) ?_ ?_
 ·refine Tot.up (L := fun k i s => impl_FallDisk_l5 k kp s (d.1 ++ d.2) ((d.1 ++ d.2).length : Int) i d.1 d.2 [] []) (Q := fun r => r = (kp, nms d, d.1, d.2, [], [])) (d.1 ++ d.2).length (fun j s => nmsOf ((d.1 ++ d.2).drop j) s = nms d ∧ s.length ≤ j) ?_ ?_ 0 [] (Nat.zero_le _) ⟨rfl, Nat.le_refl _⟩
  ·rintro s ⟨h, _⟩
   rw [List.drop_length] at h
   simp (disch := omega) only [impl_FallDisk_l5, dF]
   exact Tot.pure (by rw [← h]; rfl)
  ·rintro j s hj ⟨h, hs⟩ next
   rw [drop_cons (d := nmd0) hj] at h
   simp (disch := omega) only [impl_FallDisk_l5, dT, Int.toNat_natCast, w64]
   refine Tot.bind (implWithTextX s _ (by omega)) ?_
   rintro q rfl
   have := wt_len (l := s) (s := ((d.1 ++ d.2).getD j nmd0).1)
   exact next _ ⟨h, by have e : (d.1 ++ d.2).getD j ((⟨#[]⟩ : ByteArray), ([] : List Int)) = (d.1 ++ d.2).getD j nmd0 := rfl; rw [e]; omega⟩
 ·rintro r rfl
  refine Tot.bind (Q := fun r => r = (pckL kp d.1 d.2 (nms d) 0, d.1, d.2, [], [])) ?_ ?_
  ·refine Tot.up (L := fun k i s => impl_FallDisk_l11 k kp s (nms d) ((nms d).length : Int) i d.1 d.2 [] []) (Q := fun r => r = (pckL kp d.1 d.2 (nms d) 0, d.1, d.2, [], [])) (nms d).length (fun j s => s ++ pckL kp d.1 d.2 ((nms d).drop j) j = pckL kp d.1 d.2 (nms d) 0 ∧ s.length ≤ j) ?_ ?_ 0 [] (Nat.zero_le _) ⟨rfl, Nat.le_refl _⟩
   ·rintro s ⟨h, _⟩
    rw [List.drop_length, pck_nil, List.append_nil] at h
    simp (disch := omega) only [impl_FallDisk_l11, dF]
    exact Tot.pure (by rw [h])
   ·rintro j s hj ⟨h, hs⟩ next
    rw [drop_cons (d := txt0) hj] at h
    rw [pck_cons, ← List.append_assoc] at h
    simp (disch := omega) only [impl_FallDisk_l11, dT, Int.toNat_natCast, w64]
    have hl := pk1_len (pk (bif kp.getD j false then d.1 else d.2) ((nms d).getD j txt0))
    have nx := next (s ++ pk1 (pk (bif kp.getD j false then d.1 else d.2) ((nms d).getD j txt0))) ⟨h, by rw [List.length_append]; omega⟩
    have e0 : (nms d).getD j (⟨#[]⟩ : ByteArray) = (nms d).getD j txt0 := rfl
    rw [e0]
    refine Tot.dite (fun hc => ?_) (fun hc => ?_)
    ·refine Tot.dec (by omega) (Tot.ite (fun hk => ?_) (fun hk => ?_))
     ·rw [hk] at nx
      exact implPick (L := fun k acc => impl_FallDisk_l11 k kp acc (nms d) ((nms d).length : Int) ((j : Int) + 1) d.1 d.2 [] []) d.1 _ s (by omega) (by omega) nx
     ·rw [hk] at nx
      exact implPick (L := fun k acc => impl_FallDisk_l11 k kp acc (nms d) ((nms d).length : Int) ((j : Int) + 1) d.1 d.2 [] []) d.2 _ s (by omega) (by omega) nx
    ·have hk : kp.getD j false = false := by rw [List.getD_eq_getElem?_getD, List.getElem?_eq_none (by omega)]; rfl
     rw [hk] at nx
     exact implPick (L := fun k acc => impl_FallDisk_l11 k kp acc (nms d) ((nms d).length : Int) ((j : Int) + 1) d.1 d.2 [] []) d.2 _ s (by omega) (by omega) nx
  ·rintro r rfl
   have hp := pck_len kp d.1 d.2 (nms d) 0
   unfold fallR
   refine Tot.dite (fun h => ?_) (fun h => ?_)
   ·dsimp only at h
    rw [decide_eq_true (show (pckL kp d.1 d.2 (nms d) 0).length > 60 by omega)]
    refine Tot.bind (implCopyDisk (d.1, d.2) hin.1.1) ?_
    rintro r rfl
    exact Tot.pure rfl
   ·dsimp only at h
    have hc : decide ((pckL kp d.1 d.2 (nms d) 0).length > 60) = false := decide_eq_false (by omega)
    have hg := fallR_g (kp := kp) hd
    unfold fallR at hg
    rw [hc] at hg ⊢
    rw [cond_false] at hg
    have hf := (din_ok hg.1).1.1.1
    refine Tot.bind (implCopyNamed _ hf) ?_
    rintro r rfl
    refine Tot.bind (implCopyNamed _ hf) ?_
    rintro r rfl
    exact Tot.pure rfl
end Go.Proofs.YtgocagaijgcnmaaGreat.Vf
end

section
set_option linter.unusedVariables false
set_option linter.unusedSimpArgs false
namespace Go.Proofs.YtgocagaijgcnmaaGreat.Vf
open Go
theorem implRot {d : Dsk} {s : ByteArray} {n : Int} (h : DG d) (hn : n ≤ 9223372036854775807) (hn0 : -9223372036854775808 ≤ n) : Tot (fun k => impl_RotBit k d s n) (fun r => r = rotR d s n) := by
 have hin := din_ok h.1
 unfold impl_RotBit
 refine Tot.bind (implCopyDisk d hin.1.1) ?_
 rintro d rfl
 refine Tot.bind (implAt d.1 s hin.1.1.1.1) ?_
 rintro r rfl
 refine Tot.bind (implAt d.2 s hin.1.1.2.1) ?_
 rintro r rfl
 refine Tot.bind (implDisk d hin.1.1 hin.1.2) ?_
 rintro r rfl
 rw [h.1]
 refine Tot.no rfl ?_
 unfold rotR
 unfold fndI
 cases hf : fnd d.1 s with
 | none =>
  have hg : gt d.1 s = none := by unfold gt; rw [hf]
  rw [hg]
  exact Tot.dec (by decide) (Tot.pure rfl)
 | some i =>
  have hg : gt d.1 s = some (d.1.getD i nmd0).2 := by unfold gt; rw [hf]
  have hi := (fnd_lt hf).1
  have hnm := (fnd_lt hf).2
  have hb := gt_len h.1 hg
  rw [hg]
  have e0 : d.1.getD i ((⟨#[]⟩ : ByteArray), ([] : List Int)) = d.1.getD i nmd0 := rfl
  simp only [Int.toNat_natCast, e0]
  refine Tot.ndec (by omega) ?_
  have out : ∀ {b : Bool}, inR n 0 (8 * ((d.1.getD i nmd0).2.length : Int) - 1) = b → b = false → (d, false) = bif inR n 0 (8 * ((d.1.getD i nmd0).2.length : Int) - 1) then ((wr d.1 s (flipL (d.1.getD i nmd0).2 n.toNat), bif decide (gt d.2 s = some (d.1.getD i nmd0).2) then wr d.2 s (flipL (d.1.getD i nmd0).2 n.toNat) else d.2), true) else (d, false) := fun e e' => by rw [e, e']; rfl
  refine Tot.dite (fun hneg => Tot.pure (out rfl ?_)) (fun hneg => ?_)
  ·cases hc : inR n 0 (8 * ((d.1.getD i nmd0).2.length : Int) - 1) with
   | false => rfl
   | true => have := inR_iff.1 hc; omega
  ·obtain ⟨m, rfl⟩ : ∃ m : Nat, n = (m : Int) := ⟨n.toNat, by omega⟩
   have et : IntKind.wrap .i64 (Int.tdiv (m : Int) 8) = ((m / 8 : Nat) : Int) := by
    rw [Int.tdiv_eq_ediv_of_nonneg (by omega), w64 (by omega) (by omega)]
    omega
   have eu : Int.tmod (m : Int) 8 = ((m % 8 : Nat) : Int) := by
    rw [Int.tmod_eq_emod_of_nonneg (by omega)]
    omega
   simp only [et, eu, Int.toNat_natCast, flip_eq _ _ (Nat.mod_lt m (show 0 < 8 by omega))]
   refine Tot.dec (by omega) (Tot.dec (by omega) (Tot.dite (fun hc => Tot.pure (out rfl ?_)) (fun hc => ?_)))
   ·cases hr : inR (m : Int) 0 (8 * ((d.1.getD i nmd0).2.length : Int) - 1) with
    | false => rfl
    | true => have := inR_iff.1 hr; omega
   ·have hr : inR (m : Int) 0 (8 * ((d.1.getD i nmd0).2.length : Int) - 1) = true := inR_iff.2 ⟨by omega, by omega⟩
    have hm8 : m / 8 < (d.1.getD i nmd0).2.length := by omega
    rw [hr]
    refine Tot.ndec (by omega) (Tot.dec (by omega) (Tot.dec (by omega) (Tot.dec (by omega) (Tot.dec (by omega) (Tot.dec (by omega) (Tot.dec (by omega) ?_))))))
    have ew' : d.1.set i ((d.1.getD i nmd0).1, (d.1.getD i nmd0).2.set (m / 8) (flipB ((d.1.getD i nmd0).2.getD (m / 8) 0) (m % 8))) = wr d.1 s (flipL (d.1.getD i nmd0).2 m) := by rw [hnm]; exact set_wr (disk_s1 h.1) hf _
    cases hf2 : fnd d.2 s with
    | none =>
     have hg2 : gt d.2 s = none := by unfold gt; rw [hf2]
     rw [hg2]
     refine Tot.ndec (by decide) (Tot.pure ?_)
     rw [ew']
     rfl
    | some j =>
     have hg2 : gt d.2 s = some (d.2.getD j nmd0).2 := by unfold gt; rw [hf2]
     have hj := (fnd_lt hf2).1
     have hjn := (fnd_lt hf2).2
     have e1 : d.2.getD j ((⟨#[]⟩ : ByteArray), ([] : List Int)) = d.2.getD j nmd0 := rfl
     rw [hg2]
     simp only [Int.toNat_natCast, e1]
     refine Tot.dec (by omega) (Tot.dec (by omega) (Tot.dec (by omega) (Tot.dec (by omega) (Tot.dec (by omega) ?_))))
     rw [strOf_inj (h.2.2.gt hg2) (h.2.1.gt hg)]
     refine Tot.dite (fun he => ?_) (fun he => ?_)
     ·have hl2 : (d.2.getD j nmd0).2.length = (d.1.getD i nmd0).2.length := by rw [he]
      refine Tot.dec (by omega) (Tot.dec (by omega) (Tot.dec (by omega) (Tot.dec (by omega) (Tot.dec (by omega) (Tot.dec (by omega) (Tot.pure ?_))))))
      have ew2 : d.2.set j ((d.2.getD j nmd0).1, (d.2.getD j nmd0).2.set (m / 8) (flipB ((d.2.getD j nmd0).2.getD (m / 8) 0) (m % 8))) = wr d.2 s (flipL (d.1.getD i nmd0).2 m) := by
       rw [hjn, he]
       exact set_wr (disk_s2 h.1) hf2 _
      rw [ew', ew2, he, decide_eq_true rfl]
      rfl
     ·refine Tot.pure ?_
      rw [ew', decide_eq_false (fun c => he (Option.some.inj c))]
      rfl
def clS (o : Dsk × Int) (x : Nmd) : Dsk × Int := match getF x.2 with
 | some _ => o
 | none => ((cut o.1.1 x.1, cut o.1.2 x.1), o.2 + 1)
def cleanR (d : Dsk) : Dsk × Int := d.1.foldl clS (d, 0)
theorem cut2_g {d : Dsk} {s : ByteArray} (h : DG d) : DG (cut d.1 s, cut d.2 s) := ⟨disk_iff.2 ⟨cut_ok (disk_iff.1 h.1).1, cut_ok (disk_iff.1 h.1).2⟩, h.2.1.cut s, h.2.2.cut s⟩
theorem clS_g {o : Dsk × Int} {x : Nmd} (h : DG o.1) : DG (clS o x).1 := by
 unfold clS
 cases getF x.2 with
 | some _ => exact h
 | none => exact cut2_g h
theorem cleans_g : ∀ (l : List Nmd) (o : Dsk × Int), DG o.1 → DG (l.foldl clS o).1
 | [], _, h => h
 | _ :: l, _, h => cleans_g l _ (clS_g h)
theorem cleanR_g {d : Dsk} (h : DG d) : DG (cleanR d).1 := cleans_g _ _ h
def bads (l : List Nmd) : List ByteArray := (l.filter fun x => (getF x.2).isNone).map Prod.fst
theorem cleans_spec : ∀ (l : List Nmd) (o : Dsk × Int), DG o.1 → ((l.foldl clS o).2 = o.2 + ((bads l).length : Int)) ∧ ∀ t, (t ∈ bads l → gt (l.foldl clS o).1.1 t = none ∧ gt (l.foldl clS o).1.2 t = none) ∧ (t ∉ bads l → gt (l.foldl clS o).1.1 t = gt o.1.1 t ∧ gt (l.foldl clS o).1.2 t = gt o.1.2 t)
 | [], o, h => ⟨by simp [bads], fun t => ⟨fun c => by simp [bads] at c, fun _ => ⟨rfl, rfl⟩⟩⟩
 | x :: l, o, h => by
  obtain ⟨h1, h2⟩ := cleans_spec l (clS o x) (clS_g h)
  rw [List.foldl_cons]
  cases hx : getF x.2 with
  | some f =>
   have e : bads (x :: l) = bads l := by unfold bads; rw [List.filter_cons, hx]; rfl
   have ec : clS o x = o := by unfold clS; rw [hx]
   rw [e]
   rw [ec] at h1 h2 ⊢
   exact ⟨h1, h2⟩
  | none =>
   have e : bads (x :: l) = x.1 :: bads l := by unfold bads; rw [List.filter_cons, hx]; rfl
   have ec : clS o x = ((cut o.1.1 x.1, cut o.1.2 x.1), o.2 + 1) := by unfold clS; rw [hx]
   rw [e]
   rw [ec] at h1 h2 ⊢
   refine ⟨by rw [h1, List.length_cons]; omega, fun t => ⟨fun ht => ?_, fun ht => ?_⟩⟩
   ·by_cases hb : t ∈ bads l
    ·exact (h2 t).1 hb
    ·obtain ⟨a1, a2⟩ := (h2 t).2 hb
     have : x.1 = t := by
      rcases List.mem_cons.1 ht with e | e
      ·exact e.symm
      ·exact absurd e hb
     rw [a1, a2, gt_cut (disk_s1 h.1), gt_cut (disk_s2 h.1), if_pos this, if_pos this]
     exact ⟨rfl, rfl⟩
   ·obtain ⟨a1, a2⟩ := (h2 t).2 (fun c => ht (List.mem_cons_of_mem _ c))
    have : x.1 ≠ t := fun e => ht (by rw [← e]; exact List.mem_cons_self)
    rw [a1, a2, gt_cut (disk_s1 h.1), gt_cut (disk_s2 h.1), if_neg this, if_neg this]
    exact ⟨rfl, rfl⟩
theorem bads_mem {d : Dsk} (hd : diskOk d = true) {t : ByteArray} : t ∈ bads d.1 ↔ ∃ b, gt d.1 t = some b ∧ getF b = none := by
 unfold bads
 rw [List.mem_map]
 constructor
 ·rintro ⟨x, hx, rfl⟩
  obtain ⟨h1, h2⟩ := List.mem_filter.1 hx
  exact ⟨x.2, gt_of (disk_s1 hd) h1, by simpa using h2⟩
 ·rintro ⟨b, h1, h2⟩
  exact ⟨(t, b), List.mem_filter.2 ⟨gt_mem h1, by simp [h2]⟩, rfl⟩
theorem implClean (d : Dsk) (hd : DG d) : Tot (fun k => impl_Clean k d) (fun r => r = cleanR d) := by
 have hin := din_ok hd.1
 have hl := (namedsOk_iff.1 (disk_iff.1 hd.1).1).2.2
 unfold impl_Clean
 refine Tot.bind (implCopyDisk d hin.1.1) ?_
 rintro d rfl
 refine Tot.bind (implDisk d hin.1.1 hin.1.2) ?_
 rintro r rfl
 rw [hd.1]
 refine Tot.no rfl (Tot.bind (Q := fun r => r = ((cleanR d).2, [], [], (cleanR d).1)) ?_ (by rintro r rfl; exact Tot.pure rfl))
 refine Tot.up (L := fun k i (s : Dsk × Int) => impl_Clean_l6 k s.2 d.1 (d.1.length : Int) i [] [] s.1.1 s.1.2) (Q := fun r => r = ((cleanR d).2, [], [], (cleanR d).1)) d.1.length (fun j s => (d.1.drop j).foldl clS s = cleanR d ∧ DG s.1 ∧ 0 ≤ s.2 ∧ s.2 ≤ j) ?_ ?_ 0 (d, 0) (Nat.zero_le _) ⟨rfl, hd, Int.le_refl 0, by simp⟩
 ·rintro s ⟨h, _⟩
  rw [List.drop_length] at h
  simp (disch := omega) only [impl_Clean_l6, dF]
  exact Tot.pure (by rw [← h]; rfl)
 ·rintro j s hj ⟨h, hg, s0, s1⟩ next
  rw [drop_cons (d := nmd0) hj, List.foldl_cons] at h
  have hsi := din_ok hg.1
  have hx := getD_mem' (d := nmd0) hj
  simp (disch := omega) only [impl_Clean_l6, dT, Int.toNat_natCast, w64]
  have e0 : d.1.getD j ((⟨#[]⟩ : ByteArray), ([] : List Int)) = d.1.getD j nmd0 := rfl
  rw [e0]
  refine Tot.bind (implGetFile _ (hd.2.1 _ hx) (hin.1.1.1.2 _ hx)) ?_
  rintro r rfl
  have hcg := clS_g (x := d.1.getD j nmd0) hg
  unfold clS at h hcg
  unfold getFR
  cases hf : getF (d.1.getD j nmd0).2 with
  | some f =>
   rw [hf] at h
   exact Tot.no rfl (next _ ⟨h, hg, s0, by omega⟩)
  | none =>
   rw [hf] at h hcg
   refine Tot.yes rfl (Tot.bind (implDrop s.1.1 _ hsi.1.1.1.1) ?_)
   rintro r rfl
   refine Tot.bind (implDrop s.1.2 _ hsi.1.1.2.1) ?_
   rintro r rfl
   rw [del_cut (disk_s1 hg.1), del_cut (disk_s2 hg.1)]
   exact next ((cut s.1.1 (d.1.getD j nmd0).1, cut s.1.2 (d.1.getD j nmd0).1), s.2 + 1) ⟨h, hcg, by dsimp only; omega, by dsimp only; omega⟩
end Go.Proofs.YtgocagaijgcnmaaGreat.Vf
end

section
set_option linter.unusedVariables false
set_option linter.unusedSimpArgs false
namespace Go.Proofs.YtgocagaijgcnmaaGreat.Vf
open Go
def heldR (d : Dsk) : List ByteArray := (d.1.filter fun x => (getF x.2).isSome).map Prod.fst
def hI (d : Dsk) (out : List ByteArray) (x : Nmd) : List ByteArray := bif (lkD d x.1).2 == 0 then wt out x.1 else out
def heldI (d : Dsk) : List ByteArray := d.1.foldl (hI d) []
theorem hI_len (d : Dsk) : ∀ (l : List Nmd) (out : List ByteArray), (l.foldl (hI d) out).length ≤ out.length + l.length
 | [], out => by simp
 | x :: l, out => by
  have h1 := hI_len d l (hI d out x)
  have h2 : (hI d out x).length ≤ out.length + 1 := by
   unfold hI
   cases (lkD d x.1).2 == 0 with
   | false => exact Nat.le_succ _
   | true => exact wt_len
  rw [List.foldl_cons, List.length_cons]
  omega
theorem implHeld (d : Dsk) (hd : DIn d) (hb : DB d) : Tot (fun k => impl_Held k d) (fun r => r = heldI d) := by
 have hl := hd.2.1
 unfold impl_Held
 refine Tot.bind (Q := fun r => r = heldI d) ?_ (by rintro r rfl; exact Tot.pure rfl)
 refine Tot.up (L := fun k i s => impl_Held_l3 k s d.1 (d.1.length : Int) i d.1 d.2) (Q := fun r => r = heldI d) d.1.length (fun j s => (d.1.drop j).foldl (hI d) s = heldI d ∧ s.length ≤ j) ?_ ?_ 0 [] (Nat.zero_le _) ⟨rfl, Nat.le_refl _⟩
 ·rintro s ⟨h, _⟩
  rw [List.drop_length] at h
  simp (disch := omega) only [impl_Held_l3, dF]
  exact Tot.pure h
 ·rintro j s hj ⟨h, hs⟩ next
  rw [drop_cons (d := nmd0) hj, List.foldl_cons] at h
  simp (disch := omega) only [impl_Held_l3, dT, Int.toNat_natCast, w64]
  have e0 : d.1.getD j ((⟨#[]⟩ : ByteArray), ([] : List Int)) = d.1.getD j nmd0 := rfl
  rw [e0]
  refine Tot.bind (implLook hd.1.1.1 hb.1 _) ?_
  rintro r rfl
  unfold hI at h
  cases hc : (lkD d (d.1.getD j nmd0).1).2 == 0 with
  | false =>
   rw [hc] at h
   exact Tot.no rfl (next _ ⟨h, by omega⟩)
  | true =>
   rw [hc] at h
   refine Tot.yes rfl (Tot.bind (implWithTextX s _ (by omega)) ?_)
   rintro r rfl
   have := wt_len (l := s) (s := (d.1.getD j nmd0).1)
   exact next _ ⟨h, by omega⟩
theorem while_all {p : ByteArray → Bool} : ∀ {l : List ByteArray}, (∀ y ∈ l, p y = true) → l.takeWhile p = l
 | [], _ => rfl
 | x :: l, h => by rw [List.takeWhile_cons, if_pos (h x List.mem_cons_self), while_all (fun y hy => h y (List.mem_cons_of_mem _ hy))]
theorem wt_last {l : List ByteArray} {s : ByteArray} (h : ∀ y ∈ l, tlt y s = true) : wt l s = l ++ [s] := by
 have e : tpl l s = l.length := by
  unfold tpl
  rw [while_all h]
 unfold wt
 rw [e, if_neg (by omega), List.take_length, List.drop_length, List.append_nil]
theorem lk_iff {d : Dsk} (hs : SortedN d.1) {x : Nmd} (hx : x ∈ d.1) : ((lkD d x.1).2 == 0) = (getF x.2).isSome := by
 unfold lkD
 rw [gt_of hs hx]
 simp only
 cases getF x.2 <;> rfl
theorem heldI_eq {d : Dsk} (hs : SortedN d.1) : heldI d = heldR d := by
 have key : ∀ (l : List Nmd) (out : List ByteArray), (∀ x ∈ l, x ∈ d.1) → SortedN l → (∀ y ∈ out, ∀ x ∈ l, tlt y x.1 = true) → l.foldl (hI d) out = out ++ (l.filter fun x => (getF x.2).isSome).map Prod.fst := by
  intro l
  induction l with
  | nil => intro out _ _ _; simp
  | cons x l ih =>
   intro out hm hsl ho
   obtain ⟨h1, h2⟩ := List.pairwise_cons.1 hsl
   rw [List.foldl_cons, List.filter_cons]
   have hx := lk_iff hs (hm x List.mem_cons_self)
   unfold hI
   rw [hx]
   cases hf : (getF x.2).isSome with
   | false => exact ih out (fun y hy => hm y (List.mem_cons_of_mem _ hy)) h2 (fun y hy z hz => ho y hy z (List.mem_cons_of_mem _ hz))
   | true =>
    rw [cond_true, wt_last (fun y hy => ho y hy x List.mem_cons_self), if_pos rfl, List.map_cons]
    have := ih (out ++ [x.1]) (fun y hy => hm y (List.mem_cons_of_mem _ hy)) h2 (fun y hy z hz => by
     rcases List.mem_append.1 hy with hy | hy
     ·exact ho y hy z (List.mem_cons_of_mem _ hz)
     ·rw [List.mem_singleton.1 hy]; exact h1 z hz)
    unfold hI at this
    rw [this, List.append_assoc]
    rfl
 unfold heldI heldR
 rw [key d.1 [] (fun _ h => h) hs (fun y hy => by cases hy), List.nil_append]
theorem heldR_mem {d : Dsk} (hd : diskOk d = true) {t : ByteArray} : t ∈ heldR d ↔ ∃ f, old d t = some f := by
 unfold heldR old
 rw [List.mem_map]
 constructor
 ·rintro ⟨x, hx, rfl⟩
  obtain ⟨h1, h2⟩ := List.mem_filter.1 hx
  rw [gt_of (disk_s1 hd) h1, Option.bind_some]
  exact Option.isSome_iff_exists.1 h2
 ·rintro ⟨f, hf⟩
  cases hg : gt d.1 t with
  | none => rw [hg] at hf; cases hf
  | some b =>
   rw [hg, Option.bind_some] at hf
   exact ⟨(t, b), List.mem_filter.2 ⟨gt_mem hg, by simp [hf]⟩, rfl⟩
def hasT (l : List ByteArray) (s : ByteArray) : Bool := l.any fun y => teq y s
theorem hasT_iff {l : List ByteArray} {s : ByteArray} : hasT l s = true ↔ s ∈ l := by
 unfold hasT
 rw [List.any_eq_true]
 constructor
 ·rintro ⟨x, hx, e⟩; rw [← teq_iff.1 e]; exact hx
 ·intro h; exact ⟨s, h, teq_iff.2 rfl⟩
theorem specHasT (l : List ByteArray) (s : ByteArray) (hl : l.length ≤ 1000000000) : Tot (fun k => spec_l10Has k l s) (fun r => r = hasT l s) := by
 unfold spec_l10Has
 refine Tot.bind (Q := fun r => r = bif hasT l s then .inl true else .inr ()) ?_ (by rintro r rfl; cases hasT l s <;> exact Tot.pure rfl)
 refine Tot.up (L := fun k i (_ : Unit) => spec_l10Has_l2 k l s i) (Q := fun r => r = bif hasT l s then .inl true else .inr ()) l.length (fun j _ => hasT (l.drop j) s = hasT l s) ?_ ?_ 0 () (Nat.zero_le _) rfl
 ·intro _ h
  rw [List.drop_length] at h
  simp (disch := omega) only [spec_l10Has_l2, dF, ← h]
  exact Tot.pure rfl
 ·intro j _ hj h next
  rw [drop_cons (d := txt0) hj] at h
  unfold hasT at h
  rw [List.any_cons] at h
  simp (disch := omega) only [spec_l10Has_l2, dT, Int.toNat_natCast, w64]
  refine Tot.ite (fun hc => Tot.pure ?_) (fun hc => next () ?_)
  ·rw [show teq (l.getD j txt0) s = true from hc, Bool.true_or] at h
   unfold hasT
   rw [← h]
   rfl
  ·rw [show teq (l.getD j txt0) s = false from hc, Bool.false_or] at h
   exact h
def insW (l : List ByteArray) : Nat → ByteArray → List ByteArray × Nat
 | 0, _ => (l, 0)
 | k + 1, s => bif tlt s (l.getD k txt0) then insW (l.set (k + 1) (l.getD k txt0)) k s else (l, k + 1)
def insH (l : List ByteArray) (s : ByteArray) : List ByteArray := (insW (l ++ [s]) l.length s).1.set (insW (l ++ [s]) l.length s).2 s
theorem insW_ok : ∀ (k : Nat) (l : List ByteArray) (s : ByteArray), (insW l k s).1.length = l.length ∧ (insW l k s).2 ≤ k ∧ ∀ y ∈ (insW l k s).1, y ∈ l ∨ y = txt0
 | 0, _, _ => ⟨rfl, Nat.le_refl _, fun _ h => .inl h⟩
 | k + 1, l, s => by
  unfold insW
  cases tlt s (l.getD k txt0) with
  | false => exact ⟨rfl, Nat.le_refl _, fun _ h => .inl h⟩
  | true =>
   obtain ⟨h1, h2, h3⟩ := insW_ok k (l.set (k + 1) (l.getD k txt0)) s
   rw [cond_true]
   refine ⟨by rw [h1, List.length_set], by omega, fun y hy => ?_⟩
   rcases h3 y hy with h | h
   ·rcases List.mem_or_eq_of_mem_set h with h | h
    ·exact .inl h
    ·by_cases hk : k < l.length
     ·rw [h]; exact .inl (getD_mem' hk)
     ·rw [h, List.getD_eq_getElem?_getD, List.getElem?_eq_none (by omega)]; exact .inr rfl
   ·exact .inr h
theorem insH_len (l : List ByteArray) (s : ByteArray) : (insH l s).length = l.length + 1 := by
 unfold insH
 rw [List.length_set, (insW_ok _ _ _).1, List.length_append]
 rfl
theorem insH_mem {l : List ByteArray} {s y : ByteArray} (h : y ∈ insH l s) : y ∈ l ∨ y = s ∨ y = txt0 := by
 unfold insH at h
 rcases List.mem_or_eq_of_mem_set h with h | h
 ·rcases (insW_ok _ _ _).2.2 y h with h | h
  ·rcases List.mem_append.1 h with h | h
   ·exact .inl h
   ·exact .inr (.inl (List.mem_singleton.1 h))
  ·exact .inr (.inr h)
 ·exact .inr (.inl h)
def hS1 (l : List Nmd) (j : Nat) (out : List ByteArray) (x : Nmd) : List ByteArray := bif (getF x.2).isSome && (!(hasT out x.1) && (fndI l x.1 == (j : Int))) then insH out x.1 else out
def hS (l : List Nmd) : List Nmd → Nat → List ByteArray → List ByteArray
 | [], _, out => out
 | x :: r, j, out => hS l r (j + 1) (hS1 l j out x)
def heldS (d : Dsk) : List ByteArray := hS d.1 d.1 0 []
theorem hS1_len (l : List Nmd) (j : Nat) (out : List ByteArray) (x : Nmd) : (hS1 l j out x).length ≤ out.length + 1 := by
 unfold hS1
 cases (getF x.2).isSome && (!(hasT out x.1) && (fndI l x.1 == (j : Int))) with
 | false => exact Nat.le_succ _
 | true => rw [cond_true, insH_len]; exact Nat.le_refl _
theorem hS_ok (l : List Nmd) (hl : NShort l) : ∀ (r : List Nmd) (j : Nat) (out : List ByteArray), (∀ x ∈ r, x ∈ l) → (∀ y ∈ out, Short y) → (hS l r j out).length ≤ out.length + r.length ∧ ∀ y ∈ hS l r j out, Short y
 | [], _, out, _, h => ⟨by simp [hS], h⟩
 | x :: r, j, out, hm, h => by
  have h2 := hS1_len l j out x
  obtain ⟨a1, a2⟩ := hS_ok l hl r (j + 1) (hS1 l j out x) (fun y hy => hm y (List.mem_cons_of_mem _ hy)) (fun y hy => by
   unfold hS1 at hy
   cases hc : (getF x.2).isSome && (!(hasT out x.1) && (fndI l x.1 == (j : Int))) with
   | false => rw [hc] at hy; exact h y hy
   | true =>
    rw [hc] at hy
    rcases insH_mem hy with hy | rfl | rfl
    ·exact h y hy
    ·exact hl x (hm x List.mem_cons_self)
    ·unfold Short; decide)
  refine ⟨?_, a2⟩
  show (hS l r (j + 1) (hS1 l j out x)).length ≤ _
  rw [List.length_cons]
  omega
theorem specHeld_l9 (a b : List Nmd) (j : Nat) (hj : j < a.length) (ha : a.length ≤ 100000) : ∀ (k : Nat) (x : List ByteArray), k < x.length → x.length ≤ 100000 →
  Tot (fun n => spec_Held_l9 n x (j : Int) (k : Int) a b) (fun r => r = ((insW x k (a.getD j nmd0).1).1, (j : Int), ((insW x k (a.getD j nmd0).1).2 : Int), a, b)) := by
 intro k
 induction k with
 | zero =>
  intro x hk hx
  refine Tot.succ ?_
  simp (disch := omega) only [spec_Held_l9, dF]
  exact Tot.pure rfl
 | succ k ih =>
  intro x hk hx
  refine Tot.succ ?_
  have e1 : ((k + 1 : Nat) : Int) - 1 = (k : Int) := by omega
  simp (disch := omega) only [spec_Held_l9, dT, w64, e1, Int.toNat_natCast]
  have e0 : a.getD j ((⟨#[]⟩ : ByteArray), ([] : List Int)) = a.getD j nmd0 := rfl
  rw [e0]
  unfold insW
  refine Tot.ite (fun h => ?_) (fun h => ?_)
  ·rw [tgt_eq] at h
   rw [show tlt (a.getD j nmd0).1 (x.getD k txt0) = true from h, cond_true]
   exact ih _ (by rw [List.length_set]; omega) (by rw [List.length_set]; omega)
  ·rw [tgt_eq] at h
   rw [show tlt (a.getD j nmd0).1 (x.getD k txt0) = false from h, cond_false]
   exact Tot.pure rfl
theorem specHeld (d : Dsk) (hd : DIn d) (hb : DB d) : Tot (fun k => spec_Held k d) (fun r => r = heldS d) := by
 have hl := hd.2.1
 unfold spec_Held
 refine Tot.bind (Q := fun r => r = heldS d) ?_ (by rintro r rfl; exact Tot.pure rfl)
 refine Tot.up (L := fun k i s => spec_Held_l3 k s i d.1 d.2) (Q := fun r => r = heldS d) d.1.length (fun j s => hS d.1 (d.1.drop j) j s = heldS d ∧ s.length ≤ j) ?_ ?_ 0 [] (Nat.zero_le _) ⟨rfl, Nat.le_refl _⟩
 ·rintro s ⟨h, _⟩
  rw [List.drop_length] at h
  simp (disch := omega) only [spec_Held_l3, dF]
  exact Tot.pure h
 ·rintro j s hj ⟨h, hs⟩ next
  rw [drop_cons (d := nmd0) hj] at h
  have hlen := hS1_len d.1 j s (d.1.getD j nmd0)
  have nx := next _ ⟨show hS d.1 (d.1.drop (j + 1)) (j + 1) (hS1 d.1 j s (d.1.getD j nmd0)) = heldS d from h, by omega⟩
  have hx := getD_mem' (d := nmd0) hj
  simp (disch := omega) only [spec_Held_l3, dT, Int.toNat_natCast, w64]
  have e0 : d.1.getD j ((⟨#[]⟩ : ByteArray), ([] : List Int)) = d.1.getD j nmd0 := rfl
  rw [e0]
  unfold hS1 at nx
  refine Tot.bind (specGetFile _ (hb.1 _ hx) (hd.1.1.1.2 _ hx)) ?_
  rintro r rfl
  unfold getFR
  cases hf : getF (d.1.getD j nmd0).2 with
  | none =>
   rw [hf] at nx
   exact Tot.yes rfl nx
  | some f =>
   rw [hf] at nx
   refine Tot.no rfl (Tot.bind (specHasT s _ (by omega)) ?_)
   rintro r rfl
   cases hc : hasT s (d.1.getD j nmd0).1 with
   | true =>
    rw [hc] at nx
    exact Tot.yes rfl nx
   | false =>
    rw [hc] at nx
    refine Tot.no rfl (Tot.bind (specAt d.1 _ (by omega)) ?_)
    rintro r rfl
    cases he : fndI d.1 (d.1.getD j nmd0).1 == (j : Int) with
    | false =>
     rw [he] at nx
     exact Tot.yes (by unfold bne; rw [he]; rfl) nx
    | true =>
     rw [he] at nx
     refine Tot.no (by unfold bne; rw [he]; rfl) (Tot.ble (by simp only [List.length_cons, List.length_nil]; omega) ?_)
     have hq := specHeld_l9 d.1 d.2 j hj (by omega) s.length (s ++ [(d.1.getD j nmd0).1]) (by simp) (by simp only [List.length_append, List.length_cons, List.length_nil]; omega)
     refine Tot.bind hq ?_
     rintro r rfl
     obtain ⟨w1, w2, _⟩ := insW_ok s.length (s ++ [(d.1.getD j nmd0).1]) (d.1.getD j nmd0).1
     rw [List.length_append] at w1
     simp only [List.length_cons, List.length_nil] at w1
     simp (disch := omega) only [dT, Int.toNat_natCast, w64]
     exact nx
end Go.Proofs.YtgocagaijgcnmaaGreat.Vf
end
