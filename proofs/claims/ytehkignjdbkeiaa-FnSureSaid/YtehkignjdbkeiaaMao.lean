import Derived.Test.YtehkignjdbkeiaaMan
import Derived.Test.YtehkignjdbkeiaaMal
section
set_option linter.unusedVariables false
set_option linter.unusedSimpArgs false
namespace Go.Proofs.Ytehkignjdbkeiaa.Vf
open Go
def gt (l : List Nmd) (s : ByteArray) : Option (List Int) := match fnd l s with
 | some i => some (l.getD i nmd0).2
 | none => none
theorem gt_cons (y : Nmd) (l : List Nmd) (s : ByteArray) : gt (y :: l) s = if y.1 = s then some y.2 else gt l s := by
 unfold gt
 rw [fnd_cons]
 by_cases h : y.1 = s
 ·rw [if_pos (teq_iff.2 h), if_pos h]; rfl
 ·rw [if_neg (fun c => h (teq_iff.1 c)), if_neg h]
  cases fnd l s <;> rfl
theorem gt_mem {l : List Nmd} {s : ByteArray} {b : List Int} (h : gt l s = some b) : (s, b) ∈ l := by
 induction l with
 | nil => cases h
 | cons y l ih =>
  rw [gt_cons] at h
  by_cases e : y.1 = s
  ·rw [if_pos e] at h
   cases h
   subst e
   exact List.mem_cons_self
  ·rw [if_neg e] at h
   exact List.mem_cons_of_mem _ (ih h)
theorem gt_none {l : List Nmd} {s : ByteArray} : gt l s = none ↔ ∀ x ∈ l, x.1 ≠ s := by
 rw [← fnd_none]
 unfold gt
 cases fnd l s with
 | none => simp
 | some i => simp
theorem gt_of {l : List Nmd} (hs : SortedN l) {x : Nmd} (hx : x ∈ l) : gt l x.1 = some x.2 := by
 cases h : gt l x.1 with
 | none => exact absurd rfl (gt_none.1 h x hx)
 | some b => rw [show x = (x.1, b) from is_uniq hs hx (gt_mem h) rfl]
theorem gt_iff {l : List Nmd} (hs : SortedN l) {s : ByteArray} {b : List Int} : gt l s = some b ↔ (s, b) ∈ l := ⟨gt_mem, fun h => gt_of hs h⟩
theorem gt_isSome {l : List Nmd} {s : ByteArray} : (gt l s).isSome = (fnd l s).isSome := by
 unfold gt
 cases fnd l s <;> rfl
theorem gt_cut {l : List Nmd} (hs : SortedN l) {s t : ByteArray} : gt (cut l s) t = if s = t then none else gt l t := by
 by_cases h : s = t
 ·subst h
  rw [if_pos rfl, gt_none]
  exact cut_no
 ·rw [if_neg h]
  cases hg : gt l t with
  | none => exact gt_none.2 fun x hx => gt_none.1 hg x (cut_sub.subset hx)
  | some b =>
   rw [gt_iff (cut_sorted hs)]
   refine List.mem_filter.2 ⟨gt_mem hg, ?_⟩
   cases ht : teq t s with
   | false => simp [ht]
   | true => exact absurd (teq_iff.1 ht).symm h
theorem gt_ins {l : List Nmd} (hs : SortedN l) {x : Nmd} (hn : ∀ y ∈ l, y.1 ≠ x.1) {t : ByteArray} : gt (ins l x) t = if x.1 = t then some x.2 else gt l t := by
 have hi := ins_sorted hs hn
 by_cases h : x.1 = t
 ·subst h
  rw [if_pos rfl, gt_iff hi]
  exact ins_mem.2 (.inl rfl)
 ·rw [if_neg h]
  cases hg : gt l t with
  | none =>
   refine gt_none.2 fun y hy => ?_
   rcases ins_mem.1 hy with rfl | hy
   ·exact h
   ·exact gt_none.1 hg y hy
  | some b =>
   rw [gt_iff hi]
   exact ins_mem.2 (.inr (gt_mem hg))
theorem gt_ext : ∀ {l m : List Nmd}, SortedN l → SortedN m → (∀ s, gt l s = gt m s) → l = m := by
 have key : ∀ {l m : List Nmd}, SortedN l → SortedN m → (∀ s, gt l s = gt m s) → ∀ x ∈ l, x ∈ m := fun hl hm h x hx => by
  have := h x.1
  rw [gt_of hl hx] at this
  exact gt_mem this.symm
 intro l m hl hm h
 have h1 : ∀ x, x ∈ l ↔ x ∈ m := fun x => ⟨key hl hm h x, key hm hl (fun s => (h s).symm) x⟩
 clear h key
 induction l generalizing m with
 | nil =>
  cases m with
  | nil => rfl
  | cons y m => exact absurd ((h1 y).2 (by simp)) (by simp)
 | cons x l ih =>
  cases m with
  | nil => exact absurd ((h1 x).1 (by simp)) (by simp)
  | cons y m =>
   obtain ⟨a1, a2⟩ := List.pairwise_cons.1 hl
   obtain ⟨b1, b2⟩ := List.pairwise_cons.1 hm
   have e : x = y := by
    rcases List.mem_cons.1 ((h1 x).1 (by simp)) with h | h
    ·exact h
    ·rcases List.mem_cons.1 ((h1 y).2 (by simp)) with h' | h'
     ·exact h'.symm
     ·have c1 := a1 y h'
      rw [tlt_asymm (b1 x h)] at c1
      cases c1
   subst e
   congr 1
   refine ih a2 b2 fun z => ⟨fun hz => ?_, fun hz => ?_⟩
   ·rcases List.mem_cons.1 ((h1 z).1 (List.mem_cons_of_mem _ hz)) with rfl | h
    ·have c := a1 z hz
     rw [tlt_irrefl] at c
     cases c
    ·exact h
   ·rcases List.mem_cons.1 ((h1 z).2 (List.mem_cons_of_mem _ hz)) with rfl | h
    ·have c := b1 z hz
     rw [tlt_irrefl] at c
     cases c
    ·exact h
theorem rdN_gt (l : List Nmd) (s : ByteArray) : rdN l s = match gt l s with | some b => (b, true) | none => ([], false) := by
 unfold rdN gt
 cases fnd l s <;> rfl
theorem name_short {s : ByteArray} (h : nameOk s = true) : Short s := by
 have := (nameOk_size h).2
 unfold Short
 omega
theorem disk_iff {d : Dsk} : diskOk d = true ↔ namedsOk d.1 = true ∧ namedsOk d.2 = true := by
 unfold diskOk
 rw [Bool.and_eq_true]
theorem disk_s1 {d : Dsk} (h : diskOk d = true) : SortedN d.1 := (namedsOk_iff.1 (disk_iff.1 h).1).1
theorem disk_s2 {d : Dsk} (h : diskOk d = true) : SortedN d.2 := (namedsOk_iff.1 (disk_iff.1 h).2).1
def LB (l : List Nmd) : Prop := ∀ x ∈ l, BytesOk x.2
def DB (d : Dsk) : Prop := LB d.1 ∧ LB d.2
theorem LB.cut {l : List Nmd} (h : LB l) (s : ByteArray) : LB (cut l s) := fun x hx => h x (cut_sub.subset hx)
theorem LB.ins {l : List Nmd} (h : LB l) {x : Nmd} (hx : BytesOk x.2) : LB (ins l x) := fun y hy => by
 rcases ins_mem.1 hy with rfl | hy
 ·exact hx
 ·exact h y hy
theorem LB.gt {l : List Nmd} (h : LB l) {s : ByteArray} {b : List Int} (hg : gt l s = some b) : BytesOk b := h _ (gt_mem hg)
theorem nil_bytes : BytesOk [] := fun x hx => by cases hx
def wr (l : List Nmd) (s : ByteArray) (b : List Int) : List Nmd := ins (cut l s) (s, b)
def sy (d : Dsk) (s : ByteArray) : List Nmd := match gt d.1 s with
 | some b => wr d.2 s b
 | none => cut d.2 s
def wrD (d : Dsk) (s : ByteArray) (b : List Int) : Dsk × Bool := bif decide (b.length ≤ 400) && decide ((wr d.1 s b).length ≤ 60) then ((wr d.1 s b, d.2), true) else (d, false)
def syD (d : Dsk) (s : ByteArray) : Dsk × Bool := bif decide ((sy d s).length ≤ 60) then ((d.1, sy d s), true) else (d, false)
def rmD (d : Dsk) (s : ByteArray) : Dsk × Bool := bif (gt d.1 s).isSome then ((cut d.1 s, d.2), true) else (d, false)
section
variable {d : Dsk} {s : ByteArray} {b : List Int}
theorem wrI_wr (hd : diskOk d = true) : wrI d s b = wr d.1 s b := by
 unfold wrI wr
 rw [del_cut (disk_s1 hd)]
theorem syI_sy (hd : diskOk d = true) : syI d s = sy d s := by
 unfold syI sy gt wr
 rw [del_cut (disk_s2 hd)]
 cases fnd d.1 s <;> rfl
theorem implWriteR (hd : diskOk d = true) (hs : nameOk s = true) (hb : b.length ≤ 1000000000000) : Tot (fun k => impl_WriteName k d s b) (fun r => r = wrD d s b) := by
 refine (implWrite d s b (din_ok hd) (name_short hs) hb).mono ?_
 rintro r rfl
 rw [hd, hs, wrI_wr hd]
 rfl
theorem specWriteR (hd : diskOk d = true) (hs : nameOk s = true) (hb : b.length ≤ 1000000000000) : Tot (fun k => spec_WriteName k d s b) (fun r => r = wrD d s b) := by
 refine (specWrite d s b (din_ok hd) (name_short hs) hb).mono ?_
 rintro r rfl
 obtain ⟨h1, h2⟩ := write_ok (b := b) hd hs
 rw [hd, hs, h1, h2, wrI_wr hd]
 rfl
theorem implSyncR (hd : diskOk d = true) (hs : nameOk s = true) : Tot (fun k => impl_SyncName k d s) (fun r => r = syD d s) := by
 refine (implSync d s (din_ok hd) (name_short hs)).mono ?_
 rintro r rfl
 rw [hd, hs, syI_sy hd]
 rfl
theorem specSyncR (hd : diskOk d = true) (hs : nameOk s = true) : Tot (fun k => spec_SyncName k d s) (fun r => r = syD d s) := by
 refine (specSync d s (din_ok hd) (name_short hs)).mono ?_
 rintro r rfl
 rw [hd, hs, syS_syI hd, sync_ok hd hs, syI_sy hd]
 rfl
theorem wr_ok (hd : diskOk d = true) (hs : nameOk s = true) (hb : b.length ≤ 400) (hl : (wr d.1 s b).length ≤ 60) : diskOk (wr d.1 s b, d.2) = true := by
 have := (write_ok (b := b) hd hs).2
 rw [wrI_wr hd, decide_eq_true hb, decide_eq_true hl] at this
 exact this
theorem sy_ok (hd : diskOk d = true) (hs : nameOk s = true) (hl : (sy d s).length ≤ 60) : diskOk (d.1, sy d s) = true := by
 have := sync_ok hd hs
 rw [syI_sy hd, decide_eq_true hl] at this
 exact this
theorem wrD_ok (hd : diskOk d = true) (hs : nameOk s = true) : diskOk (wrD d s b).1 = true := by
 unfold wrD
 cases hc : decide (b.length ≤ 400) && decide ((wr d.1 s b).length ≤ 60) with
 | false => exact hd
 | true =>
  rw [Bool.and_eq_true, decide_eq_true_iff, decide_eq_true_iff] at hc
  exact wr_ok hd hs hc.1 hc.2
theorem syD_ok (hd : diskOk d = true) (hs : nameOk s = true) : diskOk (syD d s).1 = true := by
 unfold syD
 cases hc : decide ((sy d s).length ≤ 60) with
 | false => exact hd
 | true => exact sy_ok hd hs (of_decide_eq_true hc)
theorem rmD_ok (hd : diskOk d = true) : diskOk (rmD d s).1 = true := by
 unfold rmD
 cases (gt d.1 s).isSome with
 | false => exact hd
 | true => exact disk_iff.2 ⟨cut_ok (disk_iff.1 hd).1, (disk_iff.1 hd).2⟩
theorem gt_ok (hd : diskOk d = true) (h : (gt d.1 s).isSome = true) : nameOk s = true := by
 cases hg : gt d.1 s with
 | none => rw [hg] at h; cases h
 | some b => exact (nOk_iff.1 ((namedsOk_iff.1 (disk_iff.1 hd).1).2.1 _ (gt_mem hg))).1
theorem specRemoveR (hd : diskOk d = true) (hs : Short s) : Tot (fun k => spec_RemoveName k d s) (fun r => r = rmD d s) := by
 refine (specRemove d s (din_ok hd).1 hs).mono ?_
 rintro r rfl
 unfold rmD
 rw [hd, ← gt_isSome]
 cases h : (gt d.1 s).isSome with
 | false => rfl
 | true =>
  have h1 : diskOk (cut d.1 s, d.2) = true := by
   have := rmD_ok (s := s) hd
   unfold rmD at this
   rw [h] at this
   exact this
  rw [gt_ok hd h, h1]
  rfl
end
def lkD (d : Dsk) (s : ByteArray) : Fil × Int := match gt d.1 s with
 | none => (fil0, 1)
 | some b => match getF b with
  | some f => (f, 0)
  | none => (fil0, 2)
theorem gt_few {l : List Nmd} {s : ByteArray} {b : List Int} (h : NFew l) (hg : gt l s = some b) : b.length ≤ 1000000000000 := h.2 _ (gt_mem hg)
theorem implLook {d : Dsk} (hf : NFew d.1) (hb : LB d.1) (s : ByteArray) : Tot (fun k => impl_Look k d s) (fun r => r = lkD d s) := by
 unfold impl_Look lkD
 refine Tot.bind (implRead d s hf) ?_
 rintro r rfl
 rw [rdN_gt]
 cases hg : gt d.1 s with
 | none => exact Tot.yes rfl (Tot.pure rfl)
 | some b =>
  refine Tot.no rfl (Tot.bind (implGetFile b (hb.gt hg) (gt_few hf hg)) ?_)
  rintro r rfl
  unfold getFR
  dsimp only
  cases getF b with
  | none => exact Tot.yes rfl (Tot.pure rfl)
  | some f => exact Tot.no rfl (Tot.pure rfl)
theorem specLook {d : Dsk} (hf : NFew d.1) (hb : LB d.1) (s : ByteArray) : Tot (fun k => spec_Look k d s) (fun r => r = lkD d s) := by
 unfold spec_Look lkD
 refine Tot.bind (specRead d s hf) ?_
 rintro r rfl
 rw [rdN_gt]
 cases hg : gt d.1 s with
 | none => exact Tot.yes rfl (Tot.pure rfl)
 | some b =>
  refine Tot.no rfl (Tot.bind (specGetFile b (hb.gt hg) (gt_few hf hg)) ?_)
  rintro r rfl
  unfold getFR
  dsimp only
  cases getF b with
  | none => exact Tot.yes rfl (Tot.pure rfl)
  | some f => exact Tot.no rfl (Tot.pure rfl)
theorem look_good {d : Dsk} {s : ByteArray} {f : Fil} : lkD d s = (f, 0) ↔ ∃ b, gt d.1 s = some b ∧ getF b = some f := by
 unfold lkD
 cases gt d.1 s with
 | none => simp
 | some b => cases h : getF b <;> simp [h]
def old (d : Dsk) (s : ByteArray) : Option Fil := (gt d.1 s).bind getF
def kp1 (d : Dsk) (s : ByteArray) (f : Fil) : Option (Dsk × Int) :=
 let w := bif (wrD d s (putF f)).2 then some ((wrD d s (putF f)).1, (0 : Int)) else none
 match old d s with
 | some o => bif sle o.1 f.1 then w else some (d, 1)
 | none => w
def kp2 (d : Dsk) (s : ByteArray) (sure : Bool) (x : Dsk × Int) : Dsk × Int := bif sure then (bif (syD x.1 s).2 then ((syD x.1 s).1, x.2) else (d, 3)) else x
def keepR (d : Dsk) (s : ByteArray) (f : Fil) (sure : Bool) : Dsk × Int := match kp1 d s f with
 | some x => kp2 d s sure x
 | none => (d, 3)
def keep (d : Dsk) (s : ByteArray) (f : Fil) (sure : Bool) : Dsk × Int := bif diskOk d && (nameOk s && fileOk f) then keepR d s f sure else (d, 2)
theorem getF_nil : getF [] = none := by
 cases h : getF [] with
 | none => rfl
 | some f =>
  obtain ⟨h1, _, h3⟩ := getF_ok h
  unfold putF at h3
  rw [h1] at h3
  simp [c4] at h3
theorem kp1_ok {d : Dsk} {s : ByteArray} {f : Fil} (hd : diskOk d = true) (hs : nameOk s = true) {x : Dsk × Int} (h : kp1 d s f = some x) : diskOk x.1 = true := by
 have hw : ∀ x, (bif (wrD d s (putF f)).2 then some ((wrD d s (putF f)).1, (0 : Int)) else none) = some x → diskOk x.1 = true := by
  intro x h
  cases hc : (wrD d s (putF f)).2 with
  | false => rw [hc] at h; cases h
  | true => rw [hc] at h; cases h; exact wrD_ok hd hs
 unfold kp1 at h
 simp only at h
 split at h
 ·rename_i o _
  cases hc : sle o.1 f.1 with
  | false => rw [hc] at h; cases h; exact hd
  | true => rw [hc] at h; exact hw _ h
 ·exact hw _ h
theorem sync3 {d : Dsk} {s : ByteArray} (hd : diskOk d = true) (hs : nameOk s = true) {x : Dsk} {c : Int} (hx : diskOk x = true) (sure : Bool) :
  Tot (fun k => cond sure ((impl_SyncName k x s).bind fun r => cond (!r.2) ((impl_copyDisk k d).bind fun q => some (q, 3)) (some (r.1, c))) (some (x, c))) (fun r => r = kp2 d s sure (x, c)) := by
 unfold kp2
 cases sure with
 | false => exact Tot.pure rfl
 | true =>
  refine Tot.yes rfl (Tot.bind (implSyncR hx hs) ?_)
  rintro r rfl
  cases h : (syD x s).2 with
  | true => exact Tot.no rfl (Tot.pure rfl)
  | false =>
   refine Tot.yes rfl (Tot.bind (implCopyDisk d (din_ok hd).1.1) ?_)
   rintro q rfl
   exact Tot.pure rfl
theorem implKeep (d : Dsk) (s : ByteArray) (f : Fil) (sure : Bool) (hd : DIn d) (hb : LB d.1) (hs : Short s) : Tot (fun k => impl_Keep k d s f sure) (fun r => r = keep d s f sure) := by
 have bad : Tot (fun k => (impl_copyDisk k d).bind fun r2 => some (r2, (2 : Int))) (fun r => r = (d, 2)) := by
  refine Tot.bind (implCopyDisk d hd.1.1) ?_
  rintro q rfl
  exact Tot.pure rfl
 unfold impl_Keep keep
 refine Tot.bind (implDisk d hd.1.1 hd.1.2) ?_
 rintro r rfl
 cases h1 : diskOk d with
 | false => exact Tot.yes rfl bad
 | true =>
  refine Tot.no rfl (Tot.bind (implName s hs) ?_)
  rintro r rfl
  cases h2 : nameOk s with
  | false => exact Tot.yes rfl bad
  | true =>
   refine Tot.no rfl (Tot.bind (Tot.of (Q := fun b => b = fileOk f) (implFile f) rfl) ?_)
   rintro r rfl
   cases h3 : fileOk f with
   | false => exact Tot.yes rfl bad
   | true =>
    refine Tot.no rfl (Tot.bind (implCopyDisk d hd.1.1) ?_)
    rintro d rfl
    refine Tot.bind (implRead d s hd.1.1.1) ?_
    rintro r rfl
    have hlen := putF_len f
    have w : ∀ {o : Option Fil}, (kp1 d s f = bif (wrD d s (putF f)).2 then some ((wrD d s (putF f)).1, (0 : Int)) else none) → Tot (fun k => (impl_PutFile k f).bind fun r13 => (impl_WriteName k d s r13).bind fun r14 => cond (!r14.2) ((impl_copyDisk k d).bind fun r15 => some (r15, (3 : Int))) (cond sure ((impl_SyncName k r14.1 s).bind fun r16 => cond (!r16.2) ((impl_copyDisk k d).bind fun r17 => some (r17, 3)) (some (r16.1, 0))) (some (r14.1, 0)))) (fun r => r = keepR d s f sure) := by
     intro _ e
     refine Tot.bind (implPutFile f) ?_
     rintro r rfl
     refine Tot.bind (implWriteR h1 h2 (by omega)) ?_
     rintro r rfl
     unfold keepR
     rw [e]
     cases h4 : (wrD d s (putF f)).2 with
     | false =>
      refine Tot.yes rfl (Tot.bind (implCopyDisk d hd.1.1) ?_)
      rintro q rfl
      exact Tot.pure rfl
     | true => exact Tot.no rfl (sync3 h1 h2 (wrD_ok h1 h2) sure)
    rw [rdN_gt]
    have eo : old d s = (gt d.1 s).bind getF := rfl
    cases hg : gt d.1 s with
    | none =>
     rw [hg] at eo
     refine Tot.bind (implGetFile [] nil_bytes (by simp)) ?_
     rintro r rfl
     unfold getFR
     rw [getF_nil]
     refine Tot.no rfl (w (o := none) ?_)
     unfold kp1
     rw [eo]
     rfl
    | some b =>
     rw [hg] at eo
     have eo : old d s = getF b := eo
     refine Tot.bind (implGetFile b (hb.gt hg) (gt_few hd.1.1.1 hg)) ?_
     rintro r rfl
     unfold getFR
     cases ho : getF b with
     | none =>
      refine Tot.no rfl (w (o := none) ?_)
      unfold kp1
      rw [eo, ho]
     | some o =>
      rw [ho] at eo
      refine Tot.yes rfl (Tot.bind (Tot.of (Q := fun b => b = sle o.1 f.1) (implNewer f o) rfl) ?_)
      rintro r rfl
      cases hl : sle o.1 f.1 with
      | true =>
       refine Tot.no rfl (w (o := none) ?_)
       unfold kp1
       simp only [eo, hl, cond_true]
      | false =>
       have e1 : keepR d s f sure = kp2 d s sure (d, 1) := by
        unfold keepR kp1
        simp only [eo, hl, cond_false]
       refine Tot.yes rfl ?_
       show Tot _ (fun r => r = keepR d s f sure)
       rw [e1]
       exact sync3 h1 h2 h1 sure
theorem sync4 {d : Dsk} {s : ByteArray} (hd : diskOk d = true) (hs : nameOk s = true) {x : Dsk} {c : Int} (hx : diskOk x = true) :
  Tot (fun k => (spec_SyncName k x s).bind fun r => cond (!r.2) ((spec_l9Copy k d).bind fun q => some (q, 3)) (some (r.1, c))) (fun r => r = kp2 d s true (x, c)) := by
 unfold kp2
 refine Tot.bind (specSyncR hx hs) ?_
 rintro r rfl
 cases h : (syD x s).2 with
 | true => exact Tot.no rfl (Tot.pure rfl)
 | false =>
  refine Tot.yes rfl (Tot.bind (specCopy d (din_ok hd).1.1) ?_)
  rintro q rfl
  exact Tot.pure rfl
theorem specKeep (d : Dsk) (s : ByteArray) (f : Fil) (sure : Bool) (hd : DIn d) (hb : LB d.1) (hs : Short s) : Tot (fun k => spec_Keep k d s f sure) (fun r => r = keep d s f sure) := by
 have bad : Tot (fun k => (spec_l9Copy k d).bind fun r2 => some (r2, (2 : Int))) (fun r => r = (d, 2)) := by
  refine Tot.bind (specCopy d hd.1.1) ?_
  rintro q rfl
  exact Tot.pure rfl
 unfold spec_Keep keep
 refine Tot.bind (specDisk d hd.1.1 hd.1.2) ?_
 rintro r rfl
 cases h1 : diskOk d with
 | false => exact Tot.yes rfl bad
 | true =>
  refine Tot.no rfl (Tot.bind (specName s hs) ?_)
  rintro r rfl
  cases h2 : nameOk s with
  | false => exact Tot.yes rfl bad
  | true =>
   refine Tot.no rfl (Tot.bind (Tot.of (Q := fun b => b = fileOk f) (specFile f) rfl) ?_)
   rintro r rfl
   cases h3 : fileOk f with
   | false => exact Tot.yes rfl bad
   | true =>
    refine Tot.no rfl (Tot.bind (specLook hd.1.1.1 hb s) ?_)
    rintro r rfl
    have hlen := putF_len f
    have w : (kp1 d s f = bif (wrD d s (putF f)).2 then some ((wrD d s (putF f)).1, (0 : Int)) else none) → Tot (fun k => (spec_PutFile k f).bind fun r12 => (spec_WriteName k d s r12).bind fun r13 => cond r13.2 (cond sure ((spec_SyncName k r13.1 s).bind fun r14 => cond (!r14.2) ((spec_l9Copy k d).bind fun r15 => some (r15, (3 : Int))) (some (r14.1, 0))) (cond (!r13.2) ((spec_l9Copy k d).bind fun r16 => some (r16, 3)) (some (r13.1, 0)))) (cond (!r13.2) ((spec_l9Copy k d).bind fun r17 => some (r17, 3)) (some (r13.1, 0)))) (fun r => r = keepR d s f sure) := by
     intro e
     refine Tot.bind (specPutFile f) ?_
     rintro r rfl
     refine Tot.bind (specWriteR h1 h2 (by omega)) ?_
     rintro r rfl
     unfold keepR
     rw [e]
     cases h4 : (wrD d s (putF f)).2 with
     | false =>
      refine Tot.no rfl (Tot.yes rfl (Tot.bind (specCopy d hd.1.1) ?_))
      rintro q rfl
      exact Tot.pure rfl
     | true =>
      refine Tot.yes rfl ?_
      cases sure with
      | true => exact Tot.yes rfl (sync4 h1 h2 (wrD_ok h1 h2))
      | false => exact Tot.no rfl (Tot.no rfl (Tot.pure rfl))
    have eo : old d s = (gt d.1 s).bind getF := rfl
    unfold lkD
    cases hg : gt d.1 s with
    | none =>
     rw [hg] at eo
     refine Tot.no rfl (w ?_)
     unfold kp1
     rw [eo]
     rfl
    | some b =>
     rw [hg] at eo
     have eo : old d s = getF b := eo
     simp only
     cases ho : getF b with
     | none =>
      refine Tot.no rfl (w ?_)
      unfold kp1
      rw [eo, ho]
     | some o =>
      rw [ho] at eo
      refine Tot.yes rfl (Tot.bind (Tot.of (Q := fun b => b = sle o.1 f.1) (specNewer f o) rfl) ?_)
      rintro r rfl
      cases hl : sle o.1 f.1 with
      | true =>
       refine Tot.no rfl (w ?_)
       unfold kp1
       simp only [eo, hl, cond_true]
      | false =>
       have e1 : keepR d s f sure = kp2 d s sure (d, 1) := by
        unfold keepR kp1
        simp only [eo, hl, cond_false]
       refine Tot.yes rfl ?_
       show Tot _ (fun r => r = keepR d s f sure)
       rw [e1]
       refine Tot.bind (specCopy d hd.1.1) ?_
       rintro q rfl
       cases sure with
       | true => exact Tot.yes rfl (sync4 h1 h2 h1)
       | false => exact Tot.no rfl (Tot.pure rfl)
end Go.Proofs.Ytehkignjdbkeiaa.Vf
end

section
set_option linter.unusedVariables false
set_option linter.unusedSimpArgs false
namespace Go.Proofs.Ytehkignjdbkeiaa.Vf
open Go
def DG (d : Dsk) : Prop := diskOk d = true ∧ DB d
theorem gt_len {d : Dsk} {s : ByteArray} {b : List Int} (hd : diskOk d = true) (h : gt d.1 s = some b) : b.length ≤ 400 := (nOk_iff.1 ((namedsOk_iff.1 (disk_iff.1 hd).1).2.1 _ (gt_mem h))).2
theorem wrD_db {d : Dsk} {s : ByteArray} {b : List Int} (h : DB d) (hb : BytesOk b) : DB (wrD d s b).1 := by
 unfold wrD
 cases decide (b.length ≤ 400) && decide ((wr d.1 s b).length ≤ 60) with
 | false => exact h
 | true => exact ⟨(h.1.cut s).ins hb, h.2⟩
theorem sy_lb {d : Dsk} {s : ByteArray} (h : DB d) : LB (sy d s) := by
 unfold sy
 cases hg : gt d.1 s with
 | none => exact h.2.cut s
 | some b => exact (h.2.cut s).ins (h.1.gt hg)
theorem syD_db {d : Dsk} {s : ByteArray} (h : DB d) : DB (syD d s).1 := by
 unfold syD
 cases decide ((sy d s).length ≤ 60) with
 | false => exact h
 | true => exact ⟨h.1, sy_lb h⟩
theorem rmD_db {d : Dsk} {s : ByteArray} (h : DB d) : DB (rmD d s).1 := by
 unfold rmD
 cases (gt d.1 s).isSome with
 | false => exact h
 | true => exact ⟨h.1.cut s, h.2⟩
theorem wrD_g {d : Dsk} {s : ByteArray} {b : List Int} (h : DG d) (hs : nameOk s = true) (hb : BytesOk b) : DG (wrD d s b).1 := ⟨wrD_ok h.1 hs, wrD_db h.2 hb⟩
theorem syD_g {d : Dsk} {s : ByteArray} (h : DG d) (hs : nameOk s = true) : DG (syD d s).1 := ⟨syD_ok h.1 hs, syD_db h.2⟩
theorem rmD_g {d : Dsk} {s : ByteArray} (h : DG d) : DG (rmD d s).1 := ⟨rmD_ok h.1, rmD_db h.2⟩
theorem kp1_g {d : Dsk} {s : ByteArray} {f : Fil} (hd : DG d) (hs : nameOk s = true) {x : Dsk × Int} (h : kp1 d s f = some x) : DG x.1 := by
 refine ⟨kp1_ok hd.1 hs h, ?_⟩
 have hw : ∀ x, (bif (wrD d s (putF f)).2 then some ((wrD d s (putF f)).1, (0 : Int)) else none) = some x → DB x.1 := by
  intro x h
  cases hc : (wrD d s (putF f)).2 with
  | false => rw [hc] at h; cases h
  | true => rw [hc] at h; cases h; exact wrD_db hd.2 (putF_bytes f)
 unfold kp1 at h
 simp only at h
 split at h
 ·rename_i o _
  cases hc : sle o.1 f.1 with
  | false => rw [hc] at h; cases h; exact hd.2
  | true => rw [hc] at h; exact hw _ h
 ·exact hw _ h
theorem kp2_g {d : Dsk} {s : ByteArray} {sure : Bool} (hd : DG d) (hs : nameOk s = true) {x : Dsk × Int} (hx : DG x.1) : DG (kp2 d s sure x).1 := by
 unfold kp2
 cases sure with
 | false => exact hx
 | true =>
  rw [cond_true]
  cases (syD x.1 s).2 with
  | false => exact hd
  | true => exact syD_g hx hs
theorem keepR_g {d : Dsk} {s : ByteArray} {f : Fil} {sure : Bool} (hd : DG d) (hs : nameOk s = true) : DG (keepR d s f sure).1 := by
 unfold keepR
 cases h : kp1 d s f with
 | none => exact hd
 | some x => exact kp2_g hd hs (kp1_g hd hs h)
theorem keep_g {d : Dsk} {s : ByteArray} {f : Fil} {sure : Bool} (hd : DG d) : DG (keep d s f sure).1 := by
 unfold keep
 cases h : nameOk s with
 | false => rw [hd.1]; exact hd
 | true =>
  cases fileOk f with
  | false => rw [hd.1]; exact hd
  | true => rw [hd.1]; exact keepR_g hd h
def flipB (b : Int) (j : Nat) : Int := ((BitVec.ofInt 8 b ^^^ BitVec.twoPow 8 j).toNat : Int)
theorem flipB_ok (b : Int) (j : Nat) : 0 ≤ flipB b j ∧ flipB b j ≤ 255 := by
 unfold flipB
 have := (BitVec.ofInt 8 b ^^^ BitVec.twoPow 8 j).isLt
 omega
theorem flip_eq (b : Int) : ∀ j, j < 8 → IntKind.wrap .u8 ((BitVec.ofInt (IntKind.bits .u8) b ^^^ BitVec.ofInt (IntKind.bits .u8) (IntKind.wrap .u8 ((1 : Int) * 2 ^ (min j (IntKind.bits .u8))))).toNat) = flipB b j := by
 intro j hj
 have h1 : ∀ j, j < 8 → BitVec.ofInt 8 (IntKind.wrap .u8 ((1 : Int) * 2 ^ (min j 8))) = BitVec.twoPow 8 j := by decide
 show IntKind.wrap .u8 (((BitVec.ofInt 8 b ^^^ BitVec.ofInt 8 (IntKind.wrap .u8 ((1 : Int) * 2 ^ (min j 8)))).toNat : Nat) : Int) = _
 rw [h1 j hj]
 have := (BitVec.ofInt 8 b ^^^ BitVec.twoPow 8 j).isLt
 rw [u8_low _ (by omega)]
 rfl
def flipL (l : List Int) (n : Nat) : List Int := l.set (n / 8) (flipB (l.getD (n / 8) 0) (n % 8))
theorem flipL_len (l : List Int) (n : Nat) : (flipL l n).length = l.length := by unfold flipL; rw [List.length_set]
theorem flipL_bytes {l : List Int} (h : BytesOk l) (n : Nat) : BytesOk (flipL l n) := fun x hx => by
 rcases List.mem_or_eq_of_mem_set hx with h' | rfl
 ·exact h x h'
 ·exact flipB_ok _ _
def rotR (d : Dsk) (s : ByteArray) (n : Int) : Dsk × Bool := match gt d.1 s with
 | none => (d, false)
 | some b => bif inR n 0 (8 * (b.length : Int) - 1) then ((wr d.1 s (flipL b n.toNat), bif decide (gt d.2 s = some b) then wr d.2 s (flipL b n.toNat) else d.2), true) else (d, false)
theorem set_wr {l : List Nmd} (hs : SortedN l) {s : ByteArray} {i : Nat} (h : fnd l s = some i) (b : List Int) : l.set i (s, b) = wr l s b := by
 obtain ⟨hi, hn⟩ := fnd_lt h
 have hm : (l.set i (s, b)).map Prod.fst = l.map Prod.fst := by
  rw [List.map_set]
  apply List.ext_getElem?
  intro j
  by_cases hj : i = j
  ·subst hj
   rw [List.getElem?_set_self (by rw [List.length_map]; exact hi), List.getElem?_map, List.getElem?_eq_getElem hi]
   rw [List.getD_eq_getElem?_getD, List.getElem?_eq_getElem hi] at hn
   exact congrArg some hn.symm
  ·rw [List.getElem?_set_ne hj]
 have h1 : SortedN (l.set i (s, b)) := by
  have e : ∀ m : List Nmd, SortedN m ↔ (m.map Prod.fst).Pairwise (fun a b => tlt a b = true) := fun m => by
   unfold SortedN
   rw [List.pairwise_map]
  rw [e, hm, ← e]
  exact hs
 refine gt_ext h1 (ins_sorted (cut_sorted hs) cut_no) fun t => ?_
 have h2 := gt_ins (x := (s, b)) (t := t) (cut_sorted hs (s := s)) cut_no
 unfold wr
 rw [h2]
 by_cases ht : s = t
 ·subst ht
  rw [if_pos rfl, gt_iff h1]
  exact List.mem_set hi _
 ·rw [if_neg ht, gt_cut hs, if_neg ht]
  cases hg : gt l t with
  | none =>
   refine gt_none.2 fun x hx => ?_
   rcases List.mem_or_eq_of_mem_set hx with h' | rfl
   ·exact gt_none.1 hg x h'
   ·exact ht
  | some c =>
   rw [gt_iff h1]
   obtain ⟨j, hj, e⟩ := List.mem_iff_getElem.1 (gt_mem hg)
   have hij : i ≠ j := by
    rintro rfl
    rw [List.getD_eq_getElem?_getD, List.getElem?_eq_getElem hi, Option.getD_some, e] at hn
    exact ht hn.symm
   refine List.mem_iff_getElem.2 ⟨j, by rw [List.length_set]; exact hj, ?_⟩
   rw [List.getElem_set_ne hij]
   exact e
theorem wr_len_eq {l : List Nmd} {s : ByteArray} {b : List Int} (hs : SortedN l) (h : (gt l s).isSome = true) : (wr l s b).length = l.length := by
 rw [gt_isSome] at h
 obtain ⟨i, hi⟩ := Option.isSome_iff_exists.1 h
 rw [← set_wr hs hi, List.length_set]
theorem rotR_g {d : Dsk} {s : ByteArray} {n : Int} (h : DG d) : DG (rotR d s n).1 := by
 unfold rotR
 cases hg : gt d.1 s with
 | none => exact h
 | some b =>
  simp only
  cases inR n 0 (8 * (b.length : Int) - 1) with
  | false => exact h
  | true =>
   have hn := gt_ok h.1 (s := s) (by rw [hg]; rfl)
   have hb := gt_len h.1 hg
   have hbb := flipL_bytes (h.2.1.gt hg) n.toNat
   have l1 := wr_len_eq (b := flipL b n.toNat) (disk_s1 h.1) (s := s) (by rw [hg]; rfl)
   have q1 := wr_ok h.1 hn (b := flipL b n.toNat) (by rw [flipL_len]; exact hb) (by rw [l1]; exact (namedsOk_iff.1 (disk_iff.1 h.1).1).2.2)
   rw [cond_true]
   cases hc : decide (gt d.2 s = some b) with
   | false => exact ⟨q1, (h.2.1.cut s).ins hbb, h.2.2⟩
   | true =>
    have hg2 := of_decide_eq_true hc
    have l2 := wr_len_eq (b := flipL b n.toNat) (disk_s2 h.1) (s := s) (by rw [hg2]; rfl)
    have h' : diskOk (d.2, d.1) = true := disk_iff.2 ⟨(disk_iff.1 h.1).2, (disk_iff.1 h.1).1⟩
    have q2 := wr_ok h' hn (b := flipL b n.toNat) (by rw [flipL_len]; exact hb) (by show (wr d.2 s _).length ≤ 60; rw [l2]; exact (namedsOk_iff.1 (disk_iff.1 h.1).2).2.2)
    exact ⟨disk_iff.2 ⟨(disk_iff.1 q1).1, (disk_iff.1 q2).1⟩, (h.2.1.cut s).ins hbb, (h.2.2.cut s).ins hbb⟩
theorem specRot {d : Dsk} {s : ByteArray} {n : Int} (h : DG d) (hn : n ≤ 9223372036854775807) (hn0 : -9223372036854775808 ≤ n) : Tot (fun k => spec_RotBit k d s n) (fun r => r = rotR d s n) := by
 have hin := din_ok h.1
 unfold spec_RotBit
 refine Tot.bind (specCopy d hin.1.1) ?_
 rintro d rfl
 refine Tot.bind (specAt d.1 s hin.1.1.1.1) ?_
 rintro r rfl
 refine Tot.bind (specDisk d hin.1.1 hin.1.2) ?_
 rintro r rfl
 rw [h.1]
 refine Tot.no rfl ?_
 unfold rotR
 unfold fndI
 cases hf : fnd d.1 s with
 | none =>
  have hg : gt d.1 s = none := by unfold gt; rw [hf]
  rw [hg]
  exact Tot.dec (by decide) (Tot.pure rfl)
 | some i =>
  have hg : gt d.1 s = some (d.1.getD i nmd0).2 := by unfold gt; rw [hf]
  have hi := (fnd_lt hf).1
  have hnm := (fnd_lt hf).2
  have hb := gt_len h.1 hg
  rw [hg]
  have e0 : d.1.getD i ((⟨#[]⟩ : ByteArray), ([] : List Int)) = d.1.getD i nmd0 := rfl
  simp only [Int.toNat_natCast, e0]
  refine Tot.ndec (by omega) (Tot.dec (by omega) (Tot.dec (by omega) ?_))
  rw [w64 (n := 8 * ((d.1.getD i nmd0).2.length : Int)) (by omega) (by omega), w64 (n := 8 * ((d.1.getD i nmd0).2.length : Int) - 1) (by omega) (by omega)]
  refine Tot.bind (Tot.of (Q := fun b => b = inR n 0 (8 * ((d.1.getD i nmd0).2.length : Int) - 1)) (specIn _ _ _) rfl) ?_
  rintro r rfl
  cases hr : inR n 0 (8 * ((d.1.getD i nmd0).2.length : Int) - 1) with
  | false => exact Tot.yes rfl (Tot.pure rfl)
  | true =>
   obtain ⟨n0, n1⟩ := inR_iff.1 hr
   obtain ⟨m, rfl⟩ : ∃ m : Nat, n = (m : Int) := ⟨n.toNat, by omega⟩
   have hm8 : m / 8 < (d.1.getD i nmd0).2.length := by omega
   have et : IntKind.wrap .i64 (Int.tdiv (m : Int) 8) = ((m / 8 : Nat) : Int) := by
    rw [Int.tdiv_eq_ediv_of_nonneg (by omega), w64 (by omega) (by omega)]
    omega
   have eu : IntKind.wrap .u64 (Int.tmod (m : Int) 8) = ((m % 8 : Nat) : Int) := by
    have h8 : ∀ j : Nat, j < 8 → IntKind.wrap .u64 (j : Int) = (j : Int) := by decide
    rw [Int.tmod_eq_emod_of_nonneg (by omega), ← h8 (m % 8) (by omega)]
    congr 1
   refine Tot.no rfl (Tot.bind (specAt d.2 s hin.1.1.2.1) ?_)
   rintro r rfl
   simp only [et, eu, Int.toNat_natCast, flip_eq _ _ (Nat.mod_lt m (show 0 < 8 by omega))]
   have ew : d.1.set i ((d.1.getD i nmd0).1, flipL (d.1.getD i nmd0).2 m) = wr d.1 s (flipL (d.1.getD i nmd0).2 m) := by rw [hnm]; exact set_wr (disk_s1 h.1) hf _
   have ew' : d.1.set i ((d.1.getD i nmd0).1, (d.1.getD i nmd0).2.set (m / 8) (flipB ((d.1.getD i nmd0).2.getD (m / 8) 0) (m % 8))) = wr d.1 s (flipL (d.1.getD i nmd0).2 m) := ew
   unfold fndI
   cases hf2 : fnd d.2 s with
   | none =>
    have hg2 : gt d.2 s = none := by unfold gt; rw [hf2]
    rw [hg2]
    refine Tot.ndec (by decide) (Tot.dec (by omega) (Tot.dec (by omega) (Tot.dec (by omega) (Tot.dec (by omega) (Tot.ndec (by omega) (Tot.dec (by omega) (Tot.dec (by omega) (Tot.pure ?_))))))))
    rw [ew']
    rfl
   | some j =>
    have hg2 : gt d.2 s = some (d.2.getD j nmd0).2 := by unfold gt; rw [hf2]
    have hj := (fnd_lt hf2).1
    have hjn := (fnd_lt hf2).2
    have e1 : d.2.getD j ((⟨#[]⟩ : ByteArray), ([] : List Int)) = d.2.getD j nmd0 := rfl
    rw [hg2]
    simp only [Int.toNat_natCast, e1]
    refine Tot.dec (by omega) (Tot.dec (by omega) (Tot.dec (by omega) (Tot.dec (by omega) (Tot.dec (by omega) (Tot.dec (by omega) (Tot.dec (by omega) (Tot.dec (by omega) (Tot.dec (by omega) (Tot.ndec (by omega) (Tot.dec (by omega) (Tot.dec (by omega) ?_)))))))))))
    rw [strOf_inj (h.2.2.gt hg2) (h.2.1.gt hg)]
    refine Tot.dite (fun he => ?_) (fun he => ?_)
    ·have hl2 : (d.2.getD j nmd0).2.length = (d.1.getD i nmd0).2.length := by rw [he]
     refine Tot.dec (by omega) (Tot.dec (by omega) (Tot.dec (by omega) (Tot.dec (by omega) (Tot.ndec (by omega) (Tot.dec (by omega) (Tot.dec (by omega) (Tot.pure ?_)))))))
     have ew2 : d.2.set j ((d.2.getD j nmd0).1, (d.2.getD j nmd0).2.set (m / 8) (flipB ((d.2.getD j nmd0).2.getD (m / 8) 0) (m % 8))) = wr d.2 s (flipL (d.1.getD i nmd0).2 m) := by
      rw [hjn, he]
      exact set_wr (disk_s2 h.1) hf2 _
     rw [ew', ew2, he, decide_eq_true rfl]
     rfl
    ·refine Tot.pure ?_
     rw [ew', decide_eq_false (fun c => he (Option.some.inj c))]
     rfl
theorem l9DrawG_l3 : ∀ (n : Nat) (i : Int) (c : Cur) (a0 a1 : List Nmd) (d : Dsk), i = n → n ≤ 6 → CurOk c → DG d →
  Tot (fun k => spec_l9Draw_l3 k i c.1 c.2.1 c.2.2 a0 a1 d.1 d.2) (fun r => DG (r.2.2.1, r.2.2.2.1) ∧ CurOk r.2.2.2.2) := by
 intro n
 induction n with
 | zero =>
  intro i c a0 a1 d hi h6 hc hd
  refine Tot.succ ?_
  simp only [spec_l9Draw_l3]
  exact Tot.ndec (by omega) (Tot.pure ⟨hd, hc⟩)
 | succ n ih =>
  intro i c a0 a1 d hi h6 hc hd
  refine Tot.succ ?_
  simp only [spec_l9Draw_l3]
  refine Tot.dec (by omega) ?_
  rw [w64 (n := i - 1) (by omega) (by omega)]
  obtain ⟨s, c1, e1, hs, k1⟩ := l3Name_ok c hc
  refine Tot.bind (Tot.of (Q := fun r => r = (s, c1)) e1 rfl) ?_
  rintro r rfl
  obtain ⟨x, c2, e2, _, _, _, k2⟩ := l1Below_ok c1 k1 6 (by decide)
  refine Tot.bind (Tot.of (Q := fun r => r = (x, c2)) e2 rfl) ?_
  rintro r rfl
  dsimp only
  obtain ⟨hsh, hsn⟩ := drawn_short s hs
  have wr : Tot (fun k => (spec_l8Draw k c2).bind fun r5 => (spec_PutFile k r5.1).bind fun r6 => (spec_WriteName k (d.1, d.2) s r6).bind fun r7 => spec_l9Draw_l3 k (i - 1) r5.2.1 r5.2.2.1 r5.2.2.2 a0 a1 r7.1.1 r7.1.2) (fun r => DG (r.2.2.1, r.2.2.2.1) ∧ CurOk r.2.2.2.2) := by
   refine Tot.bind (l8Draw_tot c2 k2) (fun f hf => ?_)
   refine Tot.bind (specPutFile f.1) ?_
   rintro b rfl
   refine Tot.bind (specWriteR hd.1 hsn (by have := putF_len f.1; omega)) ?_
   rintro q rfl
   exact ih (i - 1) f.2 a0 a1 _ (by omega) (by omega) hf.2 (wrD_g hd hsn (putF_bytes _))
  have sy : Tot (fun k => (spec_SyncName k (d.1, d.2) s).bind fun r4 => spec_l9Draw_l3 k (i - 1) c2.1 c2.2.1 c2.2.2 a0 a1 r4.1.1 r4.1.2) (fun r => DG (r.2.2.1, r.2.2.2.1) ∧ CurOk r.2.2.2.2) := by
   refine Tot.bind (specSyncR hd.1 hsn) ?_
   rintro q rfl
   exact ih (i - 1) c2 a0 a1 _ (by omega) (by omega) k2 (syD_g hd hsn)
  refine Tot.ite (fun _ => ?_) (fun _ => Tot.ite (fun h => Tot.ite (fun _ => sy) (fun _ => wr)) (fun _ => Tot.ite (fun _ => sy) (fun _ => wr)))
  refine Tot.bind (specRemoveR hd.1 hsh) ?_
  rintro q rfl
  exact ih (i - 1) c2 a0 a1 _ (by omega) (by omega) k2 (rmD_g hd)
theorem lb0 : LB [] := fun x hx => by cases hx
theorem dg0 : DG ([], []) := ⟨by decide, ⟨lb0, lb0⟩⟩
theorem l9DrawG (c : Cur) (hc : CurOk c) : Tot (fun k => spec_l9Draw k c) (fun r => DG r.1 ∧ CurOk r.2) := by
 unfold spec_l9Draw
 obtain ⟨x, c2, e2, h0, h1, _, k2⟩ := l1Below_ok c hc 7 (by decide)
 have h1 := h1 (by decide)
 refine Tot.bind (Tot.of (Q := fun r => r = (x, c2)) e2 rfl) ?_
 rintro r rfl
 exact Tot.bind (l9DrawG_l3 x.toNat x c2 [] [] ([], []) (by omega) (by omega) k2 dg0) (fun r hr => Tot.pure hr)
theorem lb_app {l : List Nmd} {x : Nmd} (h : LB l) (hx : BytesOk x.2) : LB (l ++ [x]) := fun y hy => by
 rcases List.mem_append.1 hy with hy | hy
 ·exact h y hy
 ·rw [List.mem_singleton.1 hy]; exact hx
theorem rep_bytes (n : Nat) : BytesOk (List.replicate n 0) := fun x hx => by
 rw [List.eq_of_mem_replicate hx]
 omega
theorem l9AnyB (c : Cur) (hc : CurOk c) : Tot (fun k => spec_l9Any k c) (fun r => (DIn r.1 ∧ DB r.1) ∧ CurOk r.2) := by
 have h0 := l9Any_in c hc
 have h1 : Tot (fun k => spec_l9Any k c) (fun r => DB r.1) := by
  unfold spec_l9Any
  refine Tot.bind (l9DrawG c hc) (fun d hd => ?_)
  obtain ⟨hd, k0⟩ := hd
  have hin := din_ok hd.1
  have g1 := (namedsOk_iff.1 (disk_iff.1 hd.1).1).2.2
  have g2 := (namedsOk_iff.1 (disk_iff.1 hd.1).2).2.2
  obtain ⟨x, c2, e2, _, _, _, k2⟩ := l1Below_ok d.2 k0 12 (by decide)
  refine Tot.bind (Tot.of (Q := fun r => r = (x, c2)) e2 rfl) ?_
  rintro r rfl
  refine Tot.ite (fun _ => ?_) (fun _ => Tot.ite (fun _ => ?_) (fun _ => Tot.pure hd.2))
  ·obtain ⟨s, c3, e3, hs, k3⟩ := l3Any_ok c2 k2
   refine Tot.bind (Tot.of (Q := fun r => r = (s, c3)) e3 rfl) ?_
   rintro r rfl
   exact Tot.ble (by simp only [List.length_cons, List.length_nil]; omega) (Tot.pure ⟨lb_app hd.2.1 nil_bytes, hd.2.2⟩)
  ·obtain ⟨s, c3, e3, hs, k3⟩ := l3Any_ok c2 k2
   refine Tot.bind (Tot.of (Q := fun r => r = (s, c3)) e3 rfl) ?_
   rintro r rfl
   obtain ⟨y, c4, e4, y0, y1, _, k4⟩ := l1Below_ok c3 k3 2 (by decide)
   have y1 := y1 (by decide)
   refine Tot.bind (Tot.of (Q := fun r => r = (y, c4)) e4 rfl) ?_
   rintro r rfl
   dsimp only
   rw [w64 (n := 400 + y) (by omega) (by omega)]
   exact Tot.dec rfl (Tot.dec (by omega) (Tot.dec (by omega) (Tot.ble (by simp only [List.length_cons, List.length_nil]; omega) (Tot.pure ⟨hd.2.1, lb_app hd.2.2 (rep_bytes _)⟩))))
 exact (h0.and h1).mono fun r h => ⟨⟨h.1.1, h.2⟩, h.1.2⟩
theorem l10Draw_l3 : ∀ (n : Nat) (i : Int) (c : Cur) (a0 a1 : List Nmd) (d : Dsk), i = n → n ≤ 6 → CurOk c → DG d →
  Tot (fun k => spec_l10Draw_l3 k i c.1 c.2.1 c.2.2 a0 a1 d.1 d.2) (fun r => CurOk (r.1, r.2.1, r.2.2.1) ∧ DG r.2.2.2.2.2) := by
 intro n
 induction n with
 | zero =>
  intro i c a0 a1 d hi h6 hc hd
  refine Tot.succ ?_
  simp only [spec_l10Draw_l3]
  exact Tot.ndec (by omega) (Tot.pure ⟨hc, hd⟩)
 | succ n ih =>
  intro i c a0 a1 d hi h6 hc hd
  refine Tot.succ ?_
  simp only [spec_l10Draw_l3]
  refine Tot.dec (by omega) ?_
  rw [w64 (n := i - 1) (by omega) (by omega)]
  obtain ⟨s, c1, e1, hs, k1⟩ := l3Name_ok c hc
  refine Tot.bind (Tot.of (Q := fun r => r = (s, c1)) e1 rfl) ?_
  rintro r rfl
  refine Tot.bind (l8Draw_tot c1 k1) (fun f hf => ?_)
  obtain ⟨b, c2, e2, k2⟩ := l1Once_ok f.2 hf.2 3 (by decide)
  refine Tot.bind (Tot.of (Q := fun r => r = (b, c2)) e2 rfl) ?_
  rintro r rfl
  refine Tot.bind (specKeep d s f.1 (!b) (din_ok hd.1) hd.2.1 (drawn_short s hs).1) ?_
  rintro q rfl
  exact ih (i - 1) c2 a0 a1 _ (by omega) (by omega) k2 (keep_g hd)
theorem l10Draw_l7 : ∀ (n : Nat) (i : Int) (c : Cur) (a0 a1 : List Nmd) (d : Dsk), i = n → n ≤ 6 → CurOk c → DG d →
  Tot (fun k => spec_l10Draw_l7 k i c.1 c.2.1 c.2.2 a0 a1 d.1 d.2) (fun r => DG (r.2.2.1, r.2.2.2.1) ∧ CurOk r.2.2.2.2) := by
 intro n
 induction n with
 | zero =>
  intro i c a0 a1 d hi h6 hc hd
  refine Tot.succ ?_
  simp only [spec_l10Draw_l7]
  exact Tot.ndec (by omega) (Tot.pure ⟨hd, hc⟩)
 | succ n ih =>
  intro i c a0 a1 d hi h6 hc hd
  refine Tot.succ ?_
  simp only [spec_l10Draw_l7]
  refine Tot.dec (by omega) ?_
  rw [w64 (n := i - 1) (by omega) (by omega)]
  obtain ⟨s, c1, e1, hs, k1⟩ := l3Name_ok c hc
  refine Tot.bind (Tot.of (Q := fun r => r = (s, c1)) e1 rfl) ?_
  rintro r rfl
  obtain ⟨x, c2, e2, x0, x1, _, k2⟩ := l1Below_ok c1 k1 40 (by decide)
  have x1 := x1 (by decide)
  refine Tot.bind (Tot.of (Q := fun r => r = (x, c2)) e2 rfl) ?_
  rintro r rfl
  refine Tot.bind (specRot hd (by dsimp only; omega) (by dsimp only; omega)) ?_
  rintro q rfl
  exact ih (i - 1) c2 a0 a1 _ (by omega) (by omega) k2 (rotR_g hd)
theorem l10DrawG (c : Cur) (hc : CurOk c) : Tot (fun k => spec_l10Draw k c) (fun r => DG r.1 ∧ CurOk r.2) := by
 unfold spec_l10Draw
 obtain ⟨x, c2, e2, h0, h1, _, k2⟩ := l1Below_ok c hc 6 (by decide)
 have h1 := h1 (by decide)
 refine Tot.bind (Tot.of (Q := fun r => r = (x, c2)) e2 rfl) ?_
 rintro r rfl
 refine Tot.bind (l10Draw_l3 x.toNat x c2 [] [] ([], []) (by omega) (by omega) k2 dg0) ?_
 rintro ⟨r1, r2, r3, r4, r5, r6⟩ ⟨hc3, hd⟩
 dsimp only at hc3 hd
 obtain ⟨y, c4, e4, y0, y1, _, k4⟩ := l1Below_ok (r1, r2, r3) hc3 3 (by decide)
 have y1 := y1 (by decide)
 refine Tot.bind (Tot.of (Q := fun r => r = (y, c4)) e4 rfl) ?_
 rintro r rfl
 exact Tot.bind (l10Draw_l7 y.toNat y c4 r4 r5 r6 (by omega) (by omega) k4 hd) (fun r hr => Tot.pure hr)
theorem l10AnyB (c : Cur) (hc : CurOk c) : Tot (fun k => spec_l10Any k c) (fun r => (DIn r.1 ∧ DB r.1) ∧ CurOk r.2) := by
 unfold spec_l10Any
 obtain ⟨b, c2, e2, k2⟩ := l1Once_ok c hc 6 (by decide)
 refine Tot.bind (Tot.of (Q := fun r => r = (b, c2)) e2 rfl) ?_
 rintro r rfl
 refine Tot.ite (fun _ => Tot.bind (l9AnyB c2 k2) fun r hr => Tot.pure hr) (fun _ => Tot.bind (l10DrawG c2 k2) fun r hr => Tot.pure ⟨⟨din_ok hr.1.1, hr.1.2⟩, hr.2⟩)
theorem l2Any_ok (c : Cur) (hc : CurOk c) : ∃ x c', spec_l2Any c = some (x, c') ∧ CurOk c' := by
 obtain ⟨s, c1, e1, hs, k1⟩ := l2Draw_ok c hc
 obtain ⟨x, c2, e2, _, _, _, k2⟩ := l1Below_ok c1 k1 10 (by decide)
 unfold spec_l2Any
 simp only [e1, e2, Option.bind_some]
 cases x == 0 with
 | true =>
  obtain ⟨y, c3, e3, _, k3⟩ := l1Int_ok c2 k2 [(-1), 1000000001] (by decide) (by decide)
  exact ⟨(y, s.2), c3, by simp only [e3, Option.bind_some, cond_true], k3⟩
 | false =>
  cases x == 1 with
  | true =>
   obtain ⟨y, c3, e3, _, k3⟩ := l1Int_ok c2 k2 [(-1), 1000000, 1000001] (by decide) (by decide)
   exact ⟨(s.1, y, s.2.2), c3, by simp only [e3, Option.bind_some, cond_true, cond_false], k3⟩
  | false =>
   cases x == 2 with
   | true =>
    obtain ⟨y, c3, e3, _, k3⟩ := l1Int_ok c2 k2 [(-1), 20, 21] (by decide) (by decide)
    exact ⟨(s.1, s.2.1, y), c3, by simp only [e3, Option.bind_some, cond_true, cond_false], k3⟩
   | false => exact ⟨s, c2, by simp only [cond_false], k2⟩
theorem l8Any_tot (c : Cur) (hc : CurOk c) : Tot (fun k => spec_l8Any k c) (fun r => (BytesOk r.1.2.2 ∧ r.1.2.2.length ≤ 1000) ∧ CurOk r.2) := by
 unfold spec_l8Any
 refine Tot.bind (l8Draw_tot c hc) ?_
 rintro ⟨f, c1⟩ ⟨hf, k1⟩
 have hl : f.2.2.length ≤ 9 := by have := hf.2.2.1; dsimp only at this; omega
 obtain ⟨x, c2, e2, _, _, _, k2⟩ := l1Below_ok c1 k1 12 (by decide)
 refine Tot.bind (Tot.of (Q := fun r => r = (x, c2)) e2 rfl) ?_
 rintro r rfl
 refine Tot.ite (fun _ => ?_) (fun _ => Tot.ite (fun _ => Tot.pure ⟨⟨hf.2.1, by dsimp only; omega⟩, k2⟩) (fun _ => Tot.ite (fun _ => ?_) (fun _ => Tot.pure ⟨⟨hf.2.1, by dsimp only; omega⟩, k2⟩)))
 ·obtain ⟨y, c3, e3, k3⟩ := l2Any_ok c2 k2
  refine Tot.bind (Tot.of (Q := fun r => r = (y, c3)) e3 rfl) ?_
  rintro r rfl
  exact Tot.pure ⟨⟨hf.2.1, by dsimp only; omega⟩, k3⟩
 ·obtain ⟨y, c4, e4, y0, y1, _, k4⟩ := l1Below_ok c2 k2 2 (by decide)
  have y1 := y1 (by decide)
  refine Tot.bind (Tot.of (Q := fun r => r = (y, c4)) e4 rfl) ?_
  rintro r rfl
  dsimp only
  rw [w64 (n := 200 + y) (by omega) (by omega)]
  exact Tot.dec rfl (Tot.dec (by omega) (Tot.dec (by omega) (Tot.pure ⟨⟨rep_bytes _, by dsimp only; rw [List.length_replicate]; omega⟩, k4⟩)))
theorem look_file {d : Dsk} (hb : LB d.1) (s : ByteArray) : BytesOk (lkD d s).1.2.2 ∧ (lkD d s).1.2.2.length ≤ 1000 := by
 unfold lkD
 cases hg : gt d.1 s with
 | none => exact ⟨nil_bytes, by decide⟩
 | some b =>
  simp only
  cases h : getF b with
  | none => exact ⟨nil_bytes, by decide⟩
  | some f =>
   obtain ⟨h1, h2, _⟩ := getF_ok h
   exact ⟨h2, by have := (fileOk_iff.1 h1).2.1; dsimp only; omega⟩
theorem drawKeep_tot (a0 : List Int) (hb : (a0.length : Int) ≤ 1048576) : Tot (fun k => spec_DrawKeep k a0) (fun r => (DIn r.1 ∧ DB r.1) ∧ Short r.2.1 ∧ BytesOk r.2.2.1.2.2 ∧ r.2.2.1.2.2.length ≤ 1000) := by
 unfold spec_DrawKeep
 refine Tot.bind (l1New_tot a0 hb) (fun c hc => ?_)
 refine Tot.bind (l10AnyB c hc) ?_
 rintro ⟨d, c1⟩ ⟨hd, k1⟩
 obtain ⟨s, c2, e2, hs, k2⟩ := l3Any_ok c1 k1
 refine Tot.bind (Tot.of (Q := fun r => r = (s, c2)) e2 rfl) ?_
 rintro r rfl
 refine Tot.bind (l8Any_tot c2 k2) ?_
 rintro ⟨f, c3⟩ ⟨hf, k3⟩
 obtain ⟨b, c4, e4, k4⟩ := l1Once_ok c3 k3 4 (by decide)
 refine Tot.bind (Tot.of (Q := fun r => r = (b, c4)) e4 rfl) ?_
 rintro r rfl
 obtain ⟨b2, c5, e5, k5⟩ := l1Once_ok c4 k4 2 (by decide)
 have once : ∀ {g : Fil}, BytesOk g.2.2 ∧ g.2.2.length ≤ 1000 → Tot (fun k => (spec_l1Once c4 2).bind fun r7 => some (d, s, g, r7.1)) (fun r => (DIn r.1 ∧ DB r.1) ∧ Short r.2.1 ∧ BytesOk r.2.2.1.2.2 ∧ r.2.2.1.2.2.length ≤ 1000) := by
  intro g hg
  refine Tot.bind (Tot.of (Q := fun r => r = (b2, c5)) e5 rfl) ?_
  rintro r rfl
  exact Tot.pure ⟨hd, hs, hg⟩
 refine Tot.ite (fun _ => Tot.bind (specLook hd.1.1.1.1 hd.2.1 s) ?_) (fun _ => once hf)
 rintro r rfl
 exact Tot.ite (fun _ => once (look_file hd.2.1 s)) (fun _ => once hf)
end Go.Proofs.Ytehkignjdbkeiaa.Vf
end

section
set_option linter.unusedVariables false
set_option linter.unusedSimpArgs false
namespace Go.Proofs.Ytehkignjdbkeiaa.Vf
open Go
section
variable {d : Dsk} {s : ByteArray} {f : Fil} {sure : Bool}
theorem sle_self (a : Stp) : sle a a = false := sle_irrefl a
theorem keep_bad (h : (diskOk d && (nameOk s && fileOk f)) = false) : keep d s f sure = (d, 2) := by unfold keep; rw [h]; rfl
theorem keep_good (h1 : diskOk d = true) (h2 : nameOk s = true) (h3 : fileOk f = true) : keep d s f sure = keepR d s f sure := by unfold keep; rw [h1, h2, h3]; rfl
theorem kp2_cases {x : Dsk} {c : Int} : (kp2 d s sure (x, c) = (d, 3)) ∨ (sure = false ∧ kp2 d s sure (x, c) = (x, c)) ∨ (sure = true ∧ (sy x s).length ≤ 60 ∧ kp2 d s sure (x, c) = ((x.1, sy x s), c)) := by
 unfold kp2 syD
 cases sure with
 | false => exact .inr (.inl ⟨rfl, rfl⟩)
 | true =>
  rw [cond_true]
  by_cases h : (sy x s).length ≤ 60
  ·rw [decide_eq_true h]
   exact .inr (.inr ⟨rfl, h, rfl⟩)
  ·rw [decide_eq_false h]
   exact .inl rfl
theorem kp1_cases (hd : DG d) (hs : nameOk s = true) : kp1 d s f = none ∨ (∃ o, old d s = some o ∧ sle o.1 f.1 = false ∧ kp1 d s f = some (d, 1)) ∨ ((∀ o, old d s = some o → sle o.1 f.1 = true) ∧ (wr d.1 s (putF f)).length ≤ 60 ∧ kp1 d s f = some ((wr d.1 s (putF f), d.2), 0)) := by
 have hl : (putF f).length ≤ 400 := by have := putF_len f; omega
 have w : (bif (wrD d s (putF f)).2 then some ((wrD d s (putF f)).1, (0 : Int)) else none) = none ∨ ((wr d.1 s (putF f)).length ≤ 60 ∧ (bif (wrD d s (putF f)).2 then some ((wrD d s (putF f)).1, (0 : Int)) else none) = some ((wr d.1 s (putF f), d.2), 0)) := by
  unfold wrD
  rw [decide_eq_true hl, Bool.true_and]
  by_cases h : (wr d.1 s (putF f)).length ≤ 60
  ·rw [decide_eq_true h]; exact .inr ⟨h, rfl⟩
  ·rw [decide_eq_false h]; exact .inl rfl
 unfold kp1
 cases ho : old d s with
 | none =>
  rcases w with h | ⟨h1, h2⟩
  ·exact .inl h
  ·exact .inr (.inr ⟨fun o h => (by cases h), h1, h2⟩)
 | some o =>
  simp only
  cases hc : sle o.1 f.1 with
  | false => exact .inr (.inl ⟨o, rfl, hc, rfl⟩)
  | true =>
   rcases w with h | ⟨h1, h2⟩
   ·exact .inl h
   ·exact .inr (.inr ⟨fun o' h => (by cases h; exact hc), h1, h2⟩)
theorem keepR_spec (hd : DG d) (hs : nameOk s = true) : keepR d s f sure = (d, 3) ∨
  (∃ o, old d s = some o ∧ sle o.1 f.1 = false ∧ (keepR d s f sure).2 = 1 ∧ DG (keepR d s f sure).1 ∧ ((sure = false ∧ (keepR d s f sure).1 = d) ∨ (sure = true ∧ (keepR d s f sure).1 = (d.1, sy d s)))) ∨
  ((∀ o, old d s = some o → sle o.1 f.1 = true) ∧ DG (wr d.1 s (putF f), d.2) ∧ (keepR d s f sure).2 = 0 ∧ DG (keepR d s f sure).1 ∧ ((sure = false ∧ (keepR d s f sure).1 = (wr d.1 s (putF f), d.2)) ∨ (sure = true ∧ (keepR d s f sure).1 = (wr d.1 s (putF f), sy (wr d.1 s (putF f), d.2) s)))) := by
 have hg := keepR_g (f := f) (sure := sure) hd hs
 rcases kp1_cases (f := f) hd hs with h | ⟨o, h1, h2, h⟩ | ⟨h1, h2, h⟩
 ·exact .inl (by unfold keepR; rw [h])
 ·have e : keepR d s f sure = kp2 d s sure (d, 1) := by unfold keepR; rw [h]
  rcases kp2_cases (d := d) (s := s) (sure := sure) (x := d) (c := 1) with k | ⟨k0, k⟩ | ⟨k0, k1, k⟩
  ·exact .inl (e.trans k)
  ·rw [← e] at k
   exact .inr (.inl ⟨o, h1, h2, by rw [k], hg, .inl ⟨k0, by rw [k]⟩⟩)
  ·rw [← e] at k
   exact .inr (.inl ⟨o, h1, h2, by rw [k], hg, .inr ⟨k0, by rw [k]⟩⟩)
 ·have e : keepR d s f sure = kp2 d s sure ((wr d.1 s (putF f), d.2), 0) := by unfold keepR; rw [h]
  have hw := kp1_g hd hs h
  rcases kp2_cases (d := d) (s := s) (sure := sure) (x := (wr d.1 s (putF f), d.2)) (c := 0) with k | ⟨k0, k⟩ | ⟨k0, k1, k⟩
  ·exact .inl (e.trans k)
  ·rw [← e] at k
   exact .inr (.inr ⟨h1, hw, by rw [k], hg, .inl ⟨k0, by rw [k]⟩⟩)
  ·rw [← e] at k
   exact .inr (.inr ⟨h1, hw, by rw [k], hg, .inr ⟨k0, by rw [k]⟩⟩)
theorem gt_wr {l : List Nmd} (hs : SortedN l) {s t : ByteArray} {b : List Int} : gt (wr l s b) t = if s = t then some b else gt l t := by
 unfold wr
 rw [gt_ins (x := (s, b)) (cut_sorted hs) cut_no]
 by_cases h : s = t
 ·rw [if_pos h, if_pos h]
 ·rw [if_neg h, if_neg h, gt_cut hs, if_neg h]
theorem keep_sure (hd : DG d) (hs : nameOk s = true) (hf : fileOk f = true) (hb : BytesOk f.2.2) (h : (keepR d s f true).2 = 0 ∨ (keepR d s f true).2 = 1) :
  ∃ o g b, DG o ∧ DG (keepR d s f true).1 ∧ (keepR d s f true).1 = (o.1, sy o s) ∧ gt o.1 s = some b ∧ getF b = some g ∧ sle g.1 f.1 = false := by
 rcases keepR_spec (f := f) (sure := true) hd hs with k | ⟨o, h1, h2, k, hg, h3⟩ | ⟨h1, h2, k, hg, h3⟩
 ·rw [k] at h; rcases h with h | h <;> cases h
 ·rcases h3 with ⟨h3, _⟩ | ⟨_, h3⟩
  ·cases h3
  ·have ho : (gt d.1 s).bind getF = some o := h1
   cases hg1 : gt d.1 s with
   | none => rw [hg1] at ho; cases ho
   | some b =>
    rw [hg1] at ho
    exact ⟨d, o, b, hd, hg, h3, hg1, ho, h2⟩
 ·rcases h3 with ⟨h3, _⟩ | ⟨_, h3⟩
  ·cases h3
  ·exact ⟨(wr d.1 s (putF f), d.2), f, putF f, h2, hg, h3, by show gt (wr d.1 s (putF f)) s = _; rw [gt_wr (disk_s1 hd.1), if_pos rfl], getF_put hf hb, sle_self _⟩
end
end Go.Proofs.Ytehkignjdbkeiaa.Vf
end

section
set_option linter.unusedVariables false
set_option linter.unusedSimpArgs false
namespace Go.Proofs.Ytehkignjdbkeiaa.Pure
open Go Go.RowKit Go.Proofs.Ytehkignjdbkeiaa.Vf
theorem left_in {d x : Dsk} {kp : List Bool} (hd : DG d) (h : LeftD d kp x) : NFew x.1 ∧ LB x.1 := by
 have hin := din_ok hd.1
 rcases h with rfl | ⟨h1, _, _, h4⟩
 ·exact ⟨hin.1.1.1, hd.2.1⟩
 ·refine ⟨⟨by omega, fun y hy => ?_⟩, fun y hy => ?_⟩
  ·rcases h1 y hy with h | h
   ·exact hin.1.1.1.2 y (is_mem h.2)
   ·exact hin.1.1.2.2 y (is_mem h)
  ·rcases h1 y hy with h | h
   ·exact hd.2.1 y (is_mem h.2)
   ·exact hd.2.2 y (is_mem h)
theorem FnSure : ∀ (a0 : List Int), Ty.fit ti (.sl 5 (.i .u8)) a0 → ∃ k, laws_FnSure k a0 = some true := by
 intro a0 _
 refine Tot.law (f := fun k => laws_FnSure k a0) ?_
 unfold laws_FnSure laws_big
 refine Tot.bind (Tot.pure (Q := fun b => b = decide ((List.length a0 : Int) > 1048576)) rfl) ?_
 rintro b rfl
 refine Tot.dite (fun _ => Tot.pure rfl) (fun hb => ?_)
 refine Tot.bind (drawKeep_tot a0 (by omega)) ?_
 rintro ⟨d, s, f, sure⟩ ⟨⟨hd, hdb⟩, hs, hfb, hfl⟩
 dsimp only at hd hdb hs hfb hfl
 dsimp only
 refine Tot.bind (implKeep d s f true hd hdb.1 hs) ?_
 rintro x rfl
 refine Tot.bind (specKeep d s f true hd hdb.1 hs) ?_
 rintro y rfl
 refine Tot.no (by simp) ?_
 have fin : ∀ {x : Dsk}, (∃ o g b, DG o ∧ DG x ∧ x = (o.1, sy o s) ∧ gt o.1 s = some b ∧ getF b = some g ∧ sle g.1 f.1 = false) →
   Tot (fun k => (spec_DrawFallDisk k a0).bind fun r5 => (impl_FallDisk k x r5.2).bind fun r6 => (impl_Look k r6 s).bind fun r7 => cond (r7.2 == 0) ((impl_Newer f r7.1).bind fun r8 => some (!r8)) (some false)) (fun b => b = true) := by
  rintro x ⟨o, g, b, h1, h2, rfl, h3, h4, h5⟩
  refine Tot.bind (drawFall_tot a0 (by omega)) (fun q _ => ?_)
  refine Tot.bind (implFall _ q.2 h2.1) (fun w hw => ?_)
  obtain ⟨w1, w2⟩ := left_in h2 hw
  refine Tot.bind (implLook w1 w2 s) ?_
  rintro r rfl
  rw [← syI_sy h1.1] at hw
  have hr := sync_read h1.1 hw
  rw [rdN_gt, rdN_gt, h3] at hr
  have hgw : gt w.1 s = some b := by
   cases hgw : gt w.1 s with
   | none => rw [hgw] at hr; cases hr
   | some c => rw [hgw] at hr; cases hr; rfl
  rw [look_good.2 ⟨b, hgw, h4⟩]
  refine Tot.yes rfl (Tot.bind (Tot.of (Q := fun b => b = sle g.1 f.1) (implNewer f g) rfl) ?_)
  rintro r rfl
  rw [h5]
  exact Tot.pure rfl
 cases hc : diskOk d && (nameOk s && fileOk f) with
 | false =>
  rw [keep_bad hc]
  exact Tot.yes rfl (Tot.yes rfl (Tot.pure rfl))
 | true =>
  rw [Bool.and_eq_true, Bool.and_eq_true] at hc
  obtain ⟨h1, h2, h3⟩ := hc
  have hg : DG d := ⟨h1, hdb⟩
  rw [keep_good h1 h2 h3]
  rcases keepR_spec (f := f) (sure := true) hg h2 with k | ⟨o, o1, o2, k, _⟩ | ⟨k1, k2, k, _⟩
  ·rw [k]
   exact Tot.yes rfl (Tot.yes rfl (Tot.pure rfl))
  ·have := fin (keep_sure hg h2 h3 hfb (.inr k))
   rw [k]
   exact Tot.yes rfl (Tot.no rfl this)
  ·have := fin (keep_sure hg h2 h3 hfb (.inl k))
   rw [k]
   exact Tot.no rfl this
end Go.Proofs.Ytehkignjdbkeiaa.Pure
end
