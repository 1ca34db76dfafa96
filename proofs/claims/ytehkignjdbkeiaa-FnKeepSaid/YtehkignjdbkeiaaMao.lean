import Derived.Test.YtehkignjdbkeiaaMan
import Derived.Test.YtehkignjdbkeiaaMal
section
set_option linter.unusedVariables false
set_option linter.unusedSimpArgs false
namespace Go.Proofs.Ytehkignjdbkeiaa.Vf
open Go
def DG (d : Dsk) : Prop := diskOk d = true ∧ DB d
theorem gt_len {d : Dsk} {s : ByteArray} {b : List Int} (hd : diskOk d = true) (h : gt d.1 s = some b) : b.length ≤ 400 := (nOk_iff.1 ((namedsOk_iff.1 (disk_iff.1 hd).1).2.1 _ (gt_mem h))).2
theorem wrD_db {d : Dsk} {s : ByteArray} {b : List Int} (h : DB d) (hb : BytesOk b) : DB (wrD d s b).1 := by
 unfold wrD
 cases decide (b.length ≤ 400) && decide ((wr d.1 s b).length ≤ 60) with
 | false => exact h
 | true => exact ⟨(h.1.cut s).ins hb, h.2⟩
theorem sy_lb {d : Dsk} {s : ByteArray} (h : DB d) : LB (sy d s) := by
 unfold sy
 cases hg : gt d.1 s with
 | none => exact h.2.cut s
 | some b => exact (h.2.cut s).ins (h.1.gt hg)
theorem syD_db {d : Dsk} {s : ByteArray} (h : DB d) : DB (syD d s).1 := by
 unfold syD
 cases decide ((sy d s).length ≤ 60) with
 | false => exact h
 | true => exact ⟨h.1, sy_lb h⟩
theorem rmD_db {d : Dsk} {s : ByteArray} (h : DB d) : DB (rmD d s).1 := by
 unfold rmD
 cases (gt d.1 s).isSome with
 | false => exact h
 | true => exact ⟨h.1.cut s, h.2⟩
theorem wrD_g {d : Dsk} {s : ByteArray} {b : List Int} (h : DG d) (hs : nameOk s = true) (hb : BytesOk b) : DG (wrD d s b).1 := ⟨wrD_ok h.1 hs, wrD_db h.2 hb⟩
theorem syD_g {d : Dsk} {s : ByteArray} (h : DG d) (hs : nameOk s = true) : DG (syD d s).1 := ⟨syD_ok h.1 hs, syD_db h.2⟩
theorem rmD_g {d : Dsk} {s : ByteArray} (h : DG d) : DG (rmD d s).1 := ⟨rmD_ok h.1, rmD_db h.2⟩
theorem kp1_g {d : Dsk} {s : ByteArray} {f : Fil} (hd : DG d) (hs : nameOk s = true) {x : Dsk × Int} (h : kp1 d s f = some x) : DG x.1 := by
 refine ⟨kp1_ok hd.1 hs h, ?_⟩
 have hw : ∀ x, (bif (wrD d s (putF f)).2 then some ((wrD d s (putF f)).1, (0 : Int)) else none) = some x → DB x.1 := by
  intro x h
  cases hc : (wrD d s (putF f)).2 with
  | false => rw [hc] at h; cases h
  | true => rw [hc] at h; cases h; exact wrD_db hd.2 (putF_bytes f)
 unfold kp1 at h
 simp only at h
 split at h
 ·rename_i o _
  cases hc : sle o.1 f.1 with
  | false => rw [hc] at h; cases h; exact hd.2
  | true => rw [hc] at h; exact hw _ h
 ·exact hw _ h
theorem kp2_g {d : Dsk} {s : ByteArray} {sure : Bool} (hd : DG d) (hs : nameOk s = true) {x : Dsk × Int} (hx : DG x.1) : DG (kp2 d s sure x).1 := by
 unfold kp2
 cases sure with
 | false => exact hx
 | true =>
  rw [cond_true]
  cases (syD x.1 s).2 with
  | false => exact hd
  | true => exact syD_g hx hs
theorem keepR_g {d : Dsk} {s : ByteArray} {f : Fil} {sure : Bool} (hd : DG d) (hs : nameOk s = true) : DG (keepR d s f sure).1 := by
 unfold keepR
 cases h : kp1 d s f with
 | none => exact hd
 | some x => exact kp2_g hd hs (kp1_g hd hs h)
theorem keep_g {d : Dsk} {s : ByteArray} {f : Fil} {sure : Bool} (hd : DG d) : DG (keep d s f sure).1 := by
 unfold keep
 cases h : nameOk s with
 | false => rw [hd.1]; exact hd
 | true =>
  cases fileOk f with
  | false => rw [hd.1]; exact hd
  | true => rw [hd.1]; exact keepR_g hd h
def flipB (b : Int) (j : Nat) : Int := ((BitVec.ofInt 8 b ^^^ BitVec.twoPow 8 j).toNat : Int)
theorem flipB_ok (b : Int) (j : Nat) : 0 ≤ flipB b j ∧ flipB b j ≤ 255 := by
 unfold flipB
 have := (BitVec.ofInt 8 b ^^^ BitVec.twoPow 8 j).isLt
 omega
theorem flip_eq (b : Int) : ∀ j, j < 8 → IntKind.wrap .u8 ((BitVec.ofInt (IntKind.bits .u8) b ^^^ BitVec.ofInt (IntKind.bits .u8) (IntKind.wrap .u8 ((1 : Int) * 2 ^ (min j (IntKind.bits .u8))))).toNat) = flipB b j := by
 intro j hj
 have h1 : ∀ j, j < 8 → BitVec.ofInt 8 (IntKind.wrap .u8 ((1 : Int) * 2 ^ (min j 8))) = BitVec.twoPow 8 j := by decide
 show IntKind.wrap .u8 (((BitVec.ofInt 8 b ^^^ BitVec.ofInt 8 (IntKind.wrap .u8 ((1 : Int) * 2 ^ (min j 8)))).toNat : Nat) : Int) = _
 rw [h1 j hj]
 have := (BitVec.ofInt 8 b ^^^ BitVec.twoPow 8 j).isLt
 rw [u8_low _ (by omega)]
 rfl
def flipL (l : List Int) (n : Nat) : List Int := l.set (n / 8) (flipB (l.getD (n / 8) 0) (n % 8))
theorem flipL_len (l : List Int) (n : Nat) : (flipL l n).length = l.length := by unfold flipL; rw [List.length_set]
theorem flipL_bytes {l : List Int} (h : BytesOk l) (n : Nat) : BytesOk (flipL l n) := fun x hx => by
 rcases List.mem_or_eq_of_mem_set hx with h' | rfl
 ·exact h x h'
 ·exact flipB_ok _ _
def rotR (d : Dsk) (s : ByteArray) (n : Int) : Dsk × Bool := match gt d.1 s with
 | none => (d, false)
 | some b => bif inR n 0 (8 * (b.length : Int) - 1) then ((wr d.1 s (flipL b n.toNat), bif decide (gt d.2 s = some b) then wr d.2 s (flipL b n.toNat) else d.2), true) else (d, false)
theorem set_wr {l : List Nmd} (hs : SortedN l) {s : ByteArray} {i : Nat} (h : fnd l s = some i) (b : List Int) : l.set i (s, b) = wr l s b := by
 obtain ⟨hi, hn⟩ := fnd_lt h
 have hm : (l.set i (s, b)).map Prod.fst = l.map Prod.fst := by
  rw [List.map_set]
  apply List.ext_getElem?
  intro j
  by_cases hj : i = j
  ·subst hj
   rw [List.getElem?_set_self (by rw [List.length_map]; exact hi), List.getElem?_map, List.getElem?_eq_getElem hi]
   rw [List.getD_eq_getElem?_getD, List.getElem?_eq_getElem hi] at hn
   exact congrArg some hn.symm
  ·rw [List.getElem?_set_ne hj]
 have h1 : SortedN (l.set i (s, b)) := by
  have e : ∀ m : List Nmd, SortedN m ↔ (m.map Prod.fst).Pairwise (fun a b => tlt a b = true) := fun m => by
   unfold SortedN
   rw [List.pairwise_map]
  rw [e, hm, ← e]
  exact hs
 refine gt_ext h1 (ins_sorted (cut_sorted hs) cut_no) fun t => ?_
 have h2 := gt_ins (x := (s, b)) (t := t) (cut_sorted hs (s := s)) cut_no
 unfold wr
 rw [h2]
 by_cases ht : s = t
 ·subst ht
  rw [if_pos rfl, gt_iff h1]
  exact List.mem_set hi _
 ·rw [if_neg ht, gt_cut hs, if_neg ht]
  cases hg : gt l t with
  | none =>
   refine gt_none.2 fun x hx => ?_
   rcases List.mem_or_eq_of_mem_set hx with h' | rfl
   ·exact gt_none.1 hg x h'
   ·exact ht
  | some c =>
   rw [gt_iff h1]
   obtain ⟨j, hj, e⟩ := List.mem_iff_getElem.1 (gt_mem hg)
   have hij : i ≠ j := by
    rintro rfl
    rw [List.getD_eq_getElem?_getD, List.getElem?_eq_getElem hi, Option.getD_some, e] at hn
    exact ht hn.symm
   refine List.mem_iff_getElem.2 ⟨j, by rw [List.length_set]; exact hj, ?_⟩
   rw [List.getElem_set_ne hij]
   exact e
theorem wr_len_eq {l : List Nmd} {s : ByteArray} {b : List Int} (hs : SortedN l) (h : (gt l s).isSome = true) : (wr l s b).length = l.length := by
 rw [gt_isSome] at h
 obtain ⟨i, hi⟩ := Option.isSome_iff_exists.1 h
 rw [← set_wr hs hi, List.length_set]
theorem rotR_g {d : Dsk} {s : ByteArray} {n : Int} (h : DG d) : DG (rotR d s n).1 := by
 unfold rotR
 cases hg : gt d.1 s with
 | none => exact h
 | some b =>
  simp only
  cases inR n 0 (8 * (b.length : Int) - 1) with
  | false => exact h
  | true =>
   have hn := gt_ok h.1 (s := s) (by rw [hg]; rfl)
   have hb := gt_len h.1 hg
   have hbb := flipL_bytes (h.2.1.gt hg) n.toNat
   have l1 := wr_len_eq (b := flipL b n.toNat) (disk_s1 h.1) (s := s) (by rw [hg]; rfl)
   have q1 := wr_ok h.1 hn (b := flipL b n.toNat) (by rw [flipL_len]; exact hb) (by rw [l1]; exact (namedsOk_iff.1 (disk_iff.1 h.1).1).2.2)
   rw [cond_true]
   cases hc : decide (gt d.2 s = some b) with
   | false => exact ⟨q1, (h.2.1.cut s).ins hbb, h.2.2⟩
   | true =>
    have hg2 := of_decide_eq_true hc
    have l2 := wr_len_eq (b := flipL b n.toNat) (disk_s2 h.1) (s := s) (by rw [hg2]; rfl)
    have h' : diskOk (d.2, d.1) = true := disk_iff.2 ⟨(disk_iff.1 h.1).2, (disk_iff.1 h.1).1⟩
    have q2 := wr_ok h' hn (b := flipL b n.toNat) (by rw [flipL_len]; exact hb) (by show (wr d.2 s _).length ≤ 60; rw [l2]; exact (namedsOk_iff.1 (disk_iff.1 h.1).2).2.2)
    exact ⟨disk_iff.2 ⟨(disk_iff.1 q1).1, (disk_iff.1 q2).1⟩, (h.2.1.cut s).ins hbb, (h.2.2.cut s).ins hbb⟩
theorem specRot {d : Dsk} {s : ByteArray} {n : Int} (h : DG d) (hn : n ≤ 9223372036854775807) (hn0 : -9223372036854775808 ≤ n) : Tot (fun k => spec_RotBit k d s n) (fun r => r = rotR d s n) := by
 have hin := din_ok h.1
 unfold spec_RotBit
 refine Tot.bind (specCopy d hin.1.1) ?_
 rintro d rfl
 refine Tot.bind (specAt d.1 s hin.1.1.1.1) ?_
 rintro r rfl
 refine Tot.bind (specDisk d hin.1.1 hin.1.2) ?_
 rintro r rfl
 rw [h.1]
 refine Tot.no rfl ?_
 unfold rotR
 unfold fndI
 cases hf : fnd d.1 s with
 | none =>
  have hg : gt d.1 s = none := by unfold gt; rw [hf]
  rw [hg]
  exact Tot.dec (by decide) (Tot.pure rfl)
 | some i =>
  have hg : gt d.1 s = some (d.1.getD i nmd0).2 := by unfold gt; rw [hf]
  have hi := (fnd_lt hf).1
  have hnm := (fnd_lt hf).2
  have hb := gt_len h.1 hg
  rw [hg]
  have e0 : d.1.getD i ((⟨#[]⟩ : ByteArray), ([] : List Int)) = d.1.getD i nmd0 := rfl
  simp only [Int.toNat_natCast, e0]
  refine Tot.ndec (by omega) (Tot.dec (by omega) (Tot.dec (by omega) ?_))
  rw [w64 (n := 8 * ((d.1.getD i nmd0).2.length : Int)) (by omega) (by omega), w64 (n := 8 * ((d.1.getD i nmd0).2.length : Int) - 1) (by omega) (by omega)]
  refine Tot.bind (Tot.of (Q := fun b => b = inR n 0 (8 * ((d.1.getD i nmd0).2.length : Int) - 1)) (specIn _ _ _) rfl) ?_
  rintro r rfl
  cases hr : inR n 0 (8 * ((d.1.getD i nmd0).2.length : Int) - 1) with
  | false => exact Tot.yes rfl (Tot.pure rfl)
  | true =>
   obtain ⟨n0, n1⟩ := inR_iff.1 hr
   obtain ⟨m, rfl⟩ : ∃ m : Nat, n = (m : Int) := ⟨n.toNat, by omega⟩
   have hm8 : m / 8 < (d.1.getD i nmd0).2.length := by omega
   have et : IntKind.wrap .i64 (Int.tdiv (m : Int) 8) = ((m / 8 : Nat) : Int) := by
    rw [Int.tdiv_eq_ediv_of_nonneg (by omega), w64 (by omega) (by omega)]
    omega
   have eu : IntKind.wrap .u64 (Int.tmod (m : Int) 8) = ((m % 8 : Nat) : Int) := by
    have h8 : ∀ j : Nat, j < 8 → IntKind.wrap .u64 (j : Int) = (j : Int) := by decide
    rw [Int.tmod_eq_emod_of_nonneg (by omega), ← h8 (m % 8) (by omega)]
    congr 1
   refine Tot.no rfl (Tot.bind (specAt d.2 s hin.1.1.2.1) ?_)
   rintro r rfl
   simp only [et, eu, Int.toNat_natCast, flip_eq _ _ (Nat.mod_lt m (show 0 < 8 by omega))]
   have ew : d.1.set i ((d.1.getD i nmd0).1, flipL (d.1.getD i nmd0).2 m) = wr d.1 s (flipL (d.1.getD i nmd0).2 m) := by rw [hnm]; exact set_wr (disk_s1 h.1) hf _
   have ew' : d.1.set i ((d.1.getD i nmd0).1, (d.1.getD i nmd0).2.set (m / 8) (flipB ((d.1.getD i nmd0).2.getD (m / 8) 0) (m % 8))) = wr d.1 s (flipL (d.1.getD i nmd0).2 m) := ew
   unfold fndI
   cases hf2 : fnd d.2 s with
   | none =>
    have hg2 : gt d.2 s = none := by unfold gt; rw [hf2]
    rw [hg2]
    refine Tot.ndec (by decide) (Tot.dec (by omega) (Tot.dec (by omega) (Tot.dec (by omega) (Tot.dec (by omega) (Tot.ndec (by omega) (Tot.dec (by omega) (Tot.dec (by omega) (Tot.pure ?_))))))))
    rw [ew']
    rfl
   | some j =>
    have hg2 : gt d.2 s = some (d.2.getD j nmd0).2 := by unfold gt; rw [hf2]
    have hj := (fnd_lt hf2).1
    have hjn := (fnd_lt hf2).2
    have e1 : d.2.getD j ((⟨#[]⟩ : ByteArray), ([] : List Int)) = d.2.getD j nmd0 := rfl
    rw [hg2]
    simp only [Int.toNat_natCast, e1]
    refine Tot.dec (by omega) (Tot.dec (by omega) (Tot.dec (by omega) (Tot.dec (by omega) (Tot.dec (by omega) (Tot.dec (by omega) (Tot.dec (by omega) (Tot.dec (by omega) (Tot.dec (by omega) (Tot.ndec (by omega) (Tot.dec (by omega) (Tot.dec (by omega) ?_)))))))))))
    rw [strOf_inj (h.2.2.gt hg2) (h.2.1.gt hg)]
    refine Tot.dite (fun he => ?_) (fun he => ?_)
    ·have hl2 : (d.2.getD j nmd0).2.length = (d.1.getD i nmd0).2.length := by rw [he]
     refine Tot.dec (by omega) (Tot.dec (by omega) (Tot.dec (by omega) (Tot.dec (by omega) (Tot.ndec (by omega) (Tot.dec (by omega) (Tot.dec (by omega) (Tot.pure ?_)))))))
     have ew2 : d.2.set j ((d.2.getD j nmd0).1, (d.2.getD j nmd0).2.set (m / 8) (flipB ((d.2.getD j nmd0).2.getD (m / 8) 0) (m % 8))) = wr d.2 s (flipL (d.1.getD i nmd0).2 m) := by
      rw [hjn, he]
      exact set_wr (disk_s2 h.1) hf2 _
     rw [ew', ew2, he, decide_eq_true rfl]
     rfl
    ·refine Tot.pure ?_
     rw [ew', decide_eq_false (fun c => he (Option.some.inj c))]
     rfl
theorem l9DrawG_l3 : ∀ (n : Nat) (i : Int) (c : Cur) (a0 a1 : List Nmd) (d : Dsk), i = n → n ≤ 6 → CurOk c → DG d →
  Tot (fun k => spec_l9Draw_l3 k i c.1 c.2.1 c.2.2 a0 a1 d.1 d.2) (fun r => DG (r.2.2.1, r.2.2.2.1) ∧ CurOk r.2.2.2.2) := by
 intro n
 induction n with
 | zero =>
  intro i c a0 a1 d hi h6 hc hd
  refine Tot.succ ?_
  simp only [spec_l9Draw_l3]
  exact Tot.ndec (by omega) (Tot.pure ⟨hd, hc⟩)
 | succ n ih =>
  intro i c a0 a1 d hi h6 hc hd
  refine Tot.succ ?_
  simp only [spec_l9Draw_l3]
  refine Tot.dec (by omega) ?_
  rw [w64 (n := i - 1) (by omega) (by omega)]
  obtain ⟨s, c1, e1, hs, k1⟩ := l3Name_ok c hc
  refine Tot.bind (Tot.of (Q := fun r => r = (s, c1)) e1 rfl) ?_
  rintro r rfl
  obtain ⟨x, c2, e2, _, _, _, k2⟩ := l1Below_ok c1 k1 6 (by decide)
  refine Tot.bind (Tot.of (Q := fun r => r = (x, c2)) e2 rfl) ?_
  rintro r rfl
  dsimp only
  obtain ⟨hsh, hsn⟩ := drawn_short s hs
  have wr : Tot (fun k => (spec_l8Draw k c2).bind fun r5 => (spec_PutFile k r5.1).bind fun r6 => (spec_WriteName k (d.1, d.2) s r6).bind fun r7 => spec_l9Draw_l3 k (i - 1) r5.2.1 r5.2.2.1 r5.2.2.2 a0 a1 r7.1.1 r7.1.2) (fun r => DG (r.2.2.1, r.2.2.2.1) ∧ CurOk r.2.2.2.2) := by
   refine Tot.bind (l8Draw_tot c2 k2) (fun f hf => ?_)
   refine Tot.bind (specPutFile f.1) ?_
   rintro b rfl
   refine Tot.bind (specWriteR hd.1 hsn (by have := putF_len f.1; omega)) ?_
   rintro q rfl
   exact ih (i - 1) f.2 a0 a1 _ (by omega) (by omega) hf.2 (wrD_g hd hsn (putF_bytes _))
  have sy : Tot (fun k => (spec_SyncName k (d.1, d.2) s).bind fun r4 => spec_l9Draw_l3 k (i - 1) c2.1 c2.2.1 c2.2.2 a0 a1 r4.1.1 r4.1.2) (fun r => DG (r.2.2.1, r.2.2.2.1) ∧ CurOk r.2.2.2.2) := by
   refine Tot.bind (specSyncR hd.1 hsn) ?_
   rintro q rfl
   exact ih (i - 1) c2 a0 a1 _ (by omega) (by omega) k2 (syD_g hd hsn)
  refine Tot.ite (fun _ => ?_) (fun _ => Tot.ite (fun h => Tot.ite (fun _ => sy) (fun _ => wr)) (fun _ => Tot.ite (fun _ => sy) (fun _ => wr)))
  refine Tot.bind (specRemoveR hd.1 hsh) ?_
  rintro q rfl
  exact ih (i - 1) c2 a0 a1 _ (by omega) (by omega) k2 (rmD_g hd)
theorem lb0 : LB [] := fun x hx => by cases hx
theorem dg0 : DG ([], []) := ⟨by decide, ⟨lb0, lb0⟩⟩
theorem l9DrawG (c : Cur) (hc : CurOk c) : Tot (fun k => spec_l9Draw k c) (fun r => DG r.1 ∧ CurOk r.2) := by
 unfold spec_l9Draw
 obtain ⟨x, c2, e2, h0, h1, _, k2⟩ := l1Below_ok c hc 7 (by decide)
 have h1 := h1 (by decide)
 refine Tot.bind (Tot.of (Q := fun r => r = (x, c2)) e2 rfl) ?_
 rintro r rfl
 exact Tot.bind (l9DrawG_l3 x.toNat x c2 [] [] ([], []) (by omega) (by omega) k2 dg0) (fun r hr => Tot.pure hr)
theorem lb_app {l : List Nmd} {x : Nmd} (h : LB l) (hx : BytesOk x.2) : LB (l ++ [x]) := fun y hy => by
 rcases List.mem_append.1 hy with hy | hy
 ·exact h y hy
 ·rw [List.mem_singleton.1 hy]; exact hx
theorem rep_bytes (n : Nat) : BytesOk (List.replicate n 0) := fun x hx => by
 rw [List.eq_of_mem_replicate hx]
 omega
theorem l9AnyB (c : Cur) (hc : CurOk c) : Tot (fun k => spec_l9Any k c) (fun r => (DIn r.1 ∧ DB r.1) ∧ CurOk r.2) := by
 have h0 := l9Any_in c hc
 have h1 : Tot (fun k => spec_l9Any k c) (fun r => DB r.1) := by
  unfold spec_l9Any
  refine Tot.bind (l9DrawG c hc) (fun d hd => ?_)
  obtain ⟨hd, k0⟩ := hd
  have hin := din_ok hd.1
  have g1 := (namedsOk_iff.1 (disk_iff.1 hd.1).1).2.2
  have g2 := (namedsOk_iff.1 (disk_iff.1 hd.1).2).2.2
  obtain ⟨x, c2, e2, _, _, _, k2⟩ := l1Below_ok d.2 k0 12 (by decide)
  refine Tot.bind (Tot.of (Q := fun r => r = (x, c2)) e2 rfl) ?_
  rintro r rfl
  refine Tot.ite (fun _ => ?_) (fun _ => Tot.ite (fun _ => ?_) (fun _ => Tot.pure hd.2))
  ·obtain ⟨s, c3, e3, hs, k3⟩ := l3Any_ok c2 k2
   refine Tot.bind (Tot.of (Q := fun r => r = (s, c3)) e3 rfl) ?_
   rintro r rfl
   exact Tot.ble (by simp only [List.length_cons, List.length_nil]; omega) (Tot.pure ⟨lb_app hd.2.1 nil_bytes, hd.2.2⟩)
  ·obtain ⟨s, c3, e3, hs, k3⟩ := l3Any_ok c2 k2
   refine Tot.bind (Tot.of (Q := fun r => r = (s, c3)) e3 rfl) ?_
   rintro r rfl
   obtain ⟨y, c4, e4, y0, y1, _, k4⟩ := l1Below_ok c3 k3 2 (by decide)
   have y1 := y1 (by decide)
   refine Tot.bind (Tot.of (Q := fun r => r = (y, c4)) e4 rfl) ?_
   rintro r rfl
   dsimp only
   rw [w64 (n := 400 + y) (by omega) (by omega)]
   exact Tot.dec rfl (Tot.dec (by omega) (Tot.dec (by omega) (Tot.ble (by simp only [List.length_cons, List.length_nil]; omega) (Tot.pure ⟨hd.2.1, lb_app hd.2.2 (rep_bytes _)⟩))))
 exact (h0.and h1).mono fun r h => ⟨⟨h.1.1, h.2⟩, h.1.2⟩
theorem l10Draw_l3 : ∀ (n : Nat) (i : Int) (c : Cur) (a0 a1 : List Nmd) (d : Dsk), i = n → n ≤ 6 → CurOk c → DG d →
  Tot (fun k => spec_l10Draw_l3 k i c.1 c.2.1 c.2.2 a0 a1 d.1 d.2) (fun r => CurOk (r.1, r.2.1, r.2.2.1) ∧ DG r.2.2.2.2.2) := by
 intro n
 induction n with
 | zero =>
  intro i c a0 a1 d hi h6 hc hd
  refine Tot.succ ?_
  simp only [spec_l10Draw_l3]
  exact Tot.ndec (by omega) (Tot.pure ⟨hc, hd⟩)
 | succ n ih =>
  intro i c a0 a1 d hi h6 hc hd
  refine Tot.succ ?_
  simp only [spec_l10Draw_l3]
  refine Tot.dec (by omega) ?_
  rw [w64 (n := i - 1) (by omega) (by omega)]
  obtain ⟨s, c1, e1, hs, k1⟩ := l3Name_ok c hc
  refine Tot.bind (Tot.of (Q := fun r => r = (s, c1)) e1 rfl) ?_
  rintro r rfl
  refine Tot.bind (l8Draw_tot c1 k1) (fun f hf => ?_)
  obtain ⟨b, c2, e2, k2⟩ := l1Once_ok f.2 hf.2 3 (by decide)
  refine Tot.bind (Tot.of (Q := fun r => r = (b, c2)) e2 rfl) ?_
  rintro r rfl
  refine Tot.bind (specKeep d s f.1 (!b) (din_ok hd.1) hd.2.1 (drawn_short s hs).1) ?_
  rintro q rfl
  exact ih (i - 1) c2 a0 a1 _ (by omega) (by omega) k2 (keep_g hd)
theorem l10Draw_l7 : ∀ (n : Nat) (i : Int) (c : Cur) (a0 a1 : List Nmd) (d : Dsk), i = n → n ≤ 6 → CurOk c → DG d →
  Tot (fun k => spec_l10Draw_l7 k i c.1 c.2.1 c.2.2 a0 a1 d.1 d.2) (fun r => DG (r.2.2.1, r.2.2.2.1) ∧ CurOk r.2.2.2.2) := by
 intro n
 induction n with
 | zero =>
  intro i c a0 a1 d hi h6 hc hd
  refine Tot.succ ?_
  simp only [spec_l10Draw_l7]
  exact Tot.ndec (by omega) (Tot.pure ⟨hd, hc⟩)
 | succ n ih =>
  intro i c a0 a1 d hi h6 hc hd
  refine Tot.succ ?_
  simp only [spec_l10Draw_l7]
  refine Tot.dec (by omega) ?_
  rw [w64 (n := i - 1) (by omega) (by omega)]
  obtain ⟨s, c1, e1, hs, k1⟩ := l3Name_ok c hc
  refine Tot.bind (Tot.of (Q := fun r => r = (s, c1)) e1 rfl) ?_
  rintro r rfl
  obtain ⟨x, c2, e2, x0, x1, _, k2⟩ := l1Below_ok c1 k1 40 (by decide)
  have x1 := x1 (by decide)
  refine Tot.bind (Tot.of (Q := fun r => r = (x, c2)) e2 rfl) ?_
  rintro r rfl
  refine Tot.bind (specRot hd (by dsimp only; omega) (by dsimp only; omega)) ?_
  rintro q rfl
  exact ih (i - 1) c2 a0 a1 _ (by omega) (by omega) k2 (rotR_g hd)
theorem l10DrawG (c : Cur) (hc : CurOk c) : Tot (fun k => spec_l10Draw k c) (fun r => DG r.1 ∧ CurOk r.2) := by
 unfold spec_l10Draw
 obtain ⟨x, c2, e2, h0, h1, _, k2⟩ := l1Below_ok c hc 6 (by decide)
 have h1 := h1 (by decide)
 refine Tot.bind (Tot.of (Q := fun r => r = (x, c2)) e2 rfl) ?_
 rintro r rfl
 refine Tot.bind (l10Draw_l3 x.toNat x c2 [] [] ([], []) (by omega) (by omega) k2 dg0) ?_
 rintro ⟨r1, r2, r3, r4, r5, r6⟩ ⟨hc3, hd⟩
 dsimp only at hc3 hd
 obtain ⟨y, c4, e4, y0, y1, _, k4⟩ := l1Below_ok (r1, r2, r3) hc3 3 (by decide)
 have y1 := y1 (by decide)
 refine Tot.bind (Tot.of (Q := fun r => r = (y, c4)) e4 rfl) ?_
 rintro r rfl
 exact Tot.bind (l10Draw_l7 y.toNat y c4 r4 r5 r6 (by omega) (by omega) k4 hd) (fun r hr => Tot.pure hr)
theorem l10AnyB (c : Cur) (hc : CurOk c) : Tot (fun k => spec_l10Any k c) (fun r => (DIn r.1 ∧ DB r.1) ∧ CurOk r.2) := by
 unfold spec_l10Any
 obtain ⟨b, c2, e2, k2⟩ := l1Once_ok c hc 6 (by decide)
 refine Tot.bind (Tot.of (Q := fun r => r = (b, c2)) e2 rfl) ?_
 rintro r rfl
 refine Tot.ite (fun _ => Tot.bind (l9AnyB c2 k2) fun r hr => Tot.pure hr) (fun _ => Tot.bind (l10DrawG c2 k2) fun r hr => Tot.pure ⟨⟨din_ok hr.1.1, hr.1.2⟩, hr.2⟩)
theorem l2Any_ok (c : Cur) (hc : CurOk c) : ∃ x c', spec_l2Any c = some (x, c') ∧ CurOk c' := by
 obtain ⟨s, c1, e1, hs, k1⟩ := l2Draw_ok c hc
 obtain ⟨x, c2, e2, _, _, _, k2⟩ := l1Below_ok c1 k1 10 (by decide)
 unfold spec_l2Any
 simp only [e1, e2, Option.bind_some]
 cases x == 0 with
 | true =>
  obtain ⟨y, c3, e3, _, k3⟩ := l1Int_ok c2 k2 [(-1), 1000000001] (by decide) (by decide)
  exact ⟨(y, s.2), c3, by simp only [e3, Option.bind_some, cond_true], k3⟩
 | false =>
  cases x == 1 with
  | true =>
   obtain ⟨y, c3, e3, _, k3⟩ := l1Int_ok c2 k2 [(-1), 1000000, 1000001] (by decide) (by decide)
   exact ⟨(s.1, y, s.2.2), c3, by simp only [e3, Option.bind_some, cond_true, cond_false], k3⟩
  | false =>
   cases x == 2 with
   | true =>
    obtain ⟨y, c3, e3, _, k3⟩ := l1Int_ok c2 k2 [(-1), 20, 21] (by decide) (by decide)
    exact ⟨(s.1, s.2.1, y), c3, by simp only [e3, Option.bind_some, cond_true, cond_false], k3⟩
   | false => exact ⟨s, c2, by simp only [cond_false], k2⟩
theorem l8Any_tot (c : Cur) (hc : CurOk c) : Tot (fun k => spec_l8Any k c) (fun r => (BytesOk r.1.2.2 ∧ r.1.2.2.length ≤ 1000) ∧ CurOk r.2) := by
 unfold spec_l8Any
 refine Tot.bind (l8Draw_tot c hc) ?_
 rintro ⟨f, c1⟩ ⟨hf, k1⟩
 have hl : f.2.2.length ≤ 9 := by have := hf.2.2.1; dsimp only at this; omega
 obtain ⟨x, c2, e2, _, _, _, k2⟩ := l1Below_ok c1 k1 12 (by decide)
 refine Tot.bind (Tot.of (Q := fun r => r = (x, c2)) e2 rfl) ?_
 rintro r rfl
 refine Tot.ite (fun _ => ?_) (fun _ => Tot.ite (fun _ => Tot.pure ⟨⟨hf.2.1, by dsimp only; omega⟩, k2⟩) (fun _ => Tot.ite (fun _ => ?_) (fun _ => Tot.pure ⟨⟨hf.2.1, by dsimp only; omega⟩, k2⟩)))
 ·obtain ⟨y, c3, e3, k3⟩ := l2Any_ok c2 k2
  refine Tot.bind (Tot.of (Q := fun r => r = (y, c3)) e3 rfl) ?_
  rintro r rfl
  exact Tot.pure ⟨⟨hf.2.1, by dsimp only; omega⟩, k3⟩
 ·obtain ⟨y, c4, e4, y0, y1, _, k4⟩ := l1Below_ok c2 k2 2 (by decide)
  have y1 := y1 (by decide)
  refine Tot.bind (Tot.of (Q := fun r => r = (y, c4)) e4 rfl) ?_
  rintro r rfl
  dsimp only
  rw [w64 (n := 200 + y) (by omega) (by omega)]
  exact Tot.dec rfl (Tot.dec (by omega) (Tot.dec (by omega) (Tot.pure ⟨⟨rep_bytes _, by dsimp only; rw [List.length_replicate]; omega⟩, k4⟩)))
theorem look_file {d : Dsk} (hb : LB d.1) (s : ByteArray) : BytesOk (lkD d s).1.2.2 ∧ (lkD d s).1.2.2.length ≤ 1000 := by
 unfold lkD
 cases hg : gt d.1 s with
 | none => exact ⟨nil_bytes, by decide⟩
 | some b =>
  simp only
  cases h : getF b with
  | none => exact ⟨nil_bytes, by decide⟩
  | some f =>
   obtain ⟨h1, h2, _⟩ := getF_ok h
   exact ⟨h2, by have := (fileOk_iff.1 h1).2.1; dsimp only; omega⟩
theorem drawKeep_tot (a0 : List Int) (hb : (a0.length : Int) ≤ 1048576) : Tot (fun k => spec_DrawKeep k a0) (fun r => (DIn r.1 ∧ DB r.1) ∧ Short r.2.1 ∧ BytesOk r.2.2.1.2.2 ∧ r.2.2.1.2.2.length ≤ 1000) := by
 unfold spec_DrawKeep
 refine Tot.bind (l1New_tot a0 hb) (fun c hc => ?_)
 refine Tot.bind (l10AnyB c hc) ?_
 rintro ⟨d, c1⟩ ⟨hd, k1⟩
 obtain ⟨s, c2, e2, hs, k2⟩ := l3Any_ok c1 k1
 refine Tot.bind (Tot.of (Q := fun r => r = (s, c2)) e2 rfl) ?_
 rintro r rfl
 refine Tot.bind (l8Any_tot c2 k2) ?_
 rintro ⟨f, c3⟩ ⟨hf, k3⟩
 obtain ⟨b, c4, e4, k4⟩ := l1Once_ok c3 k3 4 (by decide)
 refine Tot.bind (Tot.of (Q := fun r => r = (b, c4)) e4 rfl) ?_
 rintro r rfl
 obtain ⟨b2, c5, e5, k5⟩ := l1Once_ok c4 k4 2 (by decide)
 have once : ∀ {g : Fil}, BytesOk g.2.2 ∧ g.2.2.length ≤ 1000 → Tot (fun k => (spec_l1Once c4 2).bind fun r7 => some (d, s, g, r7.1)) (fun r => (DIn r.1 ∧ DB r.1) ∧ Short r.2.1 ∧ BytesOk r.2.2.1.2.2 ∧ r.2.2.1.2.2.length ≤ 1000) := by
  intro g hg
  refine Tot.bind (Tot.of (Q := fun r => r = (b2, c5)) e5 rfl) ?_
  rintro r rfl
  exact Tot.pure ⟨hd, hs, hg⟩
 refine Tot.ite (fun _ => Tot.bind (specLook hd.1.1.1.1 hd.2.1 s) ?_) (fun _ => once hf)
 rintro r rfl
 exact Tot.ite (fun _ => once (look_file hd.2.1 s)) (fun _ => once hf)
end Go.Proofs.Ytehkignjdbkeiaa.Vf
end

section
set_option linter.unusedVariables false
set_option linter.unusedSimpArgs false
namespace Go.Proofs.Ytehkignjdbkeiaa.Vf
open Go
theorem sameFile_tot (a b : Fil) (hf : a.2.2.length ≤ 1000000000000) : Tot (fun k => laws_sameFile k a b) (fun r => r = decide (a = b)) := by
 obtain ⟨⟨a1, a2, a3⟩, a4, a5⟩ := a
 obtain ⟨⟨b1, b2, b3⟩, b4, b5⟩ := b
 unfold laws_sameFile
 dsimp only at hf ⊢
 have e : decide (((a1, a2, a3), a4, a5) = ((b1, b2, b3), b4, b5)) = (((a1 == b1) && ((a2 == b2) && (a3 == b3))) && ((a4 == b4) && decide (a5 = b5))) := by
  rw [Bool.eq_iff_iff, decide_eq_true_iff]
  simp only [Prod.mk.injEq, Bool.and_eq_true, beq_iff_eq, decide_eq_true_iff]
 rw [e]
 cases (a1 == b1) && ((a2 == b2) && (a3 == b3)) with
 | false => exact Tot.no rfl (Tot.pure rfl)
 | true =>
  refine Tot.yes rfl ?_
  cases a4 == b4 with
  | false => exact Tot.no rfl (Tot.pure rfl)
  | true =>
   refine Tot.yes rfl (Tot.bind (sameBytes_tot a5 b5 hf) ?_)
   rintro r rfl
   exact Tot.pure (by simp)
section
variable {d : Dsk} {s : ByteArray} {f : Fil} {sure : Bool}
theorem sle_self (a : Stp) : sle a a = false := sle_irrefl a
theorem keep_bad (h : (diskOk d && (nameOk s && fileOk f)) = false) : keep d s f sure = (d, 2) := by unfold keep; rw [h]; rfl
theorem keep_good (h1 : diskOk d = true) (h2 : nameOk s = true) (h3 : fileOk f = true) : keep d s f sure = keepR d s f sure := by unfold keep; rw [h1, h2, h3]; rfl
theorem kp2_cases {x : Dsk} {c : Int} : (kp2 d s sure (x, c) = (d, 3)) ∨ (sure = false ∧ kp2 d s sure (x, c) = (x, c)) ∨ (sure = true ∧ (sy x s).length ≤ 60 ∧ kp2 d s sure (x, c) = ((x.1, sy x s), c)) := by
 unfold kp2 syD
 cases sure with
 | false => exact .inr (.inl ⟨rfl, rfl⟩)
 | true =>
  rw [cond_true]
  by_cases h : (sy x s).length ≤ 60
  ·rw [decide_eq_true h]
   exact .inr (.inr ⟨rfl, h, rfl⟩)
  ·rw [decide_eq_false h]
   exact .inl rfl
theorem kp1_cases (hd : DG d) (hs : nameOk s = true) : kp1 d s f = none ∨ (∃ o, old d s = some o ∧ sle o.1 f.1 = false ∧ kp1 d s f = some (d, 1)) ∨ ((∀ o, old d s = some o → sle o.1 f.1 = true) ∧ (wr d.1 s (putF f)).length ≤ 60 ∧ kp1 d s f = some ((wr d.1 s (putF f), d.2), 0)) := by
 have hl : (putF f).length ≤ 400 := by have := putF_len f; omega
 have w : (bif (wrD d s (putF f)).2 then some ((wrD d s (putF f)).1, (0 : Int)) else none) = none ∨ ((wr d.1 s (putF f)).length ≤ 60 ∧ (bif (wrD d s (putF f)).2 then some ((wrD d s (putF f)).1, (0 : Int)) else none) = some ((wr d.1 s (putF f), d.2), 0)) := by
  unfold wrD
  rw [decide_eq_true hl, Bool.true_and]
  by_cases h : (wr d.1 s (putF f)).length ≤ 60
  ·rw [decide_eq_true h]; exact .inr ⟨h, rfl⟩
  ·rw [decide_eq_false h]; exact .inl rfl
 unfold kp1
 cases ho : old d s with
 | none =>
  rcases w with h | ⟨h1, h2⟩
  ·exact .inl h
  ·exact .inr (.inr ⟨fun o h => (by cases h), h1, h2⟩)
 | some o =>
  simp only
  cases hc : sle o.1 f.1 with
  | false => exact .inr (.inl ⟨o, rfl, hc, rfl⟩)
  | true =>
   rcases w with h | ⟨h1, h2⟩
   ·exact .inl h
   ·exact .inr (.inr ⟨fun o' h => (by cases h; exact hc), h1, h2⟩)
theorem keepR_spec (hd : DG d) (hs : nameOk s = true) : keepR d s f sure = (d, 3) ∨
  (∃ o, old d s = some o ∧ sle o.1 f.1 = false ∧ (keepR d s f sure).2 = 1 ∧ DG (keepR d s f sure).1 ∧ ((sure = false ∧ (keepR d s f sure).1 = d) ∨ (sure = true ∧ (keepR d s f sure).1 = (d.1, sy d s)))) ∨
  ((∀ o, old d s = some o → sle o.1 f.1 = true) ∧ DG (wr d.1 s (putF f), d.2) ∧ (keepR d s f sure).2 = 0 ∧ DG (keepR d s f sure).1 ∧ ((sure = false ∧ (keepR d s f sure).1 = (wr d.1 s (putF f), d.2)) ∨ (sure = true ∧ (keepR d s f sure).1 = (wr d.1 s (putF f), sy (wr d.1 s (putF f), d.2) s)))) := by
 have hg := keepR_g (f := f) (sure := sure) hd hs
 rcases kp1_cases (f := f) hd hs with h | ⟨o, h1, h2, h⟩ | ⟨h1, h2, h⟩
 ·exact .inl (by unfold keepR; rw [h])
 ·have e : keepR d s f sure = kp2 d s sure (d, 1) := by unfold keepR; rw [h]
  rcases kp2_cases (d := d) (s := s) (sure := sure) (x := d) (c := 1) with k | ⟨k0, k⟩ | ⟨k0, k1, k⟩
  ·exact .inl (e.trans k)
  ·rw [← e] at k
   exact .inr (.inl ⟨o, h1, h2, by rw [k], hg, .inl ⟨k0, by rw [k]⟩⟩)
  ·rw [← e] at k
   exact .inr (.inl ⟨o, h1, h2, by rw [k], hg, .inr ⟨k0, by rw [k]⟩⟩)
 ·have e : keepR d s f sure = kp2 d s sure ((wr d.1 s (putF f), d.2), 0) := by unfold keepR; rw [h]
  have hw := kp1_g hd hs h
  rcases kp2_cases (d := d) (s := s) (sure := sure) (x := (wr d.1 s (putF f), d.2)) (c := 0) with k | ⟨k0, k⟩ | ⟨k0, k1, k⟩
  ·exact .inl (e.trans k)
  ·rw [← e] at k
   exact .inr (.inr ⟨h1, hw, by rw [k], hg, .inl ⟨k0, by rw [k]⟩⟩)
  ·rw [← e] at k
   exact .inr (.inr ⟨h1, hw, by rw [k], hg, .inr ⟨k0, by rw [k]⟩⟩)
theorem gt_wr {l : List Nmd} (hs : SortedN l) {s t : ByteArray} {b : List Int} : gt (wr l s b) t = if s = t then some b else gt l t := by
 unfold wr
 rw [gt_ins (x := (s, b)) (cut_sorted hs) cut_no]
 by_cases h : s = t
 ·rw [if_pos h, if_pos h]
 ·rw [if_neg h, if_neg h, gt_cut hs, if_neg h]
theorem gt_sy (hd : diskOk d = true) {t : ByteArray} : gt (sy d s) t = if s = t then gt d.1 s else gt d.2 t := by
 unfold sy
 cases h : gt d.1 s with
 | none => rw [gt_cut (disk_s2 hd)]
 | some b => rw [gt_wr (disk_s2 hd)]
theorem keep_again (hd : DG d) (hs : nameOk s = true) (hf : fileOk f = true) (hb : BytesOk f.2.2) (h : (keepR d s f sure).2 = 0) : (keepR (keepR d s f sure).1 s f sure).2 = 1 ∧ lkD (keepR d s f sure).1 s = (f, 0) := by
 rcases keepR_spec (f := f) (sure := sure) hd hs with k | ⟨o, _, _, k, _⟩ | ⟨h1, h2, k, hg, h3⟩
 ·rw [k] at h; cases h
 ·rw [k] at h; cases h
 ·have e1 : (keepR d s f sure).1.1 = wr d.1 s (putF f) := by
   rcases h3 with ⟨_, h3⟩ | ⟨_, h3⟩ <;> rw [h3]
  have g1 : gt (keepR d s f sure).1.1 s = some (putF f) := by rw [e1, gt_wr (disk_s1 hd.1), if_pos rfl]
  have go : old (keepR d s f sure).1 s = some f := by unfold old; rw [g1, Option.bind_some, getF_put hf hb]
  refine ⟨?_, look_good.2 ⟨_, g1, getF_put hf hb⟩⟩
  have ek : keepR (keepR d s f sure).1 s f sure = kp2 (keepR d s f sure).1 s sure ((keepR d s f sure).1, 1) := by
   have : kp1 (keepR d s f sure).1 s f = some ((keepR d s f sure).1, 1) := by
    unfold kp1
    simp only [go, sle_self, cond_false]
   rw [show keepR (keepR d s f sure).1 s f sure = match kp1 (keepR d s f sure).1 s f with | some x => kp2 (keepR d s f sure).1 s sure x | none => ((keepR d s f sure).1, 3) from rfl, this]
  rw [ek]
  rcases h3 with ⟨rfl, h3⟩ | ⟨rfl, h3⟩
  ·rfl
  ·have hl : (sy (keepR d s f true).1 s).length ≤ 60 := by
    have e2 : sy (keepR d s f true).1 s = wr (keepR d s f true).1.2 s (putF f) := by unfold sy; rw [g1]
    have g2 : gt (keepR d s f true).1.2 s = some (putF f) := by
     rw [h3]
     show gt (sy (wr d.1 s (putF f), d.2) s) s = _
     rw [gt_sy h2.1, if_pos rfl]
     show gt (wr d.1 s (putF f)) s = _
     rw [gt_wr (disk_s1 hd.1), if_pos rfl]
    rw [e2, wr_len_eq (disk_s2 hg.1) (by rw [g2]; rfl)]
    exact (namedsOk_iff.1 (disk_iff.1 hg.1).2).2.2
   unfold kp2 syD
   rw [decide_eq_true hl]
   rfl
end
end Go.Proofs.Ytehkignjdbkeiaa.Vf
end

section
set_option linter.unusedVariables false
set_option linter.unusedSimpArgs false
namespace Go.Proofs.Ytehkignjdbkeiaa.Pure
open Go Go.RowKit Go.Proofs.Ytehkignjdbkeiaa.Vf
theorem FnKeep : ∀ (a0 : List Int), Ty.fit ti (.sl 5 (.i .u8)) a0 → ∃ k, laws_FnKeep k a0 = some true := by
 intro a0 _
 refine Tot.law (f := fun k => laws_FnKeep k a0) ?_
 unfold laws_FnKeep laws_big
 refine Tot.bind (Tot.pure (Q := fun b => b = decide ((List.length a0 : Int) > 1048576)) rfl) ?_
 rintro b rfl
 refine Tot.dite (fun _ => Tot.pure rfl) (fun hb => ?_)
 refine Tot.bind (drawKeep_tot a0 (by omega)) ?_
 rintro ⟨d, s, f, sure⟩ ⟨⟨hd, hdb⟩, hs, hfb, hfl⟩
 dsimp only at hd hdb hs hfb hfl
 dsimp only
 refine Tot.bind (implKeep d s f sure hd hdb.1 hs) ?_
 rintro x rfl
 refine Tot.bind (specKeep d s f sure hd hdb.1 hs) ?_
 rintro y rfl
 refine Tot.no (by simp) ?_
 refine Tot.bind (implLook hd.1.1.1 hdb.1 s) ?_
 rintro p rfl
 have hlk := look_file hdb.1 s
 cases hc : diskOk d && (nameOk s && fileOk f) with
 | false =>
  rw [keep_bad hc]
  refine Tot.bind (implLook hd.1.1.1 hdb.1 s) ?_
  rintro q rfl
  refine Tot.no rfl (Tot.no rfl (Tot.yes (by simp) ?_))
  refine Tot.bind (sameFile_tot _ _ (by omega)) ?_
  rintro r rfl
  exact Tot.pure (decide_eq_true rfl)
 | true =>
  rw [Bool.and_eq_true, Bool.and_eq_true] at hc
  obtain ⟨h1, h2, h3⟩ := hc
  have hg : DG d := ⟨h1, hdb⟩
  rw [keep_good h1 h2 h3]
  have hx : DG (keepR d s f sure).1 := keepR_g hg h2
  have hxi := din_ok hx.1
  have hlx := look_file hx.2.1 s
  refine Tot.bind (implLook hxi.1.1.1 hx.2.1 s) ?_
  rintro q rfl
  rcases keepR_spec (f := f) (sure := sure) hg h2 with k | ⟨o, o1, o2, k, _, k3⟩ | ⟨k1, k2, k, _, k3⟩
  ·rw [k]
   refine Tot.no rfl (Tot.no rfl (Tot.yes (by simp) ?_))
   refine Tot.bind (sameFile_tot _ _ (by omega)) ?_
   rintro r rfl
   exact Tot.pure (decide_eq_true rfl)
  ·rw [k]
   have e1 : (keepR d s f sure).1.1 = d.1 := by rcases k3 with ⟨_, k3⟩ | ⟨_, k3⟩ <;> rw [k3]
   have el : lkD (keepR d s f sure).1 s = lkD d s := by unfold lkD; rw [e1]
   have ho : lkD d s = (o, 0) := by
    unfold old at o1
    cases hgd : gt d.1 s with
    | none => rw [hgd] at o1; cases o1
    | some b => rw [hgd] at o1; exact look_good.2 ⟨b, hgd, o1⟩
   rw [el, ho]
   refine Tot.no rfl (Tot.yes rfl (Tot.yes rfl (Tot.yes rfl ?_)))
   rw [ho] at hlk
   refine Tot.bind (sameFile_tot o o (by have := hlk.2; dsimp only at this; omega)) ?_
   rintro r rfl
   refine Tot.yes (decide_eq_true rfl) ?_
   refine Tot.bind (Tot.of (Q := fun b => b = sle o.1 f.1) (implNewer f o) rfl) ?_
   rintro r rfl
   rw [o2]
   exact Tot.pure rfl
  ·obtain ⟨m1, m2⟩ := keep_again hg h2 h3 hfb k
   rw [k]
   refine Tot.yes rfl ?_
   refine Tot.bind (implKeep (keepR d s f sure).1 s f sure hxi hx.2.1 hs) ?_
   rintro r rfl
   rw [keep_good hx.1 h2 h3, m2]
   refine Tot.yes rfl ?_
   refine Tot.bind (sameFile_tot f f (by omega)) ?_
   rintro r rfl
   refine Tot.yes (decide_eq_true rfl) (Tot.yes (by rw [m1]; rfl) ?_)
   refine Tot.bind (implDisk _ hxi.1.1 hxi.1.2) ?_
   rintro r rfl
   refine Tot.yes hx.1 (Tot.ite (fun _ => Tot.pure rfl) (fun h => ?_))
   have hz : (lkD d s).2 = 0 := by
    simpa using h
   refine Tot.bind (Tot.of (Q := fun b => b = sle (lkD d s).1.1 f.1) (implNewer f _) rfl) ?_
   rintro r rfl
   refine Tot.pure ?_
   obtain ⟨b, g1, g2⟩ := look_good.1 (show lkD d s = ((lkD d s).1, 0) by rw [← hz])
   exact k1 _ (by unfold old; rw [g1]; exact g2)
end Go.Proofs.Ytehkignjdbkeiaa.Pure
end
