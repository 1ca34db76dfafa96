/- Stores, new boxes. -/
import Derived.Test.YtehkignjdbkeiaaVm
set_option linter.unusedVariables false
set_option linter.unusedSimpArgs false
namespace Go.Proofs.Ytehkignjdbkeiaa.Vf
open Go
attribute [local irreducible] C H

section
variable {X : Cx} {S S' : Sit} {a : Act} {E : En} {A : Ab} {o : Oper} {R : Type} {Kc : List Up → Option R} {r : R}

/-- Names are changed for others. -/
theorem Okay.names (K : Okay X S a) (h : Nat → List Nat → Option Lab) (hno : ∀ n q, h n q ≠ some .no) : Okay X { S with O := atO S.O h } a ∧ Later S { S with O := atO S.O h } := by
  have L : Later S { S with O := atO S.O h } := ⟨fun _ => Nat.le_refl _, fun _ _ => rfl, fun p v e r xs' h _ => ⟨xs', h, rfl⟩, fun _ _ => rfl, fun k hk => ⟨atO_other hk (by simp), rfl⟩⟩
  exact ⟨K.ghost _ _ (fun k e => atO_other e (by simp)) (fun k e1 e2 => e1 (atO_other e2 (by simp))) (fun k e => atO_other e (by simp)) (fun k b e => atO_other e (by simp)) (fun _ _ e => e)
    (fun l => (K.at_ l).later L (fun p k e => ⟨atO_other e (by simp), rfl⟩)), L⟩

/-- All that is held by one name may be read by all. -/
def frzH (i : Nat) : Nat → List Nat → Option Lab := fun n _ => if n = i then some .fz else none

theorem calm_rep {P : Program} {S : Sit} {i : Nat} {q : Nat → List Nat} : ∀ {l : List Lf} {j : Nat} {us : List Value}, storable l = true → LfsOk P S (fun n => .tm i (q n)) j l us → All2 (LfRep P (fun k => atO S.O (frzH i) k = .fz) S.w) (l.map calm) us
  | [], _, [], _, _ => .nil
  | [], _, _ :: _, _, h => h.elim
  | _ :: _, _, [], _, h => h.elim
  | x :: l, j, u :: us, hst, h => by
    have hfz : ∀ k, S.O k = .fz → atO S.O (frzH i) k = .fz := fun k hk => atO_other hk (by simp)
    cases x with
    | sc v => exact .cons h.1 (calm_rep (by simpa [storable] using hst) h.2)
    | fz e r xs => exact .cons (Ty.rep_mono (t := .sl e r) hfz (fun _ _ => rfl) _ _ h.1) (calm_rep (by simpa [storable] using hst) h.2)
    | own e r xs =>
      refine .cons ?_ (calm_rep (by simpa [storable] using hst) h.2)
      have h1 : OwnOk P S.O S.w (.tm i (q j)) e r xs u := h.1
      exact own_reads (O' := fun k => atO S.O (frzH i) k) h1 hfz (fun k hk => atO_tm (h1.2.choose_spec.2.2 k hk) (by simp [frzH]))
    | _ => simp [storable] at hst

theorem storable_calm : ∀ l : List Lf, storable (l.map calm) = true → storable l = true
  | [], _ => rfl
  | x :: l, h => by
    cases x <;> first | (simp [storable, calm] at h; done) | exact storable_calm l (by simpa [storable, calm] using h)

theorem rep_storable {P : Program} {G : Nat → Prop} {w : World} {l : List Lf} {us : List Value} (h : All2 (LfRep P G w) l us) : storable l = true := by
  induction h with
  | nil => rfl
  | @cons x u xs us hx _ ih => cases x <;> first | exact ih | exact hx.elim

/-- A cell that may be stored. -/
theorem one_of {P : Program} {f : Nat → Lab} : ∀ {l : List Lf} {j : Nat} {us : List Value}, storable l = true → LfsOk P S f j l us → ∀ u ∈ us, u.oneCell' = true
  | [], _, [], _, _ => by simp
  | [], _, _ :: _, _, h => h.elim
  | _ :: _, _, [], _, h => h.elim
  | x :: l, j, u :: us, hst, h => by
    intro v hv
    rcases List.mem_cons.1 hv with rfl | hv
    · cases x with
      | sc w =>
        obtain ⟨rfl, h2⟩ := h.1
        unfold isSc at h2
        split at h2 <;> first | rfl | cases h2
      | fz e r xs =>
        obtain ⟨ad, cap, e1⟩ := len_of_fz (X := ⟨P, fun _ => .no, S.w, fun _ => (0, 0), 0, 0⟩) h.1
        rw [e1]; rfl
      | own e r xs =>
        obtain ⟨ad, cap, e1⟩ := len_of_own (X := ⟨P, fun _ => .no, S.w, fun _ => (0, 0), 0, 0⟩) h.1
        rw [e1]; rfl
      | _ => simp [storable] at hst
    · refine one_of (l := l) (us := us) ?_ h.2 v hv
      cases x <;> first | (simp [storable] at hst; done) | simpa [storable] using hst

theorem shape_cells {s : Sv} {u : Value} {us : List Value} (hs : Shape s u us) (hnt : ∀ vs, s ≠ .tup vs) (h1 : ∀ v ∈ us, v.oneCell' = true) : u.cells = us.toArray := by
  cases s with
  | agg l => have : u = .agg us.toArray := hs; rw [this]; rfl
  | one x =>
    have : us = [u] := hs
    subst this
    have := h1 u (by simp)
    cases u <;> first | (simp [Value.oneCell'] at this; done) | rfl
  | tup vs => exact absurd rfl (hnt vs)

theorem parts_nt {s : Sv} {T : TypeId} {t : TI} {l : List Lf} (hl : l.length = (parts s).length) (h : l.length = t.ty.sz) (ht : TOk X.P T t) : ∀ vs, s ≠ .tup vs := by
  intro vs e
  subst e
  have : ∀ t : Ty, 0 < t.sz := by intro t; induction t <;> simp [Ty.sz] <;> omega
  have := this t.ty
  simp [parts] at hl
  simp [hl] at h
  omega

theorem run_storeAt {P : Program} {w : World} {T : TypeId} {t : TI} {x y : Operand} {k o' : Nat} {us : List Value} {c : Array Value} {e : TypeId} {u : Value} (ht : TOk P T t) (ho : o.op = .store T x y) (hx : a.eval x = .pointer (some ⟨k, o', none⟩)) (hy : a.eval y = u) (hu : u.cells = us.toArray)
    (hl : us.length = t.ty.sz) (hc : w.heap[k]? = some (.cells c e (0, 0))) (hle : o' + us.length ≤ c.size) (h1 : ∀ v ∈ us, v.oneCell' = true) :
    (execOp a.eval o).run P w = .ok .skip (w.setRow k (c.toList.take o' ++ us ++ c.toList.drop (o' + us.length)).toArray) := by
  have hst := run_storeCells_at P k o' e us 0 c w hc (by simpa using hle) h1
  simp only [Nat.add_zero] at hst
  unfold execOp
  simp only [ho, hx, hy, Instr.storeAt, Instr.sureAddr, Sem.run_bind, Sem.run_pure, Result.andThen_ok, storeVar, hu, info_size (tok_size ht), List.size_toArray]
  rw [if_neg (by simp [hl])]
  simp [hst]

theorem boxH_q {s : Sv} {b off : Nat} {m : List Lf} (hm : m.length = (parts s).length) (hnt : ∀ vs, s ≠ .tup vs) : ∀ j, j < m.length → boxH b off 0 (pth s j) = some (.pl (C b (off + j)) []) := by
  intro j hj
  cases s with
  | one x =>
    have : j = 0 := by simp [parts] at hm; omega
    subst this
    rfl
  | agg l => rfl
  | tup vs => exact absurd rfl (hnt vs)

theorem storable_nohd {m : List Lf} (h : storable m = true) : ∀ k, .hd k ∉ m := by
  induction m with
  | nil => simp
  | cons x l ih =>
    intro k hk
    rcases List.mem_cons.1 hk with rfl | hk
    · simp [storable] at h
    · exact ih (by cases x <;> first | (simp [storable] at h; done) | simpa [storable] using h) k hk

theorem same_at {p : Nat} : ∀ (U : List Up) (A0 : Ab), apart p U = true → get (ups A0 U) p = get A0 p
  | [], A0, _ => rfl
  | u :: U, A0, hU => by
    simp only [apart, Bool.and_eq_true, Bool.not_eq_true'] at hU
    show get (ups (up A0 u) U) p = _
    rw [same_at U _ hU.2, get_up, upd_ne]
    intro e2
    rw [e2] at hU
    simp at hU

theorem splice {cs us : List Value} {i sz off : Nat} (h1 : i + sz ≤ cs.length) (h2 : off + us.length ≤ sz) :
    cs.take (i + off) ++ us ++ cs.drop (i + off + us.length) = cs.take i ++ (((cs.drop i).take sz).take off ++ us ++ ((cs.drop i).take sz).drop (off + us.length)) ++ cs.drop (i + sz) := by
  have e1 : cs.take (i + off) = cs.take i ++ ((cs.drop i).take sz).take off := by
    rw [List.take_take, Nat.min_eq_left (by omega), ← List.take_add]
  have e2 : cs.drop (i + off + us.length) = ((cs.drop i).take sz).drop (off + us.length) ++ cs.drop (i + sz) := by
    rw [List.drop_take, List.drop_drop, ← Nat.add_assoc]
    have : cs.drop (i + sz) = (cs.drop (i + off + us.length)).drop (sz - (off + us.length)) := by rw [List.drop_drop]; congr 1; omega
    rw [this, List.take_append_drop]
  rw [e1, e2]
  simp [List.append_assoc]

theorem take_splice {L us : List Value} {j n : Nat} (h : j + us.length ≤ n) (hn : n ≤ L.length) : (L.take j ++ us ++ L.drop (j + us.length)).take n = (L.take n).take j ++ us ++ (L.take n).drop (j + us.length) := by
  have hl : (L.take j ++ us).length = j + us.length := by rw [List.length_append, List.length_take]; omega
  rw [List.take_take, Nat.min_eq_left (by omega), List.drop_take, List.take_append, List.take_of_length_le (by rw [hl]; exact h), hl]

theorem LfsRep.setAll {P : Program} {G : Nat → Prop} {w : World} {l m : List Lf} {cs us : List Value} {off : Nat} (h : All2 (LfRep P G w) l cs) (hm : All2 (LfRep P G w) m us) :
    All2 (LfRep P G w) (Vf.setAll l off m) (cs.take off ++ us ++ cs.drop (off + us.length)) := by
  unfold Vf.setAll
  rw [hm.len]
  exact ((h.take off).append hm).append (h.drop _)

/-- A store into what is owned. -/
theorem own_store {P : Program} {O : Nat → Lab} {w : World} {p : Nat} {e : TypeId} {r' : Ty} {xs : List r'.den} {u : Value} {k cap i off : Nat} {cur : Array Value} {m : List Lf} {us : List Value} {z : r'.den}
    (h : OwnOk P O w (.pl p []) e r' xs u) (hu : u = .slice (some ⟨k, 0, none⟩) xs.length cap) (hc : w.heap[k]? = some (.cells cur e (0, 0))) (hk : O k = .pl p []) (hi : i < xs.length) (hm : All2 (LfRep P (fun k => O k = .fz) w) m us)
    (hz : mkW r' (Vf.setAll (lvs r' (xs.getD i r'.dflt)) off m) = some z) (hle : off + us.length ≤ r'.sz) :
    i * r'.sz + off + us.length ≤ cur.size ∧ OwnOk P O (w.setRow k (cur.toList.take (i * r'.sz + off) ++ us ++ cur.toList.drop (i * r'.sz + off + us.length)).toArray) (.pl p []) e r' (xs.set i z) u := by
  obtain ⟨hs, cs, hrow, hrows, hb⟩ := h
  rcases own_nil_or hrow with ⟨e1, _⟩ | ⟨k', cap', cur', e1, hcur, h1, h2, h3, h4⟩
  · rw [hu] at e1; cases e1
  · rw [hu] at e1
    cases e1
    rw [hc] at hcur
    cases hcur
    have hlt : (i + 1) * r'.sz ≤ xs.length * r'.sz := Nat.mul_le_mul_right _ hi
    have hcl : cs.length = xs.length * r'.sz := hrow.1
    have hcap : xs.length * r'.sz ≤ cap * r'.sz := Nat.mul_le_mul_right _ h1
    rw [Nat.add_mul, Nat.one_mul] at hlt
    have hget := hrows.get (Ty.rep_len r') i (xs.getD i r'.dflt) (by rw [List.getD_eq_getElem?_getD, List.getElem?_eq_getElem hi]; rfl)
    have hnew := mkW_rep hz (LfsRep.setAll (off := off) (lvs_rep _ _ _ hget) hm)
    have hrows2 := hrows.set (Ty.rep_len r') i z _ hi hnew
    rw [← splice (by omega) (by omega)] at hrows2
    refine ⟨by omega, hs, _, ⟨?_, .inr ⟨k, cap, _, by rw [List.length_set]; exact hu, Nat.zero_le _, setRow_heap _ _ _ _ _ _ hc, by rw [List.length_set]; exact h1, h2, ?_, ?_⟩⟩, hrows2.mono (fun x c => Ty.rep_mono (fun _ h => h) (fun j hj => setRow_other _ _ _ _ (fun e => by have : O k = .fz := e ▸ hj; rw [hk] at this; cases this)) r' x c), hb⟩
    · simp only [List.length_append, List.length_take, List.length_drop, List.length_set]
      omega
    · simp only [List.size_toArray, List.length_append, List.length_take, List.length_drop, Array.length_toList]
      omega
    · rw [List.length_set, ← h4]
      exact take_splice (n := xs.length * r'.sz) (by omega) (by have h9 : cur.toList.length = cur.size := Array.length_toList; omega)

/-- A place's own block is rewritten. -/
theorem Okay.rewrite (K : Okay X S a) {p n k : Nat} {e : TypeId} {r' : Ty} {xs ys : List r'.den} {w' : World} (hp : S.g p = (n, .one (.own e r' xs))) (hk : S.O k = .pl p []) (hold : ∀ j o', S.O j = o' → o' ≠ .pl p [] → w'.heap[j]? = S.w.heap[j]?)
    (hsz : w'.heap.size = S.w.heap.size) (h1 : w'.os = S.w.os) (h2 : w'.tape = S.w.tape) (h3 : w'.output = S.w.output) (hown : OwnOk X.P S.O w' (.pl p []) e r' ys (S.ph p)) (hlen : ys.length = xs.length) :
    Okay X { S with g := upd S.g p (n, .one (.own e r' ys)), w := w' } a ∧ ({ S with g := upd S.g p (n, .one (.own e r' ys)), w := w' } : Sit).g = upd S.g p (n, .one (.own e r' ys)) := by
  have L : Later S { S with g := upd S.g p (n, .one (.own e r' ys)), w := w' } := by
    refine ⟨fun q => ?_, fun _ _ => rfl, fun q v e2 r2 xs' hq hv => ?_, fun _ _ => rfl, fun j hj => ⟨hj, hold j _ hj (by simp)⟩⟩
    · show _ ≤ (upd S.g p _ q).1
      by_cases h : q = p
      · subst h; rw [upd_same, hp]; exact Nat.le_refl _
      · rw [upd_ne _ _ h]; exact Nat.le_refl _
    · have hq' : upd S.g p (n, .one (.own e r' ys)) q = (v, .one (.own e2 r2 xs')) := hq
      by_cases h : q = p
      · subst h
        rw [upd_same] at hq'
        cases hq'
        exact ⟨xs, hp, hlen.symm⟩
      · rw [upd_ne _ _ h] at hq'
        exact ⟨xs', hq', rfl⟩
  have F := K.fr
  refine ⟨⟨K.nt, fun j hj => by rw [show ({ S with g := upd S.g p (n, .one (.own e r' ys)), w := w' } : Sit).w = w' from rfl, hsz]; exact K.lt j hj, fun l => ?_, fun b m hb => ?_, fun b m hb => ?_, K.sl, K.sz, K.df, ⟨h1.trans F.os, h2.trans F.tape, h3.trans F.out, by rw [show ({ S with g := upd S.g p (n, .one (.own e r' ys)), w := w' } : Sit).w = w' from rfl, hsz]; exact F.size, fun j hj h0 => ?_, fun j hj h0 => ?_, fun j b hj h0 => ?_⟩⟩, rfl⟩
  · show SvOk X.P _ l (upd S.g p _ l).2 _
    by_cases h : l = p
    · subst h; rw [upd_same]; exact hown
    · rw [upd_ne _ _ h]
      exact (K.at_ l).later L (fun q j hj => ⟨hj, hold j _ hj (by simp [h])⟩)
  · have hne : H b ≠ p := by
      intro e2
      have : (upd S.g p (n, .one (.own e r' ys)) (H b)).2 = .one (.hd m) := hb
      rw [e2, upd_same] at this
      cases this
    have hb' : (S.g (H b)).2 = .one (.hd m) := by
      have : (upd S.g p (n, .one (.own e r' ys)) (H b)).2 = .one (.hd m) := hb
      rwa [upd_ne _ _ hne] at this
    obtain ⟨hn, c, e1, e2, e3, e4⟩ := K.box b m hb'
    exact ⟨hn, c, e1, (hold _ _ e3 (by simp)).trans e2, e3, e4⟩
  · have hne : H b ≠ p := by
      intro e2
      have : (upd S.g p (n, .one (.own e r' ys)) (H b)).2 = .one (.hd m) := hb
      rw [e2, upd_same] at this
      cases this
    have hb' : (S.g (H b)).2 = .one (.hd m) := by
      have : (upd S.g p (n, .one (.own e r' ys)) (H b)).2 = .one (.hd m) := hb
      rwa [upd_ne _ _ hne] at this
    exact K.rgn b m hb'
  · obtain ⟨f1, f2⟩ := F.no j hj h0
    exact ⟨f1, (hold j _ f1 (by simp)).trans f2⟩
  · obtain ⟨f1, f2⟩ := F.fz j hj h0
    exact ⟨f1, (hold j _ f1 (by simp)).trans f2⟩
  · obtain ⟨f1, c, c', e1, f, f2, f3, f4, f5⟩ := F.bx j b hj h0
    exact ⟨f1, c, c', e1, f, f2, (hold j _ f1 (by simp)).trans f3, f4, f5⟩

theorem st_store (hE : EnOk X E) (K : Okay X S a) (hg : S.g = get A) {T : TypeId} {x y : Operand} (ho : o.op = .store T x y) (hod : o.dst = none) (h : step E o A Kc = some r) : After X o a S.w A Kc r := by
  unfold step at h
  rw [ho, hod] at h
  simp only at h
  have skip : ∀ {S2 : Sit} {w : World} {A' : Ab}, (execOp a.eval o).run X.P w = .ok .skip S2.w → Okay X S2 a → S2.g = get A' → Goes X o a w A' := by
    intro S2 w A' hr K2 hg2
    refine goes_skip hr ?_ hg2
    rw [hod]
    exact K2
  split at h
  · rename_i ti b v off s hti hsx hsy
    obtain ⟨pl, hsv⟩ := opT_ex hE K hg hsx
    have hlf : LfOk X.P S (.pl pl []) (.bp b v off) (a.eval x) := hsv
    split at h
    · rename_i n hd hp
      cases hq : (Nat.beq n v && storable ((parts s).map (kept A)) && Nat.beq ((parts s).map (kept A)).length ti.ty.sz && Nat.ble (off + ti.ty.sz) hd) with
      | false => rw [hq] at h; simp at h
      | true =>
        rw [hq, cond_true] at h
        simp only [Bool.and_eq_true] at hq
        obtain ⟨⟨⟨q1, q2⟩, q3⟩, q4⟩ := hq
        have hnv : n = v := by simpa using q1
        have hle : off + ti.ty.sz ≤ hd := Nat.le_of_ble_eq_true q4
        have hlen : ((parts s).map (kept A)).length = ti.ty.sz := Nat.eq_of_beq_eq_true q3
        subst hnv
        have ht := hE.ti _ _ hti
        have hnt := parts_nt (X := X) (s := s) (by simp) hlen ht
        have hh : (S.g (H b)).2 = .one (.hd hd) := by rw [hg, hp]
        obtain ⟨S1, K1, g1, w1, b1, p1, L1, x1, heads, _, us, hsh, hls⟩ := taken hE K hg hsy hnt 0
        have hh1 : (S1.g (H b)).2 = .one (.hd hd) := by rw [(heads b).2 hd hh]; exact hh
        obtain ⟨_, c, e, c1, c2, c3, c4⟩ := K1.box b hd hh1
        have hpt : a.eval x = .pointer (some ⟨(S1.bb b).1, (S1.bb b).2 + off, none⟩) := by rw [b1]; exact hlf.2 (by rw [hg, hp])
        have hul := hls.len
        have hone := one_of q2 hls
        obtain ⟨K2, L2⟩ := K1.cells (b := b) (off := off) hh1 (by rw [hlen]; exact hle) c1 hls (boxH_q (by simp) hnt) (storable_nohd q2)
        have hr := run_storeAt (w := S1.w) ht ho hpt rfl (shape_cells hsh hnt hone) (hul.trans hlen) c1 (by omega) hone
        refine ⟨_, h, skip (by rw [← w1]; exact hr) K2 ?_⟩
        show gput S1.g b off _ = _
        rw [ups_append, get_putCells, ← g1]
    · cases h
  · rename_i ti p v i off s hti hsx hsy
    obtain ⟨pl, hsv⟩ := opT_ex hE K hg hsx
    have hlf : LfOk X.P S (.pl pl []) (.ep p v i off) (a.eval x) := hsv
    split at h
    · rename_i n e r' xs hp
      cases hq : (Nat.beq n v && storable ((parts s).map (kept A)) && Nat.beq ((parts s).map fun x => calm (kept A x)).length ti.ty.sz && Nat.ble (off + ((parts s).map fun x => calm (kept A x)).length) r'.sz && apart p (costs A (parts s) ++ gone y s)) with
      | false => rw [hq] at h; simp at h
      | true =>
        rw [hq, cond_true] at h
        simp only [Bool.and_eq_true] at hq
        obtain ⟨⟨⟨⟨q1, q2⟩, q3⟩, q4⟩, q5⟩ := hq
        have hnv : n = v := by simpa using q1
        have hlen : ((parts s).map fun x => calm (kept A x)).length = ti.ty.sz := Nat.eq_of_beq_eq_true q3
        have hle : off + ((parts s).map fun x => calm (kept A x)).length ≤ r'.sz := Nat.le_of_ble_eq_true q4
        subst hnv
        split at h
        · rename_i z hz
          have ht := hE.ti _ _ hti
          have hnt := parts_nt (X := X) (s := s) (by simp) hlen ht
          obtain ⟨S1, K1, g1, w1, b1, p1, L1, x1, heads, _, us, hsh, hls⟩ := taken hE K hg hsy hnt 0
          have hul := hls.len
          have hone := one_of q2 hls
          have hrep := calm_rep q2 hls
          rw [List.map_map] at hrep
          rw [List.length_map] at hul hlen hle
          obtain ⟨K2, L2⟩ := K1.names (frzH 0) (by intro n q; unfold frzH; split <;> simp)
          have L12 := L1.trans L2
          have hp2 : ({ S1 with O := atO S1.O (frzH 0) } : Sit).g p = (n, .one (.own e r' xs)) := by
            show S1.g p = _
            rw [g1, same_at _ _ q5, hp]
          have hlf2 : LfOk X.P { S1 with O := atO S1.O (frzH 0) } .fz (.ep p n i off) (a.eval x) := (LfOk.relab (lab' := .fz) rfl hlf).later L12 (fun k hk => L12.fz k hk)
          obtain ⟨k, _, cur, cap, e1, _, _, hi, e4, e5, e6⟩ := ep_cells K2 hp2 hlf2
          have hown : OwnOk X.P (atO S1.O (frzH 0)) S1.w (.pl p []) e r' xs (S1.ph p) := by
            have h0 := K2.at_ p
            rw [hp2] at h0
            exact h0
          obtain ⟨hsz, hown3⟩ := own_store (us := us) hown e4 e5 e6 hi hrep hz (by omega)
          have hr := run_storeAt (w := S1.w) ht ho e1 rfl (shape_cells hsh hnt hone) (by omega) e5 hsz hone
          have hold : ∀ j, j ≠ k → (S1.w.setRow k (cur.toList.take (i.toNat * r'.sz + off) ++ us ++ cur.toList.drop (i.toNat * r'.sz + off + us.length)).toArray).heap[j]? = S1.w.heap[j]? := fun j hj => setRow_other _ _ _ _ hj
          have hne : ∀ j o', atO S1.O (frzH 0) j = o' → o' ≠ .pl p [] → (S1.w.setRow k (cur.toList.take (i.toNat * r'.sz + off) ++ us ++ cur.toList.drop (i.toNat * r'.sz + off + us.length)).toArray).heap[j]? = S1.w.heap[j]? := fun j o' hj ho' => hold j (fun e => ho' (by rw [← hj, e]; exact e6))
          obtain ⟨K3, g3⟩ := K2.rewrite hp2 e6 hne (by simp [World.setRow]) rfl rfl rfl hown3 (by simp)
          refine ⟨_, h, skip (by rw [← w1]; exact hr) K3 ?_⟩
          rw [g3, ups_append, get_keep, ← g1]
          show upd S1.g p _ = _
          congr 1
          have : S1.g p = (n, .one (.own e r' xs)) := hp2
          rw [this]
        · cases h
    · cases h
  · cases h
end
end Go.Proofs.Ytehkignjdbkeiaa.Vf
