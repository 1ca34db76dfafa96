import Derived.Test.YtgocagaijgcnmaaGreatMad
import Derived.Laws.CopyRow
section
set_option linter.unusedVariables false
set_option linter.unusedSimpArgs false
namespace Go.Proofs.YtgocagaijgcnmaaGreat.Vf
open Go
attribute [local irreducible] C H
def groS (S : Sit) (w : World) (O : Nat → Lab) : Sit := { S with O := O, w := w }
def boxS (S : Sit) (d k o : Nat) (m : List Lf) (us : List Value) : Sit :=
 { O := fun j => if j = k then .bx d else atO S.O (boxH d 0) j, bb := upd S.bb d (k, o), g := gput (upd S.g (H d) ((S.g (H d)).1 + 1, .one (.hd m.length))) d 0 m, ph := phput S.ph d 0 us, w := S.w }
section
variable {X : Cx} {S S' : Sit} {a : Act} {E : En} {A : Ab} {o : Oper} {R : Type} {Kc : List Up → Option R} {r : R}
theorem Okay.grow (K : Okay X S a) {w' : World} {row : Option Nat} {O' : Nat → Lab} (hw : S.w.grownBy w' row) (hrow : ∀ k, row = some k → ∃ n q, S.O k = .tm n q)
  (hO : ∀ k, k < S.w.heap.size → (∀ n q, S.O k ≠ .tm n q) → O' k = S.O k) (hlt : ∀ k, O' k ≠ .no → k < w'.heap.size) :
  Okay X (groS S w' O') a ∧ Later S (groS S w' O') := by
 have keep : ∀ k o, S.O k = o → k < S.w.heap.size → (∀ n q, o ≠ .tm n q) → O' k = o ∧ w'.heap[k]? = S.w.heap[k]? := by
  intro k o' h hk ho
  refine ⟨(hO k hk (by rw [h]; exact ho)).trans h, hw.block k hk (fun e => ?_)⟩
  obtain ⟨n, q, h2⟩ := hrow k e.symm
  exact ho n q (h.symm.trans h2)
 have keep' : ∀ k o, S.O k = o → o ≠ .no → (∀ n q, o ≠ .tm n q) → O' k = o ∧ w'.heap[k]? = S.w.heap[k]? := fun k o' h hn ho => keep k o' h (K.lt k (by rw [h]; exact hn)) ho
 have L : Later S (groS S w' O') := ⟨fun _ => Nat.le_refl _, fun _ _ => rfl, fun p v e r xs' h _ => ⟨xs', h, rfl⟩, fun _ _ => rfl, fun k h => keep' k _ h (by simp) (by simp), Later.box_of (fun _ _ _ h => h) (fun k b h => keep' k _ h (by simp) (by simp)), fun p _ hd => ⟨hd, fun _ _ _ h => h, fun k hk => by
  obtain ⟨h1, h2⟩ := keep' k _ hk (by simp) (by simp)
  exact ⟨.inl h1, h2⟩⟩⟩
 have F := K.fr
 refine ⟨⟨K.nt, hlt, fun l => (K.at_ l).later L (fun p k h => keep' k _ h (by simp) (by simp)), fun b n h => ?_, K.rgn, K.sl, K.sz, K.df, ⟨hw.os.trans F.os, hw.tape.trans F.tape, hw.output.trans F.out, Nat.le_trans F.size hw.size, fun k hk h0 => ?_, fun k hk h0 => ?_, fun k b hk h0 => ?_⟩⟩, L⟩
 ·obtain ⟨hn, c, e, e1, e2, e3, e4⟩ := K.box b n h
  obtain ⟨h5, h6⟩ := keep' _ _ e2 (by simp) (by simp)
  exact ⟨hn, c, e, h6.trans e1, h5, e3, e4⟩
 ·obtain ⟨f1, f2⟩ := F.no k hk h0
  obtain ⟨h5, h6⟩ := keep k _ f1 (Nat.lt_of_lt_of_le hk F.size) (by simp)
  exact ⟨h5, h6.trans f2⟩
 ·obtain ⟨f1, f2⟩ := F.fz k hk h0
  obtain ⟨h5, h6⟩ := keep k _ f1 (Nat.lt_of_lt_of_le hk F.size) (by simp)
  exact ⟨h5, h6.trans f2⟩
 ·obtain ⟨f1, c, c', e, f, f2, f3, f4, f5⟩ := F.bx k b hk h0
  obtain ⟨h5, h6⟩ := keep k _ f1 (Nat.lt_of_lt_of_le hk F.size) (by simp)
  exact ⟨h5, c, c', e, f, f2, h6.trans f3, f4, f5⟩
theorem Okay.newbox (K : Okay X S a) {d k o : Nat} {m : List Lf} {us : List Value} {q : Nat → List Nat} {c : Array Value} {e : TypeId} {l0 : List Nat} {n0 : Nat} (hk : S.O k = .tm n0 l0) (hn0 : n0 ≠ 0) (hk0 : X.w0.heap.size ≤ k)
  (hc : S.w.heap[k]? = some (.cells c e (0, 0))) (ho : o + m.length ≤ c.size) (hcs : ∀ j, j < m.length → c[o + j]? = us[j]?) (hl : LfsOk X.P S (fun j => .tm 0 (q j)) 0 m us)
  (hq : ∀ j, j < m.length → boxH d 0 0 (q j) = some (.pl (C d (0 + j)) [])) (hm : m.length < 999) (hnh : ∀ k, .hd k ∉ m) (hnp : X.np ≤ d) (hd1 : d < 1000) :
  Okay X (boxS S d k o m us) a ∧ Later S (boxS S d k o m us) := by
 have hlen := hl.len
 have gout : ∀ p, p ≠ H d → ¬ (C d 0 ≤ p ∧ p < C d 0 + m.length) → (boxS S d k o m us).g p = S.g p ∧ phput S.ph d 0 us p = S.ph p := fun p hp1 hp => by
  refine ⟨?_, ?_⟩
  ·show gput _ d 0 m p = _
   unfold gput
   rw [if_neg hp, upd_ne _ _ hp1]
  ·unfold phput
   rw [if_neg (by rw [hlen]; exact hp)]
 have hH : ¬ (C d 0 ≤ H d ∧ H d < C d 0 + m.length) := heads_apart (by omega)
 have gH : (boxS S d k o m us).g (H d) = ((S.g (H d)).1 + 1, .one (.hd m.length)) := by
  show gput _ d 0 m (H d) = _
  unfold gput
  rw [if_neg hH, upd_same]
 have gin : ∀ p, (C d 0 ≤ p ∧ p < C d 0 + m.length) → (boxS S d k o m us).g p = ((S.g p).1 + 1, .one (m.getD (p - C d 0) .dead)) ∧ phput S.ph d 0 us p = us.getD (p - C d 0) undef := fun p hp => by
  refine ⟨?_, ?_⟩
  ·show gput _ d 0 m p = _
   unfold gput
   rw [if_pos hp, upd_ne _ _ (fun e => by rw [e] at hp; exact hH hp)]
  ·unfold phput
   rw [if_pos (by rw [hlen]; exact hp)]
 have keep : ∀ j o', S.O j = o' → (∀ n q, o' ≠ .tm n q) → (boxS S d k o m us).O j = o' := fun j o' h ho' => by
  have : j ≠ k := fun e => ho' n0 l0 (by rw [← h, e, hk])
  show (if j = k then _ else _) = _
  rw [if_neg this]
  exact atO_other h ho'
 have L : Later S (boxS S d k o m us) := by
  refine ⟨fun p => ?_, fun p hp => ?_, fun p v e r xs' hp hv => ?_, fun b hb => ?_, fun j hj => ⟨keep j _ hj (by simp), rfl⟩, Later.box_of (fun b n hv hh => ?_) (fun j b h => ⟨keep j _ h (by simp), rfl⟩), fun p hp hd => ?_⟩
  ·by_cases h1 : p = H d
   ·subst h1; rw [gH]; simp
   ·by_cases h2 : C d 0 ≤ p ∧ p < C d 0 + m.length
    ·rw [(gin p h2).1]; simp
    ·rw [(gout p h1 h2).1]; exact Nat.le_refl _
  ·show phput S.ph d 0 us p = _
   by_cases h2 : C d 0 ≤ p ∧ p < C d 0 + m.length
   ·rw [(gin p h2).1] at hp; simp at hp
   ·unfold phput; rw [if_neg (by rw [hlen]; exact h2)]
  ·by_cases h1 : p = H d
   ·subst h1; rw [gH] at hp; simp at hp
   ·by_cases h2 : C d 0 ≤ p ∧ p < C d 0 + m.length
    ·rw [(gin p h2).1] at hp
     simp only [Prod.mk.injEq] at hp
     omega
    ·rw [(gout p h1 h2).1] at hp
     exact ⟨xs', hp, rfl⟩
  ·by_cases hbd : b = d
   ·subst hbd; rw [gH] at hb; simp at hb
   ·exact upd_ne _ _ hbd
  ·have hbd : H b ≠ H d := fun e => by rw [e, gH] at hv; simp at hv
   rw [(gout _ hbd (heads_apart (by omega))).1]; exact hh
  ·have h1 : p ≠ H d := fun e => by subst e; rw [gH] at hp; simp at hp
   have h2 : ¬ (C d 0 ≤ p ∧ p < C d 0 + m.length) := fun h => by rw [(gin p h).1] at hp; simp at hp
   rw [(gout p h1 h2).1]
   exact ⟨hd, fun _ _ _ h => h, fun j hj => ⟨.inl (keep j _ hj (by simp)), rfl⟩⟩
 have F := K.fr
 refine ⟨⟨K.nt, fun j hj => ?_, fun l => ?_, fun b n hb => ?_, fun b n hb => ?_, fun t ht => ?_, K.sz, K.df, ⟨F.os, F.tape, F.out, F.size, fun j hj h0 => ?_, fun j hj h0 => ?_, fun j b hj h0 => ?_⟩⟩, L⟩
 ·exact K.lt j (fun e => hj (keep j _ e (by simp)))
 ·show SvOk X.P _ l ((boxS S d k o m us).g l).2 (phput S.ph d 0 us l)
  by_cases h1 : l = H d
  ·subst h1; rw [gH]; trivial
  ·by_cases h2 : C d 0 ≤ l ∧ l < C d 0 + m.length
   ·obtain ⟨x, u, e1, e2, e3, e4⟩ := hl.at (l - C d 0) (by omega)
    rw [(gin l h2).1, (gin l h2).2, e1, e2]
    refine LfOk.later L e4 (fun j hj => ⟨?_, rfl⟩)
    rw [Nat.zero_add] at hj
    have hjk : j ≠ k := fun e => hn0 (by rw [e, hk] at hj; cases hj; rfl)
    show (if j = k then _ else _) = _
    rw [if_neg hjk]
    have := atO_tm (h := boxH d 0) hj (hq _ (by omega))
    rwa [show C d (0 + (l - C d 0)) = l by (have : C d (0 + (l - C d 0)) = C d 0 + (l - C d 0) := by (unfold C; omega)); omega] at this
   ·rw [(gout l h1 h2).1, (gout l h1 h2).2]
    exact (K.at_ l).later L (fun p j hj => ⟨keep j _ hj (by simp), rfl⟩)
 ·by_cases hbd : b = d
  ·subst hbd
   rw [gH] at hb
   cases hb
   refine ⟨hm, c, e, ?_, ?_, ?_, fun j hj => ?_⟩
   ·show S.w.heap[(upd S.bb b (k, o) b).1]? = _
    rw [upd_same]; exact hc
   ·show (if (upd S.bb b (k, o) b).1 = k then _ else _) = _
    rw [upd_same, if_pos rfl]
   ·show (upd S.bb b (k, o) b).2 + _ ≤ _
    rw [upd_same]; exact ho
   ·show c[(upd S.bb b (k, o) b).2 + j]? = some (phput S.ph b 0 us (C b j))
    have h2 : C b 0 ≤ C b j ∧ C b j < C b 0 + m.length := by unfold C; omega
    rw [upd_same, (gin _ h2).2, hcs j hj, show C b j - C b 0 = j by unfold C; omega]
    rw [List.getD_eq_getElem?_getD, List.getElem?_eq_getElem (by omega)]
    rfl
  ·have h1 : H b ≠ H d := fun e => hbd (H_inj e)
   have e1 : (S.g (H b)).2 = .one (.hd n) := by rwa [(gout _ h1 (heads_apart (by omega))).1] at hb
   obtain ⟨g1, c1, e2, g2, g3, g4, g5⟩ := K.box b n e1
   have hbb : (boxS S d k o m us).bb b = S.bb b := upd_ne _ _ hbd
   rw [hbb]
   refine ⟨g1, c1, e2, g2, keep _ _ g3 (by simp), g4, fun j hj => ?_⟩
   show _ = some (phput S.ph d 0 us (C b j))
   rw [(gout _ (C_ne_H (by omega)) (cells_apart (by omega) (by omega) hbd)).2]
   exact g5 j hj
 ·by_cases hbd : b = d
  ·subst hbd
   refine ⟨fun _ hlt => ?_, fun h => absurd h (by unfold Cx.pb; omega), fun h => absurd h (by omega)⟩
   have : (upd S.bb b (k, o) b).1 < X.w0.heap.size := hlt
   rw [upd_same] at this
   exact absurd this (by simpa using hk0)
  ·have h1 : H b ≠ H d := fun e => hbd (H_inj e)
   have e1 : (S.g (H b)).2 = .one (.hd n) := by rwa [(gout _ h1 (heads_apart (by omega))).1] at hb
   have hbb : (boxS S d k o m us).bb b = S.bb b := upd_ne _ _ hbd
   rw [hbb]
   exact K.rgn b n e1
 ·show a.tmps.getD t undef = phput S.ph d 0 us t
  have := slots_apart (b := d) (off := 0) (n := us.length) (Nat.lt_of_lt_of_le ht K.nt)
  unfold phput
  rw [if_neg this]
  exact K.sl t ht
 ·obtain ⟨f1, f2⟩ := F.no j hj h0
  exact ⟨keep j _ f1 (by simp), f2⟩
 ·obtain ⟨f1, f2⟩ := F.fz j hj h0
  exact ⟨keep j _ f1 (by simp), f2⟩
 ·obtain ⟨f1, rest⟩ := F.bx j b hj h0
  exact ⟨keep j _ f1 (by simp), rest⟩
theorem zcells_len : ∀ t : Ty, (zcells t).length = t.sz
 | .i _ => rfl
 | .b => rfl
 | .s => rfl
 | .sl _ _ => rfl
 | .ow _ _ => rfl
 | .pr x y => by show (zcells x ++ zcells y).length = x.sz + y.sz; rw [List.length_append, zcells_len x, zcells_len y]
theorem tok_agg {P : Program} {T : TypeId} {t : TI} (h : TOk P T t) : ∃ d, P.underlying T = some d ∧ isAggD (P.underlying T) = t.ag := by
 have := h.desc
 unfold descB at this
 split at this <;> first | (cases this; done) | (rename_i hu; exact ⟨_, hu, by rw [hu]; rfl⟩)
theorem tok_one {P : Program} {T : TypeId} {t : TI} (h : TOk P T t) (ha : t.ag = false) : t.ty.sz = 1 := by
 obtain ⟨i, _, _, _, _, h4⟩ := h.info
 have := congrArg List.length (h4 ha)
 rw [zcells_len] at this
 exact this
theorem tok_size {P : Program} {T : TypeId} {t : TI} (h : TOk P T t) : (P.info? T).map (fun i => i.size) = some t.ty.sz := by
 obtain ⟨i, h1, h2, _⟩ := h.info
 rw [h1, Option.map_some, h2]
theorem run_load_at {P : Program} {w : World} {T : TypeId} {t : TI} {x : Operand} {k o' : Nat} {cs : List Value} (ht : TOk P T t) (ho : o.op = .load T x) (he : a.eval x = .pointer (some ⟨k, o', none⟩)) (hc : CellsAt w k o' cs) (hl : cs.length = t.ty.sz) :
  ∃ u, (if t.ag then u = .agg cs.toArray else cs = [u]) ∧ (execOp a.eval o).run P w = .ok (.value u) w := by
 obtain ⟨d, hd, hagg⟩ := tok_agg ht
 have hc' : ∀ j v, cs[j]? = some v → w.cell? (Addr.add ⟨k, o', none⟩ j) = some v := fun j v hj => by rw [add_none]; exact hc j v hj
 cases ha : t.ag with
 | true =>
  rw [ha] at hagg
  refine ⟨_, rfl, ?_⟩
  unfold execOp
  have hlc := run_loadCells_list (P := P) w ⟨k, o', none⟩ cs hc'
  simp only [ho, he, Instr.loadAt, Instr.sureAddr, Sem.run_bind, Sem.run_pure, Result.andThen_ok, loadVar, isAgg_of hd hagg, if_true, info_size (tok_size ht), ← hl, hlc]
 | false =>
  rw [ha] at hagg
  have h1 := tok_one ht ha
  rw [h1] at hl
  obtain ⟨u, rfl⟩ : ∃ u, cs = [u] := List.length_eq_one_iff.1 hl
  refine ⟨u, rfl, ?_⟩
  have h0 := hc 0 u rfl
  rw [Nat.add_zero] at h0
  unfold execOp
  simp [ho, he, Instr.loadAt, Instr.sureAddr, loadVar, isAgg_of hd hagg, h0]
theorem goes_load (hE : EnOk X E) (K : Okay X S a) (hg : S.g = get A) {T : TypeId} {t : TI} {x : Operand} {d k o' : Nat} {l : List Lf} {cs : List Value} {s : Sv} (ht : TOk X.P T t) (ho : o.op = .load T x) (hod : o.dst = some d) (hd : d < X.nt)
  (he : a.eval x = .pointer (some ⟨k, o', none⟩)) (hc : CellsAt S.w k o' cs) (hlen : l.length = t.ty.sz) (hs : ofParts t.ag l = some s) (hown : ownIn l = false) {f : Nat → Lab} (hl : LfsOk X.P S f 0 l cs) :
  Goes X o a S.w (ups A [⟨d, false, s⟩]) := by
 obtain ⟨u, e1, hrun⟩ := run_load_at (P := X.P) ht ho he hc (hl.len.trans hlen)
 have hsv : SvOk X.P S d s u := ofParts_ok hs e1 (hl.relab hown)
 have K2 := K.put0 hd s u d (by rw [ofParts_own hs, hown]) hsv
 refine goes_value (S := putS S (fun _ _ => none) d s u) hrun (by rw [hod]; exact K2) ?_
 show upd S.g d _ = _
 rw [get_ups1, ← hg]
theorem cellsOf_ok (K : Okay X S a) (hg : S.g = get A) (b : Nat) : ∀ (n j : Nat), (cellsOf A b j n).length = n ∧ ownIn (cellsOf A b j n) = false ∧ ∀ f i, LfsOk X.P S f i (cellsOf A b j n) ((List.range n).map fun i => S.ph (C b (j + i)))
 | 0, j => ⟨rfl, rfl, fun f i => trivial⟩
 | n + 1, j => by
  obtain ⟨h1, h2, h3⟩ := cellsOf_ok K hg b n (j + 1)
  have hat := K.at_ (C b j)
  rw [hg] at hat
  have hr : (List.range (n + 1)).map (fun i => S.ph (C b (j + i))) = S.ph (C b j) :: (List.range n).map (fun i => S.ph (C b (j + 1 + i))) := by
   rw [List.range_succ_eq_map, List.map_cons, List.map_map, Nat.add_zero]
   congr 1
   apply List.map_congr_left
   intro i _
   show S.ph (C b (j + (i + 1))) = _
   rw [show j + (i + 1) = j + 1 + i by omega]
  refine ⟨by simp [cellsOf, h1], ?_, fun f i => ?_⟩
  ·unfold cellsOf
   split
   ·exact h2
   ·exact h2
   ·rename_i v x hne hne2 hp
    cases x <;> first | exact h2 | exact (hne _ _ _ rfl).elim | exact (hne2 _ _ _ _ _ _ rfl).elim
   ·exact h2
  ·rw [hr]
   unfold cellsOf
   refine ⟨?_, h3 f (i + 1)⟩
   split
   ·rename_i v e r' xs hp
    exact ⟨by rw [hg, hp]; exact Nat.le_refl _, fun _ => rfl⟩
   ·rename_i hp
    exact ⟨by rw [hg, hp]; exact Nat.le_refl _, fun _ => rfl⟩
   ·rename_i v x hne hne2 hp
    rw [hp] at hat
    refine LfOk.relab (lab := .pl (C b j) []) ?_ hat
    cases x <;> first | rfl | exact (hne _ _ _ rfl).elim | exact (hne2 _ _ _ _ _ _ rfl).elim
   ·trivial
theorem LfsOk.ofRep {P : Program} {l : List Lf} {us : List Value} (h : All2 (LfRep P (fun k => S.O k = .fz) S.w) l us) : ∀ (f : Nat → Lab) (j : Nat), LfsOk P S f j l us := by
 induction h with
 | nil => intro f j; trivial
 | @cons x u xs us hx _ ih =>
  intro f j
  refine ⟨?_, ih f (j + 1)⟩
  cases x <;> first | exact hx | exact hx.elim
theorem rep_noOwn {P : Program} {G : Nat → Prop} {w : World} {l : List Lf} {us : List Value} (h : All2 (LfRep P G w) l us) : ownIn l = false := by
 induction h with
 | nil => rfl
 | @cons x u xs us hx _ ih => cases x <;> first | exact ih | exact hx.elim
theorem drop_take_cells {w : World} {k o' : Nat} {cs : List Value} (h : CellsAt w k o' cs) (off n : Nat) : CellsAt w k (o' + off) ((cs.drop off).take n) := by
 intro j u hu
 rw [List.getElem?_take] at hu
 split at hu
 ·rw [List.getElem?_drop] at hu
  rw [Nat.add_assoc]
  exact h _ _ hu
 ·cases hu
theorem ep_cells (K : Okay X S a) {p v : Nat} {i : Int} {off : Nat} {lab : Lab} {u : Value} {e : TypeId} {r' : Ty} {xs : List r'.den} (hno : noOw r' = true) (hp : S.g p = (v, .one (.own e r' xs))) (h : LfOk X.P S lab (.ep p v i off) u) :
  ∃ k cs cur cap, u = .pointer (some ⟨k, i.toNat * r'.sz + off, none⟩) ∧ r'.rep X.P (fun k => S.O k = .fz) S.w (xs.getD i.toNat r'.dflt) cs ∧ CellsAt S.w k (i.toNat * r'.sz) cs ∧ i.toNat < xs.length ∧
   S.ph p = .slice (some ⟨k, 0, none⟩) xs.length cap ∧ S.w.heap[k]? = some (.cells cur e (0, 0)) ∧ S.O k = .pl p [] := by
 obtain ⟨_, h2⟩ := h
 obtain ⟨h0, h1, k, cap, h3, h4⟩ := h2 e r' xs hp
 have hown : OwnOk X.P S.O S.w (.pl p []) e r' xs (S.ph p) := by have := K.at_ p; rw [hp] at this; exact this
 obtain ⟨_, cs, hrow, hrows, hk⟩ := (OwnOk.flat hno).1 hown
 rcases own_nil_or hrow with ⟨e1, _⟩ | ⟨k', cap', cur, e1, hcur, _, _, _, ht⟩
 ·rw [h3] at e1; cases e1
 ·rw [h3] at e1
  cases e1
  obtain ⟨c, hc1, hc2⟩ := rows_at (S := S) (Ty.rep_len r') hrows (i := i.toNat) (x := xs.getD i.toNat r'.dflt) (by rw [List.getD_eq_getElem?_getD, List.getElem?_eq_getElem h1]; rfl) (cells_of_row hcur ht)
  rw [Nat.zero_add] at hc2
  exact ⟨k, c, cur, cap, h4, hc1, hc2, h1, h3, hcur, hk k (by rw [h3]; rfl)⟩
theorem leaves_sz : ∀ (t : Ty) (x : t.den), (leaves t x).length = t.sz
 | .i _, _ => rfl
 | .b, _ => rfl
 | .s, _ => rfl
 | .sl _ _, _ => rfl
 | .ow _ _, _ => rfl
 | .pr x y, p => by
  show (leaves x p.1 ++ leaves y p.2).length = x.sz + y.sz
  rw [List.length_append, leaves_sz x p.1, leaves_sz y p.2]
theorem daL_len {p v : Nat} {pi : Option (List (Int × Nat))} {i : Int} : ∀ {j : Nat} {l : List Lf}, (daL p v pi i j l).length = l.length
 | _, [] => rfl
 | j, x :: l => by cases x <;> simp [daL, daL_len]
theorem daL_app {p v : Nat} {pi : Option (List (Int × Nat))} {i : Int} : ∀ {j : Nat} {l m : List Lf}, daL p v pi i j (l ++ m) = daL p v pi i j l ++ daL p v pi i (j + l.length) m
 | j, [], m => by simp [daL]
 | j, x :: l, m => by
  have e : j + (x :: l).length = j + 1 + l.length := by simp only [List.length_cons]; omega
  rw [e]
  cases x <;> simp [daL, daL_app]
theorem daL_noOwn {p v : Nat} {pi : Option (List (Int × Nat))} {i : Int} : ∀ (j : Nat) (l : List Lf), ∀ y ∈ daL p v pi i j l, y.isOwn = false
 | _, [] => by simp [daL]
 | j, x :: l => by
  have ih := daL_noOwn (p := p) (v := v) (pi := pi) (i := i) (j + 1) l
  cases x <;> (intro y hy; simp only [daL, List.mem_cons] at hy; rcases hy with rfl | hy <;> first | rfl | exact ih y hy)
theorem ownIn_false : ∀ {l : List Lf}, (∀ y ∈ l, y.isOwn = false) → ownIn l = false
 | [], _ => rfl
 | x :: l, h => by
  have h1 := h x (by simp)
  have h2 := ownIn_false (fun y hy => h y (List.mem_cons_of_mem _ hy))
  cases x <;> first | (simp [Lf.isOwn] at h1; done) | exact h2
theorem ownIn_part {l : List Lf} (h : ∀ y ∈ l, y.isOwn = false) (n m : Nat) : ownIn ((l.drop n).take m) = false := ownIn_false fun y hy => h y (List.mem_of_mem_drop (List.mem_of_mem_take hy))
theorem slots_len : ∀ t : Ty, (slots t).length = t.sz
 | .i _ => rfl
 | .b => rfl
 | .s => rfl
 | .sl _ _ => rfl
 | .ow _ _ => rfl
 | .pr x y => by show (slots x ++ slots y).length = x.sz + y.sz; rw [List.length_append, slots_len x, slots_len y]
theorem slots_own : ∀ {t : Ty} {x : t.den} {j : Nat} {e : TypeId} {r : Ty} {ys : List r.den}, nth (leaves t x) j = some (.own e r ys) → nth (slots t) j = some (.ow e r)
 | .i _, _, 0, _, _, _, h => by simp [leaves, nth] at h
 | .i _, _, _ + 1, _, _, _, h => by simp [leaves, nth] at h
 | .b, _, 0, _, _, _, h => by simp [leaves, nth] at h
 | .b, _, _ + 1, _, _, _, h => by simp [leaves, nth] at h
 | .s, _, 0, _, _, _, h => by simp [leaves, nth] at h
 | .s, _, _ + 1, _, _, _, h => by simp [leaves, nth] at h
 | .sl _ _, _, 0, _, _, _, h => by simp [leaves, nth] at h
 | .sl _ _, _, _ + 1, _, _, _, h => by simp [leaves, nth] at h
 | .ow _ _, _, 0, _, _, _, h => by
  simp only [leaves, nth, Option.some.injEq] at h
  cases h
  rfl
 | .ow _ _, _, _ + 1, _, _, _, h => by simp [leaves, nth] at h
 | .pr x y, p, j, e, r, ys, h => by
  rw [nth_eq] at h ⊢
  have h : (leaves x p.1 ++ leaves y p.2)[j]? = some (.own e r ys) := h
  show (slots x ++ slots y)[j]? = _
  by_cases hj : j < x.sz
  ·rw [List.getElem?_append_left (by rw [leaves_sz]; exact hj), ← nth_eq] at h
   rw [List.getElem?_append_left (by rw [slots_len]; exact hj), ← nth_eq]
   exact slots_own h
  ·rw [List.getElem?_append_right (by rw [leaves_sz]; omega), leaves_sz, ← nth_eq] at h
   rw [List.getElem?_append_right (by rw [slots_len]; omega), slots_len, ← nth_eq]
   exact slots_own h
theorem look_app {e1 : TypeId} {r1 : Ty} {ys : List r1.den} {i : Int} {j : Nat} {e2 : TypeId} {r2 : Ty} {zs : List r2.den} (hi : 0 ≤ i ∧ i.toNat < ys.length) (hn : nth (leaves r1 (ys.getD i.toNat r1.dflt)) j = some (.own e2 r2 zs)) :
  ∀ (q : List (Int × Nat)) (e : TypeId) (r : Ty) (xs : List r.den), look q e r xs = some ⟨e1, r1, ys⟩ → look (q ++ [(i, j)]) e r xs = some ⟨e2, r2, zs⟩
 | [], e, r, xs, h => by
  simp only [look, Option.some.injEq] at h
  cases h
  simp only [List.nil_append, look]
  rw [if_pos hi, hn]
 | (i', j') :: q, e, r, xs, h => by
  simp only [look, List.cons_append] at h ⊢
  by_cases hc : 0 ≤ i' ∧ i'.toNat < xs.length
  ·rw [if_pos hc] at h ⊢
   split at h
   ·rename_i e3 r3 ws hw
    exact look_app hi hn q e3 r3 ws h
   ·cases h
  ·rw [if_neg hc] at h; cases h
theorem HeadAt.app {G : Nat → Prop} {w : World} {i : Int} {j k o n cap : Nat} {e2 : TypeId} {r1 r2 : Ty} {u2 : Value} (hG : G k) (hc : w.cell? ⟨k, o + (i.toNat * r1.sz + j), none⟩ = some u2) (hs : nth (slots r1) j = some (.ow e2 r2)) {e1 : TypeId} {ys : List r1.den} :
  ∀ (q : List (Int × Nat)) (e : TypeId) (r : Ty) (xs : List r.den) (u : Value), look q e r xs = some ⟨e1, r1, ys⟩ → HeadAt G w q r u (.slice (some ⟨k, o, none⟩) n cap) → HeadAt G w (q ++ [(i, j)]) r u u2
 | [], e, r, xs, u, hl, h => by
  simp only [look, Option.some.injEq] at hl
  cases hl
  exact ⟨k, o, n, cap, e2, r2, u2, h.symm, hG, hc, hs, rfl⟩
 | (i', j') :: q, e, r, xs, u, hl, ⟨k', o', n', cap', e3, r3, u3, h1, h2, h3, h4, h5⟩ => by
  simp only [look] at hl
  split at hl
  ·split at hl
   ·rename_i e4 r4 ws hw
    have hsl : nth (slots r) j' = some (.ow e4 r4) := slots_own hw
    rw [h4] at hsl
    cases hsl
    exact ⟨k', o', n', cap', e3, r3, u3, h1, h2, h3, h4, h5.app hG hc hs q e3 r3 ws u3 hl⟩
   ·cases hl
  ·cases hl
theorem daL_ok {P : Program} {S : Sit} {p v : Nat} {pi : Option (List (Int × Nat))} {i : Int} (hv : (S.g p).1 = v) (hdeep : deepS (S.g p).2 = true) : ∀ (t : Ty) (x : t.den) (c : List Value) (b : List Nat) (j0 : Nat), allOw t = true → t.dep P (fun k => S.O k = .fz) S.w x c b → (∀ k ∈ b, Mine S p k) →
  (∀ n e1 r1 ys u1, nth (leaves t x) n = some (.own e1 r1 ys) → c[n]? = some u1 → DaPath S p (match pi with | some q => some (q ++ [(i, j0 + n)]) | none => none) e1 r1 ys u1) →
  ∀ (f : Nat → Lab) (m : Nat), LfsOk P S f m (daL p v pi i j0 (leaves t x)) c
 | .i _, _, _, _, _, _, ⟨e, _⟩, _, _ => by subst e; exact fun f m => ⟨⟨rfl, rfl⟩, trivial⟩
 | .b, _, _, _, _, _, ⟨e, _⟩, _, _ => by subst e; exact fun f m => ⟨⟨rfl, rfl⟩, trivial⟩
 | .s, _, _, _, _, _, ⟨e, _⟩, _, _ => by subst e; exact fun f m => ⟨⟨rfl, rfl⟩, trivial⟩
 | .sl _ _, _, _, _, _, h, _, _, _ => by simp [allOw] at h
 | .ow e r, xs, c, b, j0, h, ⟨u, cs, b2, ev, hs, ho, hd, eb⟩, hm, hp => by
  subst ev
  refine fun f m => ⟨⟨h, Nat.le_of_eq hv.symm, fun _ => ⟨hdeep, ⟨hs, ?_⟩, ?_⟩⟩, trivial⟩
  ·rcases own_nil_or ho with ⟨rfl, e2, rfl⟩ | ⟨k, cap, cur, rfl, hc, h1, _, _, ht⟩
   ·exact ⟨none, 0, [], b2, by rw [e2], by omega, hd, fun k hk => hm k (by rw [eb]; exact List.mem_append_right _ hk), fun hn => absurd (List.eq_nil_of_length_eq_zero e2) hn⟩
   ·exact ⟨_, cap, cs, b2, rfl, h1, hd, fun k hk => hm k (by rw [eb]; exact List.mem_append_right _ hk), fun _ => ⟨k, 0, rfl, hm k (by rw [eb]; simp [Value.ownBlock]), cells_of_row hc ht⟩⟩
  ·have := hp 0 e r xs u rfl rfl
   exact this
 | .pr y z, x, c, b, j0, h, ⟨c1, c2, b1, b2, ec, eb, h1, h2⟩, hm, hp => by
  simp only [allOw, Bool.and_eq_true] at h
  subst ec eb
  have l1 := Ty.dep_len y x.1 c1 b1 h1
  have l2 := leaves_sz y x.1
  have i1 := daL_ok (P := P) hv hdeep y x.1 c1 b1 j0 h.1 h1 (fun k hk => hm k (List.mem_append_left _ hk)) (fun n e1 r1 ys u1 hn hu => hp n e1 r1 ys u1 (by
   rw [nth_eq] at hn ⊢
   show (leaves y x.1 ++ leaves z x.2)[n]? = _
   rw [List.getElem?_append_left (List.getElem?_eq_some_iff.1 hn).1]
   exact hn) (by rw [List.getElem?_append_left (List.getElem?_eq_some_iff.1 hu).1]; exact hu))
  have i2 := daL_ok (P := P) hv hdeep z x.2 c2 b2 (j0 + y.sz) h.2 h2 (fun k hk => hm k (List.mem_append_right _ hk)) (fun n e1 r1 ys u1 hn hu => by
   have := hp (y.sz + n) e1 r1 ys u1 (by
    rw [nth_eq] at hn ⊢
    show (leaves y x.1 ++ leaves z x.2)[y.sz + n]? = _
    rw [List.getElem?_append_right (by omega), l2, show y.sz + n - y.sz = n by omega]
    exact hn) (by rw [List.getElem?_append_right (by omega), l1, show y.sz + n - y.sz = n by omega]; exact hu)
   rw [← Nat.add_assoc] at this
   exact this)
  intro f m
  show LfsOk P S f m (daL p v pi i j0 (leaves y x.1 ++ leaves z x.2)) (c1 ++ c2)
  rw [daL_app, l2]
  exact LfsOk.app (i1 f m) (i2 f _)
theorem dp_cells {P : Program} {S : Sit} {p v : Nat} {pi : Option (List (Int × Nat))} {e : TypeId} {r' : Ty} {xs : List r'.den} {i : Int} {off : Nat} {h u : Value} (hda : DaOk P S p v pi e r' xs h) (hv : (S.g p).1 = v)
  (hdp : 0 ≤ i ∧ i.toNat < xs.length ∧ ∃ k o cap, h = .slice (some ⟨k, o, none⟩) xs.length cap ∧ u = .pointer (some ⟨k, o + (i.toNat * r'.sz + off), none⟩)) :
  ∃ k o' c, u = .pointer (some ⟨k, o' + off, none⟩) ∧ CellsAt S.w k o' c ∧ ∀ f m, LfsOk P S f m (daL p v pi i 0 (leaves r' (xs.getD i.toNat r'.dflt))) c := by
 obtain ⟨i0, i1, k, o, cap, e1, e2⟩ := hdp
 obtain ⟨d1, _, d2⟩ := hda
 obtain ⟨d3, ⟨d4, ad, cap', cs, bs, d5, d6, d7, d8, d9⟩, d10⟩ := d2 hv
 rw [e1] at d5
 cases d5
 obtain ⟨k', o', e3, m1, hc⟩ := d9 (by intro e0; subst e0; simp at i1)
 cases e3
 have hx : xs[i.toNat]? = some (xs.getD i.toNat r'.dflt) := by rw [List.getD_eq_getElem?_getD, List.getElem?_eq_getElem i1]; rfl
 obtain ⟨b, g1, g2⟩ := d7.get (Ty.dep_len r') i.toNat _ hx
 have hce : CellsAt S.w k (o + i.toNat * r'.sz) ((cs.drop (i.toNat * r'.sz)).take r'.sz) := drop_take_cells hc _ _
 refine ⟨k, o + i.toNat * r'.sz, _, by rw [e2, Nat.add_assoc], hce, daL_ok hv d3 r' _ _ b 0 d1 g1 (fun k hk => d8 k (g2.subset hk)) (fun n e4 r4 ys u4 hn hu q hq E R XS hgp => ?_)⟩
 cases pi with
 | none => cases hq
 | some q0 =>
  simp only [Option.some.injEq] at hq
  subst hq
  obtain ⟨f1, f2⟩ := d10 q0 rfl E R XS hgp
  rw [e1] at f2
  rw [Nat.zero_add]
  refine ⟨look_app ⟨i0, i1⟩ hn q0 E R XS f1, HeadAt.app (r1 := r') (i := i) (j := n) m1 ?_ (slots_own hn) q0 E R XS _ f1 f2⟩
  have := hce n u4 hu
  rw [Nat.add_assoc] at this
  exact this
theorem st_load (hE : EnOk X E) (K : Okay X S a) (hg : S.g = get A) {T : TypeId} {x : Operand} {d : Nat} (ho : o.op = .load T x) (hod : o.dst = some d) (hd : d < X.nt) (h : step E o A Kc = some r) : After X o a S.w A Kc r := by
 unfold step at h
 rw [ho, hod] at h
 simp only at h
 split at h
 ·rename_i ti b v off hti hs
  obtain ⟨pl, hsv⟩ := opT_ex hE K hg hs
  have hlf : LfOk X.P S (.pl pl []) (.bp b v off) (a.eval x) := hsv
  split at h
  ·rename_i n m hp
   cases hq : (Nat.beq n v && Nat.ble (off + ti.ty.sz) m) with
   | false => rw [hq] at h; simp at h
   | true =>
    rw [hq, cond_true] at h
    simp only [Bool.and_eq_true] at hq
    have hnv : n = v := by simpa using hq.1
    have hle : off + ti.ty.sz ≤ m := Nat.le_of_ble_eq_true hq.2
    subst hnv
    split at h
    ·rename_i s hof
     obtain ⟨_, c, e, h1, h2, h3, h4⟩ := K.box b m (by rw [hg, hp])
     obtain ⟨c1, c2, c3⟩ := cellsOf_ok K hg b ti.ty.sz off
     refine ⟨_, h, goes_load hE K hg (hE.ti _ _ hti) ho hod hd (hlf.2 (by rw [hg, hp])) (cs := (List.range ti.ty.sz).map fun i => S.ph (C b (off + i))) (fun j u hu => ?_) c1 hof c2 (c3 (fun _ => .no) 0)⟩
     have hj : j < ti.ty.sz := by
      rcases Nat.lt_or_ge j ti.ty.sz with h | h
      ·exact h
      ·rw [List.getElem?_eq_none (by simpa using h)] at hu; cases hu
     simp [hj] at hu
     subst hu
     simp [World.cell?, h1, Nat.add_assoc, h4 (off + j) (by omega)]
    ·cases h
  ·cases h
 ·rename_i ti p v i off hti hs
  obtain ⟨pl, hsv⟩ := opT_ex hE K hg hs
  have hlf : LfOk X.P S (.pl pl []) (.ep p v i off) (a.eval x) := hsv
  split at h
  ·rename_i n e r' xs hp
   cases hq : (Nat.beq n v && noOw r' && Nat.ble (off + ti.ty.sz) r'.sz) with
   | false => rw [hq] at h; simp at h
   | true =>
    rw [hq, cond_true] at h
    simp only [Bool.and_eq_true] at hq
    have hnv : n = v := by simpa using hq.1.1
    have hle : off + ti.ty.sz ≤ r'.sz := Nat.le_of_ble_eq_true hq.2
    subst hnv
    split at h
    ·rename_i s hof
     obtain ⟨k, cs, cur, cap, e1, e2, e3, _⟩ := ep_cells K hq.1.2 (by rw [hg, hp]) hlf
     have hrep := ((lvs_rep _ _ _ e2).drop off).take ti.ty.sz
     exact ⟨_, h, goes_load hE K hg (hE.ti _ _ hti) ho hod hd e1 (drop_take_cells e3 off ti.ty.sz) (by rw [List.length_take, List.length_drop, lvs_len]; omega) hof (rep_noOwn hrep) (LfsOk.ofRep hrep (fun _ => .no) 0)⟩
    ·cases h
  ·cases h
 ·rename_i ti p v pi e r' xs i off hti hs
  obtain ⟨pl, hsv⟩ := opT_ex hE K hg hs
  obtain ⟨hd', hda, hdp⟩ : LfOk X.P S (.pl pl []) (.dp p v pi e r' xs i off) (a.eval x) := hsv
  cases hq : (Nat.beq (get A p).1 v && Nat.ble (off + ti.ty.sz) r'.sz) with
  | false => rw [hq] at h; simp at h
  | true =>
   rw [hq, cond_true] at h
   simp only [Bool.and_eq_true] at hq
   have hv : (S.g p).1 = v := by rw [hg]; exact Nat.eq_of_beq_eq_true hq.1
   have hle : off + ti.ty.sz ≤ r'.sz := Nat.le_of_ble_eq_true hq.2
   split at h
   ·rename_i s hof
    obtain ⟨k, o', c, e1, e2, e3⟩ := dp_cells hda hv (hdp hv)
    exact ⟨_, h, goes_load hE K hg (hE.ti _ _ hti) ho hod hd e1 (drop_take_cells e2 off ti.ty.sz) (by rw [List.length_take, List.length_drop, daL_len, leaves_sz]; omega) hof (ownIn_part (daL_noOwn _ _) off _) (LfsOk.shift (j := 0) off (((e3 (fun _ => .no) 0).drop off).take ti.ty.sz))⟩
   ·cases h
 ·rename_i ti r' y off hti hs
  obtain ⟨pl, hsv⟩ := opT_ex hE K hg hs
  obtain ⟨k, o', cs, e1, e2, e3, e4⟩ : LfOk X.P S (.pl pl []) (.fp r' y off) (a.eval x) := hsv
  cases hq : Nat.ble (off + ti.ty.sz) r'.sz with
  | false => rw [hq] at h; simp at h
  | true =>
   rw [hq, cond_true] at h
   have hle : off + ti.ty.sz ≤ r'.sz := Nat.le_of_ble_eq_true hq
   split at h
   ·rename_i s hof
    have hrep := ((lvs_rep _ _ _ e3).drop off).take ti.ty.sz
    exact ⟨_, h, goes_load hE K hg (hE.ti _ _ hti) ho hod hd e1 (drop_take_cells e4 off ti.ty.sz) (by rw [List.length_take, List.length_drop, lvs_len]; omega) hof (rep_noOwn hrep) (LfsOk.ofRep hrep (fun _ => .no) 0)⟩
   ·cases h
 ·cases h
end
end Go.Proofs.YtgocagaijgcnmaaGreat.Vf
end

section
set_option linter.unusedVariables false
set_option linter.unusedSimpArgs false
namespace Go.Proofs.YtgocagaijgcnmaaGreat.Vf
open Go
attribute [local irreducible] C H
def LDep (P : Program) (G : Nat → Prop) (w : World) : Lf → Value → List Nat → Prop
 | .sc v, u, bs => u = v ∧ isSc v = true ∧ bs = []
 | .own e r xs, u, bs => (Ty.ow e r).dep P G w xs [u] bs
 | _, _, _ => False
def LDeps (P : Program) (G : Nat → Prop) (w : World) : List Lf → List Value → List Nat → Prop
 | [], us, bs => us = [] ∧ bs = []
 | x :: xs, us, bs => ∃ u us' b1 b2, us = u :: us' ∧ bs = b1 ++ b2 ∧ LDep P G w x u b1 ∧ LDeps P G w xs us' b2
section
variable {P : Program} {G G' : Nat → Prop} {w w' : World}
theorem LDeps.app : ∀ {l m : List Lf} {us vs : List Value} {bs es : List Nat}, LDeps P G w l us bs → LDeps P G w m vs es → LDeps P G w (l ++ m) (us ++ vs) (bs ++ es)
 | [], _, _, _, _, _, h, h' => by obtain ⟨rfl, rfl⟩ := h; exact h'
 | _ :: _, _, _, _, _, _, ⟨u, us', b1, b2, e1, e2, h1, h2⟩, h' => by subst e1 e2; exact ⟨u, _, b1, _, rfl, by rw [List.append_assoc], h1, h2.app h'⟩
theorem LDeps.len : ∀ {l : List Lf} {us : List Value} {bs : List Nat}, LDeps P G w l us bs → us.length = l.length
 | [], _, _, h => by obtain ⟨rfl, _⟩ := h; rfl
 | _ :: _, _, _, ⟨_, _, _, _, e, _, _, h⟩ => by subst e; simp [h.len]
theorem LDeps.split : ∀ {l m : List Lf} {us : List Value} {bs : List Nat}, LDeps P G w (l ++ m) us bs → ∃ b1 b2, bs = b1 ++ b2 ∧ LDeps P G w l (us.take l.length) b1 ∧ LDeps P G w m (us.drop l.length) b2
 | [], m, us, bs, h => ⟨[], bs, rfl, ⟨rfl, rfl⟩, by simpa using h⟩
 | x :: l, m, us, bs, ⟨u, us', b1, b2, e1, e2, h1, h2⟩ => by
  subst e1 e2
  obtain ⟨b3, b4, e3, h3, h4⟩ := h2.split
  subst e3
  exact ⟨b1 ++ b3, b4, by rw [List.append_assoc], ⟨u, us'.take l.length, b1, b3, rfl, rfl, h1, h3⟩, h4⟩
theorem LDep.mono (hG : ∀ k, G k → G' k) (hw : ∀ k, G k → w'.heap[k]? = w.heap[k]?) {x : Lf} {u : Value} {bs : List Nat} (hb : ∀ k ∈ bs, w'.heap[k]? = w.heap[k]?) (h : LDep P G w x u bs) : LDep P G' w' x u bs := by
 cases x with
 | own e r xs => exact Ty.dep_mono hG hw (.ow e r) xs [u] bs hb h
 | _ => exact h
theorem LDeps.mono (hG : ∀ k, G k → G' k) (hw : ∀ k, G k → w'.heap[k]? = w.heap[k]?) : ∀ {l : List Lf} {us : List Value} {bs : List Nat}, (∀ k ∈ bs, w'.heap[k]? = w.heap[k]?) → LDeps P G w l us bs → LDeps P G' w' l us bs
 | [], _, _, _, h => h
 | _ :: _, _, _, hb, ⟨u, us', b1, b2, e1, e2, h1, h2⟩ => ⟨u, us', b1, b2, e1, e2, h1.mono hG hw (fun k hk => hb k (by rw [e2]; exact List.mem_append_left _ hk)), h2.mono hG hw (fun k hk => hb k (by rw [e2]; exact List.mem_append_right _ hk))⟩
theorem leaves_dep : ∀ (t : Ty) (x : t.den) (vs : List Value) (bs : List Nat), allOw t = true → t.dep P G w x vs bs → LDeps P G w (leaves t x) vs bs
 | .i _, _, _, _, _, ⟨e, e'⟩ => by subst e e'; exact ⟨_, [], [], [], rfl, rfl, ⟨rfl, rfl, rfl⟩, rfl, rfl⟩
 | .b, _, _, _, _, ⟨e, e'⟩ => by subst e e'; exact ⟨_, [], [], [], rfl, rfl, ⟨rfl, rfl, rfl⟩, rfl, rfl⟩
 | .s, _, _, _, _, ⟨e, e'⟩ => by subst e e'; exact ⟨_, [], [], [], rfl, rfl, ⟨rfl, rfl, rfl⟩, rfl, rfl⟩
 | .sl _ _, _, _, _, h, _ => by simp [allOw] at h
 | .ow e r, xs, vs, bs, _, h => by
  obtain ⟨v, cs, b2, ev, hs, ho, hd, eb⟩ := h
  subst ev
  exact ⟨v, [], bs, [], rfl, by simp, ⟨v, cs, b2, rfl, hs, ho, hd, eb⟩, rfl, rfl⟩
 | .pr x y, p, _, _, h, ⟨c, d, b1, b2, e, eb, h1, h2⟩ => by
  simp only [allOw, Bool.and_eq_true] at h
  subst e eb
  exact (leaves_dep x p.1 c b1 h.1 h1).app (leaves_dep y p.2 d b2 h.2 h2)
theorem dep_cast {e : TypeId} {r r' : Ty} {xs : List r'.den} {ys : List r.den} {vs : List Value} {bs : List Nat} (hc : castO r r' xs = some ys) (h : (Ty.ow e r').dep P G w xs vs bs) : (Ty.ow e r).dep P G w ys vs bs := by
 rcases castO_some hc with ⟨e1, e2⟩ | ⟨e1, rfl, rfl⟩
 ·subst e1 e2; exact h
 ·obtain ⟨v, cs, b2, ev, hs, ho, hd, eb⟩ := h
  have hsz : r'.sz = r.sz := by rw [← shp_sz r', e1, shp_sz r]
  exact ⟨v, cs, b2, ev, by rw [← hsz]; exact hs, by rw [← hsz]; exact ho, hd, eb⟩
theorem mkT_dep : ∀ (t : Ty) (l l' : List Lf) (x : t.den) (us : List Value) (bs : List Nat), allOw t = true → mkT t l = some (x, l') → LDeps P G w l us bs →
  ∃ vs ws b1 b2, us = vs ++ ws ∧ bs = b1 ++ b2 ∧ t.dep P G w x vs b1 ∧ LDeps P G w l' ws b2 := by
 intro t
 induction t with
 | i k =>
  intro l l' x us bs _ h hl
  cases l with
  | nil => simp [mkT] at h
  | cons y ys =>
   obtain ⟨u, us', b1, b2, e1, e2, hy, hys⟩ := hl
   cases y <;> first | (simp [mkT] at h; done) | skip
   rename_i v
   cases v <;> first | (simp [mkT] at h; done) | skip
   rename_i k' n
   simp only [mkT] at h
   by_cases hk : k = k'
   ·subst hk
    simp at h
    obtain ⟨rfl, rfl⟩ := h
    obtain ⟨rfl, _, rfl⟩ := hy
    exact ⟨[_], us', [], b2, e1, e2, ⟨rfl, rfl⟩, hys⟩
   ·simp [hk] at h
 | b =>
  intro l l' x us bs _ h hl
  cases l with
  | nil => simp [mkT] at h
  | cons y ys =>
   obtain ⟨u, us', b1, b2, e1, e2, hy, hys⟩ := hl
   cases y <;> first | (simp [mkT] at h; done) | skip
   rename_i v
   cases v <;> first | (simp [mkT] at h; done) | skip
   simp [mkT] at h
   obtain ⟨rfl, rfl⟩ := h
   obtain ⟨rfl, _, rfl⟩ := hy
   exact ⟨[_], us', [], b2, e1, e2, ⟨rfl, rfl⟩, hys⟩
 | s =>
  intro l l' x us bs _ h hl
  cases l with
  | nil => simp [mkT] at h
  | cons y ys =>
   obtain ⟨u, us', b1, b2, e1, e2, hy, hys⟩ := hl
   cases y <;> first | (simp [mkT] at h; done) | skip
   rename_i v
   cases v <;> first | (simp [mkT] at h; done) | skip
   simp [mkT] at h
   obtain ⟨rfl, rfl⟩ := h
   obtain ⟨rfl, _, rfl⟩ := hy
   exact ⟨[_], us', [], b2, e1, e2, ⟨rfl, rfl⟩, hys⟩
 | sl e r _ => intro l l' x us bs h; simp [allOw] at h
 | ow e r _ =>
  intro l l' x us bs _ h hl
  cases l with
  | nil => simp [mkT] at h
  | cons y ys =>
   obtain ⟨u, us', b1, b2, e1, e2, hy, hys⟩ := hl
   cases y <;> first | (simp [mkT] at h; done) | skip
   rename_i e' r' xs
   simp only [mkT] at h
   cases he : Nat.beq e e' with
   | false => rw [he] at h; simp at h
   | true =>
    rw [he, cond_true] at h
    split at h
    ·rename_i zs hz
     have : e = e' := Nat.eq_of_beq_eq_true he
     subst this
     simp only [Option.some.injEq, Prod.mk.injEq] at h
     obtain ⟨rfl, rfl⟩ := h
     exact ⟨[u], us', b1, b2, e1, e2, dep_cast hz hy, hys⟩
    ·cases h
 | pr x y ihx ihy =>
  intro l l' p us bs ha h hl
  simp only [allOw, Bool.and_eq_true] at ha
  simp only [mkT] at h
  split at h
  ·rename_i q l1 h1
   split at h
   ·rename_i q2 l2 h2
    simp at h
    obtain ⟨rfl, rfl⟩ := h
    obtain ⟨vs, ws, b1, b2, rfl, rfl, r1, hw1⟩ := ihx _ _ _ _ _ ha.1 h1 hl
    obtain ⟨vs2, ws2, b3, b4, rfl, rfl, r2, hw2⟩ := ihy _ _ _ _ _ ha.2 h2 hw1
    exact ⟨vs ++ vs2, ws2, b1 ++ b3, b4, by rw [List.append_assoc], by rw [List.append_assoc], ⟨vs, vs2, b1, b3, rfl, rfl, r1, r2⟩, hw2⟩
   ·cases h
  ·cases h
theorem mkW_dep {t : Ty} {l : List Lf} {x : t.den} {us : List Value} {bs : List Nat} (ha : allOw t = true) (h : mkW t l = some x) (hl : LDeps P G w l us bs) : t.dep P G w x us bs := by
 unfold mkW at h
 split at h
 ·rename_i y hy
  simp at h
  subst h
  obtain ⟨vs, ws, b1, b2, rfl, rfl, hr, hw⟩ := mkT_dep _ _ _ _ _ _ ha hy hl
  obtain ⟨rfl, rfl⟩ := hw
  rw [List.append_nil, List.append_nil]
  exact hr
 ·cases h
theorem slots_all : ∀ {t : Ty} {j : Nat} {e : TypeId} {r : Ty}, allOw t = true → nth (slots t) j = some (.ow e r) → allOw r = true
 | .i _, 0, _, _, _, h => by simp [slots, nth] at h
 | .i _, _ + 1, _, _, _, h => by simp [slots, nth] at h
 | .b, 0, _, _, _, h => by simp [slots, nth] at h
 | .b, _ + 1, _, _, _, h => by simp [slots, nth] at h
 | .s, 0, _, _, _, h => by simp [slots, nth] at h
 | .s, _ + 1, _, _, _, h => by simp [slots, nth] at h
 | .sl _ _, _, _, _, ha, _ => by simp [allOw] at ha
 | .ow _ _, 0, _, _, ha, h => by
  simp only [slots, nth, Option.some.injEq] at h
  cases h
  exact ha
 | .ow _ _, _ + 1, _, _, _, h => by simp [slots, nth] at h
 | .pr x y, j, e, r, ha, h => by
  simp only [allOw, Bool.and_eq_true] at ha
  rw [nth_eq] at h
  have h : (slots x ++ slots y)[j]? = some (.ow e r) := h
  by_cases hj : j < (slots x).length
  ·rw [List.getElem?_append_left hj, ← nth_eq] at h
   exact slots_all ha.1 h
  ·rw [List.getElem?_append_right (by omega), ← nth_eq] at h
   exact slots_all ha.2 h
theorem LDeps.set {l m : List Lf} {cs us : List Value} {bs mb : List Nat} {off : Nat} (h : LDeps P G w l cs bs) (hm : LDeps P G w m us mb) (hle : off + m.length ≤ l.length) :
  ∃ ba bx bc, bs = ba ++ bx ++ bc ∧ LDeps P G w (l.take off) (cs.take off) ba ∧ LDeps P G w ((l.drop off).take m.length) ((cs.drop off).take m.length) bx ∧
   LDeps P G w (Vf.setAll l off m) (cs.take off ++ us ++ cs.drop (off + us.length)) (ba ++ mb ++ bc) := by
 have e0 : l = l.take off ++ ((l.drop off).take m.length ++ l.drop (off + m.length)) := by
  rw [← List.drop_drop, List.take_append_drop, List.take_append_drop]
 have h0 := h
 rw [e0] at h0
 obtain ⟨b1, b2, e1, h1, h2⟩ := h0.split
 obtain ⟨b3, b4, e2, h3, h4⟩ := h2.split
 have l1 : (l.take off).length = off := by rw [List.length_take]; omega
 have l2 : ((l.drop off).take m.length).length = m.length := by rw [List.length_take, List.length_drop]; omega
 rw [l1] at h1 h3 h4
 rw [l2] at h3 h4
 subst e1 e2
 refine ⟨b1, b3, b4, by rw [List.append_assoc], h1, h3, ?_⟩
 unfold Vf.setAll
 rw [hm.len]
 rw [List.drop_drop] at h4
 exact (h1.app hm).app h4
theorem DRows.set {α : Type} {R : α → List Value → List Nat → Prop} {n : Nat} (hn : ∀ x c b, R x c b → c.length = n) : ∀ {xs : List α} {cs : List Value} {bs : List Nat} (_ : DRows R xs cs bs) (i : Nat) (x : α), xs[i]? = some x →
  ∃ ba b bc, bs = ba ++ b ++ bc ∧ R x ((cs.drop (i * n)).take n) b ∧ ∀ (R' : α → List Value → List Nat → Prop) (z : α) (c' : List Value) (b' : List Nat), R' z c' b' → (∀ y c b0, (∀ k ∈ b0, k ∈ ba ∨ k ∈ bc) → R y c b0 → R' y c b0) → DRows R' (xs.set i z) (cs.take (i * n) ++ c' ++ cs.drop (i * n + n)) (ba ++ b' ++ bc)
 | [], _, _, _, i, x, hx => by simp at hx
 | y :: ys, _, _, ⟨c, d, b1, b2, e, eb, h1, h2⟩, 0, x, hx => by
  simp at hx
  subst hx e eb
  have hl := hn _ _ _ h1
  refine ⟨[], b1, b2, rfl, ?_, fun R' z c' b' hz ho => ?_⟩
  ·simp only [Nat.zero_mul, List.drop_zero]
   rw [← hl, List.take_left]
   exact h1
  ·refine ⟨c', d, b', b2, ?_, rfl, hz, h2.mono (fun x c b hb hx => ho x c b (fun k hk => .inr (hb k hk)) hx)⟩
   simp only [Nat.zero_mul, List.take_zero, List.nil_append, Nat.zero_add, ← hl, List.drop_left]
 | y :: ys, _, _, ⟨c, d, b1, b2, e, eb, h1, h2⟩, i + 1, x, hx => by
  subst e eb
  have hl := hn _ _ _ h1
  obtain ⟨ba, b, bc, e1, h3, h4⟩ := DRows.set hn h2 i x (by simpa using hx)
  subst e1
  have e2 : (i + 1) * n = c.length + i * n := by rw [hl, Nat.add_mul, Nat.one_mul, Nat.add_comm]
  refine ⟨b1 ++ ba, b, bc, by simp [List.append_assoc], ?_, fun R' z c' b' hz ho => ?_⟩
  ·rw [e2, ← List.drop_drop, List.drop_left]
   exact h3
  ·refine ⟨c, _, b1, ba ++ b' ++ bc, ?_, by simp [List.append_assoc], ho y c b1 (fun k hk => .inl (List.mem_append_left _ hk)) h1, h4 R' z c' b' hz (fun y c b0 hb hy => ho y c b0 (fun k hk => (hb k hk).imp (List.mem_append_right _) id) hy)⟩
   rw [e2, List.take_length_add_append, Nat.add_assoc, ← List.drop_drop, List.drop_left]
   simp [List.append_assoc]
end
end Go.Proofs.YtgocagaijgcnmaaGreat.Vf
end

section
set_option linter.unusedVariables false
set_option linter.unusedSimpArgs false
namespace Go.Proofs.YtgocagaijgcnmaaGreat.Vf
open Go
attribute [local irreducible] C H
theorem splice {cs us : List Value} {i sz off : Nat} (h1 : i + sz ≤ cs.length) (h2 : off + us.length ≤ sz) :
  cs.take (i + off) ++ us ++ cs.drop (i + off + us.length) = cs.take i ++ (((cs.drop i).take sz).take off ++ us ++ ((cs.drop i).take sz).drop (off + us.length)) ++ cs.drop (i + sz) := by
 have e1 : cs.take (i + off) = cs.take i ++ ((cs.drop i).take sz).take off := by
  rw [List.take_take, Nat.min_eq_left (by omega), ← List.take_add]
 have e2 : cs.drop (i + off + us.length) = ((cs.drop i).take sz).drop (off + us.length) ++ cs.drop (i + sz) := by
  rw [List.drop_take, List.drop_drop, ← Nat.add_assoc]
  have : cs.drop (i + sz) = (cs.drop (i + off + us.length)).drop (sz - (off + us.length)) := by rw [List.drop_drop]; congr 1; omega
  rw [this, List.take_append_drop]
 rw [e1, e2]
 simp [List.append_assoc]
theorem take_splice {L us : List Value} {j n : Nat} (h : j + us.length ≤ n) (hn : n ≤ L.length) : (L.take j ++ us ++ L.drop (j + us.length)).take n = (L.take n).take j ++ us ++ (L.take n).drop (j + us.length) := by
 have hl : (L.take j ++ us).length = j + us.length := by rw [List.length_append, List.length_take]; omega
 rw [List.take_take, Nat.min_eq_left (by omega), List.drop_take, List.take_append, List.take_of_length_le (by rw [hl]; exact h), hl]
theorem nodup_swap {l1 bx mb l2 : List Nat} (h : (l1 ++ bx ++ l2).Nodup) (hm : mb.Nodup) (hd : ∀ k ∈ mb, k ∉ l1 ++ bx ++ l2) : (l1 ++ mb ++ l2).Nodup := by
 simp only [List.nodup_append, List.mem_append, not_or] at h hd ⊢
 obtain ⟨⟨n1, n2, n3⟩, n4, n5⟩ := h
 refine ⟨⟨n1, hm, fun a ha b hb e => (hd b hb).1.1 (e ▸ ha)⟩, n4, fun a ha b hb e => ?_⟩
 rcases ha with ha | ha
 ·exact n5 a (.inl ha) b hb e
 ·exact (hd a ha).2 (e ▸ hb)
theorem nodup_swap2 {l1 bx mb l2 : List Nat} (h : (l1 ++ bx ++ l2).Nodup) (hm : mb.Nodup) (hd : ∀ k ∈ mb, k ∈ l1 ++ bx ++ l2 → k ∈ bx) : (l1 ++ mb ++ l2).Nodup := by
 simp only [List.nodup_append, List.mem_append] at h hd ⊢
 obtain ⟨⟨n1, n2, n3⟩, n4, n5⟩ := h
 refine ⟨⟨n1, hm, fun a ha b hb e => ?_⟩, n4, fun a ha b hb e => ?_⟩
 ·subst e
  exact n3 a ha a (hd a hb (.inl (.inl ha))) rfl
 ·subst e
  rcases ha with ha | ha
  ·exact n5 a (.inl ha) a hb rfl
  ·exact n5 a (.inr (hd a ha (.inr hb))) a hb rfl
section
variable {P : Program} {G : Nat → Prop} {w : World}
theorem LDeps.parts {l : List Lf} {cs : List Value} {bs : List Nat} {off z : Nat} (h : LDeps P G w l cs bs) (hle : off + z ≤ l.length) :
  ∃ ba bx bc, bs = ba ++ bx ++ bc ∧ LDeps P G w (l.take off) (cs.take off) ba ∧ LDeps P G w ((l.drop off).take z) ((cs.drop off).take z) bx ∧ LDeps P G w (l.drop (off + z)) (cs.drop (off + z)) bc := by
 have e0 : l = l.take off ++ ((l.drop off).take z ++ l.drop (off + z)) := by
  rw [← List.drop_drop, List.take_append_drop, List.take_append_drop]
 have h0 := h
 rw [e0] at h0
 obtain ⟨b1, b2, e1, h1, h2⟩ := h0.split
 obtain ⟨b3, b4, e2, h3, h4⟩ := h2.split
 have l1 : (l.take off).length = off := by rw [List.length_take]; omega
 have l2 : ((l.drop off).take z).length = z := by rw [List.length_take, List.length_drop]; omega
 rw [l1] at h1 h3 h4
 rw [l2] at h3 h4
 rw [List.drop_drop] at h4
 exact ⟨b1, b3, b4, by rw [e1, e2, List.append_assoc], h1, h3, h4⟩
def rowW (cur : Array Value) (j : Nat) (us : List Value) : Array Value := (cur.toList.take j ++ us ++ cur.toList.drop (j + us.length)).toArray
theorem dep_write0 {e : TypeId} {r : Ty} {xs : List r.den} {u : Value} {bs mb : List Nat} {k0 o n cap i off : Nat} {m : List Lf} {us : List Value} {z : r.den} (hd : (Ty.ow e r).dep P G w xs [u] bs) (hn : bs.Nodup) (ha : allOw r = true) (hu : u = .slice (some ⟨k0, o, none⟩) n cap) (hi : i < xs.length)
  (hm : LDeps P G w m us mb) (hmn : mb.Nodup) (hdis : ∀ k ∈ mb, k ∉ bs) (hz : mkW r (Vf.setAll (leaves r (xs.getD i r.dflt)) off m) = some z) (hle : off + m.length ≤ r.sz) (hG : ∀ k ∈ bs, ¬ G k) :
  ∃ cur e0, w.heap[k0]? = some (.cells cur e0 (0, 0)) ∧ k0 ∈ bs ∧ o = 0 ∧ i * r.sz + off + us.length ≤ cur.size ∧
   ∃ bs', (Ty.ow e r).dep P G (w.setRow k0 (rowW cur (i * r.sz + off) us)) (xs.set i z) [u] bs' ∧ bs'.Nodup ∧ ∀ k ∈ bs', k ∈ bs ∨ k ∈ mb := by
 obtain ⟨v, cs, b2, ev, hs, ho, hrows, eb⟩ := hd
 simp only [List.cons.injEq, and_true] at ev
 subst ev
 rcases own_nil_or ho with ⟨e1, _⟩ | ⟨k, cap', cur, e1, hc, h1, h2, h3, h4⟩
 ·rw [hu] at e1; cases e1
 ·rw [hu] at e1
  cases e1
  have hob : u.ownBlock.toList = [k0] := by rw [hu]; rfl
  rw [hob] at eb
  subst eb
  have hk0 : k0 ∉ b2 := by
   have := hn
   simp only [List.singleton_append, List.nodup_cons] at this
   exact this.1
  have hk0m : k0 ∉ mb := fun h => hdis k0 h (by simp)
  have hul := hm.len
  have hlt : (i + 1) * r.sz ≤ xs.length * r.sz := Nat.mul_le_mul_right _ hi
  have hcl : cs.length = xs.length * r.sz := ho.1
  have hcap : xs.length * r.sz ≤ cap * r.sz := Nat.mul_le_mul_right _ h1
  rw [Nat.add_mul, Nat.one_mul] at hlt
  let w' := w.setRow k0 (rowW cur (i * r.sz + off) us)
  have hold : ∀ j, j ≠ k0 → w'.heap[j]? = w.heap[j]? := fun j hj => setRow_other _ _ _ _ hj
  have hGh : ∀ k, G k → w'.heap[k]? = w.heap[k]? := fun k hk => hold k (fun e => hG k0 (by simp) (e ▸ hk))
  obtain ⟨ba, b, bc, e2, hx, hset⟩ := DRows.set (Ty.dep_len r) hrows i (xs.getD i r.dflt) (by rw [List.getD_eq_getElem?_getD, List.getElem?_eq_getElem hi]; rfl)
  subst e2
  have hlv := leaves_dep r _ _ _ ha hx
  obtain ⟨ba', bx, bc', e3, _, _, hnew⟩ := hlv.set (off := off) hm (by rw [leaves_sz]; exact hle)
  subst e3
  have hz1 := mkW_dep ha hz hnew
  have hz2 : r.dep P G w' z (((cs.drop (i * r.sz)).take r.sz).take off ++ us ++ ((cs.drop (i * r.sz)).take r.sz).drop (off + us.length)) (ba' ++ mb ++ bc') :=
   Ty.dep_mono (fun _ h => h) hGh r _ _ _ (fun k hk => hold k (fun e => by
    subst e
    simp only [List.mem_append] at hk hk0
    rcases hk with (hk | hk) | hk
    ·exact hk0 (.inl (.inr (.inl (.inl hk))))
    ·exact hk0m hk
    ·exact hk0 (.inl (.inr (.inr hk))))) hz1
  have hrows2 := hset (fun x c b => r.dep P G w' x c b) z _ _ hz2 (fun y c b0 hb hy => Ty.dep_mono (fun _ h => h) hGh r y c b0 (fun k hk => hold k (fun e => by
   subst e
   simp only [List.mem_append] at hk0
   rcases hb k hk with hk | hk
   ·exact hk0 (.inl (.inl hk))
   ·exact hk0 (.inr hk))) hy)
  rw [← splice (by omega) (by omega)] at hrows2
  refine ⟨cur, e, hc, by simp, rfl, by omega, k0 :: (ba ++ (ba' ++ mb ++ bc') ++ bc), ⟨u, _, _, rfl, hs, ⟨?_, .inr ⟨k0, cap, _, by rw [List.length_set]; exact hu, Nat.zero_le _, setRow_heap _ _ _ _ _ _ hc, by rw [List.length_set]; exact h1, h2, ?_, ?_⟩⟩, hrows2, by rw [hob]; rfl⟩, ?_, ?_⟩
  ·simp only [List.length_append, List.length_take, List.length_drop, List.length_set]
   omega
  ·simp only [rowW, List.size_toArray, List.length_append, List.length_take, List.length_drop, Array.length_toList]
   omega
  ·rw [List.length_set, ← h4]
   exact take_splice (n := xs.length * r.sz) (by omega) (by have h9 : cur.toList.length = cur.size := Array.length_toList; omega)
  ·have := nodup_swap (l1 := k0 :: (ba ++ ba')) (bx := bx) (mb := mb) (l2 := bc' ++ bc) (by simpa [List.append_assoc] using hn) hmn (fun k hk h => hdis k hk (by simpa [List.append_assoc] using h))
   simpa [List.append_assoc] using this
  ·intro k hk
   simp only [List.mem_cons, List.mem_append, List.mem_singleton, List.singleton_append] at hk ⊢
   rcases hk with hk | (hk | ((hk | hk) | hk)) | hk
   ·exact .inl (.inl hk)
   ·exact .inl (.inr (.inl (.inl hk)))
   ·exact .inl (.inr (.inl (.inr (.inl (.inl hk)))))
   ·exact .inr hk
   ·exact .inl (.inr (.inl (.inr (.inr hk))))
   ·exact .inl (.inr (.inr hk))
theorem dep_write {e1 : TypeId} {r1 : Ty} {ys : List r1.den} {mb : List Nat} {k0 o n cap i off : Nat} {m : List Lf} {us : List Value} {z : r1.den} {Gm : Nat → Prop} (hi : i < ys.length)
  (hm : LDeps P G w m us mb) (hmn : mb.Nodup) (hz : mkW r1 (Vf.setAll (leaves r1 (ys.getD i r1.dflt)) off m) = some z) (hle : off + m.length ≤ r1.sz) (hGm : ∀ k ∈ mb, ¬ G k) :
  ∀ (q : List (Int × Nat)) (e : TypeId) (r : Ty) (xs xs' : List r.den) (u : Value) (bs : List Nat), (Ty.ow e r).dep P G w xs [u] bs → bs.Nodup → allOw r = true → (∀ k ∈ mb, k ∉ bs) → (∀ k ∈ bs, ¬ G k) →
   look q e r xs = some ⟨e1, r1, ys⟩ → HeadAt Gm w q r u (.slice (some ⟨k0, o, none⟩) n cap) → putAt r1 (ys.set i z) q r xs = some xs' →
  ∃ cur e0, w.heap[k0]? = some (.cells cur e0 (0, 0)) ∧ k0 ∈ bs ∧ o = 0 ∧ i * r1.sz + off + us.length ≤ cur.size ∧
   ∃ bs', (Ty.ow e r).dep P G (w.setRow k0 (rowW cur (i * r1.sz + off) us)) xs' [u] bs' ∧ bs'.Nodup ∧ ∀ k ∈ bs', k ∈ bs ∨ k ∈ mb
 | [], e, r, xs, xs', u, bs, hd, hn, ha, hdis, hG, hl, hh, hp => by
  simp only [look, Option.some.injEq] at hl
  cases hl
  simp only [putAt] at hp
  simp only [dite_true, Option.some.injEq] at hp
  subst hp
  exact dep_write0 hd hn ha (Eq.symm hh) hi hm hmn hdis hz hle hG
 | (i', j') :: q, e, r, xs, xs', u, bs, hd, hn, ha, hdis, hG, hl, ⟨k', o', n', cap', e3', r3', u3, hu, _, hcell, hsl, hh⟩, hp => by
  simp only [look] at hl
  split at hl
  ·rename_i hrange
   simp only [putAt] at hp
   split at hl
   ·rename_i e3 r3 ws hw
    rw [hw] at hp
    simp only at hp
    have := slots_own hw
    rw [hsl] at this
    cases this
    split at hp
    ·rename_i ws' hws
     split at hp
     ·rename_i z' hz'
      simp only [Option.some.injEq] at hp
      subst hp
      obtain ⟨v, cs, b2, ev, hs, ho, hrows, eb⟩ := hd
      simp only [List.cons.injEq, and_true] at ev
      subst ev
      rcases own_nil_or ho with ⟨e0, _⟩ | ⟨k, cap2, cur2, e0, hc, h1, h2, h3, h4⟩
      ·rw [hu] at e0; cases e0
      ·rw [hu] at e0
       cases e0
       have hob : u.ownBlock.toList = [k'] := by rw [hu]; rfl
       rw [hob] at eb
       subst eb
       have hk' : k' ∉ b2 := by
        have := hn
        simp only [List.singleton_append, List.nodup_cons] at this
        exact this.1
       have hnb2 : b2.Nodup := by
        have := hn
        simp only [List.singleton_append, List.nodup_cons] at this
        exact this.2
       have hcl : cs.length = xs.length * r.sz := ho.1
       have hlt : (i'.toNat + 1) * r.sz ≤ xs.length * r.sz := Nat.mul_le_mul_right _ hrange.2
       rw [Nat.add_mul, Nat.one_mul] at hlt
       have hjl : j' < r.sz := by
        rw [nth_eq] at hw
        have := (List.getElem?_eq_some_iff.1 hw).1
        rwa [leaves_sz] at this
       have hgetx : xs[i'.toNat]? = some (xs.getD i'.toNat r.dflt) := by rw [List.getD_eq_getElem?_getD, List.getElem?_eq_getElem hrange.2]; rfl
       obtain ⟨ba0, b0, bc0, e20, hx0, hset⟩ := DRows.set (Ty.dep_len r) hrows i'.toNat _ hgetx
       have hlv := leaves_dep r _ _ _ ha hx0
       obtain ⟨ba', bx, bc', e3, g1, g2, g3⟩ := hlv.parts (off := j') (z := 1) (by rw [leaves_sz]; omega)
       have hu3 : ((cs.drop (i'.toNat * r.sz)).take r.sz)[j']? = some u3 := by
        rw [List.getElem?_take, if_pos hjl, List.getElem?_drop]
        have hj2 : i'.toNat * r.sz + j' < cs.length := by omega
        have := cells_of_row hc h4 (i'.toNat * r.sz + j') cs[i'.toNat * r.sz + j'] (List.getElem?_eq_getElem hj2)
        rw [hcell] at this
        cases this
        exact List.getElem?_eq_getElem hj2
       have hone : (List.take 1 (List.drop j' (leaves r (xs.getD i'.toNat r.dflt)))) = [.own e3' r3' ws] := by
        rw [nth_eq] at hw
        obtain ⟨hh1, hh2⟩ := List.getElem?_eq_some_iff.1 hw
        rw [List.drop_eq_getElem_cons hh1, hh2, List.take_succ_cons, List.take_zero]
       have honeu : (List.take 1 (List.drop j' ((cs.drop (i'.toNat * r.sz)).take r.sz))) = [u3] := by
        obtain ⟨hh1, hh2⟩ := List.getElem?_eq_some_iff.1 hu3
        rw [List.drop_eq_getElem_cons hh1, hh2, List.take_succ_cons, List.take_zero]
       rw [hone, honeu] at g2
       obtain ⟨u4, us4, bb1, bb2, e5, e6, g4, e7, e8⟩ := g2
       simp only [List.cons.injEq] at e5
       obtain ⟨e5, e5'⟩ := e5
       subst e5
       subst e8
       rw [List.append_nil] at e6
       subst e6
       have ha3 : allOw r3' = true := slots_all ha hsl
       have hsub : ∀ k ∈ bx, k ∈ k' :: b2 := fun k hk => by rw [e20, e3]; simp [hk]
       have hnx : bx.Nodup := by
        have h0 : bx.Sublist b2 := by
         rw [e20, e3]
         refine List.Sublist.trans ?_ (List.sublist_append_left (ba0 ++ (ba' ++ bx ++ bc')) bc0)
         refine List.Sublist.trans ?_ (List.sublist_append_right ba0 _)
         refine List.Sublist.trans ?_ (List.sublist_append_left (ba' ++ bx) bc')
         exact List.sublist_append_right ba' bx
        exact hnb2.sublist h0
       obtain ⟨cur, e0, c1, c2, c3, c4, bs3, d1, d2, d3⟩ := dep_write hi hm hmn hz hle hGm q e3' r3' ws ws' u3 bx g4 hnx ha3 (fun k hk h => hdis k hk (hsub k h)) (fun k hk => hG k (hsub k hk)) hl hh hws
       refine ⟨cur, e0, c1, hsub k0 c2, c3, c4, ?_⟩
       generalize hwe : w.setRow k0 (rowW cur (i * r1.sz + off) us) = w' at d1
       have hold : ∀ j, j ≠ k0 → w'.heap[j]? = w.heap[j]? := fun j hj => by rw [← hwe]; exact setRow_other _ _ _ _ hj
       have hGh : ∀ k, G k → w'.heap[k]? = w.heap[k]? := fun k hk => hold k (fun e => hG k0 (hsub k0 c2) (e ▸ hk))
       have hnd : (ba0 ++ (ba' ++ bx ++ bc') ++ bc0).Nodup := by rw [← e3, ← e20]; exact hnb2
       have notin : ∀ k, k ∈ ba0 ∨ k ∈ bc0 ∨ k ∈ ba' ∨ k ∈ bc' → k ≠ k0 := by
        intro k hk e9
        subst e9
        simp only [List.nodup_append, List.mem_append] at hnd
        obtain ⟨⟨_, ⟨⟨_, _, n3⟩, _, n5⟩, n6⟩, _, n8⟩ := hnd
        rcases hk with hk | hk | hk | hk
        ·exact n6 k hk k (.inl (.inr c2)) rfl
        ·exact n8 k (.inr (.inl (.inr c2))) k hk rfl
        ·exact n3 k hk k c2 rfl
        ·exact n5 k (.inr c2) k hk rfl
       have g1' := LDeps.mono (G' := G) (w' := w') (fun _ h => h) hGh (fun k hk => hold k (notin k (.inr (.inr (.inl hk))))) g1
       have g3' := LDeps.mono (G' := G) (w' := w') (fun _ h => h) hGh (fun k hk => hold k (notin k (.inr (.inr (.inr hk))))) g3
       have hmid : LDeps P G w' [.own e3' r3' ws'] [u3] bs3 := ⟨u3, [], bs3, [], rfl, by simp, d1, rfl, rfl⟩
       have hnew := (g1'.app hmid).app g3'
       have hz3 := mkW_dep ha hz' (by unfold Vf.setAll; exact hnew)
       have hcells : ((cs.drop (i'.toNat * r.sz)).take r.sz).take j' ++ [u3] ++ ((cs.drop (i'.toNat * r.sz)).take r.sz).drop (j' + 1) = (cs.drop (i'.toNat * r.sz)).take r.sz := by
        rw [← honeu, ← List.drop_drop, List.append_assoc, List.take_append_drop, List.take_append_drop]
       rw [hcells] at hz3
       have hrows2 := hset (fun x c b => r.dep P G w' x c b) z' _ _ hz3 (fun y c b0 hb hy => Ty.dep_mono (fun _ h => h) hGh r y c b0 (fun k hk => hold k (notin k ((hb k hk).imp id .inl))) hy)
       have hcs : cs.take (i'.toNat * r.sz) ++ (cs.drop (i'.toNat * r.sz)).take r.sz ++ cs.drop (i'.toNat * r.sz + r.sz) = cs := by
        rw [← List.drop_drop, List.append_assoc, List.take_append_drop, List.take_append_drop]
       rw [hcs] at hrows2
       have hkk : k' ≠ k0 := fun e9 => hk' (by rw [e20, e3]; have := c2; rw [e9]; simp [this])
       refine ⟨k' :: (ba0 ++ (ba' ++ bs3 ++ bc') ++ bc0), ⟨u, cs, _, rfl, hs, ?_, hrows2, by rw [hob]; rfl⟩, ?_, ?_⟩
       ·rw [List.length_set]
        exact ownsRow_same ho (fun k hk => hold k (by rw [hu] at hk; simp only [Value.ownBlock, Option.some.injEq] at hk; rw [← hk]; exact hkk))
       ·have hdis3 : ∀ k ∈ bs3, k ∈ (k' :: (ba0 ++ ba')) ++ bx ++ (bc' ++ bc0) → k ∈ bx := fun k hk h => by
         rcases d3 k hk with h9 | h9
         ·exact h9
         ·exact absurd (by rw [e20, e3]; simpa [List.append_assoc] using h) (hdis k h9)
        have hn2 : ((k' :: (ba0 ++ ba')) ++ bx ++ (bc' ++ bc0)).Nodup := by
         have := hn
         rw [e20, e3] at this
         simpa [List.append_assoc] using this
        have := nodup_swap2 hn2 d2 hdis3
        simpa [List.append_assoc] using this
       ·intro k hk
        rw [e20, e3]
        simp only [List.mem_cons, List.mem_append, List.mem_singleton, List.singleton_append] at hk ⊢
        rcases hk with hk | (hk | ((hk | hk) | hk)) | hk
        ·exact .inl (.inl hk)
        ·exact .inl (.inr (.inl (.inl hk)))
        ·exact .inl (.inr (.inl (.inr (.inl (.inl hk)))))
        ·rcases d3 k hk with hk | hk
         ·exact .inl (.inr (.inl (.inr (.inl (.inr hk)))))
         ·exact .inr hk
        ·exact .inl (.inr (.inl (.inr (.inr hk))))
        ·exact .inl (.inr (.inr hk))
     ·cases hp
    ·cases hp
   ·cases hl
  ·cases hl
end
end Go.Proofs.YtgocagaijgcnmaaGreat.Vf
end

section
set_option linter.unusedVariables false
set_option linter.unusedSimpArgs false
namespace Go.Proofs.YtgocagaijgcnmaaGreat.Vf
open Go
attribute [local irreducible] C H
section
variable {X : Cx} {S S' : Sit} {a : Act} {E : En} {A : Ab} {o : Oper} {R : Type} {Kc : List Up → Option R} {r : R}
structure Given (X : Cx) (S S' : Sit) : Prop where
 w : S'.w = S.w
 bb : S'.bb = S.bb
 ph : S'.ph = S.ph
 later : Later S S'
 bx : ∀ b k, S.O k = .bx b → S'.O k = .bx b
 heads : ∀ b n, (S.g (H b)).2 = .one (.hd n) → S'.g (H b) = S.g (H b)
 tms : ∀ n q x u, LfOk X.P S (.tm n q) x u → LfOk X.P S' (.tm n q) x u
 tm : ∀ n q k, S.O k = .tm n q → S'.O k = .tm n q
theorem Given.refl (S : Sit) : Given X S S := ⟨rfl, rfl, rfl, .refl S, fun _ _ h => h, fun _ _ _ => rfl, fun _ _ _ _ h => h, fun _ _ _ h => h⟩
theorem Given.trans {S1 S2 : Sit} (h : Given X S S1) (h' : Given X S1 S2) : Given X S S2 :=
 ⟨h'.w.trans h.w, h'.bb.trans h.bb, h'.ph.trans h.ph, h.later.trans h'.later, fun b k e => h'.bx b k (h.bx b k e), fun b n e => by
  have e1 := h.heads b n e
  exact (h'.heads b n (by rw [e1]; exact e)).trans e1, fun n q x u hx => h'.tms n q x u (h.tms n q x u hx), fun n q k hk => h'.tm n q k (h.tm n q k hk)⟩
theorem takeLs_cons {A : Ab} {x : Lf} {l m : List Lf} {us : List Up} (hx : ∀ p v, x ≠ .al p v) (h : takeLs A (x :: l) = some (m, us)) : ∃ m', m = x :: m' ∧ takeLs A l = some (m', us) := by
 have e : takeLs A (x :: l) = match takeLs A l with | some (m, us) => some (x :: m, us) | none => none := by
  cases x <;> first | rfl | exact absurd rfl (hx _ _)
 rw [e] at h
 split at h
 ·rename_i m' us' h'
  cases h
  exact ⟨m', rfl, h'⟩
 ·cases h
theorem takeLs_ok (i : Nat) (path : Nat → List Nat) : ∀ (l : List Lf) {S : Sit} {A : Ab} {j : Nat} {us : List Value} {m : List Lf} {vs : List Up}, Okay X S a → S.g = get A → takeLs A l = some (m, vs) → LfsOk X.P S (fun n => .tm i (path n)) j l us →
  ∃ S', Okay X S' a ∧ S'.g = get (ups A vs) ∧ Given X S S' ∧ LfsOk X.P S' (fun n => .tm i (path n)) j m us
 | [], S, A, j, [], m, vs, K, hg, h, _ => by
  simp only [takeLs, Option.some.injEq, Prod.mk.injEq] at h
  obtain ⟨rfl, rfl⟩ := h
  exact ⟨S, K, hg, .refl S, trivial⟩
 | [], S, A, j, _ :: _, m, vs, K, hg, h, hl => hl.elim
 | _ :: _, S, A, j, [], m, vs, K, hg, h, hl => hl.elim
 | x :: l, S, A, j, u :: us, m, vs, K, hg, h, hl => by
  by_cases hal : ∃ p v, x = .al p v
  ·obtain ⟨p, v, rfl⟩ := hal
   simp only [takeLs] at h
   split at h
   ·rename_i e r' xs hsn
    obtain ⟨p', v', e0, hp⟩ := seen_alias hsn (fun e r xs hy => by cases hy)
    cases e0
    split at h
    ·rename_i m' vs' hrec
     simp only [Option.some.injEq, Prod.mk.injEq] at h
     obtain ⟨rfl, rfl⟩ := h
     have he : u = S.ph p := hl.1.2 (by rw [hg, hp])
     let f : List Nat → Option (List Nat) := fun q => match q with | [] => some (path j) | _ => none
     have L1 := detP_later S p i f (.one .dead)
     obtain ⟨K1, h1, h2⟩ := detachP K p i f (.one .dead) (by simp) trivial
     have hown : LfOk X.P S (.pl p []) (.own e r' xs) (S.ph p) := by have := K.at_ p; rw [hg, hp] at this; exact this
     have hown1 := h1 [] (path j) _ _ rfl hown
     have g1 : (detP S p i f (.one .dead)).g = get (up A ⟨p, false, .one .dead⟩) := by
      show upd S.g p _ = _
      rw [get_up, ← hg]; rfl
     have G1 : Given X S (detP S p i f (.one .dead)) := ⟨rfl, rfl, rfl, L1, fun b k hk => (reP_other (by simp [hk])).trans hk, fun b n hn => upd_ne _ _ (fun e1 => by rw [e1, hg, hp] at hn; cases hn), h2, fun n q k hk => (reP_other (by simp [hk])).trans hk⟩
     have hrest : LfsOk X.P (detP S p i f (.one .dead)) (fun n => .tm i (path n)) (j + 1) l us := hl.2.imp (fun n x u hx => h2 i (path n) x u hx)
     obtain ⟨S2, K2, g2, G2, hl2⟩ := takeLs_ok i path l K1 g1 hrec hrest
     refine ⟨S2, K2, g2, G1.trans G2, ?_, hl2⟩
     rw [he]
     exact G2.tms _ _ _ _ hown1
    ·cases h
   ·cases h
  ·obtain ⟨m', rfl, h'⟩ := takeLs_cons (fun p v e => hal ⟨p, v, e⟩) h
   obtain ⟨S2, K2, g2, G2, hl2⟩ := takeLs_ok i path l K hg h' hl.2
   exact ⟨S2, K2, g2, G2, G2.tms _ _ _ _ hl.1, hl2⟩
theorem give_ok (hE : EnOk X E) (K : Okay X S a) (hg : S.g = get A) {T : TypeId} {y : Operand} {s : Sv} {m : List Lf} {vs : List Up} (hs : opT E T A y = some s) (hnt : ∀ vs, s ≠ .tup vs) (h : give A y s = some (m, vs)) (i : Nat) :
  ∃ S', Okay X S' a ∧ S'.g = get (ups A vs) ∧ Given X S S' ∧ ∃ us, Shape s (a.eval y) us ∧ LfsOk X.P S' (fun n => .tm i (pth s n)) 0 m us := by
 unfold give at h
 split at h
 ·rename_i m0 vs0 ht
  simp only [Option.some.injEq, Prod.mk.injEq] at h
  obtain ⟨rfl, rfl⟩ := h
  have first : ∃ S1, Okay X S1 a ∧ S1.g = get (ups A (gone y s)) ∧ Given X S S1 ∧ ∃ us, Shape s (a.eval y) us ∧ LfsOk X.P S1 (fun n => .tm i (pth s n)) 0 (parts s) us := by
   rcases opT_ok hE K hg hs with ⟨t, rfl, htl, hst, het, hok⟩ | ⟨hnt', x, rfl, hx⟩
   ·cases ho : ownSv s with
    | false =>
     have hgo : gone (.tmp t) s = [] := by simp [gone, ho]
     refine ⟨S, K, by rw [hgo]; exact hg, .refl S, ?_⟩
     cases s with
     | tup vs => exact absurd rfl (hnt vs)
     | one x => exact ⟨[_], rfl, (LfsOk.relab (f := fun _ => .pl t []) ho ⟨hok, trivial⟩)⟩
     | agg l =>
      obtain ⟨us, e1, hl⟩ := hok
      exact ⟨us, e1, hl.relab ho⟩
    | true =>
     have hgo : gone (.tmp t) s = [⟨t, false, .one .dead⟩] := by simp [gone, ho]
     obtain ⟨K1, h1, h2⟩ := detach K t i
     have G1 : Given X S (detS S t i) := ⟨rfl, rfl, rfl, detS_later S t i, fun b k hk => (reO_other (by simp [hk])).trans hk, fun b n hn => upd_ne _ _ (fun e1 => by rw [e1, ← hst] at hn; subst hn; simp [ownSv, ownIn] at ho), h2, fun n q k hk => (reO_other (by simp [hk])).trans hk⟩
     refine ⟨_, K1, ?_, G1, ?_⟩
     ·rw [hgo, get_ups1, ← hg]; rfl
     ·cases s with
      | tup vs => exact absurd rfl (hnt vs)
      | one x => exact ⟨[_], rfl, h1 [] x _ hok, trivial⟩
      | agg l =>
       obtain ⟨us, e1, hl⟩ := hok
       exact ⟨us, e1, hl.imp (fun n x u hx => h1 [n] x u hx)⟩
   ·have hgo : gone y (.one x) = [] := by
     unfold gone
     split
     ·exact absurd rfl (hnt' _)
     ·rfl
    exact ⟨S, K, by rw [hgo]; exact hg, .refl S, [_], rfl, hx _, trivial⟩
  obtain ⟨S1, K1, g1, G1, us, hsh, hl⟩ := first
  obtain ⟨S2, K2, g2, G2, hl2⟩ := takeLs_ok i (pth s) (parts s) K1 g1 ht hl
  exact ⟨S2, K2, by rw [ups_append]; exact g2, G1.trans G2, us, hsh, hl2⟩
 ·cases h
theorem owned_deps {P : Program} {S : Sit} {f : Nat → Lab} : ∀ {m : List Lf} {j : Nat} {us : List Value}, owned m = true → LfsOk P S f j m us → (∀ n n', j ≤ n → n < j + m.length → j ≤ n' → n' < j + m.length → f n = f n' → n = n') →
  ∃ mb, LDeps P (fun k => S.O k = .fz) S.w m us mb ∧ mb.Nodup ∧ ∀ k ∈ mb, ∃ n, j ≤ n ∧ n < j + m.length ∧ S.O k = f n
 | [], j, [], _, _, _ => ⟨[], ⟨rfl, rfl⟩, by simp, by simp⟩
 | [], j, _ :: _, _, h, _ => h.elim
 | _ :: _, j, [], _, h, _ => h.elim
 | x :: m, j, u :: us, ho, h, hi => by
  have hrest : owned m = true := by cases x <;> first | (simp [owned] at ho; done) | simpa [owned] using ho
  obtain ⟨mb, h1, h2, h3⟩ := owned_deps hrest h.2 (fun n n' a1 a2 a3 a4 e => hi n n' (by omega) (by simp only [List.length_cons]; omega) (by omega) (by simp only [List.length_cons]; omega) e)
  have hx : ∃ b, LDep P (fun k => S.O k = .fz) S.w x u b ∧ b.Nodup ∧ ∀ k ∈ b, S.O k = f j := by
   cases x with
   | sc v => exact ⟨[], ⟨h.1.1, h.1.2, rfl⟩, by simp, by simp⟩
   | own e r xs => exact h.1
   | _ => simp [owned] at ho
  obtain ⟨b, b1, b2, b3⟩ := hx
  refine ⟨b ++ mb, ⟨u, us, b, mb, rfl, rfl, b1, h1⟩, ?_, fun k hk => ?_⟩
  ·rw [List.nodup_append]
   refine ⟨b2, h2, fun k hk k' hk' e => ?_⟩
   subst e
   obtain ⟨n, n1, n2, n3⟩ := h3 k hk'
   have := hi j n (Nat.le_refl _) (by simp) (by omega) (by simp only [List.length_cons]; omega) ((b3 k hk).symm.trans n3)
   omega
  ·rcases List.mem_append.1 hk with hk | hk
   ·exact ⟨j, Nat.le_refl _, by simp, b3 k hk⟩
   ·obtain ⟨n, n1, n2, n3⟩ := h3 k hk
    exact ⟨n, by omega, by simp only [List.length_cons]; omega, n3⟩
theorem pth_inj {s : Sv} {m : List Lf} {i : Nat} (hnt : ∀ vs, s ≠ .tup vs) (hl : m.length = (parts s).length) : ∀ n n', 0 ≤ n → n < 0 + m.length → 0 ≤ n' → n' < 0 + m.length → Lab.tm i (pth s n) = .tm i (pth s n') → n = n' := by
 intro n n' _ h1 _ h2 e
 cases s with
 | one x => simp only [parts, List.length_cons, List.length_nil] at hl; omega
 | agg l => simpa [pth] using e
 | tup vs => exact absurd rfl (hnt vs)
theorem takeLs_len : ∀ (l : List Lf) {A : Ab} {m : List Lf} {us : List Up}, takeLs A l = some (m, us) → m.length = l.length
 | [], A, m, us, h => by
  simp only [takeLs, Option.some.injEq, Prod.mk.injEq] at h
  obtain ⟨rfl, _⟩ := h
  rfl
 | x :: l, A, m, us, h => by
  by_cases hal : ∃ p v, x = .al p v
  ·obtain ⟨p, v, rfl⟩ := hal
   simp only [takeLs] at h
   split at h
   ·split at h
    ·rename_i m' vs' hrec
     simp only [Option.some.injEq, Prod.mk.injEq] at h
     obtain ⟨rfl, rfl⟩ := h
     simp [takeLs_len l hrec]
    ·cases h
   ·cases h
  ·obtain ⟨m', rfl, h'⟩ := takeLs_cons (fun p v e => hal ⟨p, v, e⟩) h
   simp [takeLs_len l h']
theorem give_len {y : Operand} {s : Sv} {m : List Lf} {us : List Up} (h : give A y s = some (m, us)) : m.length = (parts s).length := by
 unfold give at h
 split at h
 ·rename_i m0 vs0 ht
  simp only [Option.some.injEq, Prod.mk.injEq] at h
  obtain ⟨rfl, rfl⟩ := h
  exact takeLs_len _ ht
 ·cases h
def toP (p : Nat) : Nat → List Nat → Option Lab := fun n _ => if n = 0 then some (.pl p []) else none
theorem Okay.rewriteD (K : Okay X S a) {p n : Nat} {e : TypeId} {r' : Ty} {xs ys : List r'.den} {w' : World} (hp : S.g p = (n, .one (.own e r' xs))) (hold : ∀ j o', S.O j = o' → o' ≠ .pl p [] → w'.heap[j]? = S.w.heap[j]?)
  (hsz : w'.heap.size = S.w.heap.size) (h1 : w'.os = S.w.os) (h2 : w'.tape = S.w.tape) (h3 : w'.output = S.w.output) (hown : OwnOk X.P (atO S.O (toP p)) w' (.pl p []) e r' ys (S.ph p)) :
  Okay X { S with O := atO S.O (toP p), g := upd S.g p (n + 1, .one (.own e r' ys)), w := w' } a := by
 have keep : ∀ k o', S.O k = o' → (∀ n q, o' ≠ .tm n q) → atO S.O (toP p) k = o' := fun k o' h h' => atO_other h h'
 have L : Later S { S with O := atO S.O (toP p), g := upd S.g p (n + 1, .one (.own e r' ys)), w := w' } := by
  refine ⟨fun q => ?_, fun _ _ => rfl, fun q v e2 r2 xs' hq hv => ?_, fun _ _ => rfl, fun j hj => ⟨keep j _ hj (by simp), hold j _ hj (by simp)⟩, Later.box_of (fun b m hv hh => ?_) (fun j b h => ⟨keep j _ h (by simp), hold j _ h (by simp)⟩), fun q hv hd => ?_⟩
  ·show _ ≤ (upd S.g p _ q).1
   by_cases h : q = p
   ·subst h; rw [upd_same, hp]; exact Nat.le_succ _
   ·rw [upd_ne _ _ h]; exact Nat.le_refl _
  ·have hq' : upd S.g p (n + 1, .one (.own e r' ys)) q = (v, .one (.own e2 r2 xs')) := hq
   by_cases h : q = p
   ·subst h
    rw [upd_same] at hq'
    cases hq'
    rw [hp] at hv
    simp at hv
   ·rw [upd_ne _ _ h] at hq'
    exact ⟨xs', hq', rfl⟩
  ·have hb : H b ≠ p := fun e => by subst e; rw [hp] at hh; cases hh
   exact (congrArg Prod.snd (upd_ne _ _ hb)).trans hh
  ·have hv' : (upd S.g p (n + 1, .one (.own e r' ys)) q).1 = (S.g q).1 := hv
   have h : q ≠ p := fun e => by subst e; rw [upd_same, hp] at hv'; simp at hv'
   have e1 : ({ S with O := atO S.O (toP p), g := upd S.g p (n + 1, .one (.own e r' ys)), w := w' } : Sit).g q = S.g q := upd_ne _ _ h
   rw [e1]
   exact ⟨hd, fun _ _ _ h => h, fun k hk => ⟨.inl (keep k _ hk (by simp)), hold k _ hk (by simp [h])⟩⟩
 have F := K.fr
 refine ⟨K.nt, fun j hj => ?_, fun l => ?_, fun b m hb => ?_, fun b m hb => ?_, K.sl, K.sz, K.df, ⟨h1.trans F.os, h2.trans F.tape, h3.trans F.out, ?_, fun j hj h0 => ?_, fun j hj h0 => ?_, fun j b hj h0 => ?_⟩⟩
 ·show j < w'.heap.size
  rw [hsz]
  refine K.lt j (fun e => hj (keep j _ e (by simp)))
 ·show SvOk X.P _ l (upd S.g p _ l).2 _
  by_cases h : l = p
  ·subst h; rw [upd_same]; exact hown
  ·rw [upd_ne _ _ h]
   exact (K.at_ l).later L (fun q j hj => ⟨keep j _ hj (by simp), hold j _ hj (by simp [h])⟩)
 ·have hne : H b ≠ p := by
   intro e2
   have : (upd S.g p (n + 1, .one (.own e r' ys)) (H b)).2 = .one (.hd m) := hb
   rw [e2, upd_same] at this
   cases this
  have hb' : (S.g (H b)).2 = .one (.hd m) := by
   have : (upd S.g p (n + 1, .one (.own e r' ys)) (H b)).2 = .one (.hd m) := hb
   rwa [upd_ne _ _ hne] at this
  obtain ⟨hn, c, e1, e2, e3, e4⟩ := K.box b m hb'
  exact ⟨hn, c, e1, (hold _ _ e3 (by simp)).trans e2, keep _ _ e3 (by simp), e4⟩
 ·have hne : H b ≠ p := by
   intro e2
   have : (upd S.g p (n + 1, .one (.own e r' ys)) (H b)).2 = .one (.hd m) := hb
   rw [e2, upd_same] at this
   cases this
  have hb' : (S.g (H b)).2 = .one (.hd m) := by
   have : (upd S.g p (n + 1, .one (.own e r' ys)) (H b)).2 = .one (.hd m) := hb
   rwa [upd_ne _ _ hne] at this
  exact K.rgn b m hb'
 ·show _ ≤ w'.heap.size
  rw [hsz]; exact F.size
 ·obtain ⟨f1, f2⟩ := F.no j hj h0
  exact ⟨keep j _ f1 (by simp), (hold j _ f1 (by simp)).trans f2⟩
 ·obtain ⟨f1, f2⟩ := F.fz j hj h0
  exact ⟨keep j _ f1 (by simp), (hold j _ f1 (by simp)).trans f2⟩
 ·obtain ⟨f1, c, c', e1, f, f2, f3, f4, f5⟩ := F.bx j b hj h0
  exact ⟨keep j _ f1 (by simp), c, c', e1, f, f2, (hold j _ f1 (by simp)).trans f3, f4, f5⟩
theorem path_store (K : Okay X S a) {p v : Nat} {q : List (Int × Nat)} {e : TypeId} {r1 : Ty} {xs : List r1.den} {i : Int} {off : Nat} {h u : Value} {E0 : TypeId} {R0 : Ty} {XS XS' : List R0.den} {m : List Lf} {us : List Value} {path : Nat → List Nat} {z : r1.den}
  (hp : S.g p = (v, .one (.own E0 R0 XS))) (hda : DaOk X.P S p v (some q) e r1 xs h) (hdp : 0 ≤ i ∧ i.toNat < xs.length ∧ ∃ k o cap, h = .slice (some ⟨k, o, none⟩) xs.length cap ∧ u = .pointer (some ⟨k, o + (i.toNat * r1.sz + off), none⟩))
  (hall : allOw R0 = true) (ho : owned m = true) (hl : LfsOk X.P S (fun n => .tm 0 (path n)) 0 m us) (hinj : ∀ n n', 0 ≤ n → n < 0 + m.length → 0 ≤ n' → n' < 0 + m.length → Lab.tm 0 (path n) = .tm 0 (path n') → n = n')
  (hz : mkW r1 (Vf.setAll (leaves r1 (xs.getD i.toNat r1.dflt)) off m) = some z) (hle : off + m.length ≤ r1.sz) (hput : putAt r1 (xs.set i.toNat z) q R0 XS = some XS') :
  ∃ k j cur e0, u = .pointer (some ⟨k, j, none⟩) ∧ S.w.heap[k]? = some (.cells cur e0 (0, 0)) ∧ j + us.length ≤ cur.size ∧
   Okay X { S with O := atO S.O (toP p), g := upd S.g p (v + 1, .one (.own E0 R0 XS')), w := S.w.setRow k (rowW cur j us) } a := by
 obtain ⟨i0, i1, k, o, cap, e1, e2⟩ := hdp
 obtain ⟨d1, _, d2⟩ := hda
 obtain ⟨_, _, hpath⟩ := d2 (by rw [hp])
 obtain ⟨f1, f2⟩ := hpath q rfl E0 R0 XS (by rw [hp])
 have hown : OwnOk X.P S.O S.w (.pl p []) E0 R0 XS (S.ph p) := by have := K.at_ p; rw [hp] at this; exact this
 obtain ⟨bs, hd, hn, hb⟩ := hown
 obtain ⟨mb, m1, m2, m3⟩ := owned_deps ho hl hinj
 have hmt : ∀ k ∈ mb, ∃ n, S.O k = .tm 0 (path n) := fun k hk => by obtain ⟨n, _, _, h⟩ := m3 k hk; exact ⟨n, h⟩
 rw [e1] at f2
 obtain ⟨cur, e0, c1, c2, c3, c4, bs', g1, g2, g3⟩ := dep_write (i := i.toNat) (off := off) i1 m1 m2 hz hle (fun k hk hf => by obtain ⟨n, hn⟩ := hmt k hk; rw [hn] at hf; cases hf) q E0 R0 XS XS' (S.ph p) bs hd hn hall
  (fun k hk hk' => by obtain ⟨n, hn⟩ := hmt k hk; rw [hb k hk'] at hn; cases hn) (fun k hk hf => by rw [hb k hk] at hf; cases hf) f1 f2 hput
 subst c3
 refine ⟨k, i.toNat * r1.sz + off, cur, e0, by rw [e2, Nat.zero_add], c1, c4, ?_⟩
 have hkl := hb k c2
 refine K.rewriteD hp (fun j o' hj ho' => setRow_other _ _ _ _ (fun e => ho' (by rw [← hj, e]; exact hkl))) (by simp [World.setRow]) rfl rfl rfl ⟨bs', ?_, g2, fun j hj => ?_⟩
 ·refine Ty.dep_mono (G := fun k => S.O k = .fz) (w := S.w.setRow k (rowW cur (i.toNat * r1.sz + off) us)) (fun j hj => atO_other hj (by simp)) (fun _ _ => rfl) (.ow E0 R0) XS' _ bs' (fun _ _ => rfl) g1
 ·rcases g3 j hj with h9 | h9
  ·exact atO_other (hb j h9) (by simp)
  ·obtain ⟨n, hn⟩ := hmt j h9
   exact atO_tm hn (by simp [toP])
end
end Go.Proofs.YtgocagaijgcnmaaGreat.Vf
end

section
set_option linter.unusedVariables false
set_option linter.unusedSimpArgs false
namespace Go.Proofs.YtgocagaijgcnmaaGreat.Vf
open Go
attribute [local irreducible] C H
section
variable {X : Cx} {S S' : Sit} {a : Act} {E : En} {A : Ab} {o : Oper} {R : Type} {Kc : List Up → Option R} {r : R}
theorem Okay.retm (K : Okay X S a) (O' : Nat → Lab) (h : ∀ k o, S.O k = o → (∀ n q, o ≠ .tm n q) → O' k = o) : Okay X { S with O := O' } a ∧ Later S { S with O := O' } := by
 have L : Later S { S with O := O' } := ⟨fun _ => Nat.le_refl _, fun _ _ => rfl, fun p v e r xs' h _ => ⟨xs', h, rfl⟩, fun _ _ => rfl, fun k hk => ⟨h k _ hk (by simp), rfl⟩, Later.box_of (fun _ _ _ h => h) (fun k b hk => ⟨h k _ hk (by simp), rfl⟩), fun p _ hd => ⟨hd, fun _ _ _ h => h, fun k hk => ⟨.inl (h k _ hk (by simp)), rfl⟩⟩⟩
 exact ⟨K.ghost _ _ (fun k e => h k _ e (by simp)) (fun k e1 e2 => e1 (h k _ e2 (by simp))) (fun k e => h k _ e (by simp)) (fun k b e => h k _ e (by simp)) (fun _ _ e => e)
  (fun l => (K.at_ l).later L (fun p k e => ⟨h k _ e (by simp), rfl⟩)), L⟩
theorem soften (K : Okay X S a) {i : Nat} {q : List Nat} {e : TypeId} {r r' : Ty} {xs : List r'.den} {ys : List r.den} {u : Value} (hno : noOw r = true) (hc : castL r r' xs = some ys) (h : OwnOk X.P S.O S.w (.tm i q) e r' xs u) :
  ∃ O', (∀ k, S.O k ≠ .tm i q → O' k = S.O k) ∧ Okay X { S with O := O' } a ∧ Later S { S with O := O' } ∧ OwnOk X.P O' S.w (.tm i q) e r ys u := by
 obtain ⟨bs, ⟨v, cs, b2, ev, hs, ho, hd, eb⟩, hn, hk⟩ := h
 simp only [List.cons.injEq, and_true] at ev
 subst ev
 let O' : Nat → Lab := fun k => if k ∈ b2 then .fz else S.O k
 have hlab : ∀ k ∈ b2, S.O k = .tm i q := fun k hk2 => hk k (by rw [eb]; exact List.mem_append_right _ hk2)
 have hO : ∀ k, S.O k ≠ .tm i q → O' k = S.O k := fun k h1 => if_neg (fun h2 => h1 (hlab k h2))
 obtain ⟨K1, L1⟩ := K.retm O' (fun k o h1 h2 => (hO k (by rw [h1]; exact h2 i q)).trans h1)
 refine ⟨O', hO, K1, L1, (OwnOk.flat hno).2 ?_⟩
 obtain ⟨e1, rfl⟩ := castL_some hc
 have hsz : r'.sz = r.sz := by rw [← shp_sz r', e1, shp_sz r]
 have hf : ∀ k, S.O k = .fz → O' k = .fz := fun k h1 => (hO k (by rw [h1]; simp)).trans h1
 refine ⟨by rw [← hsz]; exact hs, cs, by rw [← hsz, List.length_map]; exact ho, ?_, fun k h1 => ?_⟩
 ·have hr : Rows (fun x c => r'.rep X.P (fun k => O' k = .fz) S.w x c) xs cs := hd.rows (fun x c b hb h => Ty.dep_rep hf r' x c b (fun k hk => if_pos (hb k hk)) h)
  exact hr.map (fun x c hx => (rep_of e1 x c).1 hx)
 ·have h2 : k ∉ b2 := fun h3 => by
   rw [eb, h1] at hn
   simp only [Option.toList_some, List.singleton_append, List.nodup_cons] at hn
   exact hn.1 h3
  exact (if_neg h2).trans (hk k (by rw [eb, h1]; simp))
structure GivenX (X : Cx) (S S' : Sit) (ex : Nat → List Nat → Prop) : Prop where
 w : S'.w = S.w
 bb : S'.bb = S.bb
 ph : S'.ph = S.ph
 later : Later S S'
 bx : ∀ b k, S.O k = .bx b → S'.O k = .bx b
 heads : ∀ b n, (S.g (H b)).2 = .one (.hd n) → S'.g (H b) = S.g (H b)
 tms : ∀ n q x u, ¬ ex n q → LfOk X.P S (.tm n q) x u → LfOk X.P S' (.tm n q) x u
 tm : ∀ n q k, ¬ ex n q → S.O k = .tm n q → S'.O k = .tm n q
theorem GivenX.trans {S1 S2 : Sit} {e1 e2 e3 : Nat → List Nat → Prop} (h1 : ∀ n q, e1 n q → e3 n q) (h2 : ∀ n q, e2 n q → e3 n q) (h : GivenX X S S1 e1) (h' : GivenX X S1 S2 e2) : GivenX X S S2 e3 :=
 ⟨h'.w.trans h.w, h'.bb.trans h.bb, h'.ph.trans h.ph, h.later.trans h'.later, fun b k e => h'.bx b k (h.bx b k e), fun b n e => by
  have e1 := h.heads b n e
  exact (h'.heads b n (by rw [e1]; exact e)).trans e1, fun n q x u hn hx => h'.tms n q x u (fun h => hn (h2 n q h)) (h.tms n q x u (fun h => hn (h1 n q h)) hx), fun n q k hn hk => h'.tm n q k (fun h => hn (h2 n q h)) (h.tm n q k (fun h => hn (h1 n q h)) hk)⟩
theorem GivenX.refl (S : Sit) (ex : Nat → List Nat → Prop) : GivenX X S S ex := ⟨rfl, rfl, rfl, .refl S, fun _ _ h => h, fun _ _ _ => rfl, fun _ _ _ _ _ h => h, fun _ _ _ _ h => h⟩
theorem Given.x {ex : Nat → List Nat → Prop} (h : Given X S S') : GivenX X S S' ex := ⟨h.w, h.bb, h.ph, h.later, h.bx, h.heads, fun n q x u _ hx => h.tms n q x u hx, fun n q k _ hk => h.tm n q k hk⟩
theorem ownAs_ok (K : Okay X S a) {i : Nat} {q : List Nat} {e : TypeId} {r : Ty} {x y : Lf} {u : Value} (ha : ownAs e r x = some y) (h : LfOk X.P S (.tm i q) x u) :
  ∃ S', Okay X S' a ∧ S'.g = S.g ∧ GivenX X S S' (fun n q' => n = i ∧ q' = q) ∧ LfOk X.P S' (.tm i q) y u := by
 unfold ownAs at ha
 split at ha
 ·rename_i e' r' xs
  cases hb : Nat.beq e e' with
  | false => rw [hb] at ha; simp at ha
  | true =>
   rw [hb, cond_true] at ha
   have he : e = e' := Nat.eq_of_beq_eq_true hb
   subst he
   split at ha
   ·rename_i ys hys
    simp only [Option.some.injEq] at ha
    subst ha
    exact ⟨S, K, rfl, .refl S _, OwnOk.cast hys h⟩
   ·cases hno : noOw r with
    | false => rw [hno] at ha; simp at ha
    | true =>
     rw [hno, cond_true] at ha
     split at ha
     ·rename_i ys hys
      simp only [Option.some.injEq] at ha
      subst ha
      obtain ⟨O', h1, K1, L1, h2⟩ := soften K hno hys h
      have hO : ∀ k n q', ¬ (n = i ∧ q' = q) → S.O k = .tm n q' → O' k = .tm n q' := fun k n q' hn hk => (h1 k (by rw [hk]; intro e1; cases e1; exact hn ⟨rfl, rfl⟩)).trans hk
      exact ⟨_, K1, rfl, ⟨rfl, rfl, rfl, L1, fun b k hk => (h1 k (by rw [hk]; simp)).trans hk, fun _ _ _ => rfl, fun n q' x u hn hx => hx.later L1 (fun k hk => ⟨hO k n q' hn hk, rfl⟩), fun n q' k hn hk => hO k n q' hn hk⟩, h2⟩
     ·cases ha
 ·cases ha
theorem xferLs_len : ∀ (ts : List Ty) (l : List Lf) {A : Ab} {m : List Lf} {us : List Up}, xferLs A ts l = some (m, us) → m.length = l.length ∧ ts.length = l.length
 | [], [], A, m, us, h => by
  simp only [xferLs, Option.some.injEq, Prod.mk.injEq] at h
  obtain ⟨rfl, _⟩ := h
  exact ⟨rfl, rfl⟩
 | [], _ :: _, A, m, us, h => by simp [xferLs] at h
 | t :: ts, [], A, m, us, h => by cases t <;> simp [xferLs] at h
 | t :: ts, x :: l, A, m, us, h => by
  have rest : ∀ {A : Ab} {m' : List Lf} {us' : List Up}, xferLs A ts l = some (m', us') → m'.length = l.length ∧ ts.length = l.length := fun h => xferLs_len ts l h
  cases t with
  | ow e r =>
   simp only [xferLs] at h
   split at h
   ·split at h
    ·rename_i hr
     simp only [Option.some.injEq, Prod.mk.injEq] at h
     obtain ⟨rfl, _⟩ := h
     simp [rest hr]
    ·cases h
   ·cases h
  | _ =>
   simp only [xferLs] at h
   split at h
   ·rename_i hr
    simp only [Option.some.injEq, Prod.mk.injEq] at h
    obtain ⟨rfl, _⟩ := h
    simp [rest hr]
   ·cases h
theorem storable_cons {x : Lf} {l : List Lf} (h : storable (x :: l) = true) : storable l = true ∧ ((∃ v, x = .sc v) ∨ (∃ e r, ∃ xs : List (Ty.den r), x = .fz e r xs) ∨ ∃ e r, ∃ xs : List (Ty.den r), x = .own e r xs) := by
 cases x <;> first | (simp [storable] at h; done) | skip
 ·exact ⟨by simpa [storable] using h, .inl ⟨_, rfl⟩⟩
 ·exact ⟨by simpa [storable] using h, .inr (.inl ⟨_, _, _, rfl⟩)⟩
 ·exact ⟨by simpa [storable] using h, .inr (.inr ⟨_, _, _, rfl⟩)⟩
theorem xferLs_ok (i : Nat) (path : Nat → List Nat) : ∀ (ts : List Ty) (l : List Lf) {S : Sit} {A : Ab} {j : Nat} {us : List Value} {m : List Lf} {vs : List Up}, Okay X S a → S.g = get A → xferLs A ts l = some (m, vs) → storable m = true → LfsOk X.P S (fun n => .tm i (path n)) j l us →
  (∀ n n', j ≤ n → n < j + l.length → j ≤ n' → n' < j + l.length → path n = path n' → n = n') →
  ∃ S', Okay X S' a ∧ S'.g = get (ups A vs) ∧ GivenX X S S' (fun n q => n = i ∧ ∃ k, j ≤ k ∧ k < j + l.length ∧ q = path k) ∧ LfsOk X.P S' (fun n => .tm i (path n)) j m us
 | [], [], S, A, j, [], m, vs, K, hg, h, _, _, _ => by
  simp only [xferLs, Option.some.injEq, Prod.mk.injEq] at h
  obtain ⟨rfl, rfl⟩ := h
  exact ⟨S, K, hg, .refl S _, trivial⟩
 | [], [], S, A, j, _ :: _, m, vs, K, hg, h, _, hl, _ => hl.elim
 | [], _ :: _, S, A, j, us, m, vs, K, hg, h, _, hl, _ => by simp [xferLs] at h
 | t :: _, [], S, A, j, us, m, vs, K, hg, h, _, hl, _ => by cases t <;> simp [xferLs] at h
 | _ :: _, _ :: _, S, A, j, [], m, vs, K, hg, h, _, hl, _ => hl.elim
 | t :: ts, x :: l, S, A, j, u :: us, m, vs, K, hg, h, hst, hl, hi => by
  have go : ∀ {y : Lf} {v0 vs' : List Up} {m' : List Lf} {S1 : Sit}, m = y :: m' → vs = v0 ++ vs' → xferLs (ups A v0) ts l = some (m', vs') → Okay X S1 a → S1.g = get (ups A v0) → GivenX X S S1 (fun n q => n = i ∧ q = path j) → LfOk X.P S1 (.tm i (path j)) y u →
    ∃ S', Okay X S' a ∧ S'.g = get (ups A vs) ∧ GivenX X S S' (fun n q => n = i ∧ ∃ k, j ≤ k ∧ k < j + (x :: l).length ∧ q = path k) ∧ LfsOk X.P S' (fun n => .tm i (path n)) j m (u :: us) := by
   intro y v0 vs' m' S1 e1 e2 hrec K1 g1 G1 hy
   subst e1 e2
   have hrest : LfsOk X.P S1 (fun n => .tm i (path n)) (j + 1) l us := LfsOk.impAt (fun n n1 n2 x u hx => G1.tms _ _ _ _ (fun h => by
    have := hi n j (by omega) (by simp only [List.length_cons]; omega) (Nat.le_refl _) (by simp only [List.length_cons]; omega) h.2
    omega) hx) hl.2
   obtain ⟨S2, K2, g2, G2, hl2⟩ := xferLs_ok i path ts l K1 g1 hrec (storable_cons hst).1 hrest (fun n n' a1 a2 a3 a4 e => hi n n' (by omega) (by simp only [List.length_cons]; omega) (by omega) (by simp only [List.length_cons]; omega) e)
   refine ⟨S2, K2, by rw [ups_append]; exact g2, GivenX.trans (fun n q h => ⟨h.1, j, Nat.le_refl _, by simp only [List.length_cons]; omega, h.2⟩) (fun n q h => ?_) G1 G2, G2.tms _ _ _ _ (fun h => ?_) hy, hl2⟩
   ·obtain ⟨h1, k, k1, k2, k3⟩ := h
    exact ⟨h1, k, by omega, by simp only [List.length_cons]; omega, k3⟩
   ·obtain ⟨_, k, k1, k2, k3⟩ := h
    have := hi j k (Nat.le_refl _) (by simp only [List.length_cons]; omega) (by omega) (by simp only [List.length_cons]; omega) k3
    omega
  have h0 : LfOk X.P S (.tm i (path j)) x u := hl.1
  have plain : xferLs A (t :: ts) (x :: l) = (match xferLs (ups A (cost A x)) ts l with | some (m, us) => some (calm (kept A x) :: m, cost A x ++ us) | none => none) →
    ∃ S', Okay X S' a ∧ S'.g = get (ups A vs) ∧ GivenX X S S' (fun n q => n = i ∧ ∃ k, j ≤ k ∧ k < j + (x :: l).length ∧ q = path k) ∧ LfsOk X.P S' (fun n => .tm i (path n)) j m (u :: us) := by
   intro hpl
   rw [hpl] at h
   split at h
   ·rename_i m' vs' hrec
    simp only [Option.some.injEq, Prod.mk.injEq] at h
    obtain ⟨rfl, rfl⟩ := h
    obtain ⟨hst1, hst2⟩ := storable_cons hst
    cases x with
    | al p v =>
     have hk : kept A (.al p v) = calm (seen A (.al p v)) := rfl
     by_cases hown : ∃ e r, ∃ xs : List (Ty.den r), get A p = (v, .one (.own e r xs))
     ·obtain ⟨e, r', xs, hp⟩ := hown
      have hc : cost A (.al p v) = [⟨p, true, .one (.fz e r' xs)⟩] := by simp [cost, hp]
      have hs : calm (kept A (.al p v)) = .fz e r' xs := by simp [kept, seen, hp, calm]
      rw [hc] at hrec
      rw [hc, hs] at go ⊢
      have hSp : (S.g p).2 = .one (.own e r' xs) := by rw [hg, hp]
      obtain ⟨K1, _, hf⟩ := freeze_ K hSp
      have E1 := frS_eased K hSp
      have g1 : (frS S p e r' xs).g = get (ups A [⟨p, true, .one (.fz e r' xs)⟩]) := by
       show upd S.g p _ = _
       rw [get_keep, ← hg]
      refine go rfl rfl hrec K1 g1 ⟨rfl, rfl, rfl, E1.later, fun b k hk => E1.bx b k hk, fun b n hn => upd_ne _ _ (fun e1 => by rw [e1, hSp] at hn; cases hn), fun n q x u _ hx => hx.later E1.later (fun k hk => ⟨E1.tm n q k hk, rfl⟩), fun n q k _ hk => E1.tm n q k hk⟩ ?_
      rw [h0.2 (by rw [hg, hp])]
      exact LfOk.relab (lab' := .tm i (path j)) rfl hf
     ·have hc : cost A (.al p v) = [] := by
       simp only [cost]
       split
       ·rename_i n e r' xs hp
        cases hb : Nat.beq n v with
        | false => rfl
        | true =>
         have : n = v := by simpa using hb
         subst this
         exact absurd ⟨e, r', xs, hp⟩ hown
       ·rfl
      rw [hc] at hrec
      rw [hc] at go ⊢
      refine go rfl rfl hrec K hg (.refl S _) ?_
      rw [hk] at hst2 ⊢
      simp only [seen] at hst2 ⊢
      split
      ·rename_i n e r' xs hp
       cases hb : Nat.beq n v with
       | false => exact trivial
       | true =>
        have : n = v := by simpa using hb
        subst this
        exact absurd ⟨e, r', xs, hp⟩ hown
      ·rename_i n e r' xs hp
       cases hb : Nat.beq n v with
       | false => exact trivial
       | true =>
        have hnv : n = v := by simpa using hb
        subst hnv
        rw [cond_true]
        have h3 := K.at_ p
        rw [hg, hp, ← h0.2 (by rw [hg, hp])] at h3
        exact LfOk.relab (x := .fz e r' xs) (lab := .pl p []) (lab' := .tm i (path j)) rfl h3
      ·exact trivial
    | own e r' xs =>
     obtain ⟨K1, L1⟩ := K.retm (atO S.O (fun n q => if n = i ∧ q = path j then some .fz else none)) (fun k o e1 ho => atO_other e1 ho)
     have hO : ∀ n q k, ¬ (n = i ∧ q = path j) → S.O k = .tm n q → atO S.O (fun n q => if n = i ∧ q = path j then some .fz else none) k = .tm n q := fun n q k hn hk => atO_keep hk (if_neg hn)
     refine go (v0 := []) rfl rfl hrec K1 hg ⟨rfl, rfl, rfl, L1, fun b k hk => atO_other hk (by simp), fun _ _ _ => rfl, fun n q x u hn hx => hx.later L1 (fun k hk => ⟨hO n q k hn hk, rfl⟩), fun n q k hn hk => hO n q k hn hk⟩ ?_
     exact OwnOk.reads (O' := atO S.O (fun n q => if n = i ∧ q = path j then some .fz else none)) h0 (fun k hk => atO_other hk (by simp)) (fun k hk => atO_tm hk (if_pos ⟨rfl, rfl⟩))
    | sc v => exact go (v0 := []) rfl rfl hrec K hg (.refl S _) h0
    | fz e r' xs => exact go (v0 := []) rfl rfl hrec K hg (.refl S _) h0
    | _ => rcases hst2 with ⟨_, e1⟩ | ⟨_, _, _, e1⟩ | ⟨_, _, _, e1⟩ <;> simp [kept, calm] at e1
   ·cases h
  cases t with
  | ow e r =>
   simp only [xferLs] at h
   split at h
   ·rename_i y hy
    split at h
    ·rename_i m' vs' hrec
     simp only [Option.some.injEq, Prod.mk.injEq] at h
     obtain ⟨rfl, rfl⟩ := h
     by_cases hal : ∃ p v, x = .al p v
     ·obtain ⟨p, v, rfl⟩ := hal
      have hown : ∃ e' r', ∃ xs : List (Ty.den r'), seen A (.al p v) = .own e' r' xs := by
       generalize seen A (.al p v) = z at hy
       unfold ownAs at hy
       split at hy
       ·exact ⟨_, _, _, rfl⟩
       ·cases hy
      obtain ⟨e', r', xs, hsn⟩ := hown
      obtain ⟨p', v', e0, hp⟩ := seen_alias hsn (fun e r xs hy => by cases hy)
      cases e0
      rw [hsn] at hy
      have he : u = S.ph p := h0.2 (by rw [hg, hp])
      let f : List Nat → Option (List Nat) := fun q => match q with | [] => some (path j) | _ => none
      have L1 := detP_later S p i f (.one .dead)
      obtain ⟨K1, h1, h2⟩ := detachP K p i f (.one .dead) (by simp) trivial
      have hown : LfOk X.P S (.pl p []) (.own e' r' xs) (S.ph p) := by have := K.at_ p; rw [hg, hp] at this; exact this
      have hown1 := h1 [] (path j) _ _ rfl hown
      have g1 : (detP S p i f (.one .dead)).g = get (ups A (tookP (.al p v))) := by
       show upd S.g p _ = get (ups A [⟨p, false, .one .dead⟩])
       rw [get_ups1, ← hg]
      have G1 : GivenX X S (detP S p i f (.one .dead)) (fun n q => n = i ∧ q = path j) := ⟨rfl, rfl, rfl, L1, fun b k hk => (reP_other (by simp [hk])).trans hk, fun b n hn => upd_ne _ _ (fun e1 => by rw [e1, hg, hp] at hn; cases hn), fun n q x u _ hx => h2 n q x u hx, fun n q k _ hk => (reP_other (by simp [hk])).trans hk⟩
      obtain ⟨S2, K2, g2, G2, hy2⟩ := ownAs_ok K1 hy hown1
      exact go rfl rfl hrec K2 (g2.trans g1) (GivenX.trans (fun _ _ h => h) (fun _ _ h => h) G1 G2) (by rw [he]; exact hy2)
     ·have ht : tookP x = [] := by cases x <;> first | rfl | exact absurd ⟨_, _, rfl⟩ hal
      have hsn : seen A x = x := by cases x <;> first | rfl | exact absurd ⟨_, _, rfl⟩ hal
      rw [hsn] at hy
      rw [ht] at hrec
      rw [ht] at go ⊢
      obtain ⟨S2, K2, g2, G2, hy2⟩ := ownAs_ok K hy h0
      exact go rfl rfl hrec K2 (g2.trans hg) G2 hy2
    ·cases h
   ·cases h
  | _ => exact plain rfl
theorem pth_inj' {s : Sv} {l : List Lf} (hnt : ∀ vs, s ≠ .tup vs) (hl : l = parts s) : ∀ n n', 0 ≤ n → n < 0 + l.length → 0 ≤ n' → n' < 0 + l.length → pth s n = pth s n' → n = n' := by
 intro n n' _ h1 _ h2 e
 subst hl
 cases s with
 | one x => simp only [parts, List.length_cons, List.length_nil] at h1 h2; omega
 | agg l => simpa [pth] using e
 | tup vs => exact absurd rfl (hnt vs)
theorem giveL_ok (hE : EnOk X E) (K : Okay X S a) (hg : S.g = get A) {T : TypeId} {y : Operand} {s : Sv} {ts : List Ty} {m : List Lf} {vs : List Up} (hs : (opT E T A y = some s ∨ ∃ x, s = .one x ∧ (∀ t, y ≠ .tmp t) ∧ ∀ lab, LfOk X.P S lab x (a.eval y))) (hnt : ∀ vs, s ≠ .tup vs) (h : giveL A y s ts = some (m, vs)) (i : Nat) :
  ∃ S', Okay X S' a ∧ S'.g = get (ups A vs) ∧ GivenX X S S' (fun n _ => n = i) ∧ storable m = true ∧ m.length = ts.length ∧ ∃ us, Shape s (a.eval y) us ∧ LfsOk X.P S' (fun n => .tm i (pth s n)) 0 m us := by
 unfold giveL at h
 split at h
 ·rename_i m0 vs0 ht
  cases hst : storable m0 with
  | false => rw [hst] at h; simp at h
  | true =>
  rw [hst] at h
  simp only [cond_true, Option.some.injEq, Prod.mk.injEq] at h
  obtain ⟨rfl, rfl⟩ := h
  have none1 : ∀ x, s = .one x → (∀ t, y ≠ .tmp t) → (∀ lab, LfOk X.P S lab x (a.eval y)) → ∃ S1, Okay X S1 a ∧ S1.g = get (ups A (gone y s)) ∧ Given X S S1 ∧ ∃ us, Shape s (a.eval y) us ∧ LfsOk X.P S1 (fun n => .tm i (pth s n)) 0 (parts s) us := by
   intro x e hnt' hx
   subst e
   have hgo : gone y (.one x) = [] := by
    unfold gone
    split
    ·exact absurd rfl (hnt' _)
    ·rfl
   exact ⟨S, K, by rw [hgo]; exact hg, .refl S, [_], rfl, hx _, trivial⟩
  have first : ∃ S1, Okay X S1 a ∧ S1.g = get (ups A (gone y s)) ∧ Given X S S1 ∧ ∃ us, Shape s (a.eval y) us ∧ LfsOk X.P S1 (fun n => .tm i (pth s n)) 0 (parts s) us := by
   rcases hs with hs | ⟨x, e, hnt', hx⟩
   ·rcases opT_ok hE K hg hs with ⟨t, rfl, htl, hst, het, hok⟩ | ⟨hnt', x, e, hx⟩
    ·cases ho : ownSv s with
     | false =>
      have hgo : gone (.tmp t) s = [] := by simp [gone, ho]
      refine ⟨S, K, by rw [hgo]; exact hg, .refl S, ?_⟩
      cases s with
      | tup vs => exact absurd rfl (hnt vs)
      | one x => exact ⟨[_], rfl, (LfsOk.relab (f := fun _ => .pl t []) ho ⟨hok, trivial⟩)⟩
      | agg l =>
       obtain ⟨us, e1, hl⟩ := hok
       exact ⟨us, e1, hl.relab ho⟩
     | true =>
      have hgo : gone (.tmp t) s = [⟨t, false, .one .dead⟩] := by simp [gone, ho]
      obtain ⟨K1, h1, h2⟩ := detach K t i
      have G1 : Given X S (detS S t i) := ⟨rfl, rfl, rfl, detS_later S t i, fun b k hk => (reO_other (by simp [hk])).trans hk, fun b n hn => upd_ne _ _ (fun e1 => by rw [e1, ← hst] at hn; subst hn; simp [ownSv, ownIn] at ho), h2, fun n q k hk => (reO_other (by simp [hk])).trans hk⟩
      refine ⟨_, K1, ?_, G1, ?_⟩
      ·rw [hgo, get_ups1, ← hg]; rfl
      ·cases s with
       | tup vs => exact absurd rfl (hnt vs)
       | one x => exact ⟨[_], rfl, h1 [] x _ hok, trivial⟩
       | agg l =>
        obtain ⟨us, e1, hl⟩ := hok
        exact ⟨us, e1, hl.imp (fun n x u hx => h1 [n] x u hx)⟩
    ·exact none1 x e hnt' hx
   ·exact none1 x e hnt' hx
  obtain ⟨S1, K1, g1, G1, us, hsh, hl⟩ := first
  obtain ⟨S2, K2, g2, G2, hl2⟩ := xferLs_ok i (pth s) ts (parts s) K1 g1 ht hst hl (pth_inj' hnt rfl)
  obtain ⟨l1, l2⟩ := xferLs_len _ _ ht
  exact ⟨S2, K2, by rw [ups_append]; exact g2, GivenX.trans (fun n q h => h) (fun n q h => h.1) (Given.x (ex := fun n _ => n = i) G1) G2, hst, by rw [l1, ← l2], us, hsh, hl2⟩
 ·cases h
theorem giveT_ok (hE : EnOk X E) (K : Okay X S a) (hg : S.g = get A) {T : TypeId} {y : Operand} {s : Sv} {t : Ty} {m : List Lf} {vs : List Up} (hs : (opT E T A y = some s ∨ ∃ x, s = .one x ∧ (∀ t, y ≠ .tmp t) ∧ ∀ lab, LfOk X.P S lab x (a.eval y))) (hnt : ∀ vs, s ≠ .tup vs) (h : giveT A y s t = some (m, vs)) (i : Nat) :
  ∃ S', Okay X S' a ∧ S'.g = get (ups A vs) ∧ GivenX X S S' (fun n _ => n = i) ∧ storable m = true ∧ m.length = t.sz ∧ ∃ us, Shape s (a.eval y) us ∧ LfsOk X.P S' (fun n => .tm i (pth s n)) 0 m us := by
 rw [← slots_len]
 exact giveL_ok hE K hg hs hnt h i
theorem giveB_ok (K : Okay X S a) (hg : S.g = get A) {b v : Nat} {t t' : Ty} {m : List Lf} {vs : List Up} (h : giveB A b v t t' = some (m, vs)) (i : Nat) :
  (S.g (H b)).1 = v ∧ (S.g (H b)).2 = .one (.hd t.sz) ∧ t'.sz = t.sz ∧ storable m = true ∧ m.length = t.sz ∧
  ∃ S', Okay X S' a ∧ S'.g = get (ups A vs) ∧ GivenX X S S' (fun n _ => n = i) ∧ LfsOk X.P S' (fun n => .tm i [n]) 0 m ((List.range t.sz).map fun j => S.ph (C b (0 + j))) := by
 unfold giveB at h
 split at h
 ·rename_i n hd hp
  cases hq : (Nat.beq n v && Nat.beq hd t.sz && Nat.beq hd t'.sz) with
  | false => rw [hq] at h; simp at h
  | true =>
   rw [hq, cond_true] at h
   simp only [Bool.and_eq_true] at hq
   obtain ⟨⟨q1, q2⟩, q3⟩ := hq
   have e1 : n = v := Nat.eq_of_beq_eq_true q1
   have e2 : hd = t.sz := Nat.eq_of_beq_eq_true q2
   have e3 : hd = t'.sz := Nat.eq_of_beq_eq_true q3
   split at h
   ·rename_i l us hx
    cases hst : storable l with
    | false => rw [hst] at h; simp at h
    | true =>
     rw [hst] at h
     simp only [cond_true, Option.some.injEq, Prod.mk.injEq] at h
     obtain ⟨rfl, rfl⟩ := h
     obtain ⟨c1, c2, c3⟩ := cellsOf_ok K hg b hd 0
     obtain ⟨S2, K2, g2, G2, hl2⟩ := xferLs_ok i (fun n => [n]) (slots t) (cellsOf A b 0 hd) K hg hx hst (c3 _ 0) (fun n n' _ _ _ _ e => by simpa using e)
     obtain ⟨l1, l2⟩ := xferLs_len _ _ hx
     rw [e2] at hl2
     exact ⟨by rw [hg, hp]; exact e1, by rw [hg, hp, e2], by omega, hst, by rw [l1, c1, e2], S2, K2, g2, GivenX.trans (fun n q h => h) (fun n q h => h.1) (GivenX.refl S (fun n _ => n = i)) G2, hl2⟩
   ·cases h
 ·cases h
end
end Go.Proofs.YtgocagaijgcnmaaGreat.Vf
end
