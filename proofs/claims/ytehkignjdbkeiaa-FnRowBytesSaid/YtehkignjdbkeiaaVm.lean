/- The world grows; a new box; loads. -/
import Derived.Test.YtehkignjdbkeiaaVl
set_option linter.unusedVariables false
set_option linter.unusedSimpArgs false
namespace Go.Proofs.Ytehkignjdbkeiaa.Vf
open Go

attribute [local irreducible] C H

def groS (S : Sit) (w : World) (O : Nat → Lab) : Sit := { S with O := O, w := w }
def boxS (S : Sit) (d k o : Nat) (m : List Lf) (us : List Value) : Sit :=
  { O := fun j => if j = k then .bx d else atO S.O (boxH d 0) j, bb := upd S.bb d (k, o), g := gput (upd S.g (H d) ((S.g (H d)).1 + 1, .one (.hd m.length))) d 0 m, ph := phput S.ph d 0 us, w := S.w }

section
variable {X : Cx} {S S' : Sit} {a : Act} {E : En} {A : Ab} {o : Oper} {R : Type} {Kc : List Up → Option R} {r : R}

/-- The world grows; only a block that is held by name may be rewritten. -/
theorem Okay.grow (K : Okay X S a) {w' : World} {row : Option Nat} {O' : Nat → Lab} (hw : S.w.grownBy w' row) (hrow : ∀ k, row = some k → ∃ n q, S.O k = .tm n q)
    (hO : ∀ k, k < S.w.heap.size → (∀ n q, S.O k ≠ .tm n q) → O' k = S.O k) (hlt : ∀ k, O' k ≠ .no → k < w'.heap.size) :
    Okay X (groS S w' O') a ∧ Later S (groS S w' O') := by
  have keep : ∀ k o, S.O k = o → k < S.w.heap.size → (∀ n q, o ≠ .tm n q) → O' k = o ∧ w'.heap[k]? = S.w.heap[k]? := by
    intro k o' h hk ho
    refine ⟨(hO k hk (by rw [h]; exact ho)).trans h, hw.block k hk (fun e => ?_)⟩
    obtain ⟨n, q, h2⟩ := hrow k e.symm
    exact ho n q (h.symm.trans h2)
  have keep' : ∀ k o, S.O k = o → o ≠ .no → (∀ n q, o ≠ .tm n q) → O' k = o ∧ w'.heap[k]? = S.w.heap[k]? := fun k o' h hn ho => keep k o' h (K.lt k (by rw [h]; exact hn)) ho
  have L : Later S (groS S w' O') := ⟨fun _ => Nat.le_refl _, fun _ _ => rfl, fun p v e r xs' h _ => ⟨xs', h, rfl⟩, fun _ _ => rfl, fun k h => keep' k _ h (by simp) (by simp)⟩
  have F := K.fr
  refine ⟨⟨K.nt, hlt, fun l => (K.at_ l).later L (fun p k h => keep' k _ h (by simp) (by simp)), fun b n h => ?_, K.rgn, K.sl, K.sz, K.df, ⟨hw.os.trans F.os, hw.tape.trans F.tape, hw.output.trans F.out, Nat.le_trans F.size hw.size, fun k hk h0 => ?_, fun k hk h0 => ?_, fun k b hk h0 => ?_⟩⟩, L⟩
  · obtain ⟨hn, c, e, e1, e2, e3, e4⟩ := K.box b n h
    obtain ⟨h5, h6⟩ := keep' _ _ e2 (by simp) (by simp)
    exact ⟨hn, c, e, h6.trans e1, h5, e3, e4⟩
  · obtain ⟨f1, f2⟩ := F.no k hk h0
    obtain ⟨h5, h6⟩ := keep k _ f1 (Nat.lt_of_lt_of_le hk F.size) (by simp)
    exact ⟨h5, h6.trans f2⟩
  · obtain ⟨f1, f2⟩ := F.fz k hk h0
    obtain ⟨h5, h6⟩ := keep k _ f1 (Nat.lt_of_lt_of_le hk F.size) (by simp)
    exact ⟨h5, h6.trans f2⟩
  · obtain ⟨f1, c, c', e, f, f2, f3, f4, f5⟩ := F.bx k b hk h0
    obtain ⟨h5, h6⟩ := keep k _ f1 (Nat.lt_of_lt_of_le hk F.size) (by simp)
    exact ⟨h5, c, c', e, f, f2, h6.trans f3, f4, f5⟩

/-- A block held by name becomes a box. -/
theorem Okay.newbox (K : Okay X S a) {d k o : Nat} {m : List Lf} {us : List Value} {q : Nat → List Nat} {c : Array Value} {e : TypeId} {l0 : List Nat} {n0 : Nat} (hk : S.O k = .tm n0 l0) (hn0 : n0 ≠ 0) (hk0 : X.w0.heap.size ≤ k)
    (hc : S.w.heap[k]? = some (.cells c e (0, 0))) (ho : o + m.length ≤ c.size) (hcs : ∀ j, j < m.length → c[o + j]? = us[j]?) (hl : LfsOk X.P S (fun j => .tm 0 (q j)) 0 m us)
    (hq : ∀ j, j < m.length → boxH d 0 0 (q j) = some (.pl (C d (0 + j)) [])) (hm : m.length < 999) (hnh : ∀ k, .hd k ∉ m) (hnp : X.np ≤ d) :
    Okay X (boxS S d k o m us) a ∧ Later S (boxS S d k o m us) := by
  have hlen := hl.len
  have gout : ∀ p, p ≠ H d → ¬ (C d 0 ≤ p ∧ p < C d 0 + m.length) → (boxS S d k o m us).g p = S.g p ∧ phput S.ph d 0 us p = S.ph p := fun p hp1 hp => by
    refine ⟨?_, ?_⟩
    · show gput _ d 0 m p = _
      unfold gput
      rw [if_neg hp, upd_ne _ _ hp1]
    · unfold phput
      rw [if_neg (by rw [hlen]; exact hp)]
  have hH : ¬ (C d 0 ≤ H d ∧ H d < C d 0 + m.length) := heads_apart (by omega)
  have gH : (boxS S d k o m us).g (H d) = ((S.g (H d)).1 + 1, .one (.hd m.length)) := by
    show gput _ d 0 m (H d) = _
    unfold gput
    rw [if_neg hH, upd_same]
  have gin : ∀ p, (C d 0 ≤ p ∧ p < C d 0 + m.length) → (boxS S d k o m us).g p = ((S.g p).1 + 1, .one (m.getD (p - C d 0) .dead)) ∧ phput S.ph d 0 us p = us.getD (p - C d 0) undef := fun p hp => by
    refine ⟨?_, ?_⟩
    · show gput _ d 0 m p = _
      unfold gput
      rw [if_pos hp, upd_ne _ _ (fun e => by rw [e] at hp; exact hH hp)]
    · unfold phput
      rw [if_pos (by rw [hlen]; exact hp)]
  have keep : ∀ j o', S.O j = o' → (∀ n q, o' ≠ .tm n q) → (boxS S d k o m us).O j = o' := fun j o' h ho' => by
    have : j ≠ k := fun e => ho' n0 l0 (by rw [← h, e, hk])
    show (if j = k then _ else _) = _
    rw [if_neg this]
    exact atO_other h ho'
  have L : Later S (boxS S d k o m us) := by
    refine ⟨fun p => ?_, fun p hp => ?_, fun p v e r xs' hp hv => ?_, fun b hb => ?_, fun j hj => ⟨keep j _ hj (by simp), rfl⟩⟩
    · by_cases h1 : p = H d
      · subst h1; rw [gH]; simp
      · by_cases h2 : C d 0 ≤ p ∧ p < C d 0 + m.length
        · rw [(gin p h2).1]; simp
        · rw [(gout p h1 h2).1]; exact Nat.le_refl _
    · show phput S.ph d 0 us p = _
      by_cases h2 : C d 0 ≤ p ∧ p < C d 0 + m.length
      · rw [(gin p h2).1] at hp; simp at hp
      · unfold phput; rw [if_neg (by rw [hlen]; exact h2)]
    · by_cases h1 : p = H d
      · subst h1; rw [gH] at hp; simp at hp
      · by_cases h2 : C d 0 ≤ p ∧ p < C d 0 + m.length
        · rw [(gin p h2).1] at hp
          simp only [Prod.mk.injEq] at hp
          omega
        · rw [(gout p h1 h2).1] at hp
          exact ⟨xs', hp, rfl⟩
    · by_cases hbd : b = d
      · subst hbd; rw [gH] at hb; simp at hb
      · exact upd_ne _ _ hbd
  have F := K.fr
  refine ⟨⟨K.nt, fun j hj => ?_, fun l => ?_, fun b n hb => ?_, fun b n hb => ?_, fun t ht => ?_, K.sz, K.df, ⟨F.os, F.tape, F.out, F.size, fun j hj h0 => ?_, fun j hj h0 => ?_, fun j b hj h0 => ?_⟩⟩, L⟩
  · exact K.lt j (fun e => hj (keep j _ e (by simp)))
  · show SvOk X.P _ l ((boxS S d k o m us).g l).2 (phput S.ph d 0 us l)
    by_cases h1 : l = H d
    · subst h1; rw [gH]; trivial
    · by_cases h2 : C d 0 ≤ l ∧ l < C d 0 + m.length
      · obtain ⟨x, u, e1, e2, e3, e4⟩ := hl.at (l - C d 0) (by omega)
        rw [(gin l h2).1, (gin l h2).2, e1, e2]
        refine LfOk.later L e4 (fun j hj => ⟨?_, rfl⟩)
        rw [Nat.zero_add] at hj
        have hjk : j ≠ k := fun e => hn0 (by rw [e, hk] at hj; cases hj; rfl)
        show (if j = k then _ else _) = _
        rw [if_neg hjk]
        have := atO_tm (h := boxH d 0) hj (hq _ (by omega))
        rwa [show C d (0 + (l - C d 0)) = l by have : C d (0 + (l - C d 0)) = C d 0 + (l - C d 0) := by unfold C; omega
                                               omega] at this
      · rw [(gout l h1 h2).1, (gout l h1 h2).2]
        exact (K.at_ l).later L (fun p j hj => ⟨keep j _ hj (by simp), rfl⟩)
  · by_cases hbd : b = d
    · subst hbd
      rw [gH] at hb
      cases hb
      refine ⟨hm, c, e, ?_, ?_, ?_, fun j hj => ?_⟩
      · show S.w.heap[(upd S.bb b (k, o) b).1]? = _
        rw [upd_same]; exact hc
      · show (if (upd S.bb b (k, o) b).1 = k then _ else _) = _
        rw [upd_same, if_pos rfl]
      · show (upd S.bb b (k, o) b).2 + _ ≤ _
        rw [upd_same]; exact ho
      · show c[(upd S.bb b (k, o) b).2 + j]? = some (phput S.ph b 0 us (C b j))
        have h2 : C b 0 ≤ C b j ∧ C b j < C b 0 + m.length := by unfold C; omega
        rw [upd_same, (gin _ h2).2, hcs j hj, show C b j - C b 0 = j by unfold C; omega]
        rw [List.getD_eq_getElem?_getD, List.getElem?_eq_getElem (by omega)]
        rfl
    · have h1 : H b ≠ H d := fun e => hbd (H_inj e)
      have e1 : (S.g (H b)).2 = .one (.hd n) := by rwa [(gout _ h1 (heads_apart (by omega))).1] at hb
      obtain ⟨g1, c1, e2, g2, g3, g4, g5⟩ := K.box b n e1
      have hbb : (boxS S d k o m us).bb b = S.bb b := upd_ne _ _ hbd
      rw [hbb]
      refine ⟨g1, c1, e2, g2, keep _ _ g3 (by simp), g4, fun j hj => ?_⟩
      show _ = some (phput S.ph d 0 us (C b j))
      rw [(gout _ (C_ne_H (by omega)) (cells_apart (by omega) (by omega) hbd)).2]
      exact g5 j hj
  · by_cases hbd : b = d
    · subst hbd
      refine ⟨fun hlt => ?_, fun h => absurd h (by omega)⟩
      have : (upd S.bb b (k, o) b).1 < X.w0.heap.size := hlt
      rw [upd_same] at this
      exact absurd this (by simpa using hk0)
    · have h1 : H b ≠ H d := fun e => hbd (H_inj e)
      have e1 : (S.g (H b)).2 = .one (.hd n) := by rwa [(gout _ h1 (heads_apart (by omega))).1] at hb
      have hbb : (boxS S d k o m us).bb b = S.bb b := upd_ne _ _ hbd
      rw [hbb]
      exact K.rgn b n e1
  · show a.tmps.getD t undef = phput S.ph d 0 us t
    have := slots_apart (b := d) (off := 0) (n := us.length) (Nat.lt_of_lt_of_le ht K.nt)
    unfold phput
    rw [if_neg this]
    exact K.sl t ht
  · obtain ⟨f1, f2⟩ := F.no j hj h0
    exact ⟨keep j _ f1 (by simp), f2⟩
  · obtain ⟨f1, f2⟩ := F.fz j hj h0
    exact ⟨keep j _ f1 (by simp), f2⟩
  · obtain ⟨f1, rest⟩ := F.bx j b hj h0
    exact ⟨keep j _ f1 (by simp), rest⟩

/-! ### Loads -/
theorem zcells_len : ∀ t : Ty, (zcells t).length = t.sz
  | .i _ => rfl
  | .b => rfl
  | .s => rfl
  | .sl _ _ => rfl
  | .ow _ _ => rfl
  | .pr x y => by show (zcells x ++ zcells y).length = x.sz + y.sz; rw [List.length_append, zcells_len x, zcells_len y]

theorem tok_agg {P : Program} {T : TypeId} {t : TI} (h : TOk P T t) : ∃ d, P.underlying T = some d ∧ isAggD (P.underlying T) = t.ag := by
  have := h.desc
  unfold descB at this
  split at this <;> first | (cases this; done) | (rename_i hu; exact ⟨_, hu, by rw [hu]; rfl⟩)

theorem tok_one {P : Program} {T : TypeId} {t : TI} (h : TOk P T t) (ha : t.ag = false) : t.ty.sz = 1 := by
  obtain ⟨i, _, _, _, _, h4⟩ := h.info
  have := congrArg List.length (h4 ha)
  rw [zcells_len] at this
  exact this

theorem tok_size {P : Program} {T : TypeId} {t : TI} (h : TOk P T t) : (P.info? T).map (fun i => i.size) = some t.ty.sz := by
  obtain ⟨i, h1, h2, _⟩ := h.info
  rw [h1, Option.map_some, h2]

theorem run_load_at {P : Program} {w : World} {T : TypeId} {t : TI} {x : Operand} {k o' : Nat} {cs : List Value} (ht : TOk P T t) (ho : o.op = .load T x) (he : a.eval x = .pointer (some ⟨k, o', none⟩)) (hc : CellsAt w k o' cs) (hl : cs.length = t.ty.sz) :
    ∃ u, (if t.ag then u = .agg cs.toArray else cs = [u]) ∧ (execOp a.eval o).run P w = .ok (.value u) w := by
  obtain ⟨d, hd, hagg⟩ := tok_agg ht
  have hc' : ∀ j v, cs[j]? = some v → w.cell? (Addr.add ⟨k, o', none⟩ j) = some v := fun j v hj => by rw [add_none]; exact hc j v hj
  cases ha : t.ag with
  | true =>
    rw [ha] at hagg
    refine ⟨_, rfl, ?_⟩
    unfold execOp
    have hlc := run_loadCells_list (P := P) w ⟨k, o', none⟩ cs hc'
    simp only [ho, he, Instr.loadAt, Instr.sureAddr, Sem.run_bind, Sem.run_pure, Result.andThen_ok, loadVar, isAgg_of hd hagg, if_true, info_size (tok_size ht), ← hl, hlc]
  | false =>
    rw [ha] at hagg
    have h1 := tok_one ht ha
    rw [h1] at hl
    obtain ⟨u, rfl⟩ : ∃ u, cs = [u] := List.length_eq_one_iff.1 hl
    refine ⟨u, rfl, ?_⟩
    have h0 := hc 0 u rfl
    rw [Nat.add_zero] at h0
    unfold execOp
    simp [ho, he, Instr.loadAt, Instr.sureAddr, loadVar, isAgg_of hd hagg, h0]

theorem goes_load (hE : EnOk X E) (K : Okay X S a) (hg : S.g = get A) {T : TypeId} {t : TI} {x : Operand} {d k o' : Nat} {l : List Lf} {cs : List Value} {s : Sv} (ht : TOk X.P T t) (ho : o.op = .load T x) (hod : o.dst = some d) (hd : d < X.nt)
    (he : a.eval x = .pointer (some ⟨k, o', none⟩)) (hc : CellsAt S.w k o' cs) (hlen : l.length = t.ty.sz) (hs : ofParts t.ag l = some s) (hown : ownIn l = false) {f : Nat → Lab} (hl : LfsOk X.P S f 0 l cs) :
    Goes X o a S.w (ups A [⟨d, false, s⟩]) := by
  obtain ⟨u, e1, hrun⟩ := run_load_at (P := X.P) ht ho he hc (hl.len.trans hlen)
  have hsv : SvOk X.P S d s u := ofParts_ok hs e1 (hl.relab hown)
  have K2 := K.put0 hd s u d (by rw [ofParts_own hs, hown]) hsv
  refine goes_value (S := putS S (fun _ _ => none) d s u) hrun (by rw [hod]; exact K2) ?_
  show upd S.g d _ = _
  rw [get_ups1, ← hg]

theorem cellsOf_ok (K : Okay X S a) (hg : S.g = get A) (b : Nat) : ∀ (n j : Nat), (cellsOf A b j n).length = n ∧ ownIn (cellsOf A b j n) = false ∧ ∀ f i, LfsOk X.P S f i (cellsOf A b j n) ((List.range n).map fun i => S.ph (C b (j + i)))
  | 0, j => ⟨rfl, rfl, fun f i => trivial⟩
  | n + 1, j => by
    obtain ⟨h1, h2, h3⟩ := cellsOf_ok K hg b n (j + 1)
    have hat := K.at_ (C b j)
    rw [hg] at hat
    have hr : (List.range (n + 1)).map (fun i => S.ph (C b (j + i))) = S.ph (C b j) :: (List.range n).map (fun i => S.ph (C b (j + 1 + i))) := by
      rw [List.range_succ_eq_map, List.map_cons, List.map_map, Nat.add_zero]
      congr 1
      apply List.map_congr_left
      intro i _
      show S.ph (C b (j + (i + 1))) = _
      rw [show j + (i + 1) = j + 1 + i by omega]
    refine ⟨by simp [cellsOf, h1], ?_, fun f i => ?_⟩
    · unfold cellsOf
      split
      · exact h2
      · rename_i v x hne hp
        cases x <;> first | exact h2 | skip
        rename_i e r' xs
        exact (hne _ _ _ rfl).elim
      · exact h2
    · rw [hr]
      unfold cellsOf
      refine ⟨?_, h3 f (i + 1)⟩
      split
      · rename_i v e r' xs hp
        exact ⟨by rw [hg, hp]; exact Nat.le_refl _, fun _ => rfl⟩
      · rename_i v x hne hp
        rw [hp] at hat
        refine LfOk.relab (lab := .pl (C b j) []) ?_ hat
        cases x <;> first | rfl | skip
        exact (hne _ _ _ rfl).elim
      · trivial

theorem LfsOk.ofRep {P : Program} {l : List Lf} {us : List Value} (h : All2 (LfRep P (fun k => S.O k = .fz) S.w) l us) : ∀ (f : Nat → Lab) (j : Nat), LfsOk P S f j l us := by
  induction h with
  | nil => intro f j; trivial
  | @cons x u xs us hx _ ih =>
    intro f j
    refine ⟨?_, ih f (j + 1)⟩
    cases x <;> first | exact hx | exact hx.elim

theorem rep_noOwn {P : Program} {G : Nat → Prop} {w : World} {l : List Lf} {us : List Value} (h : All2 (LfRep P G w) l us) : ownIn l = false := by
  induction h with
  | nil => rfl
  | @cons x u xs us hx _ ih => cases x <;> first | exact ih | exact hx.elim

theorem drop_take_cells {w : World} {k o' : Nat} {cs : List Value} (h : CellsAt w k o' cs) (off n : Nat) : CellsAt w k (o' + off) ((cs.drop off).take n) := by
  intro j u hu
  rw [List.getElem?_take] at hu
  split at hu
  · rw [List.getElem?_drop] at hu
    rw [Nat.add_assoc]
    exact h _ _ hu
  · cases hu

/-- What stands behind a pointer to an element. -/
theorem ep_cells (K : Okay X S a) {p v : Nat} {i : Int} {off : Nat} {lab : Lab} {u : Value} {e : TypeId} {r' : Ty} {xs : List r'.den} (hp : S.g p = (v, .one (.own e r' xs))) (h : LfOk X.P S lab (.ep p v i off) u) :
    ∃ k cs cur cap, u = .pointer (some ⟨k, i.toNat * r'.sz + off, none⟩) ∧ r'.rep X.P (fun k => S.O k = .fz) S.w (xs.getD i.toNat r'.dflt) cs ∧ CellsAt S.w k (i.toNat * r'.sz) cs ∧ i.toNat < xs.length ∧
      S.ph p = .slice (some ⟨k, 0, none⟩) xs.length cap ∧ S.w.heap[k]? = some (.cells cur e (0, 0)) ∧ S.O k = .pl p [] := by
  obtain ⟨_, h2⟩ := h
  obtain ⟨h0, h1, k, cap, h3, h4⟩ := h2 e r' xs hp
  have hown : OwnOk X.P S.O S.w (.pl p []) e r' xs (S.ph p) := by have := K.at_ p; rw [hp] at this; exact this
  obtain ⟨_, cs, hrow, hrows, hk⟩ := hown
  rcases own_nil_or hrow with ⟨e1, _⟩ | ⟨k', cap', cur, e1, hcur, _, _, _, ht⟩
  · rw [h3] at e1; cases e1
  · rw [h3] at e1
    cases e1
    obtain ⟨c, hc1, hc2⟩ := rows_at (S := S) (Ty.rep_len r') hrows (i := i.toNat) (x := xs.getD i.toNat r'.dflt) (by rw [List.getD_eq_getElem?_getD, List.getElem?_eq_getElem h1]; rfl) (cells_of_row hcur ht)
    rw [Nat.zero_add] at hc2
    exact ⟨k, c, cur, cap, h4, hc1, hc2, h1, h3, hcur, hk k (by rw [h3]; rfl)⟩

theorem st_load (hE : EnOk X E) (K : Okay X S a) (hg : S.g = get A) {T : TypeId} {x : Operand} {d : Nat} (ho : o.op = .load T x) (hod : o.dst = some d) (hd : d < X.nt) (h : step E o A Kc = some r) : After X o a S.w A Kc r := by
  unfold step at h
  rw [ho, hod] at h
  simp only at h
  split at h
  · rename_i ti b v off hti hs
    obtain ⟨pl, hsv⟩ := opT_ex hE K hg hs
    have hlf : LfOk X.P S (.pl pl []) (.bp b v off) (a.eval x) := hsv
    split at h
    · rename_i n m hp
      cases hq : (Nat.beq n v && Nat.ble (off + ti.ty.sz) m) with
      | false => rw [hq] at h; simp at h
      | true =>
        rw [hq, cond_true] at h
        simp only [Bool.and_eq_true] at hq
        have hnv : n = v := by simpa using hq.1
        have hle : off + ti.ty.sz ≤ m := Nat.le_of_ble_eq_true hq.2
        subst hnv
        split at h
        · rename_i s hof
          obtain ⟨_, c, e, h1, h2, h3, h4⟩ := K.box b m (by rw [hg, hp])
          obtain ⟨c1, c2, c3⟩ := cellsOf_ok K hg b ti.ty.sz off
          refine ⟨_, h, goes_load hE K hg (hE.ti _ _ hti) ho hod hd (hlf.2 (by rw [hg, hp])) (cs := (List.range ti.ty.sz).map fun i => S.ph (C b (off + i))) (fun j u hu => ?_) c1 hof c2 (c3 (fun _ => .no) 0)⟩
          have hj : j < ti.ty.sz := by
            rcases Nat.lt_or_ge j ti.ty.sz with h | h
            · exact h
            · rw [List.getElem?_eq_none (by simpa using h)] at hu; cases hu
          simp [hj] at hu
          subst hu
          simp [World.cell?, h1, Nat.add_assoc, h4 (off + j) (by omega)]
        · cases h
    · cases h
  · rename_i ti p v i off hti hs
    obtain ⟨pl, hsv⟩ := opT_ex hE K hg hs
    have hlf : LfOk X.P S (.pl pl []) (.ep p v i off) (a.eval x) := hsv
    split at h
    · rename_i n e r' xs hp
      cases hq : (Nat.beq n v && Nat.ble (off + ti.ty.sz) r'.sz) with
      | false => rw [hq] at h; simp at h
      | true =>
        rw [hq, cond_true] at h
        simp only [Bool.and_eq_true] at hq
        have hnv : n = v := by simpa using hq.1
        have hle : off + ti.ty.sz ≤ r'.sz := Nat.le_of_ble_eq_true hq.2
        subst hnv
        split at h
        · rename_i s hof
          obtain ⟨k, cs, cur, cap, e1, e2, e3, _⟩ := ep_cells K (by rw [hg, hp]) hlf
          have hrep := ((lvs_rep _ _ _ e2).drop off).take ti.ty.sz
          exact ⟨_, h, goes_load hE K hg (hE.ti _ _ hti) ho hod hd e1 (drop_take_cells e3 off ti.ty.sz) (by rw [List.length_take, List.length_drop, lvs_len]; omega) hof (rep_noOwn hrep) (LfsOk.ofRep hrep (fun _ => .no) 0)⟩
        · cases h
    · cases h
  · rename_i ti r' y off hti hs
    obtain ⟨pl, hsv⟩ := opT_ex hE K hg hs
    obtain ⟨k, o', cs, e1, e2, e3, e4⟩ : LfOk X.P S (.pl pl []) (.fp r' y off) (a.eval x) := hsv
    cases hq : Nat.ble (off + ti.ty.sz) r'.sz with
    | false => rw [hq] at h; simp at h
    | true =>
      rw [hq, cond_true] at h
      have hle : off + ti.ty.sz ≤ r'.sz := Nat.le_of_ble_eq_true hq
      split at h
      · rename_i s hof
        have hrep := ((lvs_rep _ _ _ e3).drop off).take ti.ty.sz
        exact ⟨_, h, goes_load hE K hg (hE.ti _ _ hti) ho hod hd e1 (drop_take_cells e4 off ti.ty.sz) (by rw [List.length_take, List.length_drop, lvs_len]; omega) hof (rep_noOwn hrep) (LfsOk.ofRep hrep (fun _ => .no) 0)⟩
      · cases h
  · cases h
end
end Go.Proofs.Ytehkignjdbkeiaa.Vf
