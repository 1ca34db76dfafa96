/- A function's end: its results. -/
import Derived.Test.YtehkignjdbkeiaaWd
set_option linter.unusedVariables false
set_option linter.unusedSimpArgs false
namespace Go.Proofs.Ytehkignjdbkeiaa.Vf
open Go
attribute [local irreducible] C H

/-- Where no slice is shared, a value's leaves are those that it was made of. -/
theorem mkT_same : ∀ (t : Ty) (l l' : List Lf) (x : t.den), noSl t = true → mkT t l = some (x, l') → l = leaves t x ++ l' := by
  intro t
  induction t with
  | sl e r _ => intro l l' x h; simp [noSl] at h
  | pr p q ihp ihq =>
    intro l l' x h hm
    simp only [noSl, Bool.and_eq_true] at h
    simp only [mkT] at hm
    split at hm
    · rename_i y l1 h1
      split at hm
      · rename_i z l2 h2
        simp only [Option.some.injEq, Prod.mk.injEq] at hm
        obtain ⟨rfl, rfl⟩ := hm
        rw [ihp _ _ _ h.1 h1, ihq _ _ _ h.2 h2, ← List.append_assoc]
        rfl
      · cases hm
    · cases hm
  | ow e r _ =>
    intro l l' x _ hm
    cases l with
    | nil => simp [mkT] at hm
    | cons z l =>
      cases z <;> first | (simp [mkT] at hm; done) | skip
      rename_i e' r' xs
      simp only [mkT] at hm
      cases hb : Nat.beq e e' with
      | false => rw [hb] at hm; simp at hm
      | true =>
        rw [hb, cond_true] at hm
        have he : e = e' := Nat.eq_of_beq_eq_true hb
        subst he
        split at hm
        · rename_i ys hys
          obtain ⟨e1, e2⟩ := castL_eq hys
          subst e1 e2
          simp only [Option.some.injEq, Prod.mk.injEq] at hm
          obtain ⟨rfl, rfl⟩ := hm
          rfl
        · cases hm
  | i k =>
    intro l l' x _ hm
    cases l with
    | nil => simp [mkT] at hm
    | cons z l =>
      cases z <;> first | (simp [mkT] at hm; done) | skip
      rename_i v
      cases v <;> first | (simp [mkT] at hm; done) | skip
      rename_i k' n
      simp only [mkT] at hm
      by_cases hk : k = k'
      · subst hk
        simp at hm
        obtain ⟨rfl, rfl⟩ := hm
        rfl
      · simp [hk] at hm
  | b =>
    intro l l' x _ hm
    cases l with
    | nil => simp [mkT] at hm
    | cons z l =>
      cases z <;> first | (simp [mkT] at hm; done) | skip
      rename_i v
      cases v <;> first | (simp [mkT] at hm; done) | skip
      simp [mkT] at hm
      obtain ⟨rfl, rfl⟩ := hm
      rfl
  | s =>
    intro l l' x _ hm
    cases l with
    | nil => simp [mkT] at hm
    | cons z l =>
      cases z <;> first | (simp [mkT] at hm; done) | skip
      rename_i v
      cases v <;> first | (simp [mkT] at hm; done) | skip
      simp [mkT] at hm
      obtain ⟨rfl, rfl⟩ := hm
      rfl

theorem mkW_same {t : Ty} {l : List Lf} {x : t.den} (hn : noSl t = true) (h : mkW t l = some x) : l = leaves t x := by
  unfold mkW at h
  split at h
  · rename_i y hy
    cases h
    rw [mkT_same t l [] _ hn hy, List.append_nil]
  · cases h

section
variable {X : Cx} {S S1 S2 : Sit} {a : Act} {E : En} {A : Ab}

/-- A result that is one value or one struct: what is given back, at the result's own name; or read by all. -/
theorem res_val (hE : EnOk X E) (K : Okay X S a) (hg : S.g = get A) {x : Nat} (hx : Nat.blt x E.nt = true) {k : RK} {t : Ty} {l : List Lf} {us : List Up} (i : Nat) (hk : k ≠ .ptr) (h : resOf E.np A k t (.tmp x) (get A x).2 = some (l, us)) {y : t.den} (hy : mkW t l = some y) :
    ∃ S', Okay X S' a ∧ S'.g = get (ups A us) ∧ S'.w = S.w ∧ S'.bb = S.bb ∧ S'.ph = S.ph ∧ Later S S' ∧ (∀ n q z v, n ≠ i → LfOk X.P S (.tm n q) z v → LfOk X.P S' (.tm n q) z v) ∧
      ∃ vs, (if isAggK k then a.eval (.tmp x) = .agg vs.toArray else vs = [a.eval (.tmp x)]) ∧ LfsOk X.P S' (fun n => .tm i (if isAggK k then [n] else [])) 0 (leaves t y) vs := by
  have hop : opT E 0 A (.tmp x) = some (get A x).2 := by show (bif Nat.blt x E.nt then some (get A x).2 else none) = _; rw [hx]; rfl
  have h' : (bif formOk (isAggK k) (get A x).2 && storable ((parts (get A x).2).map (kept A)) && (noOw t || noSl t) then some (bif noOw t then ((parts (get A x).2).map (kept A)).map calm else (parts (get A x).2).map (kept A), costs A (parts (get A x).2) ++ gone (.tmp x) (get A x).2) else none) = some (l, us) := by
    unfold resOf at h
    cases k <;> first | exact h | exact absurd rfl hk
  cases hq : (formOk (isAggK k) (get A x).2 && storable ((parts (get A x).2).map (kept A)) && (noOw t || noSl t)) with
  | false => rw [hq] at h'; simp at h'
  | true =>
    rw [hq] at h'
    simp only [cond_true, Option.some.injEq, Prod.mk.injEq] at h'
    obtain ⟨hl, rfl⟩ := h'
    simp only [Bool.and_eq_true, Bool.or_eq_true] at hq
    obtain ⟨⟨q1, q2⟩, q3⟩ := hq
    obtain ⟨S1, K1, g1, w1, b1, p1, L1, x1, heads, tms, vs, hsh, hls⟩ := taken hE K hg hop (form_nt q1) i
    have hsh' := form_shape q1 hsh
    have hpth : ∀ n, pth (get A x).2 n = if isAggK k then [n] else [] := by
      intro n
      cases hs : (get A x).2 with
      | tup vs => rw [hs] at q1; simp [formOk, form] at q1
      | one z => rw [hs] at q1; cases hk' : isAggK k <;> simp [formOk, form, hk'] at q1 ⊢; rfl
      | agg z => rw [hs] at q1; cases hk' : isAggK k <;> simp [formOk, form, hk'] at q1 ⊢; rfl
    cases hno : noOw t with
    | true =>
      rw [hno, cond_true] at hl
      subst hl
      obtain ⟨K2, L2⟩ := K1.names (frzH i) (by intro n q; unfold frzH; split <;> simp)
      exact ⟨_, K2, g1, w1, b1, p1, L1.trans L2, fun n q z v hn hz => (tms n q z v hz).later L2 (fun k hk => ⟨atO_keep hk (by unfold frzH; rw [if_neg hn]), rfl⟩), vs, hsh', shared_arg (fun k hk => hk) hy hno (calm_rep q2 hls) _ _⟩
    | false =>
      rw [hno, cond_false] at hl
      subst hl
      rcases q3 with q3 | q3
      · rw [hno] at q3; cases q3
      · refine ⟨S1, K1, g1, w1, b1, p1, L1, fun n q z v _ hz => tms n q z v hz, vs, hsh', ?_⟩
        rw [← mkW_same q3 hy]
        simp only [hpth] at hls
        exact hls

/-- A box that is given back: its block gets a name, its head is gone. -/
theorem Okay.unbox (K : Okay X S a) (hb0 : ∀ k b, X.O0 k = .bx b → b < X.np) {b n : Nat} (hh : (S.g (H b)).2 = .one (.hd n)) (hnp : X.np ≤ b) (j : Nat) :
    Okay X { S with O := fun k => if k = (S.bb b).1 then .tm j [] else S.O k, g := upd S.g (H b) ((S.g (H b)).1, .one .dead) } a ∧
    Later S { S with O := fun k => if k = (S.bb b).1 then .tm j [] else S.O k, g := upd S.g (H b) ((S.g (H b)).1, .one .dead) } := by
  obtain ⟨hn, c, e, e1, e2, e3, e4⟩ := K.box b n hh
  have hnew : X.w0.heap.size ≤ (S.bb b).1 := by
    rcases Nat.lt_or_ge (S.bb b).1 X.w0.heap.size with h | h
    · have := hb0 _ _ ((K.rgn b n hh).1 h).1
      omega
    · exact h
  have keep : ∀ k o, S.O k = o → o ≠ .bx b → (if k = (S.bb b).1 then Lab.tm j [] else S.O k) = o := fun k o' h ho => by
    rw [if_neg (fun e => ho (by rw [← h, e, e2]))]
    exact h
  have L : Later S { S with O := fun k => if k = (S.bb b).1 then .tm j [] else S.O k, g := upd S.g (H b) ((S.g (H b)).1, .one .dead) } := by
    refine ⟨fun p => ?_, fun _ _ => rfl, fun p v e r xs' hp hv => ?_, fun _ _ => rfl, fun k hk => ⟨keep k _ hk (by simp), rfl⟩⟩
    · show _ ≤ (upd S.g (H b) _ p).1
      by_cases h : p = H b
      · subst h; rw [upd_same]; exact Nat.le_refl _
      · rw [upd_ne _ _ h]; exact Nat.le_refl _
    · have hp' : upd S.g (H b) ((S.g (H b)).1, .one .dead) p = (v, .one (.own e r xs')) := hp
      by_cases h : p = H b
      · subst h; rw [upd_same] at hp'; cases hp'
      · rw [upd_ne _ _ h] at hp'; exact ⟨xs', hp', rfl⟩
  have F := K.fr
  refine ⟨⟨K.nt, fun k hk => ?_, fun l => ?_, fun b' n' hb' => ?_, fun b' n' hb' => ?_, K.sl, K.sz, K.df, ⟨F.os, F.tape, F.out, F.size, fun k hk h0 => ?_, fun k hk h0 => ?_, fun k b' hk h0 => ?_⟩⟩, L⟩
  · by_cases h : k = (S.bb b).1
    · exact K.lt k (by rw [h, e2]; simp)
    · have hk' : (if k = (S.bb b).1 then Lab.tm j [] else S.O k) ≠ .no := hk
      rw [if_neg h] at hk'
      exact K.lt k hk'
  · show SvOk X.P _ l (upd S.g (H b) _ l).2 _
    by_cases h : l = H b
    · subst h; rw [upd_same]; trivial
    · rw [upd_ne _ _ h]
      exact (K.at_ l).later L (fun p k hk => ⟨keep k _ hk (by simp), rfl⟩)
  · have hne : b' ≠ b := fun e => by subst e; have : (upd S.g (H b') ((S.g (H b')).1, .one .dead) (H b')).2 = .one (.hd n') := hb'; rw [upd_same] at this; cases this
    have hb2 : (S.g (H b')).2 = .one (.hd n') := by
      have : (upd S.g (H b) ((S.g (H b)).1, .one .dead) (H b')).2 = .one (.hd n') := hb'
      rwa [upd_ne _ _ (fun e => hne (H_inj e))] at this
    obtain ⟨g1, c1, g2, g3, g4, g5, g6⟩ := K.box b' n' hb2
    exact ⟨g1, c1, g2, g3, keep _ _ g4 (by simp [hne]), g5, g6⟩
  · have hne : b' ≠ b := fun e => by subst e; have : (upd S.g (H b') ((S.g (H b')).1, .one .dead) (H b')).2 = .one (.hd n') := hb'; rw [upd_same] at this; cases this
    have hb2 : (S.g (H b')).2 = .one (.hd n') := by
      have : (upd S.g (H b) ((S.g (H b)).1, .one .dead) (H b')).2 = .one (.hd n') := hb'
      rwa [upd_ne _ _ (fun e => hne (H_inj e))] at this
    exact K.rgn b' n' hb2
  · obtain ⟨f1, f2⟩ := F.no k hk h0
    exact ⟨keep k _ f1 (by simp), f2⟩
  · obtain ⟨f1, f2⟩ := F.fz k hk h0
    exact ⟨keep k _ f1 (by simp), f2⟩
  · obtain ⟨f1, rest⟩ := F.bx k b' hk h0
    refine ⟨?_, rest⟩
    show (if k = (S.bb b).1 then Lab.tm j [] else S.O k) = _
    rw [if_neg (by omega)]
    exact f1

/-- A pointer to a new box is given back. -/
theorem res_ptr (hE : EnOk X E) (K : Okay X S a) (hg : S.g = get A) (hb0 : ∀ k b, X.O0 k = .bx b → b < X.np) {x : Nat} (hx : Nat.blt x E.nt = true) {t : Ty} {l : List Lf} {us : List Up} (i : Nat) (h : resOf E.np A .ptr t (.tmp x) (get A x).2 = some (l, us)) {y : t.den} (hy : mkW t l = some y) :
    ∃ S', Okay X S' a ∧ S'.g = get (ups A us) ∧ S'.w = S.w ∧ S'.ph = S.ph ∧ Later S S' ∧ (∀ n q z v, LfOk X.P S (.tm n q) z v → LfOk X.P S' (.tm n q) z v) ∧ ResOk X.P S' X.w0.heap.size i .ptr (leaves t y) (a.eval (.tmp x)) := by
  have hop : opT E 0 A (.tmp x) = some (get A x).2 := by show (bif Nat.blt x E.nt then some (get A x).2 else none) = _; rw [hx]; rfl
  unfold resOf at h
  simp only at h
  split at h
  · rename_i b v hs
    rw [hs] at hop
    split at h
    · rename_i n m hp
      cases hq : (Nat.beq n v && Nat.ble E.np b && noOw t && Nat.beq m t.sz && Nat.blt m 999 && storable ((cellsOf A b 0 m).map (kept A))) with
      | false => rw [hq] at h; simp at h
      | true =>
        rw [hq] at h
        simp only [cond_true, Option.some.injEq, Prod.mk.injEq] at h
        obtain ⟨rfl, rfl⟩ := h
        simp only [Bool.and_eq_true] at hq
        obtain ⟨⟨⟨⟨⟨q1, q2⟩, q3⟩, q4⟩, q5⟩, q6⟩ := hq
        have hnv : n = v := by simpa using q1
        have hm : m = t.sz := Nat.eq_of_beq_eq_true q4
        have hlt : m < 999 := Nat.le_of_ble_eq_true q5
        have hnp : X.np ≤ b := hE.np ▸ (Nat.le_of_ble_eq_true q2)
        subst hnv
        obtain ⟨pl, hl⟩ := opT_ex hE K hg hop
        have hlf : LfOk X.P S (.pl pl []) (.bp b n 0) (a.eval (.tmp x)) := hl
        have hu := hlf.2 (by rw [hg, hp])
        obtain ⟨S1, K1, g1, E1, F1, P1⟩ := costs_ok (X := X) (a := a) (A := A) (cellsOf A b 0 m) K hg (fun p => .inl rfl)
        obtain ⟨c1, c2, c3⟩ := cellsOf_ok K hg b m 0
        have hkept := kept_ok K hg K1 E1 P1 (fun _ => .fz) (fun n k hk => (E1.later.fz k hk).1) (cellsOf A b 0 m) (fun _ h => h) 0 _ (c3 (fun _ => .fz) 0)
        have hrep := rep_of_noOwn q6 (kept_noOwn _ c2) hkept
        have hh : (S.g (H b)).2 = .one (.hd m) := by rw [hg, hp]
        have hh1 : (S1.g (H b)).2 = .one (.hd m) := by
          rcases F1 (H b) with h1 | ⟨n', e, r', xs, h1, h2⟩
          · rw [h1, hp]
          · rw [hp] at h1; cases h1
        obtain ⟨_, c, e, e1, e2, e3, e4⟩ := K1.box b m hh1
        have hnew : X.w0.heap.size ≤ (S1.bb b).1 := by
          rcases Nat.lt_or_ge (S1.bb b).1 X.w0.heap.size with h | h
          · have := hb0 _ _ ((K1.rgn b m hh1).1 h).1
            omega
          · exact h
        obtain ⟨K2, L2⟩ := K1.unbox hb0 hh1 hnp (i + 500)
        have hll : (leaves t y).length = m := by rw [leaves_len, hm]
        refine ⟨_, K2, ?_, E1.w, E1.ph, E1.later.trans L2, fun n q z v hz => (hz.later E1.later (fun k hk => ⟨E1.tm n q k hk, by rw [E1.w]⟩)).later L2 (fun k hk => ⟨?_, rfl⟩), (S1.bb b).1, (S1.bb b).2, c, e, (List.range m).map (fun j => S.ph (C b (0 + j))), ?_, e1, hnew, if_pos rfl, by rw [hll]; exact e3, by rw [hll]; exact hlt, fun j hj => ?_, ?_⟩
        · show upd S1.g (H b) _ = _
          rw [ups_append, get_keep, ← g1]
        · show (if k = (S1.bb b).1 then Lab.tm (i + 500) [] else S1.O k) = _
          rw [if_neg (fun e => by rw [e, e2] at hk; cases hk)]
          exact hk
        · rw [E1.bb]; exact hu
        · rw [hll] at hj
          rw [e4 j hj, E1.ph]
          simp [hj]
        · exact shared_arg (G := fun k => S1.O k = .fz) (fun k hk => (L2.fz k hk).1) hy q3 hrep _ _
    · cases h
  · cases h
end
end Go.Proofs.Ytehkignjdbkeiaa.Vf
