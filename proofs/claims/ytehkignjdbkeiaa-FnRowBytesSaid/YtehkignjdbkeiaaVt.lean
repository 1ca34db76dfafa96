/- What a called function promises; the world behind a call. -/
import Derived.Test.YtehkignjdbkeiaaVq
set_option linter.unusedVariables false
set_option linter.unusedSimpArgs false
namespace Go.Proofs.Ytehkignjdbkeiaa.Vf
open Go
attribute [local irreducible] C H

/-- Blocks and a world, and no places. -/
def bare (O : Nat → Lab) (w : World) : Sit := ⟨O, fun _ => (0, 0), fun _ => (0, .one .dead), fun _ => undef, w⟩

def ArgOk (P : Program) (S : Sit) (rg : Nat → Nat × Nat) (i : Nat) : Par → List Lf → Value → Prop
  | .val ag _, l, u => ∃ us, (if ag then u = .agg us.toArray else us = [u]) ∧ LfsOk P S (fun j => .pl i (if ag then [j] else [])) 0 l us
  | .ptr t _, l, u => ∃ k o c e us, u = .pointer (some ⟨k, o, none⟩) ∧ S.w.heap[k]? = some (.cells c e (0, 0)) ∧ S.O k = .bx i ∧ rg i = (o, t.sz) ∧ o + t.sz ≤ c.size ∧ t.sz < 999 ∧ l.length = t.sz ∧ (∀ j, j < t.sz → c[o + j]? = us[j]?) ∧
      LfsOk P S (fun j => .pl (C i j) []) 0 l us

def ArgsOk (P : Program) (S : Sit) (rg : Nat → Nat × Nat) : Nat → List Par → List (List Lf) → List Value → Prop
  | _, [], [], [] => True
  | i, p :: ps, l :: ls, u :: us => ArgOk P S rg i p l u ∧ ArgsOk P S rg (i + 1) ps ls us
  | _, _, _, _ => False

def ResOk (P : Program) (S : Sit) (n0 : Nat) (i : Nat) : RK → List Lf → Value → Prop
  | .one, l, u => LfsOk P S (fun _ => .tm i []) 0 l [u]
  | .agg, l, u => ∃ us, u = .agg us.toArray ∧ LfsOk P S (fun j => .tm i [j]) 0 l us
  | .ptr, l, u => ∃ k o c e us, u = .pointer (some ⟨k, o, none⟩) ∧ S.w.heap[k]? = some (.cells c e (0, 0)) ∧ n0 ≤ k ∧ S.O k = .tm (i + 500) [] ∧ o + l.length ≤ c.size ∧ l.length < 999 ∧ (∀ j, j < l.length → c[o + j]? = us[j]?) ∧
      LfsOk P S (fun j => .tm i [j]) 0 l us

def ResAll (P : Program) (S : Sit) (n0 : Nat) : Nat → List (RK × Ty) → List (List Lf) → List Value → Prop
  | _, [], _, us => us = []
  | i, k :: ks, l :: ls, u :: us => ResOk P S n0 i k.1 l u ∧ ResAll P S n0 (i + 1) ks ls us
  | _, _, _, _ => False

def Results (P : Program) (S : Sit) (n0 : Nat) (rs : List (RK × Ty)) (ls : List (List Lf)) (v : Value) : Prop :=
  match rs with
  | [r] => ∃ l ls', ls = l :: ls' ∧ ResOk P S n0 0 r.1 l v
  | rs => ∃ us, v = .tuple us.toArray ∧ ResAll P S n0 0 rs ls us

def BackOk (P : Program) (S : Sit) (i : Nat) (t' : Ty) (l : List Lf) (u : Value) : Prop :=
  ∃ k o c e us, u = .pointer (some ⟨k, o, none⟩) ∧ S.w.heap[k]? = some (.cells c e (0, 0)) ∧ l.length = t'.sz ∧ (∀ j, j < t'.sz → c[o + j]? = us[j]?) ∧ LfsOk P S (fun j => .pl (C i j) []) 0 l us

def Backs (P : Program) (S : Sit) : Nat → List Par → List Value → List (List Lf) → Prop
  | _, [], _, _ => True
  | i, .val _ _ :: ps, _ :: us, ls => Backs P S (i + 1) ps us ls
  | i, .ptr _ t' :: ps, u :: us, l :: ls => BackOk P S i t' l u ∧ Backs P S (i + 1) ps us ls
  | _, _, _, _ => False

def Sound (P : Program) (f : FuncId) (en : Ent) : Prop :=
  ∀ x r, en.run x = some r → ∀ (w : World) (O : Nat → Lab) (rg : Nat → Nat × Nat) (us : List Value), (∀ k, O k ≠ .no → k < w.heap.size) → (∀ k b, O k = .bx b → b < en.ps.length ∧ (∃ c e f, w.heap[k]? = some (.cells c e f)) ∧ ∀ k', O k' = .bx b → k' = k) → ArgsOk P (bare O w) rg 0 en.ps (leavesD _ x) us →
    Calls P f us.toArray w (fun e w' => ∃ v O', e = .returned v ∧ Fr O w rg O' w' ∧ (∀ k, O' k ≠ .no → k < w'.heap.size) ∧ Results P (bare O' w') w.heap.size en.rs (leavesD _ r) v ∧ Backs P (bare O' w') 0 en.ps us ((leavesD _ r).drop en.rs.length))

structure CallOk (P : Program) (f : FuncId) (en : Ent) : Prop where
  fn : ∃ fn, P.funcs[f]? = some fn ∧ (fn.name == "runtime.NumGoroutine") = false ∧ fn.body.isNone = false
  sound : Sound P f en

section
variable {X : Cx} {S S' : Sit} {a : Act} {E : En} {A : Ab} {o : Oper} {R : Type} {Kc : List Up → Option R} {r : R}

/-- A leaf that tells of no place. -/
def solid : Lf → Bool
  | .sc _ | .fz _ _ _ | .own _ _ _ => true
  | _ => false

theorem LfOk.bare {P : Program} {x : Lf} {u : Value} {lab lab' : Lab} (hx : solid x = true) {S1 S2 : Sit} (hw : S2.w = S1.w) (hf : ∀ k, S1.O k = .fz → S2.O k = .fz) (hl : ∀ k, S1.O k = lab → S2.O k = lab') (h : LfOk P S1 lab x u) : LfOk P S2 lab' x u := by
  cases x with
  | sc v => exact h
  | fz e r xs => exact Ty.rep_mono (t := .sl e r) hf (fun k _ => by rw [hw]) _ _ h
  | own e r xs => exact OwnOk.later (O' := S2.O) (w' := S2.w) h (fun k hk => ⟨hf k hk, by rw [hw]⟩) (fun k _ hk => ⟨hl k hk, by rw [hw]⟩)
  | _ => simp [solid] at hx

theorem leaves_solid : ∀ (t : Ty) (x : t.den), ∀ y ∈ leaves t x, solid y = true
  | .i _, _ => by simp [leaves, solid]
  | .b, _ => by simp [leaves, solid]
  | .s, _ => by simp [leaves, solid]
  | .sl _ _, _ => by simp [leaves, solid]
  | .ow _ _, _ => by simp [leaves, solid]
  | .pr x y, p => by
    intro z hz
    rcases List.mem_append.1 (show z ∈ leaves x p.1 ++ leaves y p.2 from hz) with h | h
    · exact leaves_solid x p.1 z h
    · exact leaves_solid y p.2 z h

theorem leaves_len : ∀ (t : Ty) (x : t.den), (leaves t x).length = t.sz
  | .i _, _ => rfl
  | .b, _ => rfl
  | .s, _ => rfl
  | .sl _ _, _ => rfl
  | .ow _ _, _ => rfl
  | .pr x y, p => by
    show (leaves x p.1 ++ leaves y p.2).length = x.sz + y.sz
    rw [List.length_append, leaves_len x p.1, leaves_len y p.2]

theorem LfsOk.impS {P : Program} {S1 S2 : Sit} {f f' : Nat → Lab} : ∀ {l : List Lf} {j : Nat} {us : List Value}, (∀ y ∈ l, solid y = true) → (∀ n x u, solid x = true → LfOk P S1 (f n) x u → LfOk P S2 (f' n) x u) → LfsOk P S1 f j l us → LfsOk P S2 f' j l us
  | [], _, [], _, _, _ => trivial
  | [], _, _ :: _, _, _, h => h.elim
  | _ :: _, _, [], _, _, h => h.elim
  | y :: l, j, u :: us, hs, hi, h => ⟨hi j y u (hs y (by simp)) h.1, LfsOk.impS (fun z hz => hs z (List.mem_cons_of_mem _ hz)) hi h.2⟩

/-- The world goes on; what is held by name may be rewritten. -/
theorem Okay.world (K : Okay X S a) {w' : World} {O' : Nat → Lab} (h1 : ∀ k, k < S.w.heap.size → (∀ n q, S.O k ≠ .tm n q) → O' k = S.O k ∧ w'.heap[k]? = S.w.heap[k]?)
    (hos : w'.os = S.w.os) (ht : w'.tape = S.w.tape) (hout : w'.output = S.w.output) (hsz : S.w.heap.size ≤ w'.heap.size) (hlt : ∀ k, O' k ≠ .no → k < w'.heap.size) :
    Okay X (groS S w' O') a ∧ Later S (groS S w' O') := by
  have keep : ∀ k o, S.O k = o → k < S.w.heap.size → (∀ n q, o ≠ .tm n q) → O' k = o ∧ w'.heap[k]? = S.w.heap[k]? := by
    intro k o' h hk ho
    obtain ⟨h2, h3⟩ := h1 k hk (by rw [h]; exact ho)
    exact ⟨h2.trans h, h3⟩
  have keep' : ∀ k o, S.O k = o → o ≠ .no → (∀ n q, o ≠ .tm n q) → O' k = o ∧ w'.heap[k]? = S.w.heap[k]? := fun k o' h hn ho => keep k o' h (K.lt k (by rw [h]; exact hn)) ho
  have L : Later S (groS S w' O') := ⟨fun _ => Nat.le_refl _, fun _ _ => rfl, fun p v e r xs' h _ => ⟨xs', h, rfl⟩, fun _ _ => rfl, fun k h => keep' k _ h (by simp) (by simp)⟩
  have F := K.fr
  refine ⟨⟨K.nt, hlt, fun l => (K.at_ l).later L (fun p k h => keep' k _ h (by simp) (by simp)), fun b n h => ?_, K.rgn, K.sl, K.sz, K.df, ⟨hos.trans F.os, ht.trans F.tape, hout.trans F.out, Nat.le_trans F.size hsz, fun k hk h0 => ?_, fun k hk h0 => ?_, fun k b hk h0 => ?_⟩⟩, L⟩
  · obtain ⟨hn, c, e, e1, e2, e3, e4⟩ := K.box b n h
    obtain ⟨h5, h6⟩ := keep' _ _ e2 (by simp) (by simp)
    exact ⟨hn, c, e, h6.trans e1, h5, e3, e4⟩
  · obtain ⟨f1, f2⟩ := F.no k hk h0
    obtain ⟨h5, h6⟩ := keep k _ f1 (Nat.lt_of_lt_of_le hk F.size) (by simp)
    exact ⟨h5, h6.trans f2⟩
  · obtain ⟨f1, f2⟩ := F.fz k hk h0
    obtain ⟨h5, h6⟩ := keep k _ f1 (Nat.lt_of_lt_of_le hk F.size) (by simp)
    exact ⟨h5, h6.trans f2⟩
  · obtain ⟨f1, c, c', e, f, f2, f3, f4, f5⟩ := F.bx k b hk h0
    obtain ⟨h5, h6⟩ := keep k _ f1 (Nat.lt_of_lt_of_le hk F.size) (by simp)
    exact ⟨h5, c, c', e, f, f2, h6.trans f3, f4, f5⟩

def cellW (S : Sit) (b : Nat) (m : List Lf) (us : List Value) (w : World) (O : Nat → Lab) : Sit := { S with O := O, g := gput S.g b 0 m, ph := phput S.ph b 0 us, w := w }

/-- The same, and a box's cells (all of them) are what they are now. -/
theorem Okay.worldBox (K : Okay X S a) {w' : World} {O' : Nat → Lab} {b : Nat} {m : List Lf} {us : List Value} {c c' : Array Value} {e : TypeId} (hh : (S.g (H b)).2 = .one (.hd m.length))
    (hc : S.w.heap[(S.bb b).1]? = some (.cells c e (0, 0))) (hc' : w'.heap[(S.bb b).1]? = some (.cells c' e (0, 0))) (hcs : c'.size = c.size) (hout' : ∀ i, (i < (S.bb b).2 ∨ (S.bb b).2 + m.length ≤ i) → c'[i]? = c[i]?)
    (hin : ∀ j, j < m.length → c'[(S.bb b).2 + j]? = us[j]?) (hul : us.length = m.length) (hsol : ∀ y ∈ m, solid y = true)
    (hl : ∀ f, LfsOk X.P (bare O' w') f 0 m us)
    (h1 : ∀ k, k < S.w.heap.size → (∀ n q, S.O k ≠ .tm n q) → O' k = S.O k ∧ (k ≠ (S.bb b).1 → w'.heap[k]? = S.w.heap[k]?))
    (hos : w'.os = S.w.os) (ht : w'.tape = S.w.tape) (hout : w'.output = S.w.output) (hsz : S.w.heap.size ≤ w'.heap.size) (hlt : ∀ k, O' k ≠ .no → k < w'.heap.size) :
    Okay X (cellW S b m us w' O') a ∧ Later S (cellW S b m us w' O') := by
  obtain ⟨hn, c0, e0, b1, b2, b3, b4⟩ := K.box b m.length hh
  rw [hc] at b1
  cases b1
  have keep : ∀ k o, S.O k = o → k < S.w.heap.size → (∀ n q, o ≠ .tm n q) → O' k = o ∧ (o ≠ .bx b → w'.heap[k]? = S.w.heap[k]?) := by
    intro k o' h hk ho
    obtain ⟨h2, h3⟩ := h1 k hk (by rw [h]; exact ho)
    exact ⟨h2.trans h, fun hne => h3 (fun e1 => hne (by rw [← h, e1, b2]))⟩
  have keep' : ∀ k o, S.O k = o → o ≠ .no → (∀ n q, o ≠ .tm n q) → O' k = o ∧ (o ≠ .bx b → w'.heap[k]? = S.w.heap[k]?) := fun k o' h hn' ho => keep k o' h (K.lt k (by rw [h]; exact hn')) ho
  have gout : ∀ p, ¬ (C b 0 ≤ p ∧ p < C b 0 + m.length) → gput S.g b 0 m p = S.g p ∧ phput S.ph b 0 us p = S.ph p := fun p hp => by
    unfold gput phput
    rw [if_neg hp, if_neg (by rw [hul]; exact hp)]
    exact ⟨rfl, rfl⟩
  have L : Later S (cellW S b m us w' O') := by
    refine ⟨fun p => ?_, fun p hp => ?_, fun p v e r xs' hp hv => ?_, fun _ _ => rfl, fun k hk => ?_⟩
    · show (S.g p).1 ≤ (gput S.g b 0 m p).1
      unfold gput
      split <;> simp
    · show phput S.ph b 0 us p = S.ph p
      by_cases hi : C b 0 ≤ p ∧ p < C b 0 + m.length
      · have : (gput S.g b 0 m p).1 = (S.g p).1 := hp
        unfold gput at this
        rw [if_pos hi] at this
        simp at this
      · exact (gout p hi).2
    · have hp' : gput S.g b 0 m p = (v, .one (.own e r xs')) := hp
      by_cases hi : C b 0 ≤ p ∧ p < C b 0 + m.length
      · unfold gput at hp'
        rw [if_pos hi] at hp'
        simp only [Prod.mk.injEq] at hp'
        omega
      · rw [(gout p hi).1] at hp'
        exact ⟨xs', hp', rfl⟩
    · obtain ⟨k1, k2⟩ := keep' k _ hk (by simp) (by simp)
      exact ⟨k1, k2 (by simp)⟩
  have F := K.fr
  refine ⟨⟨K.nt, hlt, fun l => ?_, fun b' n' hb' => ?_, fun b' n' hb' => ?_, fun t ht => ?_, K.sz, K.df, ⟨hos.trans F.os, ht.trans F.tape, hout.trans F.out, Nat.le_trans F.size hsz, fun k hk h0 => ?_, fun k hk h0 => ?_, fun k b' hk h0 => ?_⟩⟩, L⟩
  · show SvOk X.P _ l (gput S.g b 0 m l).2 (phput S.ph b 0 us l)
    by_cases hi : C b 0 ≤ l ∧ l < C b 0 + m.length
    · obtain ⟨x, u, e1, e2, e3, e4⟩ := (hl (fun _ => .pl l [])).at (l - C b 0) (by omega)
      have hx : solid x = true := hsol x (by
        rw [← e1, List.getD_eq_getElem?_getD, List.getElem?_eq_getElem (by omega)]
        exact List.getElem_mem _)
      unfold gput phput
      rw [if_pos hi, if_pos (by rw [hul]; exact hi), e1, e2]
      exact LfOk.bare (S1 := bare O' w') hx rfl (fun k hk => hk) (fun k hk => hk) e4
    · rw [(gout l hi).1, (gout l hi).2]
      exact (K.at_ l).later L (fun p k hk => by
        obtain ⟨k1, k2⟩ := keep' k _ hk (by simp) (by simp)
        exact ⟨k1, k2 (by simp)⟩)
  · have e1 : (S.g (H b')).2 = .one (.hd n') := by
      have : (gput S.g b 0 m (H b')).2 = .one (.hd n') := hb'
      rwa [(gout _ (heads_apart (by omega))).1] at this
    obtain ⟨g1, c1, e2, g2, g3, g4, g5⟩ := K.box b' n' e1
    obtain ⟨k1, k2⟩ := keep' _ _ g3 (by simp) (by simp)
    by_cases hbb : b' = b
    · subst hbb
      rw [hc] at g2
      cases g2
      rw [hh] at e1
      cases e1
      refine ⟨g1, c', _, hc', k1, by rw [hcs]; exact g4, fun j hj => ?_⟩
      show c'[(S.bb b').2 + j]? = some (phput S.ph b' 0 us (C b' j))
      have h2 : C b' 0 ≤ C b' j ∧ C b' j < C b' 0 + us.length := by unfold C; omega
      unfold phput
      rw [if_pos h2, hin j hj, show C b' j - C b' 0 = j by unfold C; omega, List.getD_eq_getElem?_getD, List.getElem?_eq_getElem (by omega)]
      rfl
    · refine ⟨g1, c1, e2, (k2 (by simp [hbb])).trans g2, k1, g4, fun j hj => ?_⟩
      show _ = some (phput S.ph b 0 us (C b' j))
      rw [(gout _ (cells_apart (by omega) (by omega) hbb)).2]
      exact g5 j hj
  · have e1 : (S.g (H b')).2 = .one (.hd n') := by
      have : (gput S.g b 0 m (H b')).2 = .one (.hd n') := hb'
      rwa [(gout _ (heads_apart (by omega))).1] at this
    exact K.rgn b' n' e1
  · show a.tmps.getD t undef = phput S.ph b 0 us t
    rw [(gout _ (slots_apart (Nat.lt_of_lt_of_le ht K.nt))).2]
    exact K.sl t ht
  · obtain ⟨f1, f2⟩ := F.no k hk h0
    obtain ⟨h5, h6⟩ := keep k _ f1 (Nat.lt_of_lt_of_le hk F.size) (by simp)
    exact ⟨h5, (h6 (by simp)).trans f2⟩
  · obtain ⟨f1, f2⟩ := F.fz k hk h0
    obtain ⟨h5, h6⟩ := keep k _ f1 (Nat.lt_of_lt_of_le hk F.size) (by simp)
    exact ⟨h5, (h6 (by simp)).trans f2⟩
  · obtain ⟨f1, c1, c2, e1, f, f2, f3, f4, f5⟩ := F.bx k b' hk h0
    obtain ⟨h5, h6⟩ := keep k _ f1 (Nat.lt_of_lt_of_le hk F.size) (by simp)
    by_cases hbb : b' = b
    · subst hbb
      refine ⟨h5, ?_⟩
      by_cases hkb : k = (S.bb b').1
      · subst hkb
        rw [hc] at f3
        cases f3
        obtain ⟨r1, r2, r3⟩ := (K.rgn b' _ hh).1 hk
        refine ⟨c1, c', _, _, f2, hc', hcs.trans f4, fun i hi => ?_⟩
        rw [hout' i (by omega)]
        exact f5 i hi
      · exact ⟨c1, c2, e1, f, f2, ((h1 k (Nat.lt_of_lt_of_le hk F.size) (by rw [f1]; simp)).2 hkb).trans f3, f4, f5⟩
    · exact ⟨h5, c1, c2, e1, f, f2, (h6 (by simp [hbb])).trans f3, f4, f5⟩
end
end Go.Proofs.Ytehkignjdbkeiaa.Vf
