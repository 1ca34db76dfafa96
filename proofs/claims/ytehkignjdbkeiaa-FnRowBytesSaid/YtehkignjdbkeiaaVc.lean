/- The situation: which block is whose; what each place holds. What stays true when something else changes. -/
import Derived.Test.YtehkignjdbkeiaaVb
namespace Go.Proofs.Ytehkignjdbkeiaa.Vf
open Go

inductive Lab where
  | no
  | fz
  | bx (b : Nat)
  | pl (l : Nat) (p : List Nat)
  | tm (i : Nat) (p : List Nat)
  deriving DecidableEq

structure Sit where
  O : Nat → Lab
  bb : Nat → Nat × Nat
  g : Nat → Nat × Sv
  ph : Nat → Value
  w : World

def OwnOk (P : Program) (O : Nat → Lab) (w : World) (lab : Lab) (e : TypeId) (r : Ty) (xs : List r.den) (u : Value) : Prop :=
  SzOk P e r.sz ∧ ∃ cs, w.ownsRow 0 e r.sz u xs.length cs ∧ Rows (fun x c => r.rep P (fun k => O k = .fz) w x c) xs cs ∧ ∀ k, u.ownBlock = some k → O k = lab

def LfOk (P : Program) (S : Sit) (lab : Lab) : Lf → Value → Prop
  | .dead, _ => True
  | .un, u => u = undef
  | .sc v, u => u = v ∧ isSc v = true
  | .fz e r xs, u => (Ty.sl e r).rep P (fun k => S.O k = .fz) S.w xs [u]
  | .own e r xs, u => OwnOk P S.O S.w lab e r xs u
  | .al p v, u => v ≤ (S.g p).1 ∧ ((S.g p).1 = v → u = S.ph p)
  | .bp b v off, u => v ≤ (S.g (H b)).1 ∧ ((S.g (H b)).1 = v → u = .pointer (some ⟨(S.bb b).1, (S.bb b).2 + off, none⟩))
  | .ep p v i off, u => v ≤ (S.g p).1 ∧ ∀ e r xs, S.g p = (v, .one (.own e r xs)) → 0 ≤ i ∧ i.toNat < xs.length ∧
      ∃ k cap, S.ph p = .slice (some ⟨k, 0, none⟩) xs.length cap ∧ u = .pointer (some ⟨k, i.toNat * r.sz + off, none⟩)
  | .fp r x off, u => ∃ k o cs, u = .pointer (some ⟨k, o + off, none⟩) ∧ S.O k = .fz ∧ r.rep P (fun k => S.O k = .fz) S.w x cs ∧ CellsAt S.w k o cs
  | .hd _, _ => True

def LfsOk (P : Program) (S : Sit) (lab : Nat → Lab) : Nat → List Lf → List Value → Prop
  | _, [], [] => True
  | j, x :: xs, u :: us => LfOk P S (lab j) x u ∧ LfsOk P S lab (j + 1) xs us
  | _, _, _ => False

def TupOk (P : Program) (S : Sit) (l : Nat) : Nat → List (Bool × List Lf) → List Value → Prop
  | _, [], [] => True
  | i, v :: vs, u :: us => (∃ ws, (if v.1 then u = .agg ws.toArray else ws = [u]) ∧ LfsOk P S (fun j => .pl l [i, j]) 0 v.2 ws) ∧ TupOk P S l (i + 1) vs us
  | _, _, _ => False

def SvOk (P : Program) (S : Sit) (l : Nat) : Sv → Value → Prop
  | .one x, u => LfOk P S (.pl l []) x u
  | .agg cs, u => ∃ us, u = .agg us.toArray ∧ LfsOk P S (fun j => .pl l [j]) 0 cs us
  | .tup vs, u => ∃ us, u = .tuple us.toArray ∧ TupOk P S l 0 vs us

/-- What has become of the world in which the function began. -/
structure Fr (O0 : Nat → Lab) (w0 : World) (rg : Nat → Nat × Nat) (O : Nat → Lab) (w : World) : Prop where
  os : w.os = w0.os
  tape : w.tape = w0.tape
  out : w.output = w0.output
  size : w0.heap.size ≤ w.heap.size
  no : ∀ k, k < w0.heap.size → O0 k = .no → O k = .no ∧ w.heap[k]? = w0.heap[k]?
  fz : ∀ k, k < w0.heap.size → O0 k = .fz → O k = .fz ∧ w.heap[k]? = w0.heap[k]?
  bx : ∀ k b, k < w0.heap.size → O0 k = .bx b → O k = .bx b ∧ ∃ c c' e f, w0.heap[k]? = some (.cells c e f) ∧ w.heap[k]? = some (.cells c' e f) ∧ c'.size = c.size ∧
    ∀ i, (i < (rg b).1 ∨ (rg b).1 + (rg b).2 ≤ i) → c'[i]? = c[i]?

/-- All that a function's proof carries along. -/
structure Cx where
  P : Program
  O0 : Nat → Lab
  w0 : World
  rg : Nat → Nat × Nat
  nt : Nat
  np : Nat

structure Okay (X : Cx) (S : Sit) (a : Act) : Prop where
  nt : X.nt ≤ 1000
  lt : ∀ k, S.O k ≠ .no → k < S.w.heap.size
  at_ : ∀ l, SvOk X.P S l (S.g l).2 (S.ph l)
  box : ∀ b n, (S.g (H b)).2 = .one (.hd n) → n < 999 ∧ ∃ c e, S.w.heap[(S.bb b).1]? = some (.cells c e (0, 0)) ∧ S.O (S.bb b).1 = .bx b ∧ (S.bb b).2 + n ≤ c.size ∧
    ∀ j, j < n → c[(S.bb b).2 + j]? = some (S.ph (C b j))
  rgn : ∀ b n, (S.g (H b)).2 = .one (.hd n) → ((S.bb b).1 < X.w0.heap.size → X.O0 (S.bb b).1 = .bx b ∧ (X.rg b).1 ≤ (S.bb b).2 ∧ (S.bb b).2 + n ≤ (X.rg b).1 + (X.rg b).2) ∧ (b < X.np → (S.bb b).1 < X.w0.heap.size)
  sl : ∀ t, t < X.nt → a.tmps.getD t undef = S.ph t
  sz : a.tmps.size = X.nt
  df : a.defers = []
  fr : Fr X.O0 X.w0 X.rg S.O S.w

structure Later (S S' : Sit) : Prop where
  ver : ∀ p, (S.g p).1 ≤ (S'.g p).1
  ph : ∀ p, (S'.g p).1 = (S.g p).1 → S'.ph p = S.ph p
  own : ∀ p v e r xs', S'.g p = (v, .one (.own e r xs')) → (S.g p).1 = v → ∃ xs : List r.den, S.g p = (v, .one (.own e r xs)) ∧ xs.length = xs'.length
  bb : ∀ b, (S'.g (H b)).1 = (S.g (H b)).1 → S'.bb b = S.bb b
  fz : ∀ k, S.O k = .fz → S'.O k = .fz ∧ S'.w.heap[k]? = S.w.heap[k]?

section
variable {P : Program} {S S' : Sit} {lab lab' : Lab} {u : Value}

theorem ownsRow_same {w w' : World} {e n m : Nat} {cs : List Value} (h : w.ownsRow 0 e n u m cs) (hk : ∀ k, u.ownBlock = some k → w'.heap[k]? = w.heap[k]?) : w'.ownsRow 0 e n u m cs := by
  refine ⟨h.1, ?_⟩
  rcases h.2 with hn | ⟨g, cap, cur, rfl, hb, hg, rest⟩
  · exact .inl hn
  · exact .inr ⟨g, cap, cur, rfl, hb, (hk g rfl).trans hg, rest⟩

theorem OwnOk.later {O O' : Nat → Lab} {w w' : World} {e : TypeId} {r : Ty} {xs : List r.den} (h : OwnOk P O w lab e r xs u)
    (hf : ∀ k, O k = .fz → O' k = .fz ∧ w'.heap[k]? = w.heap[k]?) (hl : ∀ k, u.ownBlock = some k → O k = lab → O' k = lab' ∧ w'.heap[k]? = w.heap[k]?) : OwnOk P O' w' lab' e r xs u := by
  obtain ⟨hs, cs, ho, hr, hk⟩ := h
  refine ⟨hs, cs, ownsRow_same ho (fun k he => (hl k he (hk k he)).2), hr.mono (fun x c => Ty.rep_mono (fun k h => (hf k h).1) (fun k h => (hf k h).2) r x c), fun k he => (hl k he (hk k he)).1⟩

theorem LfOk.later {x : Lf} (L : Later S S') (h : LfOk P S lab x u) (hl : ∀ k, S.O k = lab → S'.O k = lab' ∧ S'.w.heap[k]? = S.w.heap[k]?) : LfOk P S' lab' x u := by
  cases x with
  | dead => trivial
  | un => exact h
  | sc v => exact h
  | fz e r xs => exact Ty.rep_mono (fun k h => (L.fz k h).1) (fun k h => (L.fz k h).2) _ _ _ h
  | own e r xs => exact OwnOk.later h L.fz (fun k _ he => hl k he)
  | al p v =>
    refine ⟨Nat.le_trans h.1 (L.ver p), fun hv => ?_⟩
    have e1 : (S.g p).1 = v := Nat.le_antisymm (hv ▸ L.ver p) h.1
    rw [L.ph p (hv.trans e1.symm)]
    exact h.2 e1
  | bp b v off =>
    refine ⟨Nat.le_trans h.1 (L.ver _), fun hv => ?_⟩
    have e1 : (S.g (H b)).1 = v := Nat.le_antisymm (hv ▸ L.ver _) h.1
    rw [L.bb b (hv.trans e1.symm)]
    exact h.2 e1
  | ep p v i off =>
    refine ⟨Nat.le_trans h.1 (L.ver p), fun e r xs hv => ?_⟩
    have e0 : (S'.g p).1 = v := by rw [hv]
    have e1 : (S.g p).1 = v := Nat.le_antisymm (e0 ▸ L.ver p) h.1
    obtain ⟨ys, hy, hl⟩ := L.own p v e r xs hv e1
    obtain ⟨h0, h1, k, cap, h2, h3⟩ := h.2 e r ys hy
    refine ⟨h0, hl ▸ h1, k, cap, ?_, h3⟩
    rw [L.ph p (e0.trans e1.symm), h2, hl]
  | fp r x off =>
    obtain ⟨k, o, cs, h1, h2, h3, h4⟩ := h
    exact ⟨k, o, cs, h1, (L.fz k h2).1, Ty.rep_mono (fun k h => (L.fz k h).1) (fun k h => (L.fz k h).2) _ _ _ h3, h4.mono (L.fz k h2).2⟩
  | hd n => trivial

def Lf.isOwn : Lf → Bool
  | .own _ _ _ => true
  | _ => false

theorem LfOk.relab {x : Lf} (hx : x.isOwn = false) (h : LfOk P S lab x u) : LfOk P S lab' x u := by
  cases x <;> first | exact h | (simp [Lf.isOwn] at hx)

theorem LfsOk.imp {f f' : Nat → Lab} (hi : ∀ j x u, LfOk P S (f j) x u → LfOk P S' (f' j) x u) : ∀ {j : Nat} {xs : List Lf} {us : List Value}, LfsOk P S f j xs us → LfsOk P S' f' j xs us
  | _, [], [], _ => trivial
  | j, _ :: _, _ :: _, h => ⟨hi j _ _ h.1, h.2.imp hi⟩
  | _, [], _ :: _, h => h.elim
  | _, _ :: _, [], h => h.elim

theorem TupOk.imp {l l' : Nat} (hi : ∀ i j x u, LfOk P S (.pl l [i, j]) x u → LfOk P S' (.pl l' [i, j]) x u) : ∀ {i : Nat} {vs : List (Bool × List Lf)} {us : List Value}, TupOk P S l i vs us → TupOk P S' l' i vs us
  | _, [], [], _ => trivial
  | i, _ :: _, _ :: _, ⟨⟨ws, h1, h2⟩, h3⟩ => ⟨⟨ws, h1, h2.imp (fun j => hi i j)⟩, h3.imp hi⟩
  | _, [], _ :: _, h => h.elim
  | _, _ :: _, [], h => h.elim

theorem SvOk.imp {l l' : Nat} {s : Sv} (hi : ∀ p x u, LfOk P S (.pl l p) x u → LfOk P S' (.pl l' p) x u) (h : SvOk P S l s u) : SvOk P S' l' s u := by
  cases s with
  | one x => exact hi _ _ _ h
  | agg cs => obtain ⟨us, e, h⟩ := h; exact ⟨us, e, h.imp (fun j => hi [j])⟩
  | tup vs => obtain ⟨us, e, h⟩ := h; exact ⟨us, e, h.imp (fun i j => hi [i, j])⟩

theorem SvOk.later {l : Nat} {s : Sv} (L : Later S S') (h : SvOk P S l s u) (hl : ∀ p k, S.O k = .pl l p → S'.O k = .pl l p ∧ S'.w.heap[k]? = S.w.heap[k]?) : SvOk P S' l s u :=
  h.imp (fun p _ _ h => h.later L (hl p))

/-- A content without an owner fits any place. -/
theorem LfsOk.relab {f f' : Nat → Lab} : ∀ {j : Nat} {xs : List Lf} {us : List Value}, ownIn xs = false → LfsOk P S f j xs us → LfsOk P S f' j xs us
  | _, [], [], _, _ => trivial
  | j, x :: xs, u :: us, ho, h => by
    cases x <;> first | (simp [ownIn] at ho; done) | exact ⟨LfOk.relab rfl h.1, LfsOk.relab (by simpa [ownIn] using ho) h.2⟩
  | _, [], _ :: _, _, h => h.elim
  | _, _ :: _, [], _, h => h.elim

theorem TupOk.relab {l l' : Nat} : ∀ {i : Nat} {vs : List (Bool × List Lf)} {us : List Value}, vs.any (fun v => ownIn v.2) = false → TupOk P S l i vs us → TupOk P S l' i vs us
  | _, [], [], _, _ => trivial
  | i, _ :: _, _ :: _, ho, ⟨⟨ws, h1, h2⟩, h3⟩ => by
    simp only [List.any_cons, Bool.or_eq_false_iff] at ho
    exact ⟨⟨ws, h1, h2.relab ho.1⟩, h3.relab ho.2⟩
  | _, [], _ :: _, _, h => h.elim
  | _, _ :: _, [], _, h => h.elim

theorem SvOk.relab {l l' : Nat} {s : Sv} (ho : ownSv s = false) (h : SvOk P S l s u) : SvOk P S l' s u := by
  cases s with
  | one x => exact LfOk.relab (by cases x <;> first | rfl | (simp [ownSv, ownIn] at ho)) h
  | agg cs => obtain ⟨us, e, h⟩ := h; exact ⟨us, e, h.relab ho⟩
  | tup vs => obtain ⟨us, e, h⟩ := h; exact ⟨us, e, h.relab ho⟩
end

/-! ### Places -/
theorem C_inj {b b' j j' : Nat} (hj : j < 999) (hj' : j' < 999) (h : C b j = C b' j') : b = b' ∧ j = j' := by unfold C at h; omega
theorem C_ne_H {b b' j : Nat} (hj : j < 999) : C b j ≠ H b' := by unfold C H; omega
theorem H_inj {b b' : Nat} (h : H b = H b') : b = b' := by unfold H at h; omega
theorem C_ge (b j : Nat) : 1000 ≤ C b j := by unfold C; omega
theorem H_ge (b : Nat) : 1000 ≤ H b := by unfold H; omega

/-- A function changed at one place. -/
def upd {β : Type} (f : Nat → β) (l : Nat) (v : β) : Nat → β := fun k => if k = l then v else f k
@[simp] theorem upd_same {β : Type} (f : Nat → β) (l : Nat) (v : β) : upd f l v l = v := by simp [upd]
theorem upd_ne {β : Type} (f : Nat → β) {l k : Nat} (v : β) (h : k ≠ l) : upd f l v k = f k := by simp [upd, h]

theorem get_up (A : Ab) (u : Up) : get (up A u) = upd (get A) u.l ((bif u.keep then (get A u.l).1 else (get A u.l).1 + 1), u.s) := by
  funext k
  unfold upd up
  simp only [get]
  by_cases h : k = u.l
  · subst h; simp
  · have : Nat.beq u.l k = false := by
      cases hb : Nat.beq u.l k with
      | false => rfl
      | true => exact absurd (Nat.eq_of_beq_eq_true hb).symm h
    simp [this, h]
end Go.Proofs.Ytehkignjdbkeiaa.Vf
