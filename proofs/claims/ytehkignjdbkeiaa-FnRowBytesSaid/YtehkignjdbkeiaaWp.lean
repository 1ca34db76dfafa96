/- Loops in code, and what surrounds it, in the form that the seat's texts use. -/
import Derived.Test.YtehkignjdbkeiaaWo
import Derived.Below
set_option linter.unusedVariables false
set_option linter.unusedSimpArgs false
namespace Go.Proofs.Ytehkignjdbkeiaa.Vf
open Go Go.RowKit
attribute [local irreducible] C H

/-- The bodies of the outermost loops. -/
def allLoops : Code → List Code
  | .seq a b => allLoops a ++ allLoops b
  | .cond _ a b => allLoops a ++ allLoops b
  | .block _ c => allLoops c
  | .loop c => [c]
  | _ => []

theorem loops_all {X : Cx} {E : En} : ∀ (c : Code), (∀ d ∈ allLoops c, ∀ L, E.lp (first d) = some L → LoopOk X L d) → LoopsOk X E c := by
  intro c
  induction c with
  | seq a b iha ihb => exact fun h => ⟨iha fun d hd => h d (List.mem_append_left _ hd), ihb fun d hd => h d (List.mem_append_right _ hd)⟩
  | cond x a b iha ihb => exact fun h => ⟨iha fun d hd => h d (List.mem_append_left _ hd), ihb fun d hd => h d (List.mem_append_right _ hd)⟩
  | block i c ih => exact fun h => ih h
  | loop c ih => exact fun h => h c (by simp [allLoops])
  | _ => exact fun h => trivial

theorem loops_mk {X : Cx} {E : En} {c b : Code} (ids : List Nat) (h1 : allLoops c = ids.map fun l => loopAt l b) (h2 : (ids.map fun l => first (loopAt l b)) = ids) (h3 : ∀ l ∈ ids, ∀ L, E.lp l = some L → LoopOk X L (loopAt l b)) : LoopsOk X E c := by
  refine loops_all c fun d hd L hL => ?_
  rw [h1] at hd
  obtain ⟨l, hl, rfl⟩ := List.mem_map.1 hd
  have : first (loopAt l b) = l := by
    have key : ∀ (is : List Nat), (is.map fun l => first (loopAt l b)) = is → ∀ l ∈ is, first (loopAt l b) = l := by
      intro is
      induction is with
      | nil => intro _ l hl; simp at hl
      | cons i is ih =>
        intro e l hl
        simp only [List.map_cons, List.cons.injEq] at e
        rcases List.mem_cons.1 hl with rfl | hl
        · exact e.1
        · exact ih e.2 l hl
    exact key ids h2 l hl
  rw [this] at hL
  exact h3 l hl L hL

theorem env_ok {P : Program} {X : Cx} {E : En} {ti : TypeId → Option TI} {eqs : TypeId → Bool} (hP : X.P = P) (h1 : E.nt = X.nt) (h2 : E.np = X.np) (h3 : E.ti = ti) (h4 : E.eq = eqs) (htok : ∀ T t, ti T = some t → TOk P T t)
    (heq : ∀ T, eqs T = true → eqB P ti 9 T = true ∧ (match ti T with | some t => t.ag | none => false) = true ∧ P.eqGuardType P.depth T = false) (hc : ∀ f en, E.call f = some en → CallOk P f en) : EnvOk X E := by
  refine ⟨⟨h1, h2, fun T t h => ?_, fun T h G w w' x y l l' us vs b => ?_⟩, fun f en h => ?_⟩
  · rw [hP]; rw [h3] at h; exact htok T t h
  · rw [hP, h3]
    rw [h4] at h
    obtain ⟨e1, e2, e3⟩ := heq T h
    exact eq_ok htok e1 e2 e3 G w w' x y l l' us vs b
  · rw [hP]; exact hc f en h

/-! ### A law: its arguments are read, it comes to one truth value -/
def consD {t : Ty} : {ts : List Ty} → t.den → Den ts → Den (t :: ts)
  | [], x, _ => x
  | _ :: _, x, y => (x, y)

theorem leavesD_cons {t : Ty} {ts : List Ty} {x : t.den} {y : Den ts} : leavesD (t :: ts) (consD x y) = leaves t x :: leavesD ts y := by
  cases ts <;> rfl

inductive Came (P : Program) (w : World) : (ps : List Par) → Den (ps.map Par.ty) → List Value → Prop
  | nil : Came P w [] () []
  | cons {ag : Bool} {t : Ty} {ps : List Par} {X : t.den} {Y : Den (ps.map Par.ty)} {u : Value} {us vs : List Value} (hn : noOw t = true) (hu : if ag then u = .agg vs.toArray else vs = [u])
      (hr : t.rep P (fun k => k < w.heap.size) w X vs) (h : Came P w ps Y us) : Came P w (.val ag t :: ps) (consD (t := t) (ts := ps.map Par.ty) X Y) (u :: us)

def oldO (w : World) : Nat → Lab := fun k => if k < w.heap.size then .fz else .no

theorem came_args {P : Program} {w : World} {rg : Nat → Nat × Nat} : ∀ {ps : List Par} {x : Den (ps.map Par.ty)} {us : List Value} (i : Nat), Came P w ps x us → ArgsOk P (bare (oldO w) w) rg i ps (leavesD _ x) us := by
  intro ps x us i h
  induction h generalizing i with
  | nil => trivial
  | @cons ag t ps X Y u us vs hn hu hr h ih =>
    show ArgsOk P (bare (oldO w) w) rg i (.val ag t :: ps) (leavesD (t :: ps.map Par.ty) (consD X Y)) (u :: us)
    rw [leavesD_cons]
    refine ⟨⟨vs, hu, ?_⟩, ih (i + 1)⟩
    have h1 := lvs_rep (P := P) (G := fun k => oldO w k = .fz) (w := w) t X vs (Ty.rep_mono (fun k hk => by unfold oldO; rw [if_pos hk]) (fun _ _ => rfl) t X vs hr)
    rw [noOw_leaves t X hn]
    exact LfsOk.ofRep (S := bare (oldO w) w) h1 _ _

theorem law_walk {P : Program} {f : FuncId} {en : Ent} (hs : Sound P f en) {w : World} {us : List Value} {x : Den (en.ps.map Par.ty)} (hc : Came P w en.ps x us) {r : Den (en.rs.map Prod.snd ++ ptrOuts en.ps)} (hr : en.run x = some r)
    (hrs : en.rs = [(.one, .b)]) (hl : ∃ ls, leavesD _ r = [.sc (.bool true)] :: ls) : Calls P f us.toArray w (fun e w' => e = .returned (.bool true) ∧ Below w.heap.size w w') := by
  refine calls_mono (hs x r hr w (oldO w) (fun _ => (0, 0)) us (fun k hk => ?_) (fun k b hk => ?_) (came_args 0 hc)) ?_
  · unfold oldO at hk
    split at hk
    · assumption
    · exact (hk rfl).elim
  · unfold oldO at hk
    split at hk <;> cases hk
  · rintro e w' ⟨v, O', rfl, hF, _, hR, _⟩
    obtain ⟨ls, hl⟩ := hl
    rw [hl] at hR
    rw [hrs] at hR
    obtain ⟨l, ls', e1, h1⟩ := hR
    cases e1
    have h2 : LfsOk P (bare O' w') (fun _ => .tm 0 []) 0 [.sc (.bool true)] [v] := h1
    have hv : v = .bool true := h2.1.1
    subst hv
    exact ⟨rfl, hF.os, hF.tape, hF.out, hF.size, fun k hk => (hF.fz k hk (by unfold oldO; rw [if_pos hk])).2⟩

/-- One argument, opened. -/
theorem open_arg {H' : Type} {enc : TypeId × Value → H'} {P : Program} {w : World} {base : Nat} {spare : Nat → Bool} {held : Bool} {ti : TypeId → Option TI} (htok : ∀ T t, ti T = some t → TOk P T t) (hcl : ∀ T, closeB P ti T = true)
    {T : TypeId} {t : TI} (hT : ti T = some t) {v : Value} {d : DataW H'} {p : List MemPlace} {b0 : Nat} (hv : Value.okWide P w .any b0 T v) (h : DataW.Trod enc P w base spare held T v d p)
    {ts : List TypeId} {ds : List (DataW H')} (hw : (DataW.weightsEach P ts ds).all (· ≤ reachBytes) = true) {j : Nat} (hj : ts[j]? = some T) (hd : ds[j]? = some d) :
    ∃ (X : t.ty.den) (vs : List Value), (if t.ag then v = .agg vs.toArray else vs = [v]) ∧ t.ty.rep P (fun k => k < w.heap.size) w X vs ∧ t.ty.fit ti X := by
  obtain ⟨n, hn⟩ := h
  obtain ⟨X, r, f⟩ := open_rep htok hcl n T t _ _ hT hn (fun m hm => by
    have := List.all_eq_true.1 hw m (DataW.weights_mem_each hj hd m hm)
    exact of_decide_eq_true this)
  refine ⟨X, _, ?_, r, f⟩
  have hc := hcl T
  unfold closeB at hc
  rw [hT] at hc
  unfold Value.okWide at hv
  split at hc
  · rename_i e; cases e
  · rename_i t0 fs e1 hu
    cases e1
    simp only [Bool.and_eq_true] at hc
    rw [hc.1]
    rw [hu] at hv
    obtain ⟨cs, rfl, _⟩ := hv
    simp [Value.cells]
  all_goals first
    | (cases hc; done)
    | (rename_i hu
       rw [hu] at hv
       simp only [Cell.okWide, hu] at hv
       rename_i e1
       cases e1
       simp only [Bool.false_eq_true, if_false]
       have hsz := Ty.rep_len _ _ _ r
       cases v <;> first | (simp [Value.cells]; done) | (simp only [Cell.ok, hu] at hv; done) | (simp [Cell.ok, hu] at hv; done))
end Go.Proofs.Ytehkignjdbkeiaa.Vf
