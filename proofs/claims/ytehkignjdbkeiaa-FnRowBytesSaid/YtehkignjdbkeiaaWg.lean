/- A function's body is sound. -/
import Derived.Test.YtehkignjdbkeiaaWf
set_option linter.unusedVariables false
set_option linter.unusedSimpArgs false
namespace Go.Proofs.Ytehkignjdbkeiaa.Vf
open Go
attribute [local irreducible] C H

theorem mapM_run {P : Program} {w : World} {a : Act} : ∀ {rv : List ResultVar} {vs : List Value}, All2 (fun r v => (resRun a r).run P w = .ok v w) rv vs → (rv.mapM (resRun a)).run P w = .ok vs w
  | _, _, .nil => rfl
  | _, _, .cons h hs => by
    rw [List.mapM_cons]
    simp only [Sem.run_bind, h, Result.andThen_ok, mapM_run hs, Sem.run_pure]

theorem results_run {P : Program} {w : World} {a : Act} {fn : Func} {vs : List Value} (h : All2 (fun r v => (resRun a r).run P w = .ok v w) fn.results.toList vs) :
    (results fn a.tmps).run P w = .ok (if h : vs.length = 1 then vs[0] else .tuple vs.toArray) w := by
  refine Eq.trans (b := (do let vs ← fn.results.mapM (resRun a); pure (if h : vs.size = 1 then vs[0] else .tuple vs) : Sem Value).run P w) ?_ ?_
  · unfold results
    refine congrArg (fun (f : ResultVar → Sem Value) => Sem.run P (do let vs ← fn.results.mapM f; pure (if h : vs.size = 1 then vs[0] else Value.tuple vs) : Sem Value) w) (?_ : _ = resRun a)
    funext x
    cases x <;> rfl
  rw [Array.mapM_eq_mapM_toList]
  simp only [map_eq_pure_bind, Sem.run_bind, mapM_run h, Result.andThen_ok, Sem.run_pure]
  simp

theorem leavesD_app : ∀ (ts us : List Ty) (x : Den (ts ++ us)) (ls ls' : List (List Lf)), ls.length = ts.length → Mk (ts ++ us) (ls ++ ls') (leavesD (ts ++ us) x) →
    Mk ts ls ((leavesD (ts ++ us) x).take ts.length) ∧ Mk us ls' ((leavesD (ts ++ us) x).drop ts.length)
  | [], us, x, [], ls', _, h => ⟨trivial, h⟩
  | [], us, x, _ :: _, ls', hl, h => by simp at hl
  | t :: ts, us, x, [], ls', hl, h => by simp at hl
  | t :: ts, us, x, l :: ls, ls', hl, h => by
    have key : ∀ (ts us : List Ty) (ls ls' lx : List (List Lf)), ls.length = ts.length → Mk (ts ++ us) (ls ++ ls') lx → Mk ts ls (lx.take ts.length) ∧ Mk us ls' (lx.drop ts.length) := by
      intro ts
      induction ts with
      | nil =>
        intro us ls ls' lx hl h
        cases ls with
        | nil => exact ⟨trivial, h⟩
        | cons => simp at hl
      | cons t ts ih =>
        intro us ls ls' lx hl h
        cases ls with
        | nil => simp at hl
        | cons l ls =>
          cases lx with
          | nil => exact h.elim
          | cons lx1 lx =>
            obtain ⟨h1, h2⟩ := ih us ls ls' lx (by simpa using hl) h.2
            exact ⟨⟨h.1, h1⟩, h2⟩
    exact key (t :: ts) us (l :: ls) ls' _ hl h

theorem resL_len {E : En} : ∀ (rs : List (RK × Ty)) (rv : List ResultVar) (A : Ab) (ls : List (List Lf)) (us : List Up), resL E A rs rv = some (ls, us) → ls.length = rs.length
  | [], [], A, ls, us, h => by
    simp only [resL, Option.some.injEq, Prod.mk.injEq] at h
    obtain ⟨rfl, rfl⟩ := h
    rfl
  | [], _ :: _, A, ls, us, h => by simp [resL] at h
  | (k, t) :: ks, [], A, ls, us, h => by cases k <;> simp [resL] at h
  | (k, t) :: ks, .tmp x :: rs, A, ls, us, h => by
    have h' : (bif Nat.blt x E.nt then (match resOf E.np A k t (.tmp x) (get A x).2 with
      | some (l, u) => (match resL E (ups A u) ks rs with
        | some (ls, us) => some (l :: ls, u ++ us)
        | none => none)
      | none => none) else none) = some (ls, us) := by
      unfold resL at h
      cases k <;> exact h
    cases hx : Nat.blt x E.nt with
    | false => rw [hx] at h'; simp at h'
    | true =>
      rw [hx, cond_true] at h'
      split at h'
      · split at h'
        · rename_i hr
          simp only [Option.some.injEq, Prod.mk.injEq] at h'
          obtain ⟨rfl, rfl⟩ := h'
          simp [resL_len ks rs _ _ _ hr]
        · cases h'
      · cases h'
  | (.agg, t) :: ks, .cell x T :: rs, A, ls, us, h => by
    unfold resL at h
    generalize (Nat.blt x E.nt && (match E.ti T with | some ti => ti.ag && Nat.beq ti.ty.sz t.sz | none => false)) = bb at h
    cases bb with
    | false => simp at h
    | true =>
      rw [cond_true] at h
      split at h
      · split at h
        · rename_i hr
          simp only [Option.some.injEq, Prod.mk.injEq] at h
          obtain ⟨rfl, rfl⟩ := h
          simp [resL_len ks rs _ _ _ hr]
        · cases h
      · cases h
  | (.one, t) :: ks, .cell x T :: rs, A, ls, us, h => by simp [resL] at h
  | (.ptr, t) :: ks, .cell x T :: rs, A, ls, us, h => by simp [resL] at h

theorem ResAll.imp2 {P : Program} {S1 S2 : Sit} {n0 : Nat} (hw : S2.w = S1.w) (hO : ∀ k i, S1.O k = .tm i [] → S2.O k = .tm i []) (hi : ∀ y, solid y = true → ∀ i q u, LfOk P S1 (.tm i q) y u → LfOk P S2 (.tm i q) y u) : ∀ {rs : List (RK × Ty)} {i : Nat} {ls : List (List Lf)} {us : List Value},
    (∀ l ∈ ls, ∀ y ∈ l, solid y = true) → ResAll P S1 n0 i rs ls us → ResAll P S2 n0 i rs ls us := by
  intro rs i ls us hs h
  exact h.imp hw hO (fun l hl y hy i q u hu => hi y (hs l hl y hy) i q u hu)

theorem Results.of {P : Program} {S : Sit} {n0 : Nat} {rs : List (RK × Ty)} {ls : List (List Lf)} {vs : List Value} (h : ResAll P S n0 0 rs ls vs) (ll : List (List Lf)) : Results P S n0 rs (ls ++ ll) (if h : vs.length = 1 then vs[0] else .tuple vs.toArray) := by
  have len : ∀ (rs : List (RK × Ty)) (i : Nat) (ls : List (List Lf)) (vs : List Value), ResAll P S n0 i rs ls vs → vs.length = rs.length := by
    intro rs
    induction rs with
    | nil => intro i ls vs h; have : vs = [] := by cases ls <;> exact h
             subst this; rfl
    | cons r rs ih =>
      intro i ls vs h
      cases ls with
      | nil => exact h.elim
      | cons l ls =>
        cases vs with
        | nil => exact h.elim
        | cons v vs => simp [ih _ _ _ h.2]
  have ext : ∀ (rs : List (RK × Ty)) (i : Nat) (ls : List (List Lf)) (vs : List Value), ResAll P S n0 i rs ls vs → ResAll P S n0 i rs (ls ++ ll) vs := by
    intro rs
    induction rs with
    | nil => intro i ls vs h; have : vs = [] := by cases ls <;> exact h
             subst this; cases (ls ++ ll) <;> rfl
    | cons r rs ih =>
      intro i ls vs h
      cases ls with
      | nil => exact h.elim
      | cons l ls =>
        cases vs with
        | nil => exact h.elim
        | cons v vs => exact ⟨h.1, ih _ _ _ h.2⟩
  have hl := len rs 0 ls vs h
  have he := ext rs 0 ls vs h
  unfold Results
  split
  · rename_i r
    have h1 : vs.length = 1 := hl
    obtain ⟨v, rfl⟩ := List.length_eq_one_iff.1 h1
    cases ls with
    | nil => exact h.elim
    | cons l ls => exact ⟨l, ls ++ ll, rfl, h.1⟩
  · rename_i hne
    refine ⟨vs, ?_, he⟩
    rw [dif_neg]
    intro h1
    rw [hl] at h1
    obtain ⟨r, hr⟩ := List.length_eq_one_iff.1 h1
    exact hne r hr

/-- A function whose body the evaluator reads is sound. -/
theorem body_sound {P : Program} {f : FuncId} {fn : Func} {c : Code} {en : Ent} {E : En} (hf : P.funcs[f]? = some fn) (hb : fn.body = some c) (hnt : fn.ntmps ≤ 1000) (hps : en.ps.length ≤ fn.ntmps)
    (hV : ∀ X : Cx, X.P = P → X.nt = fn.ntmps → X.np = en.ps.length → EnvOk X E) (hD : ∀ X : Cx, X.P = P → X.nt = fn.ntmps → X.np = en.ps.length → DrawOk X E) (hL : ∀ X : Cx, X.P = P → X.nt = fn.ntmps → X.np = en.ps.length → LoopsOk X E c)
    (hpl : ptrLast en.rs = true) (heq : ∀ x, evBody E c fn.results.toList en x = en.run x) : Sound P f en := by
  intro x r hr w O rg us hlt hbx hargs
  rw [← heq] at hr
  let X : Cx := ⟨P, O, w, rg, fn.ntmps, en.ps.length⟩
  have hsol := leavesD_solid (en.ps.map Par.ty) x
  have K0 : Okay X (S0 en.ps (leavesD _ x) us O w) ⟨us.toArray ++ Array.replicate (fn.ntmps - us.toArray.size) undef, []⟩ :=
    start_ok hnt hlt (fun k b h => ⟨(hbx k b h).1, (hbx k b h).2.1⟩) hargs hsol hps
  refine calls_of_wp hf hb ?_
  refine evCode_ok (X := X) (S := S0 en.ps (leavesD _ x) us O w) (hV X rfl rfl rfl) (hD X rfl rfl rfl) c (hL X rfl rfl rfl) K0 rfl hr ?_
  intro e S a A K hg h
  have hE := (hV X rfl rfl rfl).en
  have fin : (match resL E A en.rs fn.results.toList with
      | some (ls, us) => (match ptrL (ups A us) 0 en.ps with
        | some bs => mkDen (en.rs.map Prod.snd ++ ptrOuts en.ps) (ls ++ bs)
        | none => none)
      | none => none) = some r → bodyPost P fn (fun e w' => ∃ v O', e = .returned v ∧ Fr O w rg O' w' ∧ (∀ k, O' k ≠ .no → k < w'.heap.size) ∧ Results P (bare O' w') w.heap.size en.rs (leavesD _ r) v ∧ Backs P (bare O' w') 0 en.ps us ((leavesD _ r).drop en.rs.length)) .ret a S.w := by
    intro h
    split at h
    · rename_i ls1 us1 h1
      split at h
      · rename_i bs h2
        have hmk := mkDen_mk _ _ _ h
        have hlen := resL_len _ _ _ _ _ h1
        obtain ⟨m1, m2⟩ := leavesD_app (en.rs.map Prod.snd) (ptrOuts en.ps) r ls1 bs (by simpa using hlen) hmk
        rw [List.length_map] at m1 m2
        obtain ⟨S1, vs, K1, g1, w1, L1, _, hall, hruns⟩ := resL_ok hE (fun k b hk => (hbx k b hk).1) en.rs fn.results.toList 0 K hg hpl h1 m1
        obtain ⟨S2, K2, w2, L2, t2, hback⟩ := ptrL_ok hE en.ps 0 K1 g1 (Nat.zero_add _) h2 m2 (fun k b hk => (hbx k b hk).2.2) hargs
        have hsolr := leavesD_solid _ r
        have hall2 : ResAll P (bare S2.O S2.w) w.heap.size 0 en.rs ((leavesD _ r).take en.rs.length) vs := by
          refine ResAll.imp2 (S1 := S1) (S2 := bare S2.O S2.w) ?_ (fun k i hk => t2 _ _ _ hk) (fun y hy i q u hu => ?_) (fun l hl => hsolr l (List.mem_of_mem_take hl)) hall
          · exact w2
          · exact LfOk.bare (S1 := S2) hy rfl (fun k hk => hk) (fun k hk => hk) (hu.later L2 (fun k hk => ⟨t2 _ _ _ hk, by rw [w2]⟩))
        have hback2 : Backs P (bare S2.O S2.w) 0 en.ps us ((leavesD _ r).drop en.rs.length) := by
          have key : ∀ (ps : List Par) (i : Nat) (us : List Value) (ls : List (List Lf)), (∀ l ∈ ls, ∀ y ∈ l, solid y = true) → Backs P S2 i ps us ls → Backs P (bare S2.O S2.w) i ps us ls := by
            intro ps
            induction ps with
            | nil => intro i us ls _ _; trivial
            | cons p ps ih =>
              intro i us ls hs h
              cases p with
              | val ag t =>
                cases us with
                | nil => exact h.elim
                | cons u us => exact ih _ _ _ hs h
              | ptr t t' =>
                cases us with
                | nil => exact h.elim
                | cons u us =>
                  cases ls with
                  | nil => exact h.elim
                  | cons l ls =>
                    obtain ⟨⟨k, o, c, e, vs, q1, q2, q3, q4, q5⟩, h2⟩ := h
                    exact ⟨⟨k, o, c, e, vs, q1, q2, q3, q4, q5.impM (fun y hy n u hu => LfOk.bare (S1 := S2) (hs l (by simp) y hy) rfl (fun k hk => hk) (fun k hk => hk) hu)⟩, ih _ _ _ (fun l hl => hs l (List.mem_cons_of_mem _ hl)) h2⟩
          exact key _ _ _ _ (fun l hl => hsolr l (List.mem_of_mem_drop hl)) hback
        have hres := Results.of hall2 ((leavesD _ r).drop en.rs.length)
        rw [List.take_append_drop] at hres
        have hw : S2.w = S.w := w2.trans w1
        rw [hw] at hres hback2
        refine ⟨K.df, _, results_run hruns, _, S2.O, rfl, ?_, ?_, hres, hback2⟩
        · rw [← hw]; exact K2.fr
        · rw [← hw]; exact K2.lt
      · cases h
    · cases h
  cases e with
  | exit i => cases h
  | normal => exact fin h
  | ret => exact fin h
end Go.Proofs.Ytehkignjdbkeiaa.Vf
