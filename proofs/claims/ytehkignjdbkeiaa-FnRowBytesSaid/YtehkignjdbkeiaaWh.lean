/- What an operation reads. -/
import Derived.Test.YtehkignjdbkeiaaWg
set_option linter.unusedVariables false
set_option linter.unusedSimpArgs false
namespace Go.Proofs.Ytehkignjdbkeiaa.Vf
open Go
attribute [local irreducible] C H

def Ag (A A' : Ab) (F : List Nat) : Prop := ∀ p ∈ F, get A' p = get A p

def RL (A : Ab) (F : List Nat) : Lf → Prop
  | .al p _ => p ∈ F
  | .ep p _ _ _ => p ∈ F
  | .bp b _ _ => H b ∈ F ∧ ∀ n, (get A (H b)).2 = .one (.hd n) → ∀ j, j < n → C b j ∈ F ∧ ∀ p v, (get A (C b j)).2 = .one (.al p v) → p ∈ F
  | _ => True

def RX (A : Ab) (F : List Nat) : Operand → Prop
  | .tmp t => t ∈ F ∧ ∀ y ∈ parts (get A t).2, RL A F y
  | _ => True

def calmU (u : Up) : Prop := u.s = .one .dead ∨ ∃ e r, ∃ xs : List (Ty.den r), u.s = .one (.fz e r xs)

section
variable {E : En} {A A' : Ab} {F : List Nat} {o : Oper} {R : Type} {Kc : List Up → Option R} {r : R}

theorem rdC_mem {b : Nat} : ∀ {n j : Nat}, (∀ p ∈ rdC A b j n, p ∈ F) → ∀ i, i < n → C b (j + i) ∈ F ∧ ∀ p v, (get A (C b (j + i))).2 = .one (.al p v) → p ∈ F
  | 0, j, h, i, hi => by omega
  | n + 1, j, h, i, hi => by
    unfold rdC at h
    cases i with
    | zero =>
      refine ⟨h _ (by simp), fun p v hp => h p ?_⟩
      rw [Nat.add_zero] at hp
      rw [hp]
      simp
    | succ i =>
      rw [show j + (i + 1) = j + 1 + i by omega]
      exact rdC_mem (n := n) (j := j + 1) (fun p hp => h p (List.mem_cons_of_mem _ (List.mem_append_right _ hp))) i (by omega)

theorem rdL_RL {y : Lf} (h : ∀ p ∈ rdL A y, p ∈ F) : RL A F y := by
  cases y with
  | al p v => exact h p (by simp [rdL])
  | ep p v i off => exact h p (by simp [rdL])
  | bp b v off =>
    have h : ∀ p ∈ H b :: (match (get A (H b)).2 with | .one (.hd n) => rdC A b 0 n | _ => []), p ∈ F := h
    refine ⟨h _ (by simp), fun n hn j hj => ?_⟩
    rw [hn] at h
    have := rdC_mem (A := A) (F := F) (b := b) (n := n) (j := 0) (fun p hp => h p (List.mem_cons_of_mem _ hp)) j hj
    rwa [Nat.zero_add] at this
  | _ => trivial

theorem rdLs_RL : ∀ {l : List Lf}, (∀ p ∈ rdLs A l, p ∈ F) → ∀ y ∈ l, RL A F y
  | [], _, y, hy => by simp at hy
  | z :: l, h, y, hy => by
    unfold rdLs at h
    rcases List.mem_cons.1 hy with rfl | hy
    · exact rdL_RL fun p hp => h p (List.mem_append_left _ hp)
    · exact rdLs_RL (fun p hp => h p (List.mem_append_right _ hp)) y hy

theorem rdO_RX {x : Operand} (h : ∀ p ∈ rdO A x, p ∈ F) : RX A F x := by
  cases x with
  | tmp t =>
    unfold rdO at h
    exact ⟨h t (by simp), rdLs_RL fun p hp => h p (List.mem_cons_of_mem _ hp)⟩
  | _ => trivial

theorem rdOs_RX : ∀ {l : List Operand}, (∀ p ∈ rdOs A l, p ∈ F) → ∀ x ∈ l, RX A F x
  | [], _, y, hy => by simp at hy
  | z :: l, h, y, hy => by
    unfold rdOs at h
    rcases List.mem_cons.1 hy with rfl | hy
    · exact rdO_RX fun p hp => h p (List.mem_append_left _ hp)
    · exact rdOs_RX (fun p hp => h p (List.mem_append_right _ hp)) y hy

/-! ### States that agree -/
theorem get_up1 (A : Ab) (u : Up) (p : Nat) : get (up A u) p = if p = u.l then ((bif u.keep then (get A u.l).1 else (get A u.l).1 + 1), u.s) else get A p := by
  rw [get_up]
  unfold upd
  rfl

theorem Ag.up (h : Ag A A' F) (u : Up) : Ag (up A u) (up A' u) F := by
  intro p hp
  rw [get_up1, get_up1]
  by_cases e : p = u.l
  · subst e
    rw [if_pos rfl, if_pos rfl, h _ hp]
  · rw [if_neg e, if_neg e, h _ hp]

theorem Ag.ups : ∀ {U : List Up} {A A' : Ab}, Ag A A' F → Ag (ups A U) (ups A' U) F
  | [], _, _, h => h
  | u :: U, _, _, h => Ag.ups (U := U) (h.up u)

theorem RL.up {y : Lf} (h : RL A F y) {u : Up} (hu : calmU u) : RL (Vf.up A u) F y := by
  have key : ∀ q, (get (Vf.up A u) q).2 = (get A q).2 ∨ (get (Vf.up A u) q).2 = u.s := by
    intro q
    rw [get_up1]
    by_cases e : q = u.l
    · rw [if_pos e]; exact .inr rfl
    · rw [if_neg e]; exact .inl rfl
  cases y with
  | al p v => exact h
  | ep p v i off => exact h
  | bp b v off =>
    refine ⟨h.1, fun n hn j hj => ?_⟩
    have hn' : (get A (H b)).2 = .one (.hd n) := by
      rcases key (H b) with k | k
      · rw [← k]; exact hn
      · rw [k] at hn
        rcases hu with hu | ⟨e, r, xs, hu⟩ <;> rw [hu] at hn <;> cases hn
    obtain ⟨h1, h2⟩ := h.2 n hn' j hj
    refine ⟨h1, fun p v hp => ?_⟩
    rcases key (C b j) with k | k
    · exact h2 p v (by rw [← k]; exact hp)
    · rw [k] at hp
      rcases hu with hu | ⟨e, r, xs, hu⟩ <;> rw [hu] at hp <;> cases hp
  | _ => trivial

theorem RX.up {x : Operand} (h : RX A F x) {u : Up} (hu : calmU u) : RX (Vf.up A u) F x := by
  cases x with
  | tmp t =>
    refine ⟨h.1, fun y hy => ?_⟩
    rw [get_up1] at hy
    by_cases e : t = u.l
    · rw [if_pos e] at hy
      rcases hu with hu | ⟨e', r, xs, hu⟩
      · rw [hu] at hy
        simp only [parts, List.mem_singleton] at hy
        subst hy
        trivial
      · rw [hu] at hy
        simp only [parts, List.mem_singleton] at hy
        subst hy
        trivial
    · rw [if_neg e] at hy
      exact (h.2 y hy).up hu
  | _ => trivial

theorem RX.ups {x : Operand} : ∀ {U : List Up} {A : Ab}, RX A F x → (∀ u ∈ U, calmU u) → RX (Vf.ups A U) F x
  | [], _, h, _ => h
  | u :: U, _, h, hu => RX.ups (U := U) (h.up (hu u (by simp))) (fun v hv => hu v (List.mem_cons_of_mem _ hv))

theorem opT_ag {x : Operand} {T : TypeId} (h : Ag A A' F) (hx : RX A F x) : opT E T A' x = opT E T A x := by
  cases x with
  | tmp t => show (bif Nat.blt t E.nt then some (get A' t).2 else none) = (bif Nat.blt t E.nt then some (get A t).2 else none); rw [h t hx.1]
  | const v =>
    unfold opT
    cases v <;> first | rfl | skip
    rename_i a b c
    cases a <;> cases b <;> cases c <;> rfl
  | func f => rfl
  | global g => rfl

theorem opT_RL {x : Operand} {T : TypeId} {s : Sv} (hx : RX A F x) (h : opT E T A x = some s) : ∀ y ∈ parts s, RL A F y := by
  unfold opT at h
  split at h
  · rename_i t
    cases hb : Nat.blt t E.nt with
    | false => simp [hb] at h
    | true =>
      simp only [hb, cond_true, Option.some.injEq] at h
      rw [← h]
      exact hx.2
  · split at h
    · simp only [Option.some.injEq] at h
      subst h
      intro y hy
      simp only [parts, List.mem_singleton] at hy
      subst hy
      trivial
    · cases h
  · rename_i v _
    cases hs : isSc v with
    | false => simp [hs] at h
    | true =>
      simp only [hs, cond_true, Option.some.injEq] at h
      subst h
      intro y hy
      simp only [parts, List.mem_singleton] at hy
      subst hy
      trivial
  · simp only [Option.some.injEq] at h
    subst h
    intro y hy
    simp only [parts, List.mem_singleton] at hy
    subst hy
    trivial
  · cases h

theorem opT_one {x : Operand} {T : TypeId} {y : Lf} (hx : RX A F x) (h : opT E T A x = some (.one y)) : RL A F y := opT_RL hx h y (by simp [parts])

/-- An alias of one of these places. -/
def AL (F : List Nat) : Lf → Prop
  | .al p _ => p ∈ F
  | _ => True

theorem RL.al {y : Lf} (h : RL A F y) : AL F y := by
  cases y <;> first | trivial | exact h

theorem seen_ag {y : Lf} (h : Ag A A' F) (hy : AL F y) : seen A' y = seen A y := by
  cases y with
  | al p v => simp only [seen]; rw [h p hy]
  | _ => rfl

theorem kept_ag {y : Lf} (h : Ag A A' F) (hy : AL F y) : kept A' y = kept A y := by
  cases y with
  | al p v => show calm (seen A' (.al p v)) = calm (seen A (.al p v)); rw [seen_ag h hy]
  | _ => rfl

theorem cost_ag {y : Lf} (h : Ag A A' F) (hy : AL F y) : cost A' y = cost A y := by
  cases y with
  | al p v => simp only [cost]; rw [h p hy]
  | _ => rfl

theorem costs_ag (h : Ag A A' F) : ∀ {l : List Lf}, (∀ y ∈ l, AL F y) → costs A' l = costs A l
  | [], _ => rfl
  | y :: l, hy => by
    unfold costs
    rw [cost_ag h (hy y (by simp)), costs_ag h (fun z hz => hy z (List.mem_cons_of_mem _ hz))]

theorem keptM_ag (h : Ag A A' F) {l : List Lf} (hy : ∀ y ∈ l, AL F y) : l.map (kept A') = l.map (kept A) := List.map_congr_left fun y hm => kept_ag h (hy y hm)

theorem calmM_ag (h : Ag A A' F) {l : List Lf} (hy : ∀ y ∈ l, AL F y) : l.map (fun y => calm (kept A' y)) = l.map (fun y => calm (kept A y)) := List.map_congr_left fun y hm => by rw [kept_ag h (hy y hm)]

theorem seenM_ag (h : Ag A A' F) {l : List Lf} (hy : ∀ y ∈ l, AL F y) : l.map (fun y => calm (seen A' y)) = l.map (fun y => calm (seen A y)) := List.map_congr_left fun y hm => by rw [seen_ag h (hy y hm)]

theorem liveP_ag {y : Lf} (h : Ag A A' F) (hy : RL A F y) : liveP A' y = liveP A y := by
  cases y with
  | bp b v n => show Nat.beq (get A' (H b)).1 v = Nat.beq (get A (H b)).1 v; rw [h _ hy.1]
  | ep p v i n => simp only [liveP]; rw [h p hy]
  | _ => rfl

theorem cellsOf_ag (h : Ag A A' F) {b : Nat} : ∀ {n j : Nat}, (∀ i, i < n → C b (j + i) ∈ F) → cellsOf A' b j n = cellsOf A b j n
  | 0, _, _ => rfl
  | n + 1, j, hc => by
    unfold cellsOf
    rw [h (C b j) (by simpa using hc 0 (by omega)), cellsOf_ag h (fun i hi => by have := hc (i + 1) (by omega); rwa [show j + (i + 1) = j + 1 + i by omega] at this)]

theorem cellsOf_AL {b : Nat} : ∀ {n j : Nat}, (∀ i, i < n → C b (j + i) ∈ F ∧ ∀ p v, (get A (C b (j + i))).2 = .one (.al p v) → p ∈ F) → ∀ y ∈ cellsOf A b j n, AL F y
  | 0, _, _, y, hy => by simp [cellsOf] at hy
  | n + 1, j, hc, y, hy => by
    unfold cellsOf at hy
    rcases List.mem_cons.1 hy with hy | hy
    · obtain ⟨c1, c2⟩ := hc 0 (by omega)
      rw [Nat.add_zero] at c1 c2
      split at hy
      · subst hy; exact c1
      · rename_i v x _ hp
        subst hy
        cases y with
        | al p v => exact c2 p v (by rw [hp])
        | _ => trivial
      · subst hy; trivial
    · refine cellsOf_AL (n := n) (j := j + 1) (fun i hi => ?_) y hy
      have := hc (i + 1) (by omega)
      rwa [show j + (i + 1) = j + 1 + i by omega] at this
end
end Go.Proofs.Ytehkignjdbkeiaa.Vf
