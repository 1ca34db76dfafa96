import Derived.Test.YtehkignjdbkeiaaMai
section
set_option linter.unusedVariables false
set_option linter.unusedSimpArgs false
namespace Go.Proofs.Ytehkignjdbkeiaa.Vf
open Go
attribute [local irreducible] C H
def Ag (A A' : Ab) (F : List Nat) : Prop := ∀ p ∈ F, get A' p = get A p
def RB (A : Ab) (F : List Nat) (b lo : Nat) : Prop := H b ∈ F ∧ ∀ n, (get A (H b)).2 = .one (.hd n) → ∀ j, lo ≤ j → j < n → C b j ∈ F ∧ ∀ p v, (get A (C b j)).2 = .one (.al p v) → p ∈ F
def RL (A : Ab) (F : List Nat) : Lf → Prop
 | .al p _ => p ∈ F
 | .ep p _ _ _ => p ∈ F
 | .da p _ _ _ _ _ => p ∈ F
 | .dp p _ _ _ _ _ _ _ => p ∈ F
 | .bp b _ off => RB A F b off
 | .fn _ bs => ∀ c ∈ bs, RB A F c.1 0
 | _ => True
def RX (A : Ab) (F : List Nat) : Operand → Prop
 | .tmp t => t ∈ F ∧ ∀ y ∈ parts (get A t).2, RL A F y
 | _ => True
def calmU (u : Up) : Prop := u.s = .one .dead ∨ ∃ e r, ∃ xs : List (Ty.den r), u.s = .one (.fz e r xs)
section
variable {E : En} {A A' : Ab} {F : List Nat} {o : Oper} {R : Type} {Kc : List Up → Option R} {r : R}
theorem rdC_mem {b : Nat} : ∀ {n j : Nat}, (∀ p ∈ rdC A b j n, p ∈ F) → ∀ i, i < n → C b (j + i) ∈ F ∧ ∀ p v, (get A (C b (j + i))).2 = .one (.al p v) → p ∈ F
 | 0, j, h, i, hi => by omega
 | n + 1, j, h, i, hi => by
  unfold rdC at h
  cases i with
  | zero =>
   refine ⟨h _ (by simp), fun p v hp => h p ?_⟩
   rw [Nat.add_zero] at hp
   rw [hp]
   simp
  | succ i =>
   rw [show j + (i + 1) = j + 1 + i by omega]
   exact rdC_mem (n := n) (j := j + 1) (fun p hp => h p (List.mem_cons_of_mem _ (List.mem_append_right _ hp))) i (by omega)
theorem rdB_RB {b lo : Nat} (h : ∀ p ∈ H b :: (match (get A (H b)).2 with | .one (.hd n) => rdC A b lo (n - lo) | _ => []), p ∈ F) : RB A F b lo := by
 refine ⟨h _ (by simp), fun n hn j hl hj => ?_⟩
 rw [hn] at h
 have := rdC_mem (A := A) (F := F) (b := b) (n := n - lo) (j := lo) (fun p hp => h p (List.mem_cons_of_mem _ hp)) (j - lo) (by omega)
 rwa [show lo + (j - lo) = j by omega] at this
theorem rdL_RL {y : Lf} (h : ∀ p ∈ rdL A y, p ∈ F) : RL A F y := by
 cases y with
 | al p v => exact h p (by simp [rdL])
 | ep p v i off => exact h p (by simp [rdL])
 | da p v pi e r xs => exact h p (by simp [rdL])
 | dp p v pi e r xs i off => exact h p (by simp [rdL])
 | bp b v off => exact rdB_RB h
 | fn f bs => exact fun c hc => rdB_RB (lo := 0) fun p hp => h p (List.mem_flatMap.2 ⟨c, hc, hp⟩)
 | _ => trivial
theorem rdLs_RL : ∀ {l : List Lf}, (∀ p ∈ rdLs A l, p ∈ F) → ∀ y ∈ l, RL A F y
 | [], _, y, hy => by simp at hy
 | z :: l, h, y, hy => by
  unfold rdLs at h
  rcases List.mem_cons.1 hy with rfl | hy
  ·exact rdL_RL fun p hp => h p (List.mem_append_left _ hp)
  ·exact rdLs_RL (fun p hp => h p (List.mem_append_right _ hp)) y hy
theorem rdO_RX {x : Operand} (h : ∀ p ∈ rdO A x, p ∈ F) : RX A F x := by
 cases x with
 | tmp t =>
  unfold rdO at h
  exact ⟨h t (by simp), rdLs_RL fun p hp => h p (List.mem_cons_of_mem _ hp)⟩
 | _ => trivial
theorem rdOs_RX : ∀ {l : List Operand}, (∀ p ∈ rdOs A l, p ∈ F) → ∀ x ∈ l, RX A F x
 | [], _, y, hy => by simp at hy
 | z :: l, h, y, hy => by
  unfold rdOs at h
  rcases List.mem_cons.1 hy with rfl | hy
  ·exact rdO_RX fun p hp => h p (List.mem_append_left _ hp)
  ·exact rdOs_RX (fun p hp => h p (List.mem_append_right _ hp)) y hy
theorem get_up1 (A : Ab) (u : Up) (p : Nat) : get (up A u) p = if p = u.l then ((bif u.keep then (get A u.l).1 else (get A u.l).1 + 1), u.s) else get A p := by
 rw [get_up]
 unfold upd
 rfl
theorem Ag.up (h : Ag A A' F) (u : Up) : Ag (up A u) (up A' u) F := by
 intro p hp
 rw [get_up1, get_up1]
 by_cases e : p = u.l
 ·subst e
  rw [if_pos rfl, if_pos rfl, h _ hp]
 ·rw [if_neg e, if_neg e, h _ hp]
theorem Ag.ups : ∀ {U : List Up} {A A' : Ab}, Ag A A' F → Ag (ups A U) (ups A' U) F
 | [], _, _, h => h
 | u :: U, _, _, h => Ag.ups (U := U) (h.up u)
theorem RB.up {b lo : Nat} (h : RB A F b lo) {u : Up} (hu : calmU u) : RB (Vf.up A u) F b lo := by
 have key : ∀ q, (get (Vf.up A u) q).2 = (get A q).2 ∨ (get (Vf.up A u) q).2 = u.s := by
  intro q
  rw [get_up1]
  by_cases e : q = u.l
  ·rw [if_pos e]; exact .inr rfl
  ·rw [if_neg e]; exact .inl rfl
 refine ⟨h.1, fun n hn j hlo hj => ?_⟩
 have hn' : (get A (H b)).2 = .one (.hd n) := by
  rcases key (H b) with k | k
  ·rw [← k]; exact hn
  ·rw [k] at hn
   rcases hu with hu | ⟨e, r, xs, hu⟩ <;> rw [hu] at hn <;> cases hn
 obtain ⟨h1, h2⟩ := h.2 n hn' j hlo hj
 refine ⟨h1, fun p v hp => ?_⟩
 rcases key (C b j) with k | k
 ·exact h2 p v (by rw [← k]; exact hp)
 ·rw [k] at hp
  rcases hu with hu | ⟨e, r, xs, hu⟩ <;> rw [hu] at hp <;> cases hp
theorem RB.ups {b lo : Nat} : ∀ {U : List Up} {A : Ab}, RB A F b lo → (∀ u ∈ U, calmU u) → RB (Vf.ups A U) F b lo
 | [], _, h, _ => h
 | u :: U, _, h, hu => RB.ups (U := U) (h.up (hu u (by simp))) (fun v hv => hu v (List.mem_cons_of_mem _ hv))
theorem RL.up {y : Lf} (h : RL A F y) {u : Up} (hu : calmU u) : RL (Vf.up A u) F y := by
 cases y with
 | al p v => exact h
 | ep p v i off => exact h
 | da p v pi e r xs => exact h
 | dp p v pi e r xs i off => exact h
 | bp b v off => exact RB.up h hu
 | fn f bs => exact fun c hc => (h c hc).up hu
 | _ => trivial
theorem RX.up {x : Operand} (h : RX A F x) {u : Up} (hu : calmU u) : RX (Vf.up A u) F x := by
 cases x with
 | tmp t =>
  refine ⟨h.1, fun y hy => ?_⟩
  rw [get_up1] at hy
  by_cases e : t = u.l
  ·rw [if_pos e] at hy
   rcases hu with hu | ⟨e', r, xs, hu⟩
   ·rw [hu] at hy
    simp only [parts, List.mem_singleton] at hy
    subst hy
    trivial
   ·rw [hu] at hy
    simp only [parts, List.mem_singleton] at hy
    subst hy
    trivial
  ·rw [if_neg e] at hy
   exact (h.2 y hy).up hu
 | _ => trivial
theorem RX.ups {x : Operand} : ∀ {U : List Up} {A : Ab}, RX A F x → (∀ u ∈ U, calmU u) → RX (Vf.ups A U) F x
 | [], _, h, _ => h
 | u :: U, _, h, hu => RX.ups (U := U) (h.up (hu u (by simp))) (fun v hv => hu v (List.mem_cons_of_mem _ hv))
theorem opT_ag {x : Operand} {T : TypeId} (h : Ag A A' F) (hx : RX A F x) : opT E T A' x = opT E T A x := by
 cases x with
 | tmp t => show (bif Nat.blt t E.nt then some (get A' t).2 else none) = (bif Nat.blt t E.nt then some (get A t).2 else none); rw [h t hx.1]
 | const v =>
  unfold opT
  cases v <;> first | rfl | skip
  rename_i a b c
  cases a <;> cases b <;> cases c <;> rfl
 | func f => rfl
 | global g => rfl
theorem opT_RL {x : Operand} {T : TypeId} {s : Sv} (hx : RX A F x) (h : opT E T A x = some s) : ∀ y ∈ parts s, RL A F y := by
 unfold opT at h
 split at h
 ·rename_i t
  cases hb : Nat.blt t E.nt with
  | false => simp [hb] at h
  | true =>
   simp only [hb, cond_true, Option.some.injEq] at h
   rw [← h]
   exact hx.2
 ·split at h
  ·simp only [Option.some.injEq] at h
   subst h
   intro y hy
   simp only [parts, List.mem_singleton] at hy
   subst hy
   trivial
  ·cases h
 ·rename_i v _
  cases hs : isSc v with
  | false => simp [hs] at h
  | true =>
   simp only [hs, cond_true, Option.some.injEq] at h
   subst h
   intro y hy
   simp only [parts, List.mem_singleton] at hy
   subst hy
   trivial
 ·simp only [Option.some.injEq] at h
  subst h
  intro y hy
  simp only [parts, List.mem_singleton] at hy
  subst hy
  trivial
 ·cases h
theorem opT_one {x : Operand} {T : TypeId} {y : Lf} (hx : RX A F x) (h : opT E T A x = some (.one y)) : RL A F y := opT_RL hx h y (by simp [parts])
def AL (F : List Nat) : Lf → Prop
 | .al p _ => p ∈ F
 | _ => True
theorem RL.al {y : Lf} (h : RL A F y) : AL F y := by
 cases y <;> first | trivial | exact h
theorem seen_ag {y : Lf} (h : Ag A A' F) (hy : AL F y) : seen A' y = seen A y := by
 cases y with
 | al p v => simp only [seen]; rw [h p hy]
 | _ => rfl
theorem view_ag {y : Lf} (h : Ag A A' F) (hy : RL A F y) : view A' y = view A y := by
 cases y with
 | da p v pi e r xs => simp only [view]; rw [h p hy]
 | _ => exact seen_ag h hy.al
theorem viewM_ag (h : Ag A A' F) {l : List Lf} (hy : ∀ y ∈ l, RL A F y) : l.map (fun y => calm (view A' y)) = l.map (fun y => calm (view A y)) := List.map_congr_left fun y hm => by rw [view_ag h (hy y hm)]
theorem srcOf_ag {y : Lf} (h : Ag A A' F) (hy : RL A F y) : srcOf A' y = srcOf A y := by
 cases y with
 | da p v pi e r xs => simp only [srcOf]; rw [h p hy]
 | _ => simp only [srcOf, seen_ag h hy.al]
theorem takeLs_ag : ∀ {l : List Lf} {A A' : Ab}, Ag A A' F → (∀ y ∈ l, AL F y) → takeLs A' l = takeLs A l
 | [], _, _, _, _ => rfl
 | y :: l, A, A', h, hy => by
  have h1 : AL F y := hy y (by simp)
  have h2 : ∀ z ∈ l, AL F z := fun z hz => hy z (List.mem_cons_of_mem _ hz)
  cases y with
  | al p v =>
   unfold takeLs
   rw [seen_ag h h1, takeLs_ag (h.up ⟨p, false, .one .dead⟩) h2]
  | _ => simp only [takeLs, takeLs_ag h h2]
theorem give_ag {x : Operand} {s : Sv} (h : Ag A A' F) (hy : ∀ y ∈ parts s, AL F y) : give A' x s = give A x s := by
 unfold give
 rw [takeLs_ag (h.ups (U := gone x s)) hy]
theorem kept_ag {y : Lf} (h : Ag A A' F) (hy : AL F y) : kept A' y = kept A y := by
 cases y with
 | al p v => show calm (seen A' (.al p v)) = calm (seen A (.al p v)); rw [seen_ag h hy]
 | _ => rfl
theorem cost_ag {y : Lf} (h : Ag A A' F) (hy : AL F y) : cost A' y = cost A y := by
 cases y with
 | al p v => simp only [cost]; rw [h p hy]
 | _ => rfl
theorem costs_ag (h : Ag A A' F) : ∀ {l : List Lf}, (∀ y ∈ l, AL F y) → costs A' l = costs A l
 | [], _ => rfl
 | y :: l, hy => by
  unfold costs
  rw [cost_ag h (hy y (by simp)), costs_ag h (fun z hz => hy z (List.mem_cons_of_mem _ hz))]
theorem keptM_ag (h : Ag A A' F) {l : List Lf} (hy : ∀ y ∈ l, AL F y) : l.map (kept A') = l.map (kept A) := List.map_congr_left fun y hm => kept_ag h (hy y hm)
theorem calmM_ag (h : Ag A A' F) {l : List Lf} (hy : ∀ y ∈ l, AL F y) : l.map (fun y => calm (kept A' y)) = l.map (fun y => calm (kept A y)) := List.map_congr_left fun y hm => by rw [kept_ag h (hy y hm)]
theorem seenM_ag (h : Ag A A' F) {l : List Lf} (hy : ∀ y ∈ l, AL F y) : l.map (fun y => calm (seen A' y)) = l.map (fun y => calm (seen A y)) := List.map_congr_left fun y hm => by rw [seen_ag h (hy y hm)]
theorem liveP_ag {y : Lf} (h : Ag A A' F) (hy : RL A F y) : liveP A' y = liveP A y := by
 cases y with
 | bp b v n => show Nat.beq (get A' (H b)).1 v = Nat.beq (get A (H b)).1 v; rw [h _ hy.1]
 | ep p v i n => simp only [liveP]; rw [h p hy]
 | dp p v pi e r xs i n => show Nat.beq (get A' p).1 v = Nat.beq (get A p).1 v; rw [h p hy]
 | _ => rfl
theorem cellsOf_ag (h : Ag A A' F) {b : Nat} : ∀ {n j : Nat}, (∀ i, i < n → C b (j + i) ∈ F) → cellsOf A' b j n = cellsOf A b j n
 | 0, _, _ => rfl
 | n + 1, j, hc => by
  unfold cellsOf
  rw [h (C b j) (by simpa using hc 0 (by omega)), cellsOf_ag h (fun i hi => by have := hc (i + 1) (by omega); rwa [show j + (i + 1) = j + 1 + i by omega] at this)]
theorem cellsOf_AL {b : Nat} : ∀ {n j : Nat}, (∀ i, i < n → C b (j + i) ∈ F ∧ ∀ p v, (get A (C b (j + i))).2 = .one (.al p v) → p ∈ F) → ∀ y ∈ cellsOf A b j n, AL F y
 | 0, _, _, y, hy => by simp [cellsOf] at hy
 | n + 1, j, hc, y, hy => by
  unfold cellsOf at hy
  rcases List.mem_cons.1 hy with hy | hy
  ·obtain ⟨c1, c2⟩ := hc 0 (by omega)
   rw [Nat.add_zero] at c1 c2
   split at hy
   ·subst hy; exact c1
   ·subst hy; exact c1
   ·rename_i hp
    subst hy
    cases y with
    | al p v => exact c2 p v (by rw [hp])
    | _ => trivial
   ·subst hy; trivial
  ·refine cellsOf_AL (n := n) (j := j + 1) (fun i hi => ?_) y hy
   have := hc (i + 1) (by omega)
   rwa [show j + (i + 1) = j + 1 + i by omega] at this
end
end Go.Proofs.Ytehkignjdbkeiaa.Vf
end
section
set_option linter.unusedVariables false
set_option linter.unusedSimpArgs false
namespace Go.Proofs.Ytehkignjdbkeiaa.Vf
open Go
attribute [local irreducible] C H
def Loc {R : Type} (E : En) (o : Oper) (A : Ab) (F : List Nat) (Kc : List Up → Option R) (r : R) : Prop :=
 ∃ U, Kc U = some r ∧ ∀ A', Ag A A' F → ∀ {R' : Type} (K' : List Up → Option R'), step E o A' K' = K' U
section
variable {E : En} {A A' : Ab} {F : List Nat} {o : Oper} {R : Type} {Kc : List Up → Option R} {r : R}
theorem bopInt_par {op : BinOp} {k : IntKind} {x y : Int} {Kv : Value → Option R} (h : bopInt op k x y Kv = some r) : ∃ v, Kv v = some r ∧ ∀ {R' : Type} (K' : Value → Option R'), bopInt op k x y K' = K' v := by
 cases op
 case quo =>
  simp only [bopInt] at h ⊢
  cases hy : decide (y = 0) with
  | true => rw [hy] at h; simp at h
  | false => rw [hy] at h; exact ⟨_, h, fun K' => rfl⟩
 case rem =>
  simp only [bopInt] at h ⊢
  cases hy : decide (y = 0) with
  | true => rw [hy] at h; simp at h
  | false => rw [hy] at h; exact ⟨_, h, fun K' => rfl⟩
 all_goals first | exact ⟨_, h, fun K' => rfl⟩ | (simp [bopInt] at h; done)
theorem bopStr_par {op : BinOp} {x y : ByteArray} {Kv : Value → Option R} (h : bopStr op x y Kv = some r) : ∃ v, Kv v = some r ∧ ∀ {R' : Type} (K' : Value → Option R'), bopStr op x y K' = K' v := by
 cases op
 case add =>
  simp only [bopStr] at h ⊢
  cases hy : Nat.ble (x.size + y.size) 9223372036854775807 with
  | false => rw [hy] at h; simp at h
  | true => rw [hy] at h; exact ⟨_, h, fun K' => rfl⟩
 all_goals first | exact ⟨_, h, fun K' => rfl⟩ | (simp [bopStr] at h; done)
theorem bop_par {op : BinOp} {t : Option TI} {e : Bool} {x y : Sv} {Kv : Value → Option R} (h : bop op t e x y Kv = some r) : ∃ v, Kv v = some r ∧ ∀ {R' : Type} (K' : Value → Option R'), bop op t e x y K' = K' v := by
 unfold bop at h
 split at h
 ·rename_i k a k' b
  split at h
  ·cases hb : decide (b < 0) with
   | true => rw [hb] at h; simp at h
   | false => rw [hb] at h; exact ⟨_, h, fun K' => by unfold bop; simp only [hb, cond_false]⟩
  ·cases hb : decide (b < 0) with
   | true => rw [hb] at h; simp at h
   | false => rw [hb] at h; exact ⟨_, h, fun K' => by unfold bop; simp only [hb, cond_false]⟩
  ·rename_i n1 n2
   cases hb : decide (k = k') with
   | false => rw [hb] at h; simp at h
   | true =>
    rw [hb, cond_true] at h
    obtain ⟨v, h1, h2⟩ := bopInt_par h
    refine ⟨v, h1, fun K' => ?_⟩
    unfold bop
    cases op <;> first | exact (n1 rfl).elim | exact (n2 rfl).elim | (simp only [hb, cond_true]; exact h2 K')
 ·obtain ⟨v, h1, h2⟩ := bopStr_par h
  exact ⟨v, h1, fun K' => h2 K'⟩
 ·rename_i a b
  split at h
  ·exact ⟨_, h, fun K' => rfl⟩
  ·exact ⟨_, h, fun K' => rfl⟩
  ·cases h
 ·rename_i l l'
  cases hb : (e && allSc l && allSc l' && (kindsOk t l && kindsOk t l')) with
  | false => rw [hb] at h; simp at h
  | true =>
   rw [hb, cond_true] at h
   split at h
   ·split at h
    ·rename_i b he
     exact ⟨_, h, fun K' => by unfold bop; simp only [hb, cond_true, he]⟩
    ·cases h
   ·split at h
    ·rename_i b he
     exact ⟨_, h, fun K' => by unfold bop; simp only [hb, cond_true, he]⟩
    ·cases h
   ·cases h
 ·cases h
theorem uop_par {op : UnOp} {x : Sv} {Kv : Value → Option R} (h : uop op x Kv = some r) : ∃ v, Kv v = some r ∧ ∀ {R' : Type} (K' : Value → Option R'), uop op x K' = K' v := by
 unfold uop at h
 split at h
 ·exact ⟨_, h, fun K' => rfl⟩
 ·exact ⟨_, h, fun K' => rfl⟩
 ·exact ⟨_, h, fun K' => rfl⟩
 ·cases h
theorem conv_par {t t' : Option TI} {x : Sv} {Kv : Sv → Option R} (h : conv t t' x Kv = some r) : ∃ v, Kv v = some r ∧ ∀ {R' : Type} (K' : Sv → Option R'), conv t t' x K' = K' v := by
 unfold conv at h
 split at h
 ·exact ⟨_, h, fun K' => rfl⟩
 ·exact ⟨_, h, fun K' => rfl⟩
 ·rename_i e _ _ _ _ e' xs
  cases hb : Nat.beq e e' with
  | false => rw [hb] at h; simp at h
  | true => rw [hb] at h; exact ⟨_, h, fun K' => by unfold conv; simp only [hb, cond_true]⟩
 ·rename_i e _ _ _ _ e' xs
  cases hb : Nat.beq e e' with
  | false => rw [hb] at h; simp at h
  | true => rw [hb] at h; exact ⟨_, h, fun K' => by unfold conv; simp only [hb, cond_true]⟩
 ·rename_i s
  cases hb : Nat.ble s.size 140737488355328 with
  | false => rw [hb] at h; simp at h
  | true => rw [hb] at h; exact ⟨_, h, fun K' => by unfold conv; simp only [hb, cond_true]⟩
 ·cases h
theorem minMax_par {mx : Bool} : ∀ {l : List Sv} {k : IntKind} {x : Int} {Kv : Value → Option R}, minMax mx l k x Kv = some r → ∃ v, Kv v = some r ∧ ∀ {R' : Type} (K' : Value → Option R'), minMax mx l k x K' = K' v := by
 intro l
 induction l with
 | nil => intro k x Kv h; exact ⟨_, h, fun K' => rfl⟩
 | cons s l ih =>
  intro k x Kv h
  unfold minMax at h
  split at h
  ·rename_i heq; cases heq
  ·rename_i k0 x0 K0 l9 k9 x9 K9 k' y l0 heq
   cases heq
   cases hb : decide (k0 = k') with
   | false => rw [hb] at h; simp at h
   | true =>
    rw [hb, cond_true] at h
    obtain ⟨v, h1, h2⟩ := ih h
    exact ⟨v, h1, fun K' => by conv => { lhs; unfold minMax }; simp only [hb, cond_true]; exact h2 K'⟩
  ·cases h
theorem bnds_par {lo hi : Option Int} {n : Nat} {Kv : Unit → Option R} (h : bnds lo hi n Kv = some r) : Kv () = some r ∧ ∀ {R' : Type} (K' : Unit → Option R'), bnds lo hi n K' = K' () := by
 unfold bnds at h
 split at h
 ·exact ⟨h, fun K' => rfl⟩
 ·rename_i l
  cases h1 : decide (0 ≤ l) with
  | false => rw [h1] at h; simp at h
  | true =>
   rw [h1, cond_true] at h
   cases h2 : decide (l ≤ (n : Int)) with
   | false => rw [h2] at h; simp at h
   | true => rw [h2, cond_true] at h; exact ⟨h, fun K' => by unfold bnds; simp only [h1, h2, cond_true]⟩
 ·rename_i l
  cases h1 : decide (0 ≤ l) with
  | false => rw [h1] at h; simp at h
  | true =>
   rw [h1, cond_true] at h
   cases h2 : decide (l ≤ (n : Int)) with
   | false => rw [h2] at h; simp at h
   | true => rw [h2, cond_true] at h; exact ⟨h, fun K' => by unfold bnds; simp only [h1, h2, cond_true]⟩
 ·rename_i l u
  cases h1 : decide (0 ≤ l) with
  | false => rw [h1] at h; simp at h
  | true =>
   rw [h1, cond_true] at h
   cases h2 : decide (l ≤ u) with
   | false => rw [h2] at h; simp at h
   | true =>
    rw [h2, cond_true] at h
    cases h3 : decide (u ≤ (n : Int)) with
    | false => rw [h3] at h; simp at h
    | true => rw [h3, cond_true] at h; exact ⟨h, fun K' => by unfold bnds; simp only [h1, h2, h3, cond_true]⟩
def RXs (A : Ab) (F : List Nat) (o : Oper) : Prop := (∀ d, o.dst = some d → d ∈ F ∧ H d ∈ F) ∧ ∀ x ∈ opsOf o.op, RX A F x
theorem loc_binOp {op : BinOp} {T T' : TypeId} {x y : Operand} {d : Nat} (ho : o.op = .binOp op T x y T') (hod : o.dst = some d) (hx : RX A F x) (hy : RX A F y) (h : step E o A Kc = some r) : Loc E o A F Kc r := by
 unfold step at h
 rw [ho, hod] at h
 simp only at h
 split at h
 ·rename_i s s' hs hs'
  obtain ⟨v, h1, h2⟩ := bop_par h
  refine ⟨_, h1, fun A' hA R' K' => ?_⟩
  unfold step
  rw [ho, hod]
  simp only [opT_ag hA hx, opT_ag hA hy, hs, hs']
  exact h2 _
 ·cases h
theorem loc_unOp {op : UnOp} {T : TypeId} {x : Operand} {d : Nat} (ho : o.op = .unOp op T x) (hod : o.dst = some d) (hx : RX A F x) (h : step E o A Kc = some r) : Loc E o A F Kc r := by
 unfold step at h
 rw [ho, hod] at h
 simp only at h
 split at h
 ·rename_i s hs
  obtain ⟨v, h1, h2⟩ := uop_par h
  refine ⟨_, h1, fun A' hA R' K' => ?_⟩
  unfold step
  rw [ho, hod]
  simp only [opT_ag hA hx, hs]
  exact h2 _
 ·cases h
theorem loc_convert {T T' : TypeId} {x : Operand} {d : Nat} (ho : o.op = .convert T T' x) (hod : o.dst = some d) (hx : RX A F x) (h : step E o A Kc = some r) : Loc E o A F Kc r := by
 unfold step at h
 rw [ho, hod] at h
 simp only at h
 split at h
 ·rename_i y hs
  obtain ⟨v, h1, h2⟩ := conv_par h
  refine ⟨_, h1, fun A' hA R' K' => ?_⟩
  unfold step
  rw [ho, hod]
  simp only [opT_ag hA hx, hs, view_ag hA (opT_one hx hs)]
  exact h2 _
 ·cases h
theorem loc_move {x : Operand} {d : Nat} (ho : o.op = .move x) (hod : o.dst = some d) (hx : ∀ t, x = .tmp t → t ∈ F) (h : step E o A Kc = some r) : Loc E o A F Kc r := by
 have hag : ∀ A', Ag A A' F → ∀ T, opT E T A' x = opT E T A x := by
  intro A' hA T
  cases x with
  | tmp t => show (bif Nat.blt t E.nt then some (get A' t).2 else none) = (bif Nat.blt t E.nt then some (get A t).2 else none); rw [hA t (hx t rfl)]
  | const v => exact opT_ag hA (x := .const v) trivial
  | func f => rfl
  | global g => rfl
 unfold step at h
 rw [ho, hod] at h
 simp only at h
 split at h
 ·rename_i s hs
  split at h
  ·rename_i t e r' xs
   cases hn : (E.nm t && !(E.mv d)) with
   | true =>
    rw [hn, cond_true] at h
    refine ⟨_, h, fun A' hA R' K' => ?_⟩
    unfold step
    rw [ho, hod]
    simp only [hag A' hA, hs, hn, cond_true, hA t (hx t rfl)]
   | false =>
    rw [hn, cond_false] at h
    refine ⟨_, h, fun A' hA R' K' => ?_⟩
    unfold step
    rw [ho, hod]
    simp only [hag A' hA, hs, hn, cond_false]
  ·rename_i hne
   refine ⟨_, h, fun A' hA R' K' => ?_⟩
   unfold step
   rw [ho, hod]
   simp only [hag A' hA, hs]
 ·cases h
theorem loc_assign {x : Operand} {d : Nat} (ho : o.op = .assign x) (hod : o.dst = some d) (hx : RX A F x) (h : step E o A Kc = some r) : Loc E o A F Kc r := by
 unfold step at h
 rw [ho, hod] at h
 simp only at h
 split at h
 ·rename_i p v hs
  have hp : p ∈ F := opT_one hx hs
  split at h
  ·rename_i n e r' xs hg
   cases hn : Nat.beq n v with
   | false => rw [hn] at h; simp at h
   | true =>
    rw [hn, cond_true] at h
    cases hr : E.res d with
    | true =>
     rw [hr, cond_true] at h
     refine ⟨_, h, fun A' hA R' K' => ?_⟩
     unfold step
     rw [ho, hod]
     simp only [opT_ag hA hx, hs, hA p hp, hg, hn, hr, cond_true]
    | false =>
     rw [hr, cond_false] at h
     refine ⟨_, h, fun A' hA R' K' => ?_⟩
     unfold step
     rw [ho, hod]
     simp only [opT_ag hA hx, hs, hA p hp, hg, hn, hr, cond_true, cond_false]
  ·rename_i n e r' xs hg
   cases hn : Nat.beq n v with
   | false => rw [hn] at h; simp at h
   | true =>
    rw [hn, cond_true] at h
    refine ⟨_, h, fun A' hA R' K' => ?_⟩
    unfold step
    rw [ho, hod]
    simp only [opT_ag hA hx, hs, hA p hp, hg, hn, cond_true]
  ·cases h
 ·rename_i s hne hs
  refine ⟨_, h, fun A' hA R' K' => ?_⟩
  unfold step
  rw [ho, hod]
  simp only [opT_ag hA hx, hs]
 ·cases h
theorem loc_pick {c x y : Operand} {d : Nat} (ho : o.op = .pick c x y) (hod : o.dst = some d) (hc : RX A F c) (hx : RX A F x) (hy : RX A F y) (h : step E o A Kc = some r) : Loc E o A F Kc r := by
 unfold step at h
 rw [ho, hod] at h
 simp only at h
 split at h
 ·rename_i b hs
  cases b with
  | true =>
   rw [cond_true] at h
   split at h
   ·rename_i u hu
    refine ⟨_, h, fun A' hA R' K' => ?_⟩
    unfold step
    rw [ho, hod]
    simp only [opT_ag hA hc, opT_ag hA hx, hs, hu, cond_true]
   ·cases h
  | false =>
   rw [cond_false] at h
   split at h
   ·rename_i u hu
    refine ⟨_, h, fun A' hA R' K' => ?_⟩
    unfold step
    rw [ho, hod]
    simp only [opT_ag hA hc, opT_ag hA hy, hs, hu, cond_false]
   ·cases h
 ·cases h
def RP (A : Ab) (F : List Nat) : Operand → Prop
 | .tmp t => t ∈ F ∧ ∀ y ∈ parts (get A t).2, (∀ b v n, y = .bp b v n → H b ∈ F) ∧ (∀ p v i n, y = .ep p v i n → p ∈ F) ∧ (∀ p v pi e r, ∀ xs : List (Ty.den r), ∀ i n, y = .dp p v pi e r xs i n → p ∈ F)
 | _ => True
theorem rdHs_mem : ∀ {l : List Lf}, (∀ p ∈ rdHs l, p ∈ F) → ∀ y ∈ l, (∀ b v n, y = .bp b v n → H b ∈ F) ∧ (∀ p v i n, y = .ep p v i n → p ∈ F) ∧ (∀ p v pi e r, ∀ xs : List (Ty.den r), ∀ i n, y = .dp p v pi e r xs i n → p ∈ F)
 | [], _, y, hy => by simp at hy
 | z :: l, h, y, hy => by
  unfold rdHs at h
  rcases List.mem_cons.1 hy with rfl | hy
  ·refine ⟨fun b v n e => h _ (List.mem_append_left _ ?_), fun p v i n e => h _ (List.mem_append_left _ ?_), fun p v pi e0 r xs i n e => h _ (List.mem_append_left _ ?_)⟩ <;> (subst e; simp [rdH])
  ·exact rdHs_mem (fun p hp => h p (List.mem_append_right _ hp)) y hy
theorem rdP_RP {x : Operand} (h : ∀ p ∈ rdP A x, p ∈ F) : RP A F x := by
 cases x with
 | tmp t =>
  have h : ∀ p ∈ t :: rdHs (parts (get A t).2), p ∈ F := h
  exact ⟨h t (by simp), rdHs_mem fun p hp => h p (List.mem_cons_of_mem _ hp)⟩
 | _ => trivial
theorem RP.opT {x : Operand} {T : TypeId} (hA : Ag A A' F) (hx : RP A F x) : Vf.opT E T A' x = Vf.opT E T A x := by
 cases x with
 | tmp t => show (bif Nat.blt t E.nt then some (get A' t).2 else none) = (bif Nat.blt t E.nt then some (get A t).2 else none); rw [hA t hx.1]
 | const v => exact opT_ag hA (x := .const v) trivial
 | func f => rfl
 | global g => rfl
theorem RP.live {x : Operand} {T : TypeId} {y : Lf} (hA : Ag A A' F) (hx : RP A F x) (h : Vf.opT E T A x = some (.one y)) : liveP A' y = liveP A y := by
 cases x with
 | tmp t =>
  have h : (bif Nat.blt t E.nt then some (get A t).2 else none) = some (.one y) := h
  cases hb : Nat.blt t E.nt with
  | false => rw [hb] at h; simp at h
  | true =>
   rw [hb] at h
   simp only [cond_true, Option.some.injEq] at h
   obtain ⟨h1, h2, h3⟩ := hx.2 y (by rw [h]; simp [parts])
   cases y with
   | bp b v n => show Nat.beq (get A' (H b)).1 v = Nat.beq (get A (H b)).1 v; rw [hA _ (h1 b v n rfl)]
   | ep p v i n => simp only [liveP]; rw [hA _ (h2 p v i n rfl)]
   | dp p v pi e r xs i n => show Nat.beq (get A' p).1 v = Nat.beq (get A p).1 v; rw [hA _ (h3 p v pi e r xs i n rfl)]
   | _ => rfl
 | const v => exact liveP_ag hA (opT_one (x := .const v) (F := F) trivial h)
 | func f => exact liveP_ag hA (opT_one (x := .func f) (F := F) trivial h)
 | global g => exact liveP_ag hA (opT_one (x := .global g) (F := F) trivial h)
theorem loc_nilCheck {x : Operand} {d : Nat} (ho : o.op = .nilCheck x) (hod : o.dst = some d) (hx : RP A F x) (h : step E o A Kc = some r) : Loc E o A F Kc r := by
 unfold step at h
 rw [ho, hod] at h
 simp only at h
 split at h
 ·rename_i y hs
  cases hl : liveP A y with
  | false => rw [hl] at h; simp at h
  | true =>
   rw [hl, cond_true] at h
   refine ⟨_, h, fun A' hA R' K' => ?_⟩
   unfold step
   rw [ho, hod]
   simp only [hx.opT hA, hs, hx.live hA hs, hl, cond_true]
 ·cases h
theorem loc_fieldAddr {T : TypeId} {x : Operand} {j d : Nat} (ho : o.op = .fieldAddr T x j) (hod : o.dst = some d) (hx : RP A F x) (h : step E o A Kc = some r) : Loc E o A F Kc r := by
 unfold step at h
 rw [ho, hod] at h
 simp only at h
 split at h
 ·rename_i ti y hT hs
  split at h
  ·rename_i f hf
   cases hl : (ti.ag && liveP A y) with
   | false => rw [hl] at h; simp at h
   | true =>
    rw [hl, cond_true] at h
    refine ⟨_, h, fun A' hA R' K' => ?_⟩
    unfold step
    rw [ho, hod]
    simp only [hT, hx.opT hA, hs, hf, hx.live hA hs, hl, cond_true]
  ·cases h
 ·cases h
theorem loc_extract {t j d : Nat} (ho : o.op = .extract (.tmp t) j) (hod : o.dst = some d) (ht : t ∈ F) (h : step E o A Kc = some r) : Loc E o A F Kc r := by
 unfold step at h
 rw [ho, hod] at h
 simp only at h
 cases hb : Nat.blt t E.nt with
 | false => rw [hb] at h; simp at h
 | true =>
  rw [hb, cond_true] at h
  split at h
  ·rename_i vs hg
   split at h
   ·rename_i ag l hn
    split at h
    ·rename_i s hs
     cases hw : ownIn l with
     | true =>
      rw [hw, cond_true] at h
      refine ⟨_, h, fun A' hA R' K' => ?_⟩
      unfold step
      rw [ho, hod]
      simp only [hb, cond_true, hA t ht, hg, hn, hs, hw]
     | false =>
      rw [hw, cond_false] at h
      refine ⟨_, h, fun A' hA R' K' => ?_⟩
      unfold step
      rw [ho, hod]
      simp only [hb, cond_true, hA t ht, hg, hn, hs, hw, cond_false]
    ·cases h
   ·cases h
  ·cases h
theorem loc_field {T : TypeId} {t j d : Nat} (ho : o.op = .field T (.tmp t) j) (hod : o.dst = some d) (ht : t ∈ F) (h : step E o A Kc = some r) : Loc E o A F Kc r := by
 unfold step at h
 rw [ho, hod] at h
 simp only at h
 split at h
 ·rename_i ti l hT hg
  split at h
  ·rename_i off z ag hn
   split at h
   ·rename_i s hs
    cases hb : (ti.ag && Nat.blt t E.nt && Nat.ble (off + z) l.length) with
    | false => rw [hb] at h; simp at h
    | true =>
     rw [hb, cond_true] at h
     cases hw : ownIn ((l.drop off).take z) with
     | true =>
      rw [hw, cond_true] at h
      refine ⟨_, h, fun A' hA R' K' => ?_⟩
      unfold step
      rw [ho, hod]
      simp only [hT, hA t ht, hg, hn, hs, hb, hw, cond_true]
     | false =>
      rw [hw, cond_false] at h
      refine ⟨_, h, fun A' hA R' K' => ?_⟩
      unfold step
      rw [ho, hod]
      simp only [hT, hA t ht, hg, hn, hs, hb, hw, cond_true, cond_false]
   ·cases h
  ·cases h
 ·cases h
theorem loc_alloc {T : TypeId} {d : Nat} (ho : o.op = .alloc T) (hod : o.dst = some d) (hH : H d ∈ F) (h : step E o A Kc = some r) : Loc E o A F Kc r := by
 unfold step at h
 rw [ho, hod] at h
 simp only at h
 split at h
 ·rename_i ti hT
  cases hb : (Nat.blt ti.ty.sz 999 && Nat.ble E.np d) with
  | false => rw [hb] at h; simp at h
  | true =>
   rw [hb, cond_true] at h
   refine ⟨_, h, fun A' hA R' K' => ?_⟩
   unfold step
   rw [ho, hod]
   simp only [hT, hb, cond_true, hA _ hH]
 ·cases h
theorem RL.als {s : Sv} (h : ∀ y ∈ parts s, RL A F y) : ∀ y ∈ parts s, AL F y := fun y hy => (h y hy).al
theorem storableA_ag (hA : Ag A A' F) : ∀ {l : List Lf}, (∀ y ∈ l, AL F y) → storableA A' l = storableA A l
 | [], _ => rfl
 | y :: l, h => by
  have ih := storableA_ag hA (l := l) (fun z hz => h z (List.mem_cons_of_mem _ hz))
  cases y with
  | al p v => simp only [storableA, ih, seen_ag hA (h (.al p v) (by simp))]
  | _ => simp only [storableA, ih]
theorem loc_box {T : TypeId} {x : Operand} {d : Nat} (ho : o.op = .box T x) (hod : o.dst = some d) (hH : H d ∈ F) (hx : RX A F x) (h : step E o A Kc = some r) : Loc E o A F Kc r := by
 unfold step at h
 rw [ho, hod] at h
 simp only at h
 split at h
 ·rename_i ti s hT hs
  have hal := RL.als (opT_RL hx hs)
  cases hmv : mvO E x with
  | true =>
   rw [hmv, cond_true] at h
   cases hb : (storableA A (parts s) && Nat.beq (parts s).length ti.ty.sz && Nat.blt ti.ty.sz 999 && Nat.ble E.np d) with
   | false => rw [hb] at h; simp at h
   | true =>
    rw [hb, cond_true] at h
    refine ⟨_, h, fun A' hA R' K' => ?_⟩
    unfold step
    rw [ho, hod]
    simp only [hT, opT_ag hA hx, hs, hmv, storableA_ag hA hal, hb, cond_true, hA _ hH]
  | false =>
  rw [hmv, cond_false] at h
  cases hb : (storable ((parts s).map (kept A)) && Nat.beq ((parts s).map (kept A)).length ti.ty.sz && Nat.blt ti.ty.sz 999 && Nat.ble E.np d) with
  | false => rw [hb] at h; simp at h
  | true =>
   rw [hb, cond_true] at h
   refine ⟨_, h, fun A' hA R' K' => ?_⟩
   unfold step
   rw [ho, hod]
   simp only [hT, opT_ag hA hx, hs, hmv, cond_false, keptM_ag hA hal, hb, cond_true, costs_ag hA hal, hA _ hH]
 ·cases h
theorem loc_load {T : TypeId} {x : Operand} {d : Nat} (ho : o.op = .load T x) (hod : o.dst = some d) (hx : RX A F x) (h : step E o A Kc = some r) : Loc E o A F Kc r := by
 unfold step at h
 rw [ho, hod] at h
 simp only at h
 split at h
 ·rename_i ti b v off hT hs
  obtain ⟨h1, h2⟩ : RL A F (.bp b v off) := opT_one hx hs
  split at h
  ·rename_i n m hg
   cases hb : (Nat.beq n v && Nat.ble (off + ti.ty.sz) m) with
   | false => rw [hb] at h; simp at h
   | true =>
    rw [hb, cond_true] at h
    have hle : off + ti.ty.sz ≤ m := by
     simp only [Bool.and_eq_true] at hb
     exact Nat.le_of_ble_eq_true hb.2
    have hcell : ∀ i, i < ti.ty.sz → C b (off + i) ∈ F := fun i hi => (h2 m (by rw [hg]) (off + i) (by omega) (by omega)).1
    split at h
    ·rename_i s hp
     refine ⟨_, h, fun A' hA R' K' => ?_⟩
     unfold step
     rw [ho, hod]
     simp only [hT, opT_ag hA hx, hs, hA _ h1, hg, hb, cond_true, cellsOf_ag hA hcell, hp]
    ·cases h
  ·cases h
 ·rename_i ti p v i off hT hs
  have hp : p ∈ F := opT_one hx hs
  split at h
  ·rename_i n e r' xs hg
   cases hb : (Nat.beq n v && noOw r' && Nat.ble (off + ti.ty.sz) r'.sz) with
   | false => rw [hb] at h; simp at h
   | true =>
    rw [hb, cond_true] at h
    split at h
    ·rename_i s hp2
     refine ⟨_, h, fun A' hA R' K' => ?_⟩
     unfold step
     rw [ho, hod]
     simp only [hT, opT_ag hA hx, hs, hA _ hp, hg, hb, cond_true, hp2]
    ·cases h
  ·cases h
 ·rename_i ti p v pi e0 r' xs i off hT hs
  have hp : p ∈ F := opT_one hx hs
  cases hb : (Nat.beq (get A p).1 v && Nat.ble (off + ti.ty.sz) r'.sz) with
  | false => rw [hb] at h; simp at h
  | true =>
   rw [hb, cond_true] at h
   split at h
   ·rename_i s hp2
    refine ⟨_, h, fun A' hA R' K' => ?_⟩
    unfold step
    rw [ho, hod]
    simp only [hT, opT_ag hA hx, hs, hA _ hp, hb, cond_true, hp2]
   ·cases h
 ·rename_i ti r' x' off hT hs
  cases hb : Nat.ble (off + ti.ty.sz) r'.sz with
  | false => rw [hb] at h; simp at h
  | true =>
   rw [hb, cond_true] at h
   split at h
   ·rename_i s hp2
    refine ⟨_, h, fun A' hA R' K' => ?_⟩
    unfold step
    rw [ho, hod]
    simp only [hT, opT_ag hA hx, hs, hb, cond_true, hp2]
   ·cases h
 ·cases h
theorem storableD_ag (h : Ag A A' F) : ∀ {l : List Lf}, (∀ p v pi e r, ∀ xs : List (Ty.den r), Lf.da p v pi e r xs ∈ l → p ∈ F) → storableD A' l = storableD A l
 | [], _ => rfl
 | y :: l, hp => by
  have ih := storableD_ag h (l := l) (fun p v pi e r xs hm => hp p v pi e r xs (List.mem_cons_of_mem _ hm))
  cases y with
  | da p v pi e r xs => simp only [storableD, ih, h p (hp p v pi e r xs (by simp))]
  | _ => simp only [storableD, ih]
theorem kept_da {l : List Lf} (h : ∀ y ∈ l, RL A F y) : ∀ p v pi e r, ∀ xs : List (Ty.den r), Lf.da p v pi e r xs ∈ l.map (kept A) → p ∈ F := by
 intro p v pi e r xs hm
 obtain ⟨y, hy, he⟩ := List.mem_map.1 hm
 cases y with
 | da p' v' pi' e' r' xs' =>
  simp only [kept, Lf.da.injEq] at he
  have := h _ hy
  rw [he.1] at this
  exact this
 | al q w =>
  exfalso
  simp only [kept] at he
  have h1 : ∀ z : Lf, (∀ p v pi e r, ∀ xs : List (Ty.den r), z ≠ .da p v pi e r xs) → ∀ p v pi e r, ∀ xs : List (Ty.den r), calm z ≠ .da p v pi e r xs := by
   intro z hz p v pi e r xs
   cases z <;> simp [calm]
   exact fun e1 e2 e3 e4 e5 e6 => hz _ _ _ _ _ _ rfl
  refine h1 (seen A (.al q w)) ?_ _ _ _ _ _ _ he
  intro p v pi e r xs
  simp only [seen]
  split
  ·rename_i n _ _ _ _
   cases Nat.beq n w <;> simp
  ·rename_i n _ _ _ _
   cases Nat.beq n w <;> simp
  ·simp
 | _ => simp [kept] at he
theorem xferLs_ag : ∀ {ts : List Ty} {l : List Lf} {A A' : Ab}, Ag A A' F → (∀ y ∈ l, AL F y) → xferLs A' ts l = xferLs A ts l
 | [], [], _, _, _, _ => rfl
 | [], _ :: _, _, _, _, _ => rfl
 | t :: ts, [], _, _, _, _ => by cases t <;> rfl
 | t :: ts, x :: l, A, A', hA, hy => by
  have hx : AL F x := hy x (by simp)
  have hl : ∀ y ∈ l, AL F y := fun y hm => hy y (List.mem_cons_of_mem _ hm)
  cases t <;> simp only [xferLs, seen_ag hA hx, kept_ag hA hx, cost_ag hA hx, xferLs_ag (hA.ups (U := tookP x)) hl, xferLs_ag (hA.ups (U := cost A x)) hl]
theorem asIs_ag (hA : Ag A A' F) : ∀ {l : List Lf}, (∀ y ∈ l, AL F y) → asIs A' l = asIs A l
 | [], _ => rfl
 | y :: l, h => by simp only [asIs, seen_ag hA (h y (by simp)), asIs_ag hA (fun z hz => h z (List.mem_cons_of_mem _ hz))]
theorem giveL_ag {x : Operand} {s : Sv} (hA : Ag A A' F) (hal : ∀ y ∈ parts s, AL F y) : giveL A' x s (asIs (ups A' (gone x s)) (parts s)) = giveL A x s (asIs (ups A (gone x s)) (parts s)) := by
 have hA1 := hA.ups (U := gone x s)
 unfold giveL
 rw [asIs_ag hA1 hal, xferLs_ag hA1 hal]
theorem loc_store {T : TypeId} {x y : Operand} (ho : o.op = .store T x y) (hod : o.dst = none) (hx : RX A F x) (hy : RX A F y) (h : step E o A Kc = some r) : Loc E o A F Kc r := by
 unfold step at h
 rw [ho, hod] at h
 simp only at h
 split at h
 ·rename_i ti b v off s hT hs hs2
  obtain ⟨h1, h2⟩ : RL A F (.bp b v off) := opT_one hx hs
  have hal := RL.als (opT_RL hy hs2)
  cases hmv : mvO E y with
  | true =>
   rw [hmv, cond_true] at h
   split at h
   ·rename_i m vs hgive
    split at h
    ·rename_i n hd hg
     cases hb : (Nat.beq n v && Nat.beq m.length ti.ty.sz && Nat.ble (off + ti.ty.sz) hd) with
     | false => rw [hb] at h; simp at h
     | true =>
      rw [hb, cond_true] at h
      refine ⟨_, h, fun A' hA R' K' => ?_⟩
      unfold step
      rw [ho, hod]
      simp only [hT, opT_ag hA hx, hs, opT_ag hA hy, hs2, hmv, giveL_ag hA hal, hgive, hA _ h1, hg, hb, cond_true]
    ·cases h
   ·cases h
  | false =>
  rw [hmv, cond_false] at h
  split at h
  ·rename_i n m hg
   cases hb : (Nat.beq n v && storableD (ups A (costs A (parts s) ++ gone y s)) ((parts s).map (kept A)) && Nat.beq ((parts s).map (kept A)).length ti.ty.sz && Nat.ble (off + ti.ty.sz) m) with
   | false => rw [hb] at h; simp at h
   | true =>
    rw [hb, cond_true] at h
    refine ⟨_, h, fun A' hA R' K' => ?_⟩
    unfold step
    rw [ho, hod]
    simp only [hT, opT_ag hA hx, hs, opT_ag hA hy, hs2, hmv, cond_false, hA _ h1, hg, keptM_ag hA hal, costs_ag hA hal, storableD_ag (hA.ups (U := costs A (parts s) ++ gone y s)) (kept_da (opT_RL hy hs2)), hb, cond_true]
  ·cases h
 ·rename_i ti p v i off s hT hs hs2
  have hp : p ∈ F := opT_one hx hs
  have hal := RL.als (opT_RL hy hs2)
  split at h
  ·rename_i n e r' xs hg
   cases hb : (Nat.beq n v && noOw r' && storable ((parts s).map (kept A)) && Nat.beq ((parts s).map (fun x => calm (kept A x))).length ti.ty.sz && Nat.ble (off + ((parts s).map (fun x => calm (kept A x))).length) r'.sz && apart p (costs A (parts s) ++ gone y s)) with
   | false => rw [hb] at h; simp at h
   | true =>
    rw [hb, cond_true] at h
    split at h
    ·rename_i z hz
     refine ⟨_, h, fun A' hA R' K' => ?_⟩
     unfold step
     rw [ho, hod]
     simp only [hT, opT_ag hA hx, hs, opT_ag hA hy, hs2, hA _ hp, hg, keptM_ag hA hal, calmM_ag hA hal, hb, cond_true, costs_ag hA hal, hz]
    ·cases h
  ·cases h
 ·rename_i ti p v q e r1 xs i off s hT hs hs2
  have hp : p ∈ F := opT_one hx hs
  have hal := RL.als (opT_RL hy hs2)
  split at h
  ·rename_i m us hgive
   split at h
   ·rename_i n E0 R0 XS hg
    cases hb : (Nat.beq n v && owned m && Nat.beq m.length ti.ty.sz && Nat.ble (off + m.length) r1.sz && apart p us && allOw R0) with
    | false => rw [hb] at h; simp at h
    | true =>
     rw [hb, cond_true] at h
     split at h
     ·rename_i z hz
      split at h
      ·rename_i XS' hput
       refine ⟨_, h, fun A' hA R' K' => ?_⟩
       unfold step
       rw [ho, hod]
       simp only [hT, opT_ag hA hx, hs, opT_ag hA hy, hs2, give_ag hA hal, hgive, hA _ hp, hg, hb, cond_true, hz, hput]
      ·cases h
     ·cases h
   ·cases h
  ·cases h
 ·cases h
end
end Go.Proofs.Ytehkignjdbkeiaa.Vf
end
