/- An operation does the same wherever it reads the same: numbers, moves, loads, stores. -/
import Derived.Test.YtehkignjdbkeiaaWh
set_option linter.unusedVariables false
set_option linter.unusedSimpArgs false
namespace Go.Proofs.Ytehkignjdbkeiaa.Vf
open Go
attribute [local irreducible] C H

def Loc {R : Type} (E : En) (o : Oper) (A : Ab) (F : List Nat) (Kc : List Up → Option R) (r : R) : Prop :=
  ∃ U, Kc U = some r ∧ ∀ A', Ag A A' F → ∀ {R' : Type} (K' : List Up → Option R'), step E o A' K' = K' U

section
variable {E : En} {A A' : Ab} {F : List Nat} {o : Oper} {R : Type} {Kc : List Up → Option R} {r : R}

theorem bopInt_par {op : BinOp} {k : IntKind} {x y : Int} {Kv : Value → Option R} (h : bopInt op k x y Kv = some r) : ∃ v, Kv v = some r ∧ ∀ {R' : Type} (K' : Value → Option R'), bopInt op k x y K' = K' v := by
  cases op
  case quo =>
    simp only [bopInt] at h ⊢
    cases hy : decide (y = 0) with
    | true => rw [hy] at h; simp at h
    | false => rw [hy] at h; exact ⟨_, h, fun K' => rfl⟩
  case rem =>
    simp only [bopInt] at h ⊢
    cases hy : decide (y = 0) with
    | true => rw [hy] at h; simp at h
    | false => rw [hy] at h; exact ⟨_, h, fun K' => rfl⟩
  all_goals first | exact ⟨_, h, fun K' => rfl⟩ | (simp [bopInt] at h; done)

theorem bopStr_par {op : BinOp} {x y : ByteArray} {Kv : Value → Option R} (h : bopStr op x y Kv = some r) : ∃ v, Kv v = some r ∧ ∀ {R' : Type} (K' : Value → Option R'), bopStr op x y K' = K' v := by
  cases op
  case add =>
    simp only [bopStr] at h ⊢
    cases hy : Nat.ble (x.size + y.size) 9223372036854775807 with
    | false => rw [hy] at h; simp at h
    | true => rw [hy] at h; exact ⟨_, h, fun K' => rfl⟩
  all_goals first | exact ⟨_, h, fun K' => rfl⟩ | (simp [bopStr] at h; done)

theorem bop_par {op : BinOp} {t : Option TI} {e : Bool} {x y : Sv} {Kv : Value → Option R} (h : bop op t e x y Kv = some r) : ∃ v, Kv v = some r ∧ ∀ {R' : Type} (K' : Value → Option R'), bop op t e x y K' = K' v := by
  unfold bop at h
  split at h
  · rename_i k a k' b
    split at h
    · cases hb : decide (b < 0) with
      | true => rw [hb] at h; simp at h
      | false => rw [hb] at h; exact ⟨_, h, fun K' => by unfold bop; simp only [hb, cond_false]⟩
    · cases hb : decide (b < 0) with
      | true => rw [hb] at h; simp at h
      | false => rw [hb] at h; exact ⟨_, h, fun K' => by unfold bop; simp only [hb, cond_false]⟩
    · rename_i n1 n2
      cases hb : decide (k = k') with
      | false => rw [hb] at h; simp at h
      | true =>
        rw [hb, cond_true] at h
        obtain ⟨v, h1, h2⟩ := bopInt_par h
        refine ⟨v, h1, fun K' => ?_⟩
        unfold bop
        cases op <;> first | exact (n1 rfl).elim | exact (n2 rfl).elim | (simp only [hb, cond_true]; exact h2 K')
  · obtain ⟨v, h1, h2⟩ := bopStr_par h
    exact ⟨v, h1, fun K' => h2 K'⟩
  · rename_i a b
    split at h
    · exact ⟨_, h, fun K' => rfl⟩
    · exact ⟨_, h, fun K' => rfl⟩
    · cases h
  · rename_i l l'
    cases hb : (e && allSc l && allSc l' && (kindsOk t l && kindsOk t l')) with
    | false => rw [hb] at h; simp at h
    | true =>
      rw [hb, cond_true] at h
      split at h
      · split at h
        · rename_i b he
          exact ⟨_, h, fun K' => by unfold bop; simp only [hb, cond_true, he]⟩
        · cases h
      · split at h
        · rename_i b he
          exact ⟨_, h, fun K' => by unfold bop; simp only [hb, cond_true, he]⟩
        · cases h
      · cases h
  · cases h

theorem uop_par {op : UnOp} {x : Sv} {Kv : Value → Option R} (h : uop op x Kv = some r) : ∃ v, Kv v = some r ∧ ∀ {R' : Type} (K' : Value → Option R'), uop op x K' = K' v := by
  unfold uop at h
  split at h
  · exact ⟨_, h, fun K' => rfl⟩
  · exact ⟨_, h, fun K' => rfl⟩
  · exact ⟨_, h, fun K' => rfl⟩
  · cases h

theorem conv_par {t t' : Option TI} {x : Sv} {Kv : Sv → Option R} (h : conv t t' x Kv = some r) : ∃ v, Kv v = some r ∧ ∀ {R' : Type} (K' : Sv → Option R'), conv t t' x K' = K' v := by
  unfold conv at h
  split at h
  · exact ⟨_, h, fun K' => rfl⟩
  · exact ⟨_, h, fun K' => rfl⟩
  · rename_i e _ _ _ _ e' xs
    cases hb : Nat.beq e e' with
    | false => rw [hb] at h; simp at h
    | true => rw [hb] at h; exact ⟨_, h, fun K' => by unfold conv; simp only [hb, cond_true]⟩
  · rename_i e _ _ _ _ e' xs
    cases hb : Nat.beq e e' with
    | false => rw [hb] at h; simp at h
    | true => rw [hb] at h; exact ⟨_, h, fun K' => by unfold conv; simp only [hb, cond_true]⟩
  · rename_i s
    cases hb : Nat.ble s.size 140737488355328 with
    | false => rw [hb] at h; simp at h
    | true => rw [hb] at h; exact ⟨_, h, fun K' => by unfold conv; simp only [hb, cond_true]⟩
  · cases h

theorem minMax_par {mx : Bool} : ∀ {l : List Sv} {k : IntKind} {x : Int} {Kv : Value → Option R}, minMax mx l k x Kv = some r → ∃ v, Kv v = some r ∧ ∀ {R' : Type} (K' : Value → Option R'), minMax mx l k x K' = K' v := by
  intro l
  induction l with
  | nil => intro k x Kv h; exact ⟨_, h, fun K' => rfl⟩
  | cons s l ih =>
    intro k x Kv h
    unfold minMax at h
    split at h
    · rename_i heq; cases heq
    · rename_i k0 x0 K0 l9 k9 x9 K9 k' y l0 heq
      cases heq
      cases hb : decide (k0 = k') with
      | false => rw [hb] at h; simp at h
      | true =>
        rw [hb, cond_true] at h
        obtain ⟨v, h1, h2⟩ := ih h
        exact ⟨v, h1, fun K' => by conv => { lhs; unfold minMax }; simp only [hb, cond_true]; exact h2 K'⟩
    · cases h

theorem bnds_par {lo hi : Option Int} {n : Nat} {Kv : Unit → Option R} (h : bnds lo hi n Kv = some r) : Kv () = some r ∧ ∀ {R' : Type} (K' : Unit → Option R'), bnds lo hi n K' = K' () := by
  unfold bnds at h
  split at h
  · exact ⟨h, fun K' => rfl⟩
  · rename_i l
    cases h1 : decide (0 ≤ l) with
    | false => rw [h1] at h; simp at h
    | true =>
      rw [h1, cond_true] at h
      cases h2 : decide (l ≤ (n : Int)) with
      | false => rw [h2] at h; simp at h
      | true => rw [h2, cond_true] at h; exact ⟨h, fun K' => by unfold bnds; simp only [h1, h2, cond_true]⟩
  · rename_i l
    cases h1 : decide (0 ≤ l) with
    | false => rw [h1] at h; simp at h
    | true =>
      rw [h1, cond_true] at h
      cases h2 : decide (l ≤ (n : Int)) with
      | false => rw [h2] at h; simp at h
      | true => rw [h2, cond_true] at h; exact ⟨h, fun K' => by unfold bnds; simp only [h1, h2, cond_true]⟩
  · rename_i l u
    cases h1 : decide (0 ≤ l) with
    | false => rw [h1] at h; simp at h
    | true =>
      rw [h1, cond_true] at h
      cases h2 : decide (l ≤ u) with
      | false => rw [h2] at h; simp at h
      | true =>
        rw [h2, cond_true] at h
        cases h3 : decide (u ≤ (n : Int)) with
        | false => rw [h3] at h; simp at h
        | true => rw [h3, cond_true] at h; exact ⟨h, fun K' => by unfold bnds; simp only [h1, h2, h3, cond_true]⟩

/-- What is wanted of every operand but of a pointer that is not followed. -/
def RXs (A : Ab) (F : List Nat) (o : Oper) : Prop := (∀ d, o.dst = some d → d ∈ F ∧ H d ∈ F) ∧ ∀ x ∈ opsOf o.op, RX A F x

theorem loc_binOp {op : BinOp} {T T' : TypeId} {x y : Operand} {d : Nat} (ho : o.op = .binOp op T x y T') (hod : o.dst = some d) (hx : RX A F x) (hy : RX A F y) (h : step E o A Kc = some r) : Loc E o A F Kc r := by
  unfold step at h
  rw [ho, hod] at h
  simp only at h
  split at h
  · rename_i s s' hs hs'
    obtain ⟨v, h1, h2⟩ := bop_par h
    refine ⟨_, h1, fun A' hA R' K' => ?_⟩
    unfold step
    rw [ho, hod]
    simp only [opT_ag hA hx, opT_ag hA hy, hs, hs']
    exact h2 _
  · cases h

theorem loc_unOp {op : UnOp} {T : TypeId} {x : Operand} {d : Nat} (ho : o.op = .unOp op T x) (hod : o.dst = some d) (hx : RX A F x) (h : step E o A Kc = some r) : Loc E o A F Kc r := by
  unfold step at h
  rw [ho, hod] at h
  simp only at h
  split at h
  · rename_i s hs
    obtain ⟨v, h1, h2⟩ := uop_par h
    refine ⟨_, h1, fun A' hA R' K' => ?_⟩
    unfold step
    rw [ho, hod]
    simp only [opT_ag hA hx, hs]
    exact h2 _
  · cases h

theorem loc_convert {T T' : TypeId} {x : Operand} {d : Nat} (ho : o.op = .convert T T' x) (hod : o.dst = some d) (hx : RX A F x) (h : step E o A Kc = some r) : Loc E o A F Kc r := by
  unfold step at h
  rw [ho, hod] at h
  simp only at h
  split at h
  · rename_i y hs
    obtain ⟨v, h1, h2⟩ := conv_par h
    refine ⟨_, h1, fun A' hA R' K' => ?_⟩
    unfold step
    rw [ho, hod]
    simp only [opT_ag hA hx, hs, seen_ag hA (opT_one hx hs).al]
    exact h2 _
  · cases h

theorem loc_move {x : Operand} {d : Nat} (ho : o.op = .move x) (hod : o.dst = some d) (hx : ∀ t, x = .tmp t → t ∈ F) (h : step E o A Kc = some r) : Loc E o A F Kc r := by
  have hag : ∀ A', Ag A A' F → ∀ T, opT E T A' x = opT E T A x := by
    intro A' hA T
    cases x with
    | tmp t => show (bif Nat.blt t E.nt then some (get A' t).2 else none) = (bif Nat.blt t E.nt then some (get A t).2 else none); rw [hA t (hx t rfl)]
    | const v => exact opT_ag hA (x := .const v) trivial
    | func f => rfl
    | global g => rfl
  unfold step at h
  rw [ho, hod] at h
  simp only at h
  split at h
  · rename_i s hs
    split at h
    · rename_i t e r' xs
      cases hn : E.nm t with
      | true =>
        rw [hn, cond_true] at h
        refine ⟨_, h, fun A' hA R' K' => ?_⟩
        unfold step
        rw [ho, hod]
        simp only [hag A' hA, hs, hn, cond_true, hA t (hx t rfl)]
      | false =>
        rw [hn, cond_false] at h
        refine ⟨_, h, fun A' hA R' K' => ?_⟩
        unfold step
        rw [ho, hod]
        simp only [hag A' hA, hs, hn, cond_false]
    · rename_i hne
      refine ⟨_, h, fun A' hA R' K' => ?_⟩
      unfold step
      rw [ho, hod]
      simp only [hag A' hA, hs]
  · cases h

theorem loc_assign {x : Operand} {d : Nat} (ho : o.op = .assign x) (hod : o.dst = some d) (hx : RX A F x) (h : step E o A Kc = some r) : Loc E o A F Kc r := by
  unfold step at h
  rw [ho, hod] at h
  simp only at h
  split at h
  · rename_i p v hs
    have hp : p ∈ F := opT_one hx hs
    split at h
    · rename_i n e r' xs hg
      cases hn : Nat.beq n v with
      | false => rw [hn] at h; simp at h
      | true =>
        rw [hn, cond_true] at h
        cases hr : E.res d with
        | true =>
          rw [hr, cond_true] at h
          refine ⟨_, h, fun A' hA R' K' => ?_⟩
          unfold step
          rw [ho, hod]
          simp only [opT_ag hA hx, hs, hA p hp, hg, hn, hr, cond_true]
        | false =>
          rw [hr, cond_false] at h
          refine ⟨_, h, fun A' hA R' K' => ?_⟩
          unfold step
          rw [ho, hod]
          simp only [opT_ag hA hx, hs, hA p hp, hg, hn, hr, cond_true, cond_false]
    · rename_i n e r' xs hg
      cases hn : Nat.beq n v with
      | false => rw [hn] at h; simp at h
      | true =>
        rw [hn, cond_true] at h
        refine ⟨_, h, fun A' hA R' K' => ?_⟩
        unfold step
        rw [ho, hod]
        simp only [opT_ag hA hx, hs, hA p hp, hg, hn, cond_true]
    · cases h
  · rename_i s hne hs
    refine ⟨_, h, fun A' hA R' K' => ?_⟩
    unfold step
    rw [ho, hod]
    simp only [opT_ag hA hx, hs]
  · cases h

theorem loc_pick {c x y : Operand} {d : Nat} (ho : o.op = .pick c x y) (hod : o.dst = some d) (hc : RX A F c) (hx : RX A F x) (hy : RX A F y) (h : step E o A Kc = some r) : Loc E o A F Kc r := by
  unfold step at h
  rw [ho, hod] at h
  simp only at h
  split at h
  · rename_i b hs
    cases b with
    | true =>
      rw [cond_true] at h
      split at h
      · rename_i u hu
        refine ⟨_, h, fun A' hA R' K' => ?_⟩
        unfold step
        rw [ho, hod]
        simp only [opT_ag hA hc, opT_ag hA hx, hs, hu, cond_true]
      · cases h
    | false =>
      rw [cond_false] at h
      split at h
      · rename_i u hu
        refine ⟨_, h, fun A' hA R' K' => ?_⟩
        unfold step
        rw [ho, hod]
        simp only [opT_ag hA hc, opT_ag hA hy, hs, hu, cond_false]
      · cases h
  · cases h

/-- A pointer that is not followed. -/
def RP (A : Ab) (F : List Nat) : Operand → Prop
  | .tmp t => t ∈ F ∧ ∀ y ∈ parts (get A t).2, (∀ b v n, y = .bp b v n → H b ∈ F) ∧ (∀ p v i n, y = .ep p v i n → p ∈ F)
  | _ => True

theorem rdHs_mem : ∀ {l : List Lf}, (∀ p ∈ rdHs l, p ∈ F) → ∀ y ∈ l, (∀ b v n, y = .bp b v n → H b ∈ F) ∧ (∀ p v i n, y = .ep p v i n → p ∈ F)
  | [], _, y, hy => by simp at hy
  | z :: l, h, y, hy => by
    unfold rdHs at h
    rcases List.mem_cons.1 hy with rfl | hy
    · refine ⟨fun b v n e => h _ (List.mem_append_left _ ?_), fun p v i n e => h _ (List.mem_append_left _ ?_)⟩ <;> (subst e; simp [rdH])
    · exact rdHs_mem (fun p hp => h p (List.mem_append_right _ hp)) y hy

theorem rdP_RP {x : Operand} (h : ∀ p ∈ rdP A x, p ∈ F) : RP A F x := by
  cases x with
  | tmp t =>
    have h : ∀ p ∈ t :: rdHs (parts (get A t).2), p ∈ F := h
    exact ⟨h t (by simp), rdHs_mem fun p hp => h p (List.mem_cons_of_mem _ hp)⟩
  | _ => trivial

theorem RP.opT {x : Operand} {T : TypeId} (hA : Ag A A' F) (hx : RP A F x) : Vf.opT E T A' x = Vf.opT E T A x := by
  cases x with
  | tmp t => show (bif Nat.blt t E.nt then some (get A' t).2 else none) = (bif Nat.blt t E.nt then some (get A t).2 else none); rw [hA t hx.1]
  | const v => exact opT_ag hA (x := .const v) trivial
  | func f => rfl
  | global g => rfl

theorem RP.live {x : Operand} {T : TypeId} {y : Lf} (hA : Ag A A' F) (hx : RP A F x) (h : Vf.opT E T A x = some (.one y)) : liveP A' y = liveP A y := by
  cases x with
  | tmp t =>
    have h : (bif Nat.blt t E.nt then some (get A t).2 else none) = some (.one y) := h
    cases hb : Nat.blt t E.nt with
    | false => rw [hb] at h; simp at h
    | true =>
      rw [hb] at h
      simp only [cond_true, Option.some.injEq] at h
      obtain ⟨h1, h2⟩ := hx.2 y (by rw [h]; simp [parts])
      cases y with
      | bp b v n => show Nat.beq (get A' (H b)).1 v = Nat.beq (get A (H b)).1 v; rw [hA _ (h1 b v n rfl)]
      | ep p v i n => simp only [liveP]; rw [hA _ (h2 p v i n rfl)]
      | _ => rfl
  | const v => exact liveP_ag hA (opT_one (x := .const v) (F := F) trivial h)
  | func f => exact liveP_ag hA (opT_one (x := .func f) (F := F) trivial h)
  | global g => exact liveP_ag hA (opT_one (x := .global g) (F := F) trivial h)

theorem loc_nilCheck {x : Operand} {d : Nat} (ho : o.op = .nilCheck x) (hod : o.dst = some d) (hx : RP A F x) (h : step E o A Kc = some r) : Loc E o A F Kc r := by
  unfold step at h
  rw [ho, hod] at h
  simp only at h
  split at h
  · rename_i y hs
    cases hl : liveP A y with
    | false => rw [hl] at h; simp at h
    | true =>
      rw [hl, cond_true] at h
      refine ⟨_, h, fun A' hA R' K' => ?_⟩
      unfold step
      rw [ho, hod]
      simp only [hx.opT hA, hs, hx.live hA hs, hl, cond_true]
  · cases h

theorem loc_fieldAddr {T : TypeId} {x : Operand} {j d : Nat} (ho : o.op = .fieldAddr T x j) (hod : o.dst = some d) (hx : RP A F x) (h : step E o A Kc = some r) : Loc E o A F Kc r := by
  unfold step at h
  rw [ho, hod] at h
  simp only at h
  split at h
  · rename_i ti y hT hs
    split at h
    · rename_i f hf
      cases hl : (ti.ag && liveP A y) with
      | false => rw [hl] at h; simp at h
      | true =>
        rw [hl, cond_true] at h
        refine ⟨_, h, fun A' hA R' K' => ?_⟩
        unfold step
        rw [ho, hod]
        simp only [hT, hx.opT hA, hs, hf, hx.live hA hs, hl, cond_true]
    · cases h
  · cases h

theorem loc_extract {t j d : Nat} (ho : o.op = .extract (.tmp t) j) (hod : o.dst = some d) (ht : t ∈ F) (h : step E o A Kc = some r) : Loc E o A F Kc r := by
  unfold step at h
  rw [ho, hod] at h
  simp only at h
  cases hb : Nat.blt t E.nt with
  | false => rw [hb] at h; simp at h
  | true =>
    rw [hb, cond_true] at h
    split at h
    · rename_i vs hg
      split at h
      · rename_i ag l hn
        split at h
        · rename_i s hs
          cases hw : ownIn l with
          | true =>
            rw [hw, cond_true] at h
            refine ⟨_, h, fun A' hA R' K' => ?_⟩
            unfold step
            rw [ho, hod]
            simp only [hb, cond_true, hA t ht, hg, hn, hs, hw]
          | false =>
            rw [hw, cond_false] at h
            refine ⟨_, h, fun A' hA R' K' => ?_⟩
            unfold step
            rw [ho, hod]
            simp only [hb, cond_true, hA t ht, hg, hn, hs, hw, cond_false]
        · cases h
      · cases h
    · cases h

theorem loc_field {T : TypeId} {t j d : Nat} (ho : o.op = .field T (.tmp t) j) (hod : o.dst = some d) (ht : t ∈ F) (h : step E o A Kc = some r) : Loc E o A F Kc r := by
  unfold step at h
  rw [ho, hod] at h
  simp only at h
  split at h
  · rename_i ti l hT hg
    split at h
    · rename_i off z ag hn
      split at h
      · rename_i s hs
        cases hb : (ti.ag && Nat.blt t E.nt && Nat.ble (off + z) l.length) with
        | false => rw [hb] at h; simp at h
        | true =>
          rw [hb, cond_true] at h
          cases hw : ownIn ((l.drop off).take z) with
          | true =>
            rw [hw, cond_true] at h
            refine ⟨_, h, fun A' hA R' K' => ?_⟩
            unfold step
            rw [ho, hod]
            simp only [hT, hA t ht, hg, hn, hs, hb, hw, cond_true]
          | false =>
            rw [hw, cond_false] at h
            refine ⟨_, h, fun A' hA R' K' => ?_⟩
            unfold step
            rw [ho, hod]
            simp only [hT, hA t ht, hg, hn, hs, hb, hw, cond_true, cond_false]
      · cases h
    · cases h
  · cases h

theorem loc_alloc {T : TypeId} {d : Nat} (ho : o.op = .alloc T) (hod : o.dst = some d) (hH : H d ∈ F) (h : step E o A Kc = some r) : Loc E o A F Kc r := by
  unfold step at h
  rw [ho, hod] at h
  simp only at h
  split at h
  · rename_i ti hT
    cases hb : (Nat.blt ti.ty.sz 999 && Nat.ble E.np d) with
    | false => rw [hb] at h; simp at h
    | true =>
      rw [hb, cond_true] at h
      refine ⟨_, h, fun A' hA R' K' => ?_⟩
      unfold step
      rw [ho, hod]
      simp only [hT, hb, cond_true, hA _ hH]
  · cases h

theorem RL.als {s : Sv} (h : ∀ y ∈ parts s, RL A F y) : ∀ y ∈ parts s, AL F y := fun y hy => (h y hy).al

theorem loc_box {T : TypeId} {x : Operand} {d : Nat} (ho : o.op = .box T x) (hod : o.dst = some d) (hH : H d ∈ F) (hx : RX A F x) (h : step E o A Kc = some r) : Loc E o A F Kc r := by
  unfold step at h
  rw [ho, hod] at h
  simp only at h
  split at h
  · rename_i ti s hT hs
    cases hb : (storable ((parts s).map (kept A)) && Nat.beq ((parts s).map (kept A)).length ti.ty.sz && Nat.blt ti.ty.sz 999 && Nat.ble E.np d) with
    | false => rw [hb] at h; simp at h
    | true =>
      rw [hb, cond_true] at h
      refine ⟨_, h, fun A' hA R' K' => ?_⟩
      have hal := RL.als (opT_RL hx hs)
      unfold step
      rw [ho, hod]
      simp only [hT, opT_ag hA hx, hs, keptM_ag hA hal, hb, cond_true, costs_ag hA hal, hA _ hH]
  · cases h

theorem loc_load {T : TypeId} {x : Operand} {d : Nat} (ho : o.op = .load T x) (hod : o.dst = some d) (hx : RX A F x) (h : step E o A Kc = some r) : Loc E o A F Kc r := by
  unfold step at h
  rw [ho, hod] at h
  simp only at h
  split at h
  · rename_i ti b v off hT hs
    obtain ⟨h1, h2⟩ : RL A F (.bp b v off) := opT_one hx hs
    split at h
    · rename_i n m hg
      cases hb : (Nat.beq n v && Nat.ble (off + ti.ty.sz) m) with
      | false => rw [hb] at h; simp at h
      | true =>
        rw [hb, cond_true] at h
        have hle : off + ti.ty.sz ≤ m := by
          simp only [Bool.and_eq_true] at hb
          exact Nat.le_of_ble_eq_true hb.2
        have hcell : ∀ i, i < ti.ty.sz → C b (off + i) ∈ F := fun i hi => (h2 m (by rw [hg]) (off + i) (by omega)).1
        split at h
        · rename_i s hp
          refine ⟨_, h, fun A' hA R' K' => ?_⟩
          unfold step
          rw [ho, hod]
          simp only [hT, opT_ag hA hx, hs, hA _ h1, hg, hb, cond_true, cellsOf_ag hA hcell, hp]
        · cases h
    · cases h
  · rename_i ti p v i off hT hs
    have hp : p ∈ F := opT_one hx hs
    split at h
    · rename_i n e r' xs hg
      cases hb : (Nat.beq n v && Nat.ble (off + ti.ty.sz) r'.sz) with
      | false => rw [hb] at h; simp at h
      | true =>
        rw [hb, cond_true] at h
        split at h
        · rename_i s hp2
          refine ⟨_, h, fun A' hA R' K' => ?_⟩
          unfold step
          rw [ho, hod]
          simp only [hT, opT_ag hA hx, hs, hA _ hp, hg, hb, cond_true, hp2]
        · cases h
    · cases h
  · rename_i ti r' x' off hT hs
    cases hb : Nat.ble (off + ti.ty.sz) r'.sz with
    | false => rw [hb] at h; simp at h
    | true =>
      rw [hb, cond_true] at h
      split at h
      · rename_i s hp2
        refine ⟨_, h, fun A' hA R' K' => ?_⟩
        unfold step
        rw [ho, hod]
        simp only [hT, opT_ag hA hx, hs, hb, cond_true, hp2]
      · cases h
  · cases h

theorem loc_store {T : TypeId} {x y : Operand} (ho : o.op = .store T x y) (hod : o.dst = none) (hx : RX A F x) (hy : RX A F y) (h : step E o A Kc = some r) : Loc E o A F Kc r := by
  unfold step at h
  rw [ho, hod] at h
  simp only at h
  split at h
  · rename_i ti b v off s hT hs hs2
    obtain ⟨h1, h2⟩ : RL A F (.bp b v off) := opT_one hx hs
    have hal := RL.als (opT_RL hy hs2)
    split at h
    · rename_i n m hg
      cases hb : (Nat.beq n v && storable ((parts s).map (kept A)) && Nat.beq ((parts s).map (kept A)).length ti.ty.sz && Nat.ble (off + ti.ty.sz) m) with
      | false => rw [hb] at h; simp at h
      | true =>
        rw [hb, cond_true] at h
        refine ⟨_, h, fun A' hA R' K' => ?_⟩
        unfold step
        rw [ho, hod]
        simp only [hT, opT_ag hA hx, hs, opT_ag hA hy, hs2, hA _ h1, hg, keptM_ag hA hal, hb, cond_true, costs_ag hA hal]
    · cases h
  · rename_i ti p v i off s hT hs hs2
    have hp : p ∈ F := opT_one hx hs
    have hal := RL.als (opT_RL hy hs2)
    split at h
    · rename_i n e r' xs hg
      cases hb : (Nat.beq n v && storable ((parts s).map (kept A)) && Nat.beq ((parts s).map (fun x => calm (kept A x))).length ti.ty.sz && Nat.ble (off + ((parts s).map (fun x => calm (kept A x))).length) r'.sz && apart p (costs A (parts s) ++ gone y s)) with
      | false => rw [hb] at h; simp at h
      | true =>
        rw [hb, cond_true] at h
        split at h
        · rename_i z hz
          refine ⟨_, h, fun A' hA R' K' => ?_⟩
          unfold step
          rw [ho, hod]
          simp only [hT, opT_ag hA hx, hs, opT_ag hA hy, hs2, hA _ hp, hg, keptM_ag hA hal, calmM_ag hA hal, hb, cond_true, costs_ag hA hal, hz]
        · cases h
    · cases h
  · cases h
end
end Go.Proofs.Ytehkignjdbkeiaa.Vf
