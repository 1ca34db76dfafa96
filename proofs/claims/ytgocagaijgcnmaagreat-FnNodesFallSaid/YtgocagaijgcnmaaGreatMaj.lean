import Derived.Test.YtgocagaijgcnmaaGreatMai
section
set_option linter.unusedVariables false
set_option linter.unusedSimpArgs false
namespace Go.Proofs.YtgocagaijgcnmaaGreat.Vf
open Go
attribute [local irreducible] C H
def Loc {R : Type} (E : En) (o : Oper) (A : Ab) (F : List Nat) (Kc : List Up → Option R) (r : R) : Prop :=
 ∃ U, Kc U = some r ∧ ∀ A', Ag A A' F → ∀ {R' : Type} (K' : List Up → Option R'), step E o A' K' = K' U
section
variable {E : En} {A A' : Ab} {F : List Nat} {o : Oper} {R : Type} {Kc : List Up → Option R} {r : R}
theorem bopInt_par {op : BinOp} {k : IntKind} {x y : Int} {Kv : Value → Option R} (h : bopInt op k x y Kv = some r) : ∃ v, Kv v = some r ∧ ∀ {R' : Type} (K' : Value → Option R'), bopInt op k x y K' = K' v := by
 cases op
 case quo =>
  simp only [bopInt] at h ⊢
  cases hy : decide (y = 0) with
  | true => rw [hy] at h; simp at h
  | false => rw [hy] at h; exact ⟨_, h, fun K' => rfl⟩
 case rem =>
  simp only [bopInt] at h ⊢
  cases hy : decide (y = 0) with
  | true => rw [hy] at h; simp at h
  | false => rw [hy] at h; exact ⟨_, h, fun K' => rfl⟩
 all_goals first | exact ⟨_, h, fun K' => rfl⟩ | (simp [bopInt] at h; done)
theorem bopStr_par {op : BinOp} {x y : ByteArray} {Kv : Value → Option R} (h : bopStr op x y Kv = some r) : ∃ v, Kv v = some r ∧ ∀ {R' : Type} (K' : Value → Option R'), bopStr op x y K' = K' v := by
 cases op
 case add =>
  simp only [bopStr] at h ⊢
  cases hy : Nat.ble (x.size + y.size) 9223372036854775807 with
  | false => rw [hy] at h; simp at h
  | true => rw [hy] at h; exact ⟨_, h, fun K' => rfl⟩
 all_goals first | exact ⟨_, h, fun K' => rfl⟩ | (simp [bopStr] at h; done)
theorem bop_par {op : BinOp} {t : Option TI} {e : Bool} {x y : Sv} {Kv : Value → Option R} (h : bop op t e x y Kv = some r) : ∃ v, Kv v = some r ∧ ∀ {R' : Type} (K' : Value → Option R'), bop op t e x y K' = K' v := by
 unfold bop at h
 split at h
 ·rename_i k a k' b
  split at h
  ·cases hb : decide (b < 0) with
   | true => rw [hb] at h; simp at h
   | false => rw [hb] at h; exact ⟨_, h, fun K' => by unfold bop; simp only [hb, cond_false]⟩
  ·cases hb : decide (b < 0) with
   | true => rw [hb] at h; simp at h
   | false => rw [hb] at h; exact ⟨_, h, fun K' => by unfold bop; simp only [hb, cond_false]⟩
  ·rename_i n1 n2
   cases hb : decide (k = k') with
   | false => rw [hb] at h; simp at h
   | true =>
    rw [hb, cond_true] at h
    obtain ⟨v, h1, h2⟩ := bopInt_par h
    refine ⟨v, h1, fun K' => ?_⟩
    unfold bop
    cases op <;> first | exact (n1 rfl).elim | exact (n2 rfl).elim | (simp only [hb, cond_true]; exact h2 K')
 ·obtain ⟨v, h1, h2⟩ := bopStr_par h
  exact ⟨v, h1, fun K' => h2 K'⟩
 ·rename_i a b
  split at h
  ·exact ⟨_, h, fun K' => rfl⟩
  ·exact ⟨_, h, fun K' => rfl⟩
  ·cases h
 ·rename_i l l'
  cases hb : (e && allSc l && allSc l' && (kindsOk t l && kindsOk t l')) with
  | false => rw [hb] at h; simp at h
  | true =>
   rw [hb, cond_true] at h
   split at h
   ·split at h
    ·rename_i b he
     exact ⟨_, h, fun K' => by unfold bop; simp only [hb, cond_true, he]⟩
    ·cases h
   ·split at h
    ·rename_i b he
     exact ⟨_, h, fun K' => by unfold bop; simp only [hb, cond_true, he]⟩
    ·cases h
   ·cases h
 ·cases h
theorem uop_par {op : UnOp} {x : Sv} {Kv : Value → Option R} (h : uop op x Kv = some r) : ∃ v, Kv v = some r ∧ ∀ {R' : Type} (K' : Value → Option R'), uop op x K' = K' v := by
 unfold uop at h
 split at h
 ·exact ⟨_, h, fun K' => rfl⟩
 ·exact ⟨_, h, fun K' => rfl⟩
 ·exact ⟨_, h, fun K' => rfl⟩
 ·cases h
theorem conv_par {t t' : Option TI} {x : Sv} {Kv : Sv → Option R} (h : conv t t' x Kv = some r) : ∃ v, Kv v = some r ∧ ∀ {R' : Type} (K' : Sv → Option R'), conv t t' x K' = K' v := by
 unfold conv at h
 split at h
 ·exact ⟨_, h, fun K' => rfl⟩
 ·exact ⟨_, h, fun K' => rfl⟩
 ·rename_i e _ _ _ _ e' xs
  cases hb : Nat.beq e e' with
  | false => rw [hb] at h; simp at h
  | true => rw [hb] at h; exact ⟨_, h, fun K' => by unfold conv; simp only [hb, cond_true]⟩
 ·rename_i e _ _ _ _ e' xs
  cases hb : Nat.beq e e' with
  | false => rw [hb] at h; simp at h
  | true => rw [hb] at h; exact ⟨_, h, fun K' => by unfold conv; simp only [hb, cond_true]⟩
 ·rename_i s
  cases hb : Nat.ble s.size 140737488355328 with
  | false => rw [hb] at h; simp at h
  | true => rw [hb] at h; exact ⟨_, h, fun K' => by unfold conv; simp only [hb, cond_true]⟩
 ·cases h
theorem minMax_par {mx : Bool} : ∀ {l : List Sv} {k : IntKind} {x : Int} {Kv : Value → Option R}, minMax mx l k x Kv = some r → ∃ v, Kv v = some r ∧ ∀ {R' : Type} (K' : Value → Option R'), minMax mx l k x K' = K' v := by
 intro l
 induction l with
 | nil => intro k x Kv h; exact ⟨_, h, fun K' => rfl⟩
 | cons s l ih =>
  intro k x Kv h
  unfold minMax at h
  split at h
  ·rename_i heq; cases heq
  ·rename_i k0 x0 K0 l9 k9 x9 K9 k' y l0 heq
   cases heq
   cases hb : decide (k0 = k') with
   | false => rw [hb] at h; simp at h
   | true =>
    rw [hb, cond_true] at h
    obtain ⟨v, h1, h2⟩ := ih h
    exact ⟨v, h1, fun K' => by conv => { lhs; unfold minMax }; simp only [hb, cond_true]; exact h2 K'⟩
  ·cases h
theorem bnds_par {lo hi : Option Int} {n : Nat} {Kv : Unit → Option R} (h : bnds lo hi n Kv = some r) : Kv () = some r ∧ ∀ {R' : Type} (K' : Unit → Option R'), bnds lo hi n K' = K' () := by
 unfold bnds at h
 split at h
 ·exact ⟨h, fun K' => rfl⟩
 ·rename_i l
  cases h1 : decide (0 ≤ l) with
  | false => rw [h1] at h; simp at h
  | true =>
   rw [h1, cond_true] at h
   cases h2 : decide (l ≤ (n : Int)) with
   | false => rw [h2] at h; simp at h
   | true => rw [h2, cond_true] at h; exact ⟨h, fun K' => by unfold bnds; simp only [h1, h2, cond_true]⟩
 ·rename_i l
  cases h1 : decide (0 ≤ l) with
  | false => rw [h1] at h; simp at h
  | true =>
   rw [h1, cond_true] at h
   cases h2 : decide (l ≤ (n : Int)) with
   | false => rw [h2] at h; simp at h
   | true => rw [h2, cond_true] at h; exact ⟨h, fun K' => by unfold bnds; simp only [h1, h2, cond_true]⟩
 ·rename_i l u
  cases h1 : decide (0 ≤ l) with
  | false => rw [h1] at h; simp at h
  | true =>
   rw [h1, cond_true] at h
   cases h2 : decide (l ≤ u) with
   | false => rw [h2] at h; simp at h
   | true =>
    rw [h2, cond_true] at h
    cases h3 : decide (u ≤ (n : Int)) with
    | false => rw [h3] at h; simp at h
    | true => rw [h3, cond_true] at h; exact ⟨h, fun K' => by unfold bnds; simp only [h1, h2, h3, cond_true]⟩
theorem loc_binOp {op : BinOp} {T T' : TypeId} {x y : Operand} {d : Nat} (ho : o.op = .binOp op T x y T') (hod : o.dst = some d) (hx : RX A F x) (hy : RX A F y) (h : step E o A Kc = some r) : Loc E o A F Kc r := by
 unfold step at h
 rw [ho, hod] at h
 simp only at h
 split at h
 ·rename_i s s' hs hs'
  obtain ⟨v, h1, h2⟩ := bop_par h
  refine ⟨_, h1, fun A' hA R' K' => ?_⟩
  unfold step
  rw [ho, hod]
  simp only [opT_ag hA hx, opT_ag hA hy, hs, hs']
  exact h2 _
 ·cases h
theorem loc_unOp {op : UnOp} {T : TypeId} {x : Operand} {d : Nat} (ho : o.op = .unOp op T x) (hod : o.dst = some d) (hx : RX A F x) (h : step E o A Kc = some r) : Loc E o A F Kc r := by
 unfold step at h
 rw [ho, hod] at h
 simp only at h
 split at h
 ·rename_i s hs
  obtain ⟨v, h1, h2⟩ := uop_par h
  refine ⟨_, h1, fun A' hA R' K' => ?_⟩
  unfold step
  rw [ho, hod]
  simp only [opT_ag hA hx, hs]
  exact h2 _
 ·cases h
theorem loc_convert {T T' : TypeId} {x : Operand} {d : Nat} (ho : o.op = .convert T T' x) (hod : o.dst = some d) (hx : RX A F x) (h : step E o A Kc = some r) : Loc E o A F Kc r := by
 unfold step at h
 rw [ho, hod] at h
 simp only at h
 split at h
 ·rename_i y hs
  obtain ⟨v, h1, h2⟩ := conv_par h
  refine ⟨_, h1, fun A' hA R' K' => ?_⟩
  unfold step
  rw [ho, hod]
  simp only [opT_ag hA hx, hs, view_ag hA (opT_one hx hs)]
  exact h2 _
 ·cases h
theorem loc_move {x : Operand} {d : Nat} (ho : o.op = .move x) (hod : o.dst = some d) (hx : ∀ t, x = .tmp t → t ∈ F) (h : step E o A Kc = some r) : Loc E o A F Kc r := by
 have hag : ∀ A', Ag A A' F → ∀ T, opT E T A' x = opT E T A x := by
  intro A' hA T
  cases x with
  | tmp t => show (bif Nat.blt t E.nt then some (get A' t).2 else none) = (bif Nat.blt t E.nt then some (get A t).2 else none); rw [hA t (hx t rfl)]
  | const v => exact opT_ag hA (x := .const v) trivial
  | func f => rfl
  | global g => rfl
 unfold step at h
 rw [ho, hod] at h
 simp only at h
 split at h
 ·rename_i s hs
  split at h
  ·rename_i t e r' xs
   cases hn : (E.nm t && !(E.mv d)) with
   | true =>
    rw [hn, cond_true] at h
    refine ⟨_, h, fun A' hA R' K' => ?_⟩
    unfold step
    rw [ho, hod]
    simp only [hag A' hA, hs, hn, cond_true, hA t (hx t rfl)]
   | false =>
    rw [hn, cond_false] at h
    refine ⟨_, h, fun A' hA R' K' => ?_⟩
    unfold step
    rw [ho, hod]
    simp only [hag A' hA, hs, hn, cond_false]
  ·rename_i hne
   refine ⟨_, h, fun A' hA R' K' => ?_⟩
   unfold step
   rw [ho, hod]
   simp only [hag A' hA, hs]
 ·cases h
theorem loc_assign {x : Operand} {d : Nat} (ho : o.op = .assign x) (hod : o.dst = some d) (hx : RX A F x) (h : step E o A Kc = some r) : Loc E o A F Kc r := by
 unfold step at h
 rw [ho, hod] at h
 simp only at h
 split at h
 ·rename_i p v hs
  have hp : p ∈ F := opT_one hx hs
  split at h
  ·rename_i n e r' xs hg
   cases hn : Nat.beq n v with
   | false => rw [hn] at h; simp at h
   | true =>
    rw [hn, cond_true] at h
    cases hr : E.res d with
    | true =>
     rw [hr, cond_true] at h
     refine ⟨_, h, fun A' hA R' K' => ?_⟩
     unfold step
     rw [ho, hod]
     simp only [opT_ag hA hx, hs, hA p hp, hg, hn, hr, cond_true]
    | false =>
     rw [hr, cond_false] at h
     refine ⟨_, h, fun A' hA R' K' => ?_⟩
     unfold step
     rw [ho, hod]
     simp only [opT_ag hA hx, hs, hA p hp, hg, hn, hr, cond_true, cond_false]
  ·rename_i n e r' xs hg
   cases hn : Nat.beq n v with
   | false => rw [hn] at h; simp at h
   | true =>
    rw [hn, cond_true] at h
    refine ⟨_, h, fun A' hA R' K' => ?_⟩
    unfold step
    rw [ho, hod]
    simp only [opT_ag hA hx, hs, hA p hp, hg, hn, cond_true]
  ·cases h
 ·rename_i s hne hs
  refine ⟨_, h, fun A' hA R' K' => ?_⟩
  unfold step
  rw [ho, hod]
  simp only [opT_ag hA hx, hs]
 ·cases h
theorem loc_pick {c x y : Operand} {d : Nat} (ho : o.op = .pick c x y) (hod : o.dst = some d) (hc : RX A F c) (hx : RX A F x) (hy : RX A F y) (h : step E o A Kc = some r) : Loc E o A F Kc r := by
 unfold step at h
 rw [ho, hod] at h
 simp only at h
 split at h
 ·rename_i b hs
  cases b with
  | true =>
   rw [cond_true] at h
   split at h
   ·rename_i u hu
    refine ⟨_, h, fun A' hA R' K' => ?_⟩
    unfold step
    rw [ho, hod]
    simp only [opT_ag hA hc, opT_ag hA hx, hs, hu, cond_true]
   ·cases h
  | false =>
   rw [cond_false] at h
   split at h
   ·rename_i u hu
    refine ⟨_, h, fun A' hA R' K' => ?_⟩
    unfold step
    rw [ho, hod]
    simp only [opT_ag hA hc, opT_ag hA hy, hs, hu, cond_false]
   ·cases h
 ·cases h
def RP (A : Ab) (F : List Nat) : Operand → Prop
 | .tmp t => t ∈ F ∧ ∀ y ∈ parts (get A t).2, (∀ b v n, y = .bp b v n → H b ∈ F) ∧ (∀ p v i n, y = .ep p v i n → p ∈ F) ∧ (∀ p v pi e r, ∀ xs : List (Ty.den r), ∀ i n, y = .dp p v pi e r xs i n → p ∈ F)
 | _ => True
theorem rdHs_mem : ∀ {l : List Lf}, (∀ p ∈ rdHs l, p ∈ F) → ∀ y ∈ l, (∀ b v n, y = .bp b v n → H b ∈ F) ∧ (∀ p v i n, y = .ep p v i n → p ∈ F) ∧ (∀ p v pi e r, ∀ xs : List (Ty.den r), ∀ i n, y = .dp p v pi e r xs i n → p ∈ F)
 | [], _, y, hy => by simp at hy
 | z :: l, h, y, hy => by
  unfold rdHs at h
  rcases List.mem_cons.1 hy with rfl | hy
  ·refine ⟨fun b v n e => h _ (List.mem_append_left _ ?_), fun p v i n e => h _ (List.mem_append_left _ ?_), fun p v pi e0 r xs i n e => h _ (List.mem_append_left _ ?_)⟩ <;> (subst e; simp [rdH])
  ·exact rdHs_mem (fun p hp => h p (List.mem_append_right _ hp)) y hy
theorem rdP_RP {x : Operand} (h : ∀ p ∈ rdP A x, p ∈ F) : RP A F x := by
 cases x with
 | tmp t =>
  have h : ∀ p ∈ t :: rdHs (parts (get A t).2), p ∈ F := h
  exact ⟨h t (by simp), rdHs_mem fun p hp => h p (List.mem_cons_of_mem _ hp)⟩
 | _ => trivial
theorem RP.opT {x : Operand} {T : TypeId} (hA : Ag A A' F) (hx : RP A F x) : Vf.opT E T A' x = Vf.opT E T A x := by
 cases x with
 | tmp t => show (bif Nat.blt t E.nt then some (get A' t).2 else none) = (bif Nat.blt t E.nt then some (get A t).2 else none); rw [hA t hx.1]
 | const v => exact opT_ag hA (x := .const v) trivial
 | func f => rfl
 | global g => rfl
theorem RP.live {x : Operand} {T : TypeId} {y : Lf} (hA : Ag A A' F) (hx : RP A F x) (h : Vf.opT E T A x = some (.one y)) : liveP A' y = liveP A y := by
 cases x with
 | tmp t =>
  have h : (bif Nat.blt t E.nt then some (get A t).2 else none) = some (.one y) := h
  cases hb : Nat.blt t E.nt with
  | false => rw [hb] at h; simp at h
  | true =>
   rw [hb] at h
   simp only [cond_true, Option.some.injEq] at h
   obtain ⟨h1, h2, h3⟩ := hx.2 y (by rw [h]; simp [parts])
   cases y with
   | bp b v n => show Nat.beq (get A' (H b)).1 v = Nat.beq (get A (H b)).1 v; rw [hA _ (h1 b v n rfl)]
   | ep p v i n => simp only [liveP]; rw [hA _ (h2 p v i n rfl)]
   | dp p v pi e r xs i n => show Nat.beq (get A' p).1 v = Nat.beq (get A p).1 v; rw [hA _ (h3 p v pi e r xs i n rfl)]
   | _ => rfl
 | const v => exact liveP_ag hA (opT_one (x := .const v) (F := F) trivial h)
 | func f => exact liveP_ag hA (opT_one (x := .func f) (F := F) trivial h)
 | global g => exact liveP_ag hA (opT_one (x := .global g) (F := F) trivial h)
theorem loc_nilCheck {x : Operand} {d : Nat} (ho : o.op = .nilCheck x) (hod : o.dst = some d) (hx : RP A F x) (h : step E o A Kc = some r) : Loc E o A F Kc r := by
 unfold step at h
 rw [ho, hod] at h
 simp only at h
 split at h
 ·rename_i y hs
  cases hl : liveP A y with
  | false => rw [hl] at h; simp at h
  | true =>
   rw [hl, cond_true] at h
   refine ⟨_, h, fun A' hA R' K' => ?_⟩
   unfold step
   rw [ho, hod]
   simp only [hx.opT hA, hs, hx.live hA hs, hl, cond_true]
 ·cases h
theorem loc_fieldAddr {T : TypeId} {x : Operand} {j d : Nat} (ho : o.op = .fieldAddr T x j) (hod : o.dst = some d) (hx : RP A F x) (h : step E o A Kc = some r) : Loc E o A F Kc r := by
 unfold step at h
 rw [ho, hod] at h
 simp only at h
 split at h
 ·rename_i ti y hT hs
  split at h
  ·rename_i f hf
   cases hl : (ti.ag && liveP A y) with
   | false => rw [hl] at h; simp at h
   | true =>
    rw [hl, cond_true] at h
    refine ⟨_, h, fun A' hA R' K' => ?_⟩
    unfold step
    rw [ho, hod]
    simp only [hT, hx.opT hA, hs, hf, hx.live hA hs, hl, cond_true]
  ·cases h
 ·cases h
theorem loc_extract {t j d : Nat} (ho : o.op = .extract (.tmp t) j) (hod : o.dst = some d) (ht : t ∈ F) (h : step E o A Kc = some r) : Loc E o A F Kc r := by
 unfold step at h
 rw [ho, hod] at h
 simp only at h
 cases hb : Nat.blt t E.nt with
 | false => rw [hb] at h; simp at h
 | true =>
  rw [hb, cond_true] at h
  split at h
  ·rename_i vs hg
   split at h
   ·rename_i ag l hn
    split at h
    ·rename_i s hs
     cases hw : ownIn l with
     | true =>
      rw [hw, cond_true] at h
      refine ⟨_, h, fun A' hA R' K' => ?_⟩
      unfold step
      rw [ho, hod]
      simp only [hb, cond_true, hA t ht, hg, hn, hs, hw]
     | false =>
      rw [hw, cond_false] at h
      refine ⟨_, h, fun A' hA R' K' => ?_⟩
      unfold step
      rw [ho, hod]
      simp only [hb, cond_true, hA t ht, hg, hn, hs, hw, cond_false]
    ·cases h
   ·cases h
  ·cases h
theorem loc_field {T : TypeId} {t j d : Nat} (ho : o.op = .field T (.tmp t) j) (hod : o.dst = some d) (ht : t ∈ F) (h : step E o A Kc = some r) : Loc E o A F Kc r := by
 unfold step at h
 rw [ho, hod] at h
 simp only at h
 split at h
 ·rename_i ti l hT hg
  split at h
  ·rename_i off z ag hn
   split at h
   ·rename_i s hs
    cases hb : (ti.ag && Nat.blt t E.nt && Nat.ble (off + z) l.length) with
    | false => rw [hb] at h; simp at h
    | true =>
     rw [hb, cond_true] at h
     cases hw : ownIn ((l.drop off).take z) with
     | true =>
      rw [hw, cond_true] at h
      refine ⟨_, h, fun A' hA R' K' => ?_⟩
      unfold step
      rw [ho, hod]
      simp only [hT, hA t ht, hg, hn, hs, hb, hw, cond_true]
     | false =>
      rw [hw, cond_false] at h
      refine ⟨_, h, fun A' hA R' K' => ?_⟩
      unfold step
      rw [ho, hod]
      simp only [hT, hA t ht, hg, hn, hs, hb, hw, cond_true, cond_false]
   ·cases h
  ·cases h
 ·cases h
theorem loc_alloc {T : TypeId} {d : Nat} (ho : o.op = .alloc T) (hod : o.dst = some d) (hH : H d ∈ F) (h : step E o A Kc = some r) : Loc E o A F Kc r := by
 unfold step at h
 rw [ho, hod] at h
 simp only at h
 split at h
 ·rename_i ti hT
  cases hb : (Nat.blt ti.ty.sz 999 && Nat.ble E.np d) with
  | false => rw [hb] at h; simp at h
  | true =>
   rw [hb, cond_true] at h
   refine ⟨_, h, fun A' hA R' K' => ?_⟩
   unfold step
   rw [ho, hod]
   simp only [hT, hb, cond_true, hA _ hH]
 ·cases h
theorem RL.als {s : Sv} (h : ∀ y ∈ parts s, RL A F y) : ∀ y ∈ parts s, AL F y := fun y hy => (h y hy).al
theorem storableA_ag (hA : Ag A A' F) : ∀ {l : List Lf}, (∀ y ∈ l, AL F y) → storableA A' l = storableA A l
 | [], _ => rfl
 | y :: l, h => by
  have ih := storableA_ag hA (l := l) (fun z hz => h z (List.mem_cons_of_mem _ hz))
  cases y with
  | al p v => simp only [storableA, ih, seen_ag hA (h (.al p v) (by simp))]
  | _ => simp only [storableA, ih]
theorem loc_box {T : TypeId} {x : Operand} {d : Nat} (ho : o.op = .box T x) (hod : o.dst = some d) (hH : H d ∈ F) (hx : RX A F x) (h : step E o A Kc = some r) : Loc E o A F Kc r := by
 unfold step at h
 rw [ho, hod] at h
 simp only at h
 split at h
 ·rename_i ti s hT hs
  have hal := RL.als (opT_RL hx hs)
  cases hmv : mvO E x with
  | true =>
   rw [hmv, cond_true] at h
   cases hb : (storableA A (parts s) && Nat.beq (parts s).length ti.ty.sz && Nat.blt ti.ty.sz 999 && Nat.ble E.np d) with
   | false => rw [hb] at h; simp at h
   | true =>
    rw [hb, cond_true] at h
    refine ⟨_, h, fun A' hA R' K' => ?_⟩
    unfold step
    rw [ho, hod]
    simp only [hT, opT_ag hA hx, hs, hmv, storableA_ag hA hal, hb, cond_true, hA _ hH]
  | false =>
  rw [hmv, cond_false] at h
  cases hb : (storable ((parts s).map (kept A)) && Nat.beq ((parts s).map (kept A)).length ti.ty.sz && Nat.blt ti.ty.sz 999 && Nat.ble E.np d) with
  | false => rw [hb] at h; simp at h
  | true =>
   rw [hb, cond_true] at h
   refine ⟨_, h, fun A' hA R' K' => ?_⟩
   unfold step
   rw [ho, hod]
   simp only [hT, opT_ag hA hx, hs, hmv, cond_false, keptM_ag hA hal, hb, cond_true, costs_ag hA hal, hA _ hH]
 ·cases h
theorem loc_load {T : TypeId} {x : Operand} {d : Nat} (ho : o.op = .load T x) (hod : o.dst = some d) (hx : RX A F x) (h : step E o A Kc = some r) : Loc E o A F Kc r := by
 unfold step at h
 rw [ho, hod] at h
 simp only at h
 split at h
 ·rename_i ti b v off hT hs
  obtain ⟨h1, h2⟩ : RL A F (.bp b v off) := opT_one hx hs
  split at h
  ·rename_i n m hg
   cases hb : (Nat.beq n v && Nat.ble (off + ti.ty.sz) m) with
   | false => rw [hb] at h; simp at h
   | true =>
    rw [hb, cond_true] at h
    have hle : off + ti.ty.sz ≤ m := by
     simp only [Bool.and_eq_true] at hb
     exact Nat.le_of_ble_eq_true hb.2
    have hcell : ∀ i, i < ti.ty.sz → C b (off + i) ∈ F := fun i hi => (h2 m (by rw [hg]) (off + i) (by omega) (by omega)).1
    split at h
    ·rename_i s hp
     refine ⟨_, h, fun A' hA R' K' => ?_⟩
     unfold step
     rw [ho, hod]
     simp only [hT, opT_ag hA hx, hs, hA _ h1, hg, hb, cond_true, cellsOf_ag hA hcell, hp]
    ·cases h
  ·cases h
 ·rename_i ti p v i off hT hs
  have hp : p ∈ F := opT_one hx hs
  split at h
  ·rename_i n e r' xs hg
   cases hb : (Nat.beq n v && noOw r' && Nat.ble (off + ti.ty.sz) r'.sz) with
   | false => rw [hb] at h; simp at h
   | true =>
    rw [hb, cond_true] at h
    split at h
    ·rename_i s hp2
     refine ⟨_, h, fun A' hA R' K' => ?_⟩
     unfold step
     rw [ho, hod]
     simp only [hT, opT_ag hA hx, hs, hA _ hp, hg, hb, cond_true, hp2]
    ·cases h
  ·cases h
 ·rename_i ti p v pi e0 r' xs i off hT hs
  have hp : p ∈ F := opT_one hx hs
  cases hb : (Nat.beq (get A p).1 v && Nat.ble (off + ti.ty.sz) r'.sz) with
  | false => rw [hb] at h; simp at h
  | true =>
   rw [hb, cond_true] at h
   split at h
   ·rename_i s hp2
    refine ⟨_, h, fun A' hA R' K' => ?_⟩
    unfold step
    rw [ho, hod]
    simp only [hT, opT_ag hA hx, hs, hA _ hp, hb, cond_true, hp2]
   ·cases h
 ·rename_i ti r' x' off hT hs
  cases hb : Nat.ble (off + ti.ty.sz) r'.sz with
  | false => rw [hb] at h; simp at h
  | true =>
   rw [hb, cond_true] at h
   split at h
   ·rename_i s hp2
    refine ⟨_, h, fun A' hA R' K' => ?_⟩
    unfold step
    rw [ho, hod]
    simp only [hT, opT_ag hA hx, hs, hb, cond_true, hp2]
   ·cases h
 ·cases h
theorem storableD_ag (h : Ag A A' F) : ∀ {l : List Lf}, (∀ p v pi e r, ∀ xs : List (Ty.den r), Lf.da p v pi e r xs ∈ l → p ∈ F) → storableD A' l = storableD A l
 | [], _ => rfl
 | y :: l, hp => by
  have ih := storableD_ag h (l := l) (fun p v pi e r xs hm => hp p v pi e r xs (List.mem_cons_of_mem _ hm))
  cases y with
  | da p v pi e r xs => simp only [storableD, ih, h p (hp p v pi e r xs (by simp))]
  | _ => simp only [storableD, ih]
theorem kept_da {l : List Lf} (h : ∀ y ∈ l, RL A F y) : ∀ p v pi e r, ∀ xs : List (Ty.den r), Lf.da p v pi e r xs ∈ l.map (kept A) → p ∈ F := by
 intro p v pi e r xs hm
 obtain ⟨y, hy, he⟩ := List.mem_map.1 hm
 cases y with
 | da p' v' pi' e' r' xs' =>
  simp only [kept, Lf.da.injEq] at he
  have := h _ hy
  rw [he.1] at this
  exact this
 | al q w =>
  exfalso
  simp only [kept] at he
  have h1 : ∀ z : Lf, (∀ p v pi e r, ∀ xs : List (Ty.den r), z ≠ .da p v pi e r xs) → ∀ p v pi e r, ∀ xs : List (Ty.den r), calm z ≠ .da p v pi e r xs := by
   intro z hz p v pi e r xs
   cases z <;> simp [calm]
   exact fun e1 e2 e3 e4 e5 e6 => hz _ _ _ _ _ _ rfl
  refine h1 (seen A (.al q w)) ?_ _ _ _ _ _ _ he
  intro p v pi e r xs
  simp only [seen]
  split
  ·rename_i n _ _ _ _
   cases Nat.beq n w <;> simp
  ·rename_i n _ _ _ _
   cases Nat.beq n w <;> simp
  ·simp
 | _ => simp [kept] at he
theorem xferLs_ag : ∀ {ts : List Ty} {l : List Lf} {A A' : Ab}, Ag A A' F → (∀ y ∈ l, AL F y) → xferLs A' ts l = xferLs A ts l
 | [], [], _, _, _, _ => rfl
 | [], _ :: _, _, _, _, _ => rfl
 | t :: ts, [], _, _, _, _ => by cases t <;> rfl
 | t :: ts, x :: l, A, A', hA, hy => by
  have hx : AL F x := hy x (by simp)
  have hl : ∀ y ∈ l, AL F y := fun y hm => hy y (List.mem_cons_of_mem _ hm)
  cases t <;> simp only [xferLs, seen_ag hA hx, kept_ag hA hx, cost_ag hA hx, xferLs_ag (hA.ups (U := tookP x)) hl, xferLs_ag (hA.ups (U := cost A x)) hl]
theorem asIs_ag (hA : Ag A A' F) : ∀ {l : List Lf}, (∀ y ∈ l, AL F y) → asIs A' l = asIs A l
 | [], _ => rfl
 | y :: l, h => by simp only [asIs, seen_ag hA (h y (by simp)), asIs_ag hA (fun z hz => h z (List.mem_cons_of_mem _ hz))]
theorem giveL_ag {x : Operand} {s : Sv} (hA : Ag A A' F) (hal : ∀ y ∈ parts s, AL F y) : giveL A' x s (asIs (ups A' (gone x s)) (parts s)) = giveL A x s (asIs (ups A (gone x s)) (parts s)) := by
 have hA1 := hA.ups (U := gone x s)
 unfold giveL
 rw [asIs_ag hA1 hal, xferLs_ag hA1 hal]
theorem loc_store {T : TypeId} {x y : Operand} (ho : o.op = .store T x y) (hod : o.dst = none) (hx : RX A F x) (hy : RX A F y) (h : step E o A Kc = some r) : Loc E o A F Kc r := by
 unfold step at h
 rw [ho, hod] at h
 simp only at h
 split at h
 ·rename_i ti b v off s hT hs hs2
  obtain ⟨h1, h2⟩ : RL A F (.bp b v off) := opT_one hx hs
  have hal := RL.als (opT_RL hy hs2)
  cases hmv : mvO E y with
  | true =>
   rw [hmv, cond_true] at h
   split at h
   ·rename_i m vs hgive
    split at h
    ·rename_i n hd hg
     cases hb : (Nat.beq n v && Nat.beq m.length ti.ty.sz && Nat.ble (off + ti.ty.sz) hd) with
     | false => rw [hb] at h; simp at h
     | true =>
      rw [hb, cond_true] at h
      refine ⟨_, h, fun A' hA R' K' => ?_⟩
      unfold step
      rw [ho, hod]
      simp only [hT, opT_ag hA hx, hs, opT_ag hA hy, hs2, hmv, giveL_ag hA hal, hgive, hA _ h1, hg, hb, cond_true]
    ·cases h
   ·cases h
  | false =>
  rw [hmv, cond_false] at h
  split at h
  ·rename_i n m hg
   cases hb : (Nat.beq n v && storableD (ups A (costs A (parts s) ++ gone y s)) ((parts s).map (kept A)) && Nat.beq ((parts s).map (kept A)).length ti.ty.sz && Nat.ble (off + ti.ty.sz) m) with
   | false => rw [hb] at h; simp at h
   | true =>
    rw [hb, cond_true] at h
    refine ⟨_, h, fun A' hA R' K' => ?_⟩
    unfold step
    rw [ho, hod]
    simp only [hT, opT_ag hA hx, hs, opT_ag hA hy, hs2, hmv, cond_false, hA _ h1, hg, keptM_ag hA hal, costs_ag hA hal, storableD_ag (hA.ups (U := costs A (parts s) ++ gone y s)) (kept_da (opT_RL hy hs2)), hb, cond_true]
  ·cases h
 ·rename_i ti p v i off s hT hs hs2
  have hp : p ∈ F := opT_one hx hs
  have hal := RL.als (opT_RL hy hs2)
  split at h
  ·rename_i n e r' xs hg
   cases hb : (Nat.beq n v && noOw r' && storable ((parts s).map (kept A)) && Nat.beq ((parts s).map (fun x => calm (kept A x))).length ti.ty.sz && Nat.ble (off + ((parts s).map (fun x => calm (kept A x))).length) r'.sz && apart p (costs A (parts s) ++ gone y s)) with
   | false => rw [hb] at h; simp at h
   | true =>
    rw [hb, cond_true] at h
    split at h
    ·rename_i z hz
     refine ⟨_, h, fun A' hA R' K' => ?_⟩
     unfold step
     rw [ho, hod]
     simp only [hT, opT_ag hA hx, hs, opT_ag hA hy, hs2, hA _ hp, hg, keptM_ag hA hal, calmM_ag hA hal, hb, cond_true, costs_ag hA hal, hz]
    ·cases h
  ·cases h
 ·rename_i ti p v q e r1 xs i off s hT hs hs2
  have hp : p ∈ F := opT_one hx hs
  have hal := RL.als (opT_RL hy hs2)
  split at h
  ·rename_i m us hgive
   split at h
   ·rename_i n E0 R0 XS hg
    cases hb : (Nat.beq n v && owned m && Nat.beq m.length ti.ty.sz && Nat.ble (off + m.length) r1.sz && apart p us && allOw R0) with
    | false => rw [hb] at h; simp at h
    | true =>
     rw [hb, cond_true] at h
     split at h
     ·rename_i z hz
      split at h
      ·rename_i XS' hput
       refine ⟨_, h, fun A' hA R' K' => ?_⟩
       unfold step
       rw [ho, hod]
       simp only [hT, opT_ag hA hx, hs, opT_ag hA hy, hs2, give_ag hA hal, hgive, hA _ hp, hg, hb, cond_true, hz, hput]
      ·cases h
     ·cases h
   ·cases h
  ·cases h
 ·cases h
end
end Go.Proofs.YtgocagaijgcnmaaGreat.Vf
end

section
set_option linter.unusedVariables false
set_option linter.unusedSimpArgs false
namespace Go.Proofs.YtgocagaijgcnmaaGreat.Vf
open Go
attribute [local irreducible] C H
section
variable {E : En} {A A' : Ab} {F : List Nat} {o : Oper} {R : Type} {Kc : List Up → Option R} {r : R}
theorem openK_loc {B p : Nat} {e : TypeId} {r' : Ty} {xs : List r'.den} {i : Int} {K : List Up → Option R} (hB : H B ∈ F) (h : openK A B p e r' xs i K none = some r) : ∃ U, K U = some r ∧ ∀ A', Ag A A' F → ∀ {R' : Type} (K' : List Up → Option R'), openK A' B p e r' xs i K' none = K' U := by
 unfold openK at h
 cases h1 : ((noOw r' || allOw r') && Nat.blt r'.sz 999 && !(Nat.beq (p / 1000) (B + 1)) && Nat.ble 2000 B) with
 | false => rw [h1] at h; simp at h
 | true =>
  rw [h1, cond_true] at h
  cases h2 : decide (0 ≤ i) with
  | false => rw [h2] at h; simp at h
  | true =>
   rw [h2, cond_true] at h
   cases h3 : decide (i < (xs.length : Int)) with
   | false => rw [h3] at h; simp at h
   | true =>
    rw [h3, cond_true] at h
    refine ⟨_, h, fun A' hA R' K' => ?_⟩
    unfold openK
    simp only [h1, h2, h3, cond_true, hA _ hB]
theorem loc_indexOpen {T : TypeId} {x i : Operand} {d : Nat} (ho : o.op = .indexAddr T x i) (hod : o.dst = some d) (hopn : E.opn d = true) (hB : H (2000 + d) ∈ F) (hx : RX A F x) (hi : RX A F i) (h : step E o A Kc = some r) : Loc E o A F Kc r := by
 unfold step at h
 rw [ho, hod] at h
 simp only [hopn, cond_true] at h
 split at h
 ·rename_i p v k n hs hn
  have hp : p ∈ F := opT_one hx hs
  split at h
  ·rename_i m e r' xs hgp
   cases hq : (Nat.beq m v && isEl E T e && !(Nat.beq p d)) with
   | false => rw [hq] at h; simp at h
   | true =>
    rw [hq, cond_true] at h
    obtain ⟨U, h1, h2⟩ := openK_loc hB h
    refine ⟨_, h1, fun A' hA R' K' => ?_⟩
    unfold step
    rw [ho, hod]
    simp only [hopn, opT_ag hA hx, opT_ag hA hi, hs, hn, hA p hp, hgp, hq, cond_true, hA _ hB]
    exact h2 A' hA _
  ·cases h
 ·cases h
theorem loc_indexAddr {T : TypeId} {x i : Operand} {d : Nat} (ho : o.op = .indexAddr T x i) (hod : o.dst = some d) (hopn : E.opn d = false) (hx : RX A F x) (hi : RX A F i) (h : step E o A Kc = some r) : Loc E o A F Kc r := by
 unfold step at h
 rw [ho, hod] at h
 simp only [hopn, cond_false] at h
 split at h
 ·rename_i y k n hs hn
  have hrl := opT_one hx hs
  have hal := hrl.al
  split at h
  ·rename_i p v e r' xs hse
   cases hb : (isEl E T e && decide (0 ≤ n)) with
   | false => rw [hb] at h; simp at h
   | true =>
    rw [hb, cond_true] at h
    cases hl : decide (n < (xs.length : Int)) with
    | false => rw [hl] at h; simp at h
    | true =>
     rw [hl, cond_true] at h
     cases hno : noOw r' with
     | true =>
      rw [hno, cond_true] at h
      refine ⟨_, h, fun A' hA R' K' => ?_⟩
      unfold step
      rw [ho, hod]
      simp only [hopn, cond_false, opT_ag hA hx, opT_ag hA hi, hs, hn, seen_ag hA hal, hse, hb, hl, hno, cond_true]
     | false =>
      rw [hno, cond_false] at h
      cases hao : allOw r' with
      | false => rw [hao] at h; simp at h
      | true =>
       rw [hao, cond_true] at h
       refine ⟨_, h, fun A' hA R' K' => ?_⟩
       unfold step
       rw [ho, hod]
       simp only [hopn, cond_false, opT_ag hA hx, opT_ag hA hi, hs, hn, seen_ag hA hal, hse, hb, hl, hno, hao, cond_true, cond_false]
  ·rename_i p v pi e r' xs
   have hp : p ∈ F := hrl
   cases hb : (isEl E T e && Nat.beq (get A p).1 v && decide (0 ≤ n)) with
   | false => rw [hb] at h; simp at h
   | true =>
    rw [hb, cond_true] at h
    cases hl : decide (n < (xs.length : Int)) with
    | false => rw [hl] at h; simp at h
    | true =>
     rw [hl, cond_true] at h
     refine ⟨_, h, fun A' hA R' K' => ?_⟩
     unfold step
     rw [ho, hod]
     simp only [hopn, cond_false, opT_ag hA hx, opT_ag hA hi, hs, hn, hA p hp, hb, hl, cond_true]
  ·rename_i p v hse
   have hp : p ∈ F := hrl
   split at h
   ·rename_i m e r0 xs0 i0 b0 vb hgp
    cases hb : (Nat.beq m v && isEl E T e) with
    | false => rw [hb] at h; simp at h
    | true =>
     rw [hb, cond_true] at h
     cases hl : decide (n = i0) with
     | false => rw [hl] at h; simp at h
     | true =>
      rw [hl, cond_true] at h
      refine ⟨_, h, fun A' hA R' K' => ?_⟩
      unfold step
      rw [ho, hod]
      simp only [hopn, cond_false, opT_ag hA hx, opT_ag hA hi, hs, hn, seen_ag hA hal, hse, hA p hp, hgp, hb, hl, cond_true]
   ·cases h
  ·rename_i e r' xs hnda hse
   cases hb : (isEl E T e && decide (0 ≤ n)) with
   | false => rw [hb] at h; simp at h
   | true =>
    rw [hb, cond_true] at h
    cases hl : decide (n < (xs.length : Int)) with
    | false => rw [hl] at h; simp at h
    | true =>
     rw [hl, cond_true] at h
     refine ⟨_, h, fun A' hA R' K' => ?_⟩
     unfold step
     rw [ho, hod]
     simp only [hopn, cond_false, opT_ag hA hx, opT_ag hA hi, hs, hn, seen_ag hA hal, hse, hb, hl, cond_true]
  ·rename_i e r' xs hne hnda hse
   split at h
   ·rename_i t
    have ht : t ∈ F := hx.1
    cases hb : (isEl E T e && decide (0 ≤ n)) with
    | false => rw [hb] at h; simp at h
    | true =>
     rw [hb, cond_true] at h
     cases hl : decide (n < (xs.length : Int)) with
     | false => rw [hl] at h; simp at h
     | true =>
      rw [hl, cond_true] at h
      cases hno : noOw r' with
      | true =>
       rw [hno, cond_true] at h
       refine ⟨_, h, fun A' hA R' K' => ?_⟩
       unfold step
       rw [ho, hod]
       simp only [hopn, cond_false, opT_ag hA hx, opT_ag hA hi, hs, hn, seen_ag hA hal, hse, hb, hl, hno, cond_true, hA t ht]
      | false =>
       rw [hno, cond_false] at h
       cases hao : allOw r' with
       | false => rw [hao] at h; simp at h
       | true =>
        rw [hao, cond_true] at h
        refine ⟨_, h, fun A' hA R' K' => ?_⟩
        unfold step
        rw [ho, hod]
        simp only [hopn, cond_false, opT_ag hA hx, opT_ag hA hi, hs, hn, seen_ag hA hal, hse, hb, hl, hno, hao, cond_true, cond_false, hA t ht]
   ·cases h
  ·cases h
 ·cases h
theorem loc_index {T : TypeId} {x i : Operand} {d : Nat} (ho : o.op = .index T x i) (hod : o.dst = some d) (hx : RX A F x) (hi : RX A F i) (h : step E o A Kc = some r) : Loc E o A F Kc r := by
 unfold step at h
 rw [ho, hod] at h
 simp only at h
 split at h
 ·rename_i s k n hs hn
  cases hb : (isStr E T && decide (0 ≤ n)) with
  | false => rw [hb] at h; simp at h
  | true =>
   rw [hb, cond_true] at h
   cases hl : decide (n < (s.size : Int)) with
   | false => rw [hl] at h; simp at h
   | true =>
    rw [hl, cond_true] at h
    refine ⟨_, h, fun A' hA R' K' => ?_⟩
    unfold step
    rw [ho, hod]
    simp only [opT_ag hA hx, opT_ag hA hi, hs, hn, hb, hl, cond_true]
 ·cases h
theorem intOp_ag (hA : Ag A A' F) {x : Option Operand} (hx : ∀ y, x = some y → RX A F y) : intOp E A' x = intOp E A x := by
 cases x with
 | none => rfl
 | some y => simp only [intOp, opT_ag hA (hx y rfl)]
theorem loc_slice {T : TypeId} {x : Operand} {lo hi : Option Operand} {d : Nat} (ho : o.op = .slice T x lo hi none) (hod : o.dst = some d) (hx : RX A F x) (hlo : ∀ y, lo = some y → RX A F y) (hhi : ∀ y, hi = some y → RX A F y) (h : step E o A Kc = some r) : Loc E o A F Kc r := by
 unfold step at h
 rw [ho, hod] at h
 simp only at h
 split at h
 ·rename_i s l u hs hl hu
  cases hq : isStr E T with
  | false => rw [hq] at h; simp at h
  | true =>
   rw [hq, cond_true] at h
   obtain ⟨h1, h2⟩ := bnds_par h
   refine ⟨_, h1, fun A' hA R' K' => ?_⟩
   unfold step
   rw [ho, hod]
   simp only [opT_ag hA hx, intOp_ag hA hlo, intOp_ag hA hhi, hs, hl, hu, hq, cond_true]
   exact h2 _
 ·rename_i y l u hne hs hl hu
  have hal := (opT_one hx hs).al
  split at h
  ·rename_i e0 r0 xs0 e r' xs hsn
   cases hq : isEl E T e with
   | false => rw [hq] at h; simp at h
   | true =>
    rw [hq, cond_true] at h
    split at h
    ·obtain ⟨h1, h2⟩ := bnds_par h
     refine ⟨_, h1, fun A' hA R' K' => ?_⟩
     unfold step
     rw [ho, hod]
     simp only [opT_ag hA hx, intOp_ag hA hlo, intOp_ag hA hhi, hs, hl, hu, seen_ag hA hal, hsn, hq, cond_true]
     exact h2 _
    ·obtain ⟨h1, h2⟩ := bnds_par h
     refine ⟨_, h1, fun A' hA R' K' => ?_⟩
     unfold step
     rw [ho, hod]
     simp only [opT_ag hA hx, intOp_ag hA hlo, intOp_ag hA hhi, hs, hl, hu, seen_ag hA hal, hsn, hq, cond_true]
     exact h2 _
  ·rename_i p v e r' xs hsn
   have hp : p ∈ F := opT_one hx hs
   cases hq : isEl E T e with
   | false => rw [hq] at h; simp at h
   | true =>
    rw [hq, cond_true] at h
    cases hmv : E.mv d with
    | true =>
     rw [hmv, cond_true] at h
     split at h
     ·obtain ⟨h1, h2⟩ := bnds_par h
      refine ⟨_, h1, fun A' hA R' K' => ?_⟩
      unfold step
      rw [ho, hod]
      simp only [opT_ag hA hx, intOp_ag hA hlo, intOp_ag hA hhi, hs, hl, hu, seen_ag hA hal, hsn, hq, hmv, cond_true]
      exact h2 _
     ·cases h
    | false =>
     rw [hmv, cond_false] at h
     cases hno : noOw r' with
     | true =>
      rw [hno, cond_true] at h
      obtain ⟨h1, h2⟩ := bnds_par h
      refine ⟨_, h1, fun A' hA R' K' => ?_⟩
      unfold step
      rw [ho, hod]
      simp only [opT_ag hA hx, intOp_ag hA hlo, intOp_ag hA hhi, hs, hl, hu, seen_ag hA hal, hsn, hq, hmv, hno, cond_true, cond_false, cost_ag hA hal]
      exact h2 _
     | false =>
      rw [hno, cond_false] at h
      cases hao : allOw r' with
      | false => rw [hao] at h; simp at h
      | true =>
       rw [hao, cond_true] at h
       obtain ⟨h1, h2⟩ := bnds_par h
       refine ⟨_, h1, fun A' hA R' K' => ?_⟩
       unfold step
       rw [ho, hod]
       simp only [opT_ag hA hx, intOp_ag hA hlo, intOp_ag hA hhi, hs, hl, hu, seen_ag hA hal, hsn, hq, hmv, hno, hao, cond_true, cond_false]
       exact h2 _
  ·rename_i p v pi e r' xs
   have hp : p ∈ F := opT_one hx hs
   cases hq : (isEl E T e && Nat.beq (get A p).1 v) with
   | false => rw [hq] at h; simp at h
   | true =>
    rw [hq, cond_true] at h
    obtain ⟨h1, h2⟩ := bnds_par h
    refine ⟨_, h1, fun A' hA R' K' => ?_⟩
    unfold step
    rw [ho, hod]
    simp only [opT_ag hA hx, intOp_ag hA hlo, intOp_ag hA hhi, hs, hl, hu, hA p hp, hq, cond_true]
    exact h2 _
  ·rename_i e r' xs hnda hsn
   cases hq : isEl E T e with
   | false => rw [hq] at h; simp at h
   | true =>
    rw [hq, cond_true] at h
    obtain ⟨h1, h2⟩ := bnds_par h
    refine ⟨_, h1, fun A' hA R' K' => ?_⟩
    unfold step
    rw [ho, hod]
    simp only [opT_ag hA hx, intOp_ag hA hlo, intOp_ag hA hhi, hs, hl, hu, seen_ag hA hal, hsn, hq, cond_true]
    exact h2 _
  ·cases h
 ·cases h
theorem cost_calm {A : Ab} {y : Lf} : ∀ u ∈ cost A y, calmU u := by
 intro u hu
 unfold cost at hu
 split at hu
 ·rename_i p v
  split at hu
  ·rename_i n e r xs hg
   cases hb : Nat.beq n v with
   | false => rw [hb] at hu; simp at hu
   | true =>
    rw [hb] at hu
    simp only [cond_true, List.mem_singleton] at hu
    subst hu
    exact .inr ⟨e, r, xs, rfl⟩
  ·simp at hu
 ·simp at hu
theorem costs_calm {A : Ab} : ∀ {l : List Lf}, ∀ u ∈ costs A l, calmU u
 | [], u, hu => by simp [costs] at hu
 | y :: l, u, hu => by
  unfold costs at hu
  rcases List.mem_append.1 hu with hu | hu
  ·exact cost_calm u hu
  ·exact costs_calm u hu
theorem gone_calm {x : Operand} {s : Sv} : ∀ u ∈ gone x s, calmU u := by
 intro u hu
 unfold gone at hu
 split at hu
 ·rename_i t
  cases hb : ownSv s with
  | false => rw [hb] at hu; simp at hu
  | true =>
   rw [hb] at hu
   simp only [cond_true, List.mem_singleton] at hu
   subst hu
   exact .inl rfl
 ·simp at hu
theorem took_calm {y : Lf} {x : Operand} : ∀ u ∈ took y x, calmU u := by
 intro u hu
 unfold took at hu
 split at hu
 ·simp only [List.mem_singleton] at hu; subst hu; exact .inl rfl
 ·simp only [List.mem_singleton] at hu; subst hu; exact .inl rfl
 ·simp at hu
theorem cg_calm {A : Ab} {l : List Lf} {x : Operand} {s : Sv} : ∀ u ∈ costs A l ++ gone x s, calmU u := fun u hu => (List.mem_append.1 hu).elim (costs_calm u) (gone_calm u)
theorem takeLs_calm : ∀ {l : List Lf} {A : Ab} {m : List Lf} {us : List Up}, takeLs A l = some (m, us) → ∀ u ∈ us, calmU u
 | [], A, m, us, h => by
  simp only [takeLs, Option.some.injEq, Prod.mk.injEq] at h
  obtain ⟨_, rfl⟩ := h
  simp
 | x :: l, A, m, us, h => by
  by_cases hal : ∃ p v, x = .al p v
  ·obtain ⟨p, v, rfl⟩ := hal
   simp only [takeLs] at h
   split at h
   ·split at h
    ·rename_i m' us' hrec
     simp only [Option.some.injEq, Prod.mk.injEq] at h
     obtain ⟨_, rfl⟩ := h
     intro u hu
     rcases List.mem_cons.1 hu with rfl | hu
     ·exact .inl rfl
     ·exact takeLs_calm hrec u hu
    ·cases h
   ·cases h
  ·obtain ⟨m', rfl, h'⟩ := takeLs_cons (fun p v e => hal ⟨p, v, e⟩) h
   exact takeLs_calm h'
theorem give_calm {A : Ab} {x : Operand} {s : Sv} {m : List Lf} {us : List Up} (h : give A x s = some (m, us)) : ∀ u ∈ us, calmU u := by
 unfold give at h
 split at h
 ·rename_i m0 vs0 ht
  simp only [Option.some.injEq, Prod.mk.injEq] at h
  obtain ⟨_, rfl⟩ := h
  exact fun u hu => (List.mem_append.1 hu).elim (gone_calm u) (takeLs_calm ht u)
 ·cases h
theorem buildP_ag {T : TI} : ∀ {ps : List (Nat × Operand)} {A A' : Ab} {l : List Lf} {us : List Up}, Ag A A' F → (∀ p ∈ ps, RX A F p.2) → buildP E A' T l us ps = buildP E A T l us ps
 | [], _, _, _, _, _, _ => rfl
 | (i, x) :: ps, A, A', l, us, hA, hp => by
  have hx : RX A F x := hp (i, x) (by simp)
  have hps : ∀ p ∈ ps, RX A F p.2 := fun p hm => hp p (List.mem_cons_of_mem _ hm)
  have e0 : ∀ l us, buildP E A' T l us ps = buildP E A T l us ps := fun l us => buildP_ag hA hps
  unfold buildP
  cases hn : nth T.fo i with
  | none => rfl
  | some o =>
   obtain ⟨off, z, ag⟩ := o
   simp only [opT_ag hA hx]
   have gen : ∀ {s : Sv}, opT E 0 A x = some s → (let m := (parts s).map (kept A'); bif storable m && Nat.beq m.length z && Nat.ble (off + z) l.length then buildP E (ups A' (costs A' (parts s) ++ gone x s)) T (setAll l off m) (us ++ (costs A' (parts s) ++ gone x s)) ps else none) =
     (let m := (parts s).map (kept A); bif storable m && Nat.beq m.length z && Nat.ble (off + z) l.length then buildP E (ups A (costs A (parts s) ++ gone x s)) T (setAll l off m) (us ++ (costs A (parts s) ++ gone x s)) ps else none) := by
    intro s hs
    have hal := RL.als (opT_RL hx hs)
    simp only [keptM_ag hA hal, costs_ag hA hal]
    rw [buildP_ag (hA.ups (U := costs A (parts s) ++ gone x s)) (fun p hm => (hps p hm).ups cg_calm)]
   split
   ·cases Nat.beq z 1 with
    | false => rfl
    | true =>
     simp only [cond_true]
     split
     ·exact e0 _ _
     ·rfl
   ·cases hs : opT E 0 A x with
    | none => rfl
    | some s => exact gen hs
theorem loc_build {T : TypeId} {ps : Array (Nat × Operand)} {d : Nat} (ho : o.op = .build T ps) (hod : o.dst = some d) (hp : ∀ p ∈ ps.toList, RX A F p.2) (h : step E o A Kc = some r) : Loc E o A F Kc r := by
 unfold step at h
 rw [ho, hod] at h
 simp only at h
 split at h
 ·rename_i ti hT
  split at h
  ·rename_i l us hb
   cases ha : ti.ag with
   | false => rw [ha] at h; simp at h
   | true =>
    rw [ha, cond_true] at h
    refine ⟨_, h, fun A' hA R' K' => ?_⟩
    unfold step
    rw [ho, hod]
    simp only [hT, buildP_ag hA hp, hb, ha, cond_true]
  ·cases h
 ·cases h
theorem rowsP_ag {e : TypeId} {t : Ty} : ∀ {ps : List (Nat × Operand)} {A A' : Ab} {i : Nat}, Ag A A' F → (∀ p ∈ ps, RX A F p.2) → rowsP E A' e t i ps = rowsP E A e t i ps
 | [], _, _, _, _, _ => rfl
 | (j, x) :: ps, A, A', i, hA, hp => by
  have hx : RX A F x := hp (j, x) (by simp)
  have hps : ∀ p ∈ ps, RX A F p.2 := fun p hm => hp p (List.mem_cons_of_mem _ hm)
  unfold rowsP
  cases Nat.beq i j with
  | false => rfl
  | true =>
   simp only [cond_true, opT_ag hA hx]
   cases hs : opT E e A x with
   | none => rfl
   | some s =>
    have hal := RL.als (opT_RL hx hs)
    simp only [keptM_ag hA hal, calmM_ag hA hal, costs_ag hA hal]
    rw [rowsP_ag (hA.ups (U := costs A (parts s) ++ gone x s)) (fun p hm => (hps p hm).ups cg_calm)]
theorem rowsD_ag {e : TypeId} {t : Ty} : ∀ {ps : List (Nat × Operand)} {A A' : Ab} {i : Nat}, Ag A A' F → (∀ p ∈ ps, RX A F p.2) → rowsD E A' e t i ps = rowsD E A e t i ps
 | [], _, _, _, _, _ => rfl
 | (j, x) :: ps, A, A', i, hA, hp => by
  have hx : RX A F x := hp (j, x) (by simp)
  have hps : ∀ p ∈ ps, RX A F p.2 := fun p hm => hp p (List.mem_cons_of_mem _ hm)
  unfold rowsD
  cases Nat.beq i j with
  | false => rfl
  | true =>
   simp only [cond_true, opT_ag hA hx]
   cases hs : opT E e A x with
   | none => rfl
   | some s =>
    have hal := RL.als (opT_RL hx hs)
    simp only [give_ag hA hal]
    cases hgv : give A x s with
    | none => rfl
    | some q =>
     obtain ⟨m, us⟩ := q
     simp only
     rw [rowsD_ag (hA.ups (U := us)) (fun p hm => (hps p hm).ups (give_calm hgv))]
theorem loc_buildSlice {T : TypeId} {n : Nat} {ps : Array (Nat × Operand)} {d : Nat} (ho : o.op = .buildSlice T n ps) (hod : o.dst = some d) (hp : ∀ p ∈ ps.toList, RX A F p.2) (h : step E o A Kc = some r) : Loc E o A F Kc r := by
 unfold step at h
 rw [ho, hod] at h
 simp only at h
 split at h
 ·rename_i e r' b f hT
  cases hb : (Nat.beq n ps.size && Nat.ble (n * r'.sz) 16777216 && (E.ti e).isSome) with
  | false => rw [hb] at h; simp at h
  | true =>
   rw [hb, cond_true] at h
   split at h
   ·rename_i hh
    cases hno : noOw r' with
    | false => rw [hno] at h; simp at h
    | true =>
     rw [hno, cond_true] at h
     split at h
     ·rename_i ys us hr
      refine ⟨_, h, fun A' hA R' K' => ?_⟩
      unfold step
      rw [ho, hod]
      simp only [hT, hb, hh, hno, cond_true, rowsP_ag hA hp, hr]
     ·cases h
   ·rename_i r2 hh
    cases hb2 : (decide (shp r2 = shp r') && allOw r2) with
    | false => rw [hb2] at h; simp at h
    | true =>
     rw [hb2, cond_true] at h
     split at h
     ·rename_i ys us hr
      refine ⟨_, h, fun A' hA R' K' => ?_⟩
      unfold step
      rw [ho, hod]
      simp only [hT, hb, hh, hb2, cond_true, rowsD_ag hA hp, hr]
     ·cases h
 ·cases h
theorem loc_makeSlice {T : TypeId} {x y : Operand} {d : Nat} (ho : o.op = .makeSlice T x y) (hod : o.dst = some d) (hx : RX A F x) (hy : RX A F y) (h : step E o A Kc = some r) : Loc E o A F Kc r := by
 unfold step at h
 rw [ho, hod] at h
 simp only at h
 split at h
 ·rename_i e r' b f n m hT hs hm
  split at h
  ·rename_i te he
   cases hb : (zsame te.ty r' && decide (n = m)) with
   | false => rw [hb] at h; simp at h
   | true =>
    rw [hb, cond_true] at h
    cases h0 : decide (0 ≤ n) with
    | false => rw [h0] at h; simp at h
    | true =>
     rw [h0, cond_true] at h
     cases h1 : decide (n * te.by_ ≤ 140737488355328) with
     | false => rw [h1] at h; simp at h
     | true =>
      rw [h1, cond_true] at h
      split at h
      ·rename_i hh
       refine ⟨_, h, fun A' hA R' K' => ?_⟩
       unfold step
       rw [ho, hod]
       simp only [hT, opT_ag hA hx, opT_ag hA hy, hs, hm, he, hb, h0, h1, hh, cond_true]
      ·rename_i r2 hh
       cases h2 : decide (shp r2 = shp r') with
       | false => rw [h2] at h; simp at h
       | true =>
        rw [h2, cond_true] at h
        refine ⟨_, h, fun A' hA R' K' => ?_⟩
        unfold step
        rw [ho, hod]
        simp only [hT, opT_ag hA hx, opT_ag hA hy, hs, hm, he, hb, h0, h1, hh, h2, cond_true]
  ·cases h
 ·cases h
theorem opsT_ag (hA : Ag A A' F) : ∀ {xs : List Operand} {Ts : List TypeId}, (∀ x ∈ xs, RX A F x) → opsT E Ts A' xs = opsT E Ts A xs
 | [], _, _ => by simp only [opsT]
 | x :: xs, [], _ => by simp only [opsT]
 | x :: xs, T :: Ts, hx => by
  unfold opsT
  simp only [opT_ag hA (hx x (by simp)), opsT_ag hA (xs := xs) (Ts := Ts) (fun y hy => hx y (List.mem_cons_of_mem _ hy))]
theorem opsT_RL : ∀ {xs : List Operand} {Ts : List TypeId} {ss : List Sv}, (∀ x ∈ xs, RX A F x) → opsT E Ts A xs = some ss → ∀ s ∈ ss, ∀ y ∈ parts s, RL A F y
 | [], _, ss, _, h => by
  simp only [opsT, Option.some.injEq] at h
  subst h
  intro s hs
  simp at hs
 | x :: xs, [], ss, _, h => by simp [opsT] at h
 | x :: xs, T :: Ts, ss, hx, h => by
  simp only [opsT] at h
  split at h
  ·rename_i s hs
   split at h
   ·rename_i ss' hss
    simp only [Option.some.injEq] at h
    subst h
    intro s' hs' y hy
    rcases List.mem_cons.1 hs' with rfl | hs'
    ·exact opT_RL (hx x (by simp)) hs y hy
    ·exact opsT_RL (fun y hy => hx y (List.mem_cons_of_mem _ hy)) hss s' hs' y hy
   ·cases h
  ·cases h
theorem loc_len {c : Call} (ho : o.op = .call c) (hc : c.callee = .builtin .len) (hx : ∀ x ∈ c.args.toList, RX A F x) (h : step E o A Kc = some r) : Loc E o A F Kc r := by
 unfold step at h
 rw [ho] at h
 simp only [hc] at h
 split at h
 ·rename_i T x d hT hxs hod
  have hx0 : RX A F x := hx x (by rw [hxs]; simp)
  split at h
  ·rename_i y hs
   have hal := (opT_one hx0 hs).al
   split at h
   ·rename_i s hse
    cases hb : isStr E T with
    | false => rw [hb] at h; simp at h
    | true =>
     rw [hb, cond_true] at h
     refine ⟨_, h, fun A' hA R' K' => ?_⟩
     unfold step
     rw [ho, hod]
     simp only [hc, hT, hxs, opT_ag hA hx0, hs, seen_ag hA hal, hse, hb, cond_true]
   ·rename_i p v pi e r' xs hse
    have hy : y = .da p v pi e r' xs := by
     cases y <;> first | exact hse | skip
     simp only [seen] at hse
     split at hse
     ·rename_i n _ _ _ _
      cases hbb : Nat.beq n _ <;> rw [hbb] at hse <;> simp at hse
     ·rename_i n _ _ _ _
      cases hbb : Nat.beq n _ <;> rw [hbb] at hse <;> simp at hse
     ·cases hse
    have hp : p ∈ F := by have := opT_one hx0 hs; rw [hy] at this; exact this
    cases hb : (isEl E T e && Nat.beq (get A p).1 v) with
    | false => rw [hb] at h; simp at h
    | true =>
     rw [hb, cond_true] at h
     refine ⟨_, h, fun A' hA R' K' => ?_⟩
     unfold step
     rw [ho, hod]
     simp only [hc, hT, hxs, opT_ag hA hx0, hs, seen_ag hA hal, hse, hA p hp, hb, cond_true]
   ·rename_i e r' xs hse
    cases hb : isEl E T e with
    | false => rw [hb] at h; simp at h
    | true =>
     rw [hb, cond_true] at h
     refine ⟨_, h, fun A' hA R' K' => ?_⟩
     unfold step
     rw [ho, hod]
     simp only [hc, hT, hxs, opT_ag hA hx0, hs, seen_ag hA hal, hse, hb, cond_true]
   ·rename_i e r' xs hse
    cases hb : isEl E T e with
    | false => rw [hb] at h; simp at h
    | true =>
     rw [hb, cond_true] at h
     refine ⟨_, h, fun A' hA R' K' => ?_⟩
     unfold step
     rw [ho, hod]
     simp only [hc, hT, hxs, opT_ag hA hx0, hs, seen_ag hA hal, hse, hb, cond_true]
   ·cases h
  ·cases h
 ·cases h
theorem loc_min {c : Call} (ho : o.op = .call c) (hc : c.callee = .builtin .min) (hx : ∀ x ∈ c.args.toList, RX A F x) (h : step E o A Kc = some r) : Loc E o A F Kc r := by
 unfold step at h
 rw [ho] at h
 simp only [hc] at h
 split at h
 ·rename_i k n l d hs hod
  obtain ⟨v, h1, h2⟩ := minMax_par h
  refine ⟨_, h1, fun A' hA R' K' => ?_⟩
  unfold step
  rw [ho, hod]
  simp only [hc, opsT_ag hA hx, hs]
  exact h2 _
 ·cases h
theorem loc_max {c : Call} (ho : o.op = .call c) (hc : c.callee = .builtin .max) (hx : ∀ x ∈ c.args.toList, RX A F x) (h : step E o A Kc = some r) : Loc E o A F Kc r := by
 unfold step at h
 rw [ho] at h
 simp only [hc] at h
 split at h
 ·rename_i k n l d hs hod
  obtain ⟨v, h1, h2⟩ := minMax_par h
  refine ⟨_, h1, fun A' hA R' K' => ?_⟩
  unfold step
  rw [ho, hod]
  simp only [hc, opsT_ag hA hx, hs]
  exact h2 _
 ·cases h
theorem loc_append {c : Call} (ho : o.op = .call c) (hc : c.callee = .builtin .append) (hx : ∀ x ∈ c.args.toList, RX A F x) (h : step E o A Kc = some r) : Loc E o A F Kc r := by
 unfold step at h
 rw [ho] at h
 simp only [hc] at h
 split at h
 ·rename_i T T' x y d hT hxs hod
  have hx0 : RX A F x := hx x (by rw [hxs]; simp)
  have hy0 : RX A F y := hx y (by rw [hxs]; simp)
  split at h
  ·rename_i u w hsu hsw
   have hau := (opT_one hx0 hsu).al
   have hrw := opT_one hy0 hsw
   split at h
   ·rename_i e r' xs hsu'
    split at h
    ·rename_i r2 hh
     have hy1 : RX (ups A (took u x)) F y := hy0.ups took_calm
     split at h
     ·rename_i w2 hsw2
      have haw2 := (opT_one hy1 hsw2).al
      split at h
      ·rename_i e' r3 ys xs2 te hsn hcx hte
       split at h
       ·rename_i ys2 hcy
        cases hq : (allOw r2 && Nat.beq e e' && isEl E T e && Nat.beq T T') with
        | false => rw [hq] at h; simp at h
        | true =>
         rw [hq, cond_true] at h
         cases hq2 : Nat.ble ((xs2.length + ys2.length) * te.by_) 140737488355328 with
         | false => rw [hq2] at h; simp at h
         | true =>
          rw [hq2, cond_true] at h
          refine ⟨_, h, fun A' hA R' K' => ?_⟩
          have hA1 := hA.ups (U := took u x)
          unfold step
          rw [ho, hod]
          simp only [hc, hT, hxs, opT_ag hA hx0, opT_ag hA hy0, hsu, hsw, seen_ag hA hau, hsu', hh, opT_ag hA1 hy1, hsw2, seen_ag hA1 haw2, hsn, hcx, hte, hcy, hq, hq2, cond_true]
       ·cases h
      ·cases h
     ·cases h
    ·rename_i hh
     cases hno : noOw r' with
     | false => rw [hno] at h; simp at h
     | true =>
     rw [hno, cond_true] at h
     split at h
     ·rename_i e' r'' ys hasl
      split at h
      ·rename_i ys' te hcast hte
       cases hq : (Nat.beq e e' && isEl E T e && Nat.beq T T') with
       | false => rw [hq] at h; simp at h
       | true =>
        rw [hq, cond_true] at h
        cases hq2 : Nat.ble ((xs.length + ys'.length) * te.by_) 140737488355328 with
        | false => rw [hq2] at h; simp at h
        | true =>
         rw [hq2, cond_true] at h
         refine ⟨_, h, fun A' hA R' K' => ?_⟩
         unfold step
         rw [ho, hod]
         simp only [hc, hT, hxs, opT_ag hA hx0, opT_ag hA hy0, hsu, hsw, seen_ag hA hau, srcOf_ag hA hrw, hsu', hh, hno, hasl, hcast, hte, hq, hq2, cond_true]
      ·cases h
     ·rename_i hasl
      split at h
      ·rename_i s
       split at h
       ·rename_i ys' f hcast hte
        cases hq : (isEl E T e && isStr E T' && Nat.ble ((xs.length + s.size) * 1) 140737488355328) with
        | false => rw [hq] at h; simp at h
        | true =>
         rw [hq, cond_true] at h
         refine ⟨_, h, fun A' hA R' K' => ?_⟩
         unfold step
         rw [ho, hod]
         simp only [hc, hT, hxs, opT_ag hA hx0, opT_ag hA hy0, hsu, hsw, seen_ag hA hau, srcOf_ag hA hrw, hsu', hh, hno, hasl, hcast, hte, hq, cond_true]
       ·cases h
      ·cases h
   ·cases h
  ·cases h
 ·cases h
theorem lentOf_ag (hA : Ag A A' F) : ∀ {ps : List Par} {ss : List Sv}, (∀ s ∈ ss, ∀ y ∈ parts s, RL A F y) → lentOf A' ps ss = lentOf A ps ss
 | [], [], _ => rfl
 | [], _ :: _, _ => rfl
 | p :: _, [], _ => by cases p <;> rfl
 | .ptr _ _ :: _, _ :: _, _ => rfl
 | .hid _ _ :: _, _ :: _, _ => rfl
 | .rd _ :: _, _ :: _, _ => rfl
 | .fn _ _ :: _, _ :: _, _ => rfl
 | .vw _ _ :: _, _ :: _, _ => rfl
 | .val ag t :: ps, s :: ss, hs => by
  unfold lentOf
  rw [viewM_ag hA (hs s (by simp)), lentOf_ag hA (fun s' hs' => hs s' (List.mem_cons_of_mem _ hs'))]
theorem tookP_calm {y : Lf} : ∀ u ∈ tookP y, calmU u := by
 intro u hu
 unfold tookP at hu
 split at hu
 ·simp only [List.mem_singleton] at hu; subst hu; exact .inl rfl
 ·simp at hu
theorem xferLs_calm : ∀ {ts : List Ty} {l : List Lf} {A : Ab} {m : List Lf} {us : List Up}, xferLs A ts l = some (m, us) → ∀ u ∈ us, calmU u
 | [], [], A, m, us, h => by
  simp only [xferLs, Option.some.injEq, Prod.mk.injEq] at h
  obtain ⟨_, rfl⟩ := h
  simp
 | [], _ :: _, A, m, us, h => by simp [xferLs] at h
 | t :: ts, [], A, m, us, h => by cases t <;> simp [xferLs] at h
 | t :: ts, x :: l, A, m, us, h => by
  cases t with
  | ow e r =>
   simp only [xferLs] at h
   split at h
   ·split at h
    ·rename_i hr
     simp only [Option.some.injEq, Prod.mk.injEq] at h
     obtain ⟨_, rfl⟩ := h
     exact fun u hu => (List.mem_append.1 hu).elim (tookP_calm u) (xferLs_calm hr u)
    ·cases h
   ·cases h
  | _ =>
   simp only [xferLs] at h
   split at h
   ·rename_i hr
    simp only [Option.some.injEq, Prod.mk.injEq] at h
    obtain ⟨_, rfl⟩ := h
    exact fun u hu => (List.mem_append.1 hu).elim (cost_calm u) (xferLs_calm hr u)
   ·cases h
theorem giveT_ag {x : Operand} {s : Sv} {t : Ty} (hA : Ag A A' F) (hal : ∀ y ∈ parts s, AL F y) : giveT A' x s t = giveT A x s t := by
 unfold giveT giveL
 rw [xferLs_ag (hA.ups (U := gone x s)) hal]
theorem giveT_calm {x : Operand} {s : Sv} {t : Ty} {m : List Lf} {us : List Up} (h : giveT A x s t = some (m, us)) : ∀ u ∈ us, calmU u := by
 unfold giveT giveL at h
 split at h
 ·rename_i m0 vs0 ht
  cases hst : storable m0 with
  | false => rw [hst] at h; simp at h
  | true =>
   rw [hst] at h
   simp only [cond_true, Option.some.injEq, Prod.mk.injEq] at h
   obtain ⟨_, rfl⟩ := h
   exact fun u hu => (List.mem_append.1 hu).elim (gone_calm u) (xferLs_calm ht u)
 ·cases h
theorem giveB_ag {b v : Nat} {t t' : Ty} (hA : Ag A A' F) (hb : RB A F b 0) : giveB A' b v t t' = giveB A b v t t' := by
 obtain ⟨h1, h2⟩ := hb
 unfold giveB
 rw [hA _ h1]
 split
 ·rename_i n m hg
  have hcell : ∀ i, i < m → C b (0 + i) ∈ F ∧ ∀ p v, (get A (C b (0 + i))).2 = .one (.al p v) → p ∈ F := fun i hi => by
   rw [Nat.zero_add]
   exact h2 m (by rw [hg]) i (Nat.zero_le _) hi
  have hac := cellsOf_AL hcell
  have e1 : cellsOf A' b 0 m = cellsOf A b 0 m := cellsOf_ag hA (fun i hi => (hcell i hi).1)
  rw [e1, xferLs_ag hA hac]
 ·rfl
theorem giveB_calm {b v : Nat} {t t' : Ty} {m : List Lf} {us : List Up} (h : giveB A b v t t' = some (m, us)) : ∀ u ∈ us, calmU u := by
 unfold giveB at h
 split at h
 ·rename_i n hd hp
  cases hq : (Nat.beq n v && Nat.beq hd t.sz && Nat.beq hd t'.sz) with
  | false => rw [hq] at h; simp at h
  | true =>
   rw [hq, cond_true] at h
   split at h
   ·rename_i l us0 hx
    cases hst : storable l with
    | false => rw [hst] at h; simp at h
    | true =>
     rw [hst] at h
     simp only [cond_true, Option.some.injEq, Prod.mk.injEq] at h
     obtain ⟨_, rfl⟩ := h
     exact xferLs_calm hx
   ·cases h
 ·cases h
theorem aliveB_ag (hA : Ag A A' F) : ∀ {bs : List (Nat × Nat)}, (∀ c ∈ bs, RB A F c.1 0) → aliveB A' bs = aliveB A bs
 | [], _ => rfl
 | c :: bs, h => by
  unfold aliveB
  rw [hA _ (h c (by simp)).1, aliveB_ag hA (fun c hc => h c (List.mem_cons_of_mem _ hc))]
theorem vwOf_ag (hA : Ag A A' F) {b : Nat} : ∀ {ts : List Ty} {j : Nat} {l : List Lf}, (∀ y ∈ l, AL F y) → vwOf A' b j ts l = vwOf A b j ts l
 | [], _, [], _ => rfl
 | [], _, _ :: _, _ => rfl
 | t :: ts, _, [], _ => by cases t <;> rfl
 | t :: ts, j, x :: l, h => by
  have hx := h x (by simp)
  have ih := vwOf_ag hA (b := b) (ts := ts) (j := j + 1) (l := l) (fun y hy => h y (List.mem_cons_of_mem _ hy))
  cases t with
  | ow e r =>
   cases x with
   | al p v => simp only [vwOf, ih, seen_ag hA hx, hA p hx]
   | _ => rfl
  | _ => simp only [vwOf, ih, seen_ag hA hx]
def RV (A : Ab) (F : List Nat) (ss : List Sv) : Prop := ∀ ys, Sv.agg ys ∈ ss → ∀ p v, Lf.al p v ∈ ys → 1000 ≤ p → RB A F (p / 1000 - 1) 0
theorem vwBox_some : ∀ {ys : List Lf} {b : Nat}, vwBox ys = some b → ∃ p v, Lf.al p v ∈ ys ∧ 1000 ≤ p ∧ b = p / 1000 - 1
 | [], b, h => by simp [vwBox] at h
 | y :: ys, b, h => by
  have rest : vwBox ys = some b → ∃ p v, Lf.al p v ∈ y :: ys ∧ 1000 ≤ p ∧ b = p / 1000 - 1 := fun h => by
   obtain ⟨p, v, h1, h2⟩ := vwBox_some h
   exact ⟨p, v, List.mem_cons_of_mem _ h1, h2⟩
  cases y with
  | al p v =>
   simp only [vwBox] at h
   cases hq : Nat.ble 1000 p with
   | false => rw [hq] at h; exact rest h
   | true =>
    rw [hq] at h
    simp only [cond_true, Option.some.injEq] at h
    exact ⟨p, v, by simp, Nat.le_of_ble_eq_true hq, h.symm⟩
  | _ => exact rest h
theorem vwBs_ag (hA : Ag A A' F) : ∀ {ps : List Par} {ss : List Sv}, RV A F ss → vwBs A' ps ss = vwBs A ps ss ∧ ∀ c ∈ vwBs A ps ss, RB A F c.1 0
 | [], ss, _ => ⟨rfl, by simp [vwBs]⟩
 | p :: ps, [], _ => by cases p <;> exact ⟨rfl, by simp [vwBs]⟩
 | p :: ps, s :: ss, h => by
  obtain ⟨h1, h2⟩ := vwBs_ag hA (ps := ps) (ss := ss) (fun ys hy => h ys (List.mem_cons_of_mem _ hy))
  cases p with
  | vw t h0 =>
   cases s with
   | agg ys =>
    simp only [vwBs]
    cases hb : vwBox ys with
    | none => exact ⟨h1, h2⟩
    | some b =>
     obtain ⟨p, v, e1, e2, rfl⟩ := vwBox_some hb
     have hrb := h ys (by simp) p v e1 e2
     refine ⟨by simp only [h1, hA _ hrb.1], fun c hc => ?_⟩
     rcases List.mem_cons.1 hc with rfl | hc
     ·exact hrb
     ·exact h2 c hc
   | _ => exact ⟨h1, h2⟩
  | _ => cases s <;> exact ⟨h1, h2⟩
theorem argOf_ag (hA : Ag A A' F) {cb hb : List (Nat × Nat)} {nv : Nat} {x : Operand} {p : Par} {s : Sv} (hhb : ∀ c ∈ hb, RB A F c.1 0) (hs : ∀ y ∈ parts s, RL A F y) : argOf A' cb hb nv x p s = argOf A cb hb nv x p s ∧ ∀ l u b, argOf A cb hb nv x p s = some (l, u, b) → ∀ v ∈ u, calmU v := by
 have hal := RL.als hs
 constructor
 ·unfold argOf
  split
  ·rename_i t h0 ys
   cases hn : nth hb (h0 - nv) with
   | none => rfl
   | some c =>
    rw [nth_eq] at hn
    simp only [hA _ (hhb c (List.mem_of_getElem? hn)).1, vwOf_ag hA (show ∀ y ∈ ys, AL F y from hal)]
  ·simp only [giveT_ag hA hal]
  ·rename_i b v
   rw [giveB_ag hA (show RB A F b 0 from hs (.bp b v 0) (by simp [parts]))]
  ·rename_i b v
   rw [giveB_ag hA (show RB A F b 0 from hs (.bp b v 0) (by simp [parts]))]
  ·rfl
  ·rename_i F0 m F' bs
   rw [aliveB_ag hA (show ∀ c ∈ bs, RB A F c.1 0 from hs (.fn F' bs) (by simp [parts]))]
  ·rfl
 ·intro l u b h v hv
  unfold argOf at h
  split at h
  ·rename_i t h0 ys
   split at h
   ·split at h
    ·rename_i n m _
     generalize (Nat.ble nv h0 && Nat.beq n _ && Nat.beq m t.sz) = bb at h
     cases bb with
     | false => simp at h
     | true =>
      rw [cond_true] at h
      split at h
      ·simp only [Option.some.injEq, Prod.mk.injEq] at h
       obtain ⟨_, rfl, _⟩ := h
       simp at hv
      ·cases h
    ·cases h
   ·cases h
  ·rename_i ag t
   cases hf : formOk ag s with
   | false => rw [hf] at h; simp at h
   | true =>
    rw [hf, cond_true] at h
    split at h
    ·rename_i hgive
     simp only [Option.some.injEq, Prod.mk.injEq] at h
     obtain ⟨_, rfl, _⟩ := h
     exact giveT_calm hgive v hv
    ·cases h
  ·split at h
   ·rename_i hgive
    simp only [Option.some.injEq, Prod.mk.injEq] at h
    obtain ⟨_, rfl, _⟩ := h
    exact giveB_calm hgive v hv
   ·cases h
  ·split at h
   ·rename_i hgive
    simp only [Option.some.injEq, Prod.mk.injEq] at h
    obtain ⟨_, rfl, _⟩ := h
    exact giveB_calm hgive v hv
   ·cases h
  ·rename_i t r y
   cases hf : (decide (shp r = shp t) && noOw t) with
   | false => rw [hf] at h; simp at h
   | true =>
    rw [hf] at h
    simp only [cond_true, Option.some.injEq, Prod.mk.injEq] at h
    obtain ⟨_, rfl, _⟩ := h
    simp at hv
  ·rename_i F0 m F' bs
   cases hf : (Nat.beq F0 F' && Nat.beq m bs.length && eqBs bs cb && aliveB A bs) with
   | false => rw [hf] at h; simp at h
   | true =>
    rw [hf] at h
    simp only [cond_true, Option.some.injEq, Prod.mk.injEq] at h
    obtain ⟨_, rfl, _⟩ := h
    simp at hv
  ·cases h
theorem argsOf_ag {cb hb : List (Nat × Nat)} {nv : Nat} : ∀ {ps : List Par} {xs : List (TypeId × Operand)} {hs : List (Nat × Nat)} {A A' : Ab}, Ag A A' F → (∀ x ∈ xs, RX A F x.2) → (∀ h ∈ hs, RB A F h.1 0) → (∀ c ∈ hb, RB A F c.1 0) → argsOf E cb hb nv A' xs hs ps = argsOf E cb hb nv A xs hs ps
 | [], [], [], _, _, _, _, _, _ => rfl
 | [], [], _ :: _, _, _, _, _, _, _ => rfl
 | [], _ :: _, _, _, _, _, _, _, _ => rfl
 | _ :: _, [], [], _, _, _, _, _, _ => rfl
 | p :: ps, x :: xs, hs, A, A', hA, hx, hb', hhb => by
  have hx0 : RX A F x.2 := hx x (by simp)
  unfold argsOf
  rw [opT_ag hA hx0]
  cases hs : opT E x.1 A x.2 with
  | none => rfl
  | some s =>
   simp only
   obtain ⟨h1, h2⟩ := argOf_ag hA (cb := cb) (hb := hb) (nv := nv) (x := x.2) (p := p) hhb (opT_RL hx0 hs)
   rw [h1]
   cases ha : argOf A cb hb nv x.2 p s with
   | none => rfl
   | some q =>
    obtain ⟨l, u, b⟩ := q
    simp only
    rw [argsOf_ag (hA.ups (U := u)) (fun y hy => (hx y (List.mem_cons_of_mem _ hy)).ups (h2 l u b ha)) (fun c hc => (hb' c hc).ups (h2 l u b ha)) (fun c hc => (hhb c hc).ups (h2 l u b ha))]
 | p :: ps, [], h :: hs, A, A', hA, hx, hb', hhb => by
  unfold argsOf
  obtain ⟨h1, h2⟩ := argOf_ag hA (cb := cb) (hb := hb) (nv := nv) (x := .func 0) (p := p) (s := .one (.bp h.1 h.2 0)) (F := F) hhb (fun y hy => by
   simp only [parts, List.mem_singleton] at hy
   subst hy
   exact hb' h (by simp))
  rw [h1]
  cases ha : argOf A cb hb nv (.func 0) p (.one (.bp h.1 h.2 0)) with
  | none => rfl
  | some q =>
   obtain ⟨l, u, b⟩ := q
   simp only
   rw [argsOf_ag (hA.ups (U := u)) (fun y hy => by simp at hy) (fun c hc => (hb' c (List.mem_cons_of_mem _ hc)).ups (h2 l u b ha)) (fun c hc => (hhb c hc).ups (h2 l u b ha))]
theorem capB_RB : ∀ {ss : List Sv}, (∀ s ∈ ss, ∀ y ∈ parts s, RL A F y) → ∀ c ∈ capB ss, RB A F c.1 0
 | [], _, c, hc => by simp [capB] at hc
 | s :: ss, h, c, hc => by
  have h2 := fun s' hs' => h s' (List.mem_cons_of_mem _ hs')
  cases s with
  | one z =>
   cases z with
   | fn F' bs => exact (show ∀ c ∈ bs, RB A F c.1 0 from h (.one (.fn F' bs)) (by simp) (.fn F' bs) (by simp [parts])) c hc
   | _ => exact capB_RB h2 c hc
  | _ => exact capB_RB h2 c hc
theorem capOf_ag (hA : Ag A A' F) : ∀ {xs : List Operand}, (∀ x ∈ xs, RX A F x) → capOf E A' xs = capOf E A xs
 | [], _ => rfl
 | x :: xs, h => by
  unfold capOf
  rw [opT_ag hA (h x (by simp)), capOf_ag hA (fun y hy => h y (List.mem_cons_of_mem _ hy))]
theorem resUp_ag {rs : List (RK × Ty)} {ls : List (List Lf)} {d : Option Nat} (hA : ∀ d', d = some d' → get A' (H d') = get A (H d')) : resUp A' rs ls d = resUp A rs ls d := by
 unfold resUp
 split <;> first | rfl | skip
 ·rename_i d _ _ _ _ _
  unfold ptrRes
  rw [hA _ rfl]
theorem callF_loc {en : Ent} {xs : List (TypeId × Operand)} {cs : List (Nat × Nat)} {ss : List Sv} {d : Option Nat} (hd : ∀ d', d = some d' → H d' ∈ F) (hx : ∀ x ∈ xs, RX A F x.2) (hcs : ∀ c ∈ cs, RB A F c.1 0) (hrl : ∀ s ∈ ss, ∀ y ∈ parts s, RL A F y) (hrv : RV A F ss) (h : callF E A en xs cs ss d Kc = some r) :
  ∃ U, Kc U = some r ∧ ∀ A', Ag A A' F → ∀ {R' : Type} (K' : List Up → Option R'), callF E A' en xs cs ss d K' = K' U := by
 unfold callF at h
 cases hnv : Nat.beq en.nv (xs.length + cs.length) with
 | false => rw [hnv] at h; simp at h
 | true =>
  rw [hnv, cond_true] at h
  cases hb : (lends en.ps && news en.rs && cs.isEmpty) with
  | true =>
   rw [hb, cond_true] at h
   split at h
   ·cases h
   ·rename_i ls hl
    split at h
    ·cases h
    ·rename_i x hm
     cases hr : en.run x with
     | none => rw [hr] at h; simp at h
     | some y =>
      rw [hr] at h
      simp only [Option.bind_some] at h
      split at h
      ·cases h
      ·rename_i rs hrs
       refine ⟨_, h, fun A' hA R' K' => ?_⟩
       unfold callF
       simp only [hnv, hb, cond_true, lentOf_ag hA hrl, hl, hm, hr, Option.bind_some, resUp_ag (A := A) (A' := A') (fun d' hd' => hA _ (hd d' hd')), hrs]
  | false =>
   rw [hb, cond_false] at h
   cases hb2 : (okPtr E en.rs d && (Nat.ble en.nv 1000 && parsOk en.nv 0 en.ps && Nat.ble en.rs.length 400 && Nat.ble en.ps.length 2000)) with
   | false => rw [hb2] at h; simp at h
   | true =>
    rw [hb2, cond_true] at h
    split at h
    ·cases h
    ·rename_i ls us bs hl
     cases hnd : nodupN bs with
     | false => rw [hnd] at h; simp at h
     | true =>
      rw [hnd, cond_true] at h
      split at h
      ·cases h
      ·rename_i x hm
       cases hr : en.run x with
       | none => rw [hr] at h; simp at h
       | some y =>
        rw [hr] at h
        simp only [Option.bind_some] at h
        split at h
        ·cases h
        ·rename_i ws hws
         split at h
         ·cases h
         ·rename_i rs hrs
          refine ⟨_, h, fun A' hA R' K' => ?_⟩
          have hA2 := (hA.ups (U := us)).ups (U := ws)
          obtain ⟨v1, v2⟩ := vwBs_ag hA (ps := en.ps) hrv
          have hhb : ∀ c ∈ capB ss ++ vwBs A en.ps ss, RB A F c.1 0 := fun c hc => (List.mem_append.1 hc).elim (capB_RB hrl c) (v2 c)
          have hargs := argsOf_ag (E := E) (cb := capB ss ++ vwBs A en.ps ss) (hb := capB ss ++ vwBs A en.ps ss) (nv := en.nv) (ps := en.ps) hA hx (hs := cs ++ (capB ss ++ vwBs A en.ps ss)) (fun c hc => (List.mem_append.1 hc).elim (hcs c) (hhb c)) hhb
          unfold callF
          simp only [v1, hnv, hb, hb2, hnd, cond_true, cond_false, hargs, hl, hm, hr, Option.bind_some, hws, resUp_ag (A := ups (ups A us) ws) (A' := ups (ups A' us) ws) (fun d' hd' => hA2 _ (hd d' hd')), hrs]
theorem opsT_RV : ∀ {xs : List Operand} {Ts : List TypeId} {ss : List Sv}, (∀ t, .tmp t ∈ xs → RV A F [(get A t).2]) → opsT E Ts A xs = some ss → RV A F ss
 | [], _, ss, _, h => by
  simp only [opsT, Option.some.injEq] at h
  subst h
  intro ys hy
  simp at hy
 | x :: xs, [], ss, _, h => by simp [opsT] at h
 | x :: xs, T :: Ts, ss, hx, h => by
  simp only [opsT] at h
  split at h
  ·rename_i s hs
   split at h
   ·rename_i ss' hss
    simp only [Option.some.injEq] at h
    subst h
    intro ys hy p v hp h1
    rcases List.mem_cons.1 hy with hy | hy
    ·subst hy
     cases x with
     | tmp t =>
      have h2 : (bif Nat.blt t E.nt then some (get A t).2 else none) = some (.agg ys) := hs
      cases hb : Nat.blt t E.nt with
      | false => rw [hb] at h2; simp at h2
      | true =>
       rw [hb] at h2
       simp only [cond_true, Option.some.injEq] at h2
       exact hx t (by simp) ys (by rw [h2]; simp) p v hp h1
     | const w =>
      exfalso
      unfold opT at hs
      split at hs
      ·rename_i e; cases e
      ·split at hs <;> cases hs
      ·rename_i w' _ _
       cases hq : isSc w' <;> simp [hq] at hs
      ·rename_i e; cases e
      ·cases hs
     | func f => simp [opT] at hs
     | global g => simp [opT] at hs
    ·exact opsT_RV (fun t ht => hx t (List.mem_cons_of_mem _ ht)) hss ys hy p v hp h1
   ·cases h
  ·cases h
theorem rdBx_RV : ∀ {ys : List Lf}, (∀ p ∈ rdBx A ys, p ∈ F) → ∀ p v, Lf.al p v ∈ ys → 1000 ≤ p → RB A F (p / 1000 - 1) 0
 | [], _, p, v, hm, _ => by simp at hm
 | y :: ys, h, p, v, hm, hp => by
  have rest : (∀ p ∈ rdBx A ys, p ∈ F) → Lf.al p v ∈ ys → RB A F (p / 1000 - 1) 0 := fun h hm => rdBx_RV h p v hm hp
  cases y with
  | al q w =>
   simp only [rdBx] at h
   rcases List.mem_cons.1 hm with e | hm
   ·simp only [Lf.al.injEq] at e
    obtain ⟨rfl, rfl⟩ := e
    rw [show Nat.ble 1000 p = true from Nat.ble_eq_true_of_le hp, cond_true] at h
    exact rdB_RB fun p hp => h p (List.mem_append_left _ hp)
   ·exact rest (fun p hp => h p (List.mem_append_right _ hp)) hm
  | _ =>
   rcases List.mem_cons.1 hm with e | hm
   ·cases e
   ·exact rest h hm
theorem rdAg_RV : ∀ {xs : List Operand}, (∀ p ∈ rdAg A xs, p ∈ F) → ∀ t, .tmp t ∈ xs → RV A F [(get A t).2]
 | [], _, t, hm => by simp at hm
 | x :: xs, h, t, hm => by
  rcases List.mem_cons.1 hm with rfl | hm
  ·intro ys hy
   simp only [List.mem_singleton] at hy
   simp only [rdAg, ← hy] at h
   exact rdBx_RV fun p hp => h p (List.mem_append_left _ hp)
  ·refine rdAg_RV (fun p hp => h p ?_) t hm
   cases x <;> first | exact hp | (simp only [rdAg]; exact List.mem_append_right _ hp)
theorem zip_RX {Ts : List TypeId} {xs : List Operand} (hx : ∀ x ∈ xs, RX A F x) : ∀ x ∈ Ts.zip xs, RX A F x.2 := fun x hm => hx x.2 (List.of_mem_zip (show (x.1, x.2) ∈ Ts.zip xs from hm)).2
theorem loc_callF {c : Call} {f : FuncId} (ho : o.op = .call c) (hc : c.callee = .value (.func f)) (hd : ∀ d, o.dst = some d → H d ∈ F) (hx : ∀ x ∈ c.args.toList, RX A F x) (hv : ∀ t, .tmp t ∈ c.args.toList → RV A F [(get A t).2]) (h : step E o A Kc = some r) : Loc E o A F Kc r := by
 unfold step at h
 rw [ho] at h
 simp only [hc] at h
 split at h
 ·rename_i en ss he hss
  obtain ⟨U, h1, h2⟩ := callF_loc hd (zip_RX hx) (by simp) (opsT_RL hx hss) (opsT_RV hv hss) h
  refine ⟨U, h1, fun A' hA R' K' => ?_⟩
  unfold step
  rw [ho]
  simp only [hc, he, opsT_ag hA hx, hss]
  exact h2 A' hA K'
 ·cases h
theorem loc_callV {c : Call} {t : Nat} (ho : o.op = .call c) (hc : c.callee = .value (.tmp t)) (hd : ∀ d, o.dst = some d → H d ∈ F) (ht : RX A F (.tmp t)) (hx : ∀ x ∈ c.args.toList, RX A F x) (hv : ∀ t, .tmp t ∈ c.args.toList → RV A F [(get A t).2]) (h : step E o A Kc = some r) : Loc E o A F Kc r := by
 unfold step at h
 rw [ho] at h
 simp only [hc] at h
 split at h
 ·rename_i f bs hf
  have hbs : ∀ c ∈ bs, RB A F c.1 0 := opT_one ht hf
  split at h
  ·rename_i en ss he hss
   cases hal : aliveB A bs with
   | false => rw [hal] at h; simp at h
   | true =>
    rw [hal, cond_true] at h
    obtain ⟨U, h1, h2⟩ := callF_loc hd (zip_RX hx) hbs (opsT_RL hx hss) (opsT_RV hv hss) h
    refine ⟨U, h1, fun A' hA R' K' => ?_⟩
    unfold step
    rw [ho]
    simp only [hc, opT_ag hA ht, hf, he, opsT_ag hA hx, hss, aliveB_ag hA hbs, hal, cond_true]
    exact h2 A' hA K'
  ·cases h
 ·cases h
theorem loc_makeFunc {f : FuncId} {x y : Array Operand} {d : Nat} (ho : o.op = .makeFunc (.func f) x y) (hod : o.dst = some d) (hy : ∀ z ∈ y.toList, RX A F z) (h : step E o A Kc = some r) : Loc E o A F Kc r := by
 unfold step at h
 rw [ho, hod] at h
 simp only at h
 split at h
 ·rename_i bs hx hbs
  refine ⟨_, h, fun A' hA R' K' => ?_⟩
  unfold step
  rw [ho, hod]
  simp only [hx, capOf_ag hA hy, hbs]
 ·cases h
theorem step_loc (hF : ∀ p ∈ rds A o, p ∈ F) (h : step E o A Kc = some r) : Loc E o A F Kc r := by
 have hD3 : ∀ d, o.dst = some d → d ∈ F ∧ H d ∈ F ∧ H (2000 + d) ∈ F := fun d hd => by
  unfold rds at hF
  rw [hd] at hF
  exact ⟨hF d (by simp [rdD]), hF (H d) (by simp [rdD]), hF (H (2000 + d)) (by simp [rdD])⟩
 have hD : ∀ d, o.dst = some d → d ∈ F ∧ H d ∈ F := fun d hd => ⟨(hD3 d hd).1, (hD3 d hd).2.1⟩
 have hO : ∀ p ∈ rdOp A o.op, p ∈ F := fun p hp => hF p (by unfold rds; exact List.mem_append_right _ hp)
 have hX : rdOp A o.op = rdOs A (opsOf o.op) → ∀ x ∈ opsOf o.op, RX A F x := fun e => rdOs_RX (by rw [← e]; exact hO)
 cases ho : o.op with
 | call c =>
  have hOc : ∀ p ∈ rdOs A (opsOf (.call c)) ++ rdAg A c.args.toList, p ∈ F := fun p hp => hO p (by rw [ho]; exact hp)
  have hx := rdOs_RX (fun p hp => hOc p (List.mem_append_left _ hp))
  have hvv := rdAg_RV (A := A) (F := F) (xs := c.args.toList) (fun p hp => hOc p (List.mem_append_right _ hp))
  have hxs : (∀ y, c.callee = .value y → RX A F y) ∧ ∀ x ∈ c.args.toList, RX A F x := by
   unfold opsOf at hx
   simp only at hx
   split at hx
   ·rename_i y hy
    exact ⟨fun z hz => by rw [hy] at hz; cases hz; exact hx y (by simp), fun x hm => hx x (List.mem_cons_of_mem _ hm)⟩
   ·rename_i hno
    exact ⟨fun z hz => absurd hz (hno z), hx⟩
  have hcv := hxs.1
  replace hx := hxs.2
  cases hc : c.callee with
  | builtin b =>
   cases b with
   | len => exact loc_len ho hc hx h
   | min => exact loc_min ho hc hx h
   | max => exact loc_max ho hc hx h
   | append => exact loc_append ho hc hx h
   | _ => unfold step at h; rw [ho] at h; simp only [hc] at h; cases h
  | value f =>
   cases f with
   | func f => exact loc_callF ho hc (fun d hd => (hD d hd).2) hx hvv h
   | tmp t => exact loc_callV ho hc (fun d hd => (hD d hd).2) (hcv _ hc) hx hvv h
   | _ => unfold step at h; rw [ho] at h; simp only [hc] at h; cases h
  | invoke x m => unfold step at h; rw [ho] at h; simp only [hc] at h; cases h
 | store T x y =>
  have hx := hX (by rw [ho]; rfl)
  rw [ho] at hx
  cases hod : o.dst with
  | none => exact loc_store ho hod (hx x (by simp [opsOf])) (hx y (by simp [opsOf])) h
  | some d => unfold step at h; rw [ho, hod] at h; cases h
 | move x => cases hod : o.dst with
  | none => unfold step at h; rw [ho, hod] at h; cases h
  | some d =>
   refine loc_move ho hod (fun t e => ?_) h
   subst e
   exact hO t (by rw [ho]; simp [rdOp, rdT])
 | assign x => cases hod : o.dst with
  | none => unfold step at h; rw [ho, hod] at h; cases h
  | some d =>
   have hx := hX (by rw [ho]; rfl)
   rw [ho] at hx
   exact loc_assign ho hod (hx x (by simp [opsOf])) h
 | pick c x y => cases hod : o.dst with
  | none => unfold step at h; rw [ho, hod] at h; cases h
  | some d =>
   have hx := hX (by rw [ho]; rfl)
   rw [ho] at hx
   exact loc_pick ho hod (hx c (by simp [opsOf])) (hx x (by simp [opsOf])) (hx y (by simp [opsOf])) h
 | binOp op T x y T' => cases hod : o.dst with
  | none => unfold step at h; rw [ho, hod] at h; cases h
  | some d =>
   have hx := hX (by rw [ho]; rfl)
   rw [ho] at hx
   exact loc_binOp ho hod (hx x (by simp [opsOf])) (hx y (by simp [opsOf])) h
 | unOp op T x => cases hod : o.dst with
  | none => unfold step at h; rw [ho, hod] at h; cases h
  | some d =>
   have hx := hX (by rw [ho]; rfl)
   rw [ho] at hx
   exact loc_unOp ho hod (hx x (by simp [opsOf])) h
 | convert T T' x => cases hod : o.dst with
  | none => unfold step at h; rw [ho, hod] at h; cases h
  | some d =>
   have hx := hX (by rw [ho]; rfl)
   rw [ho] at hx
   exact loc_convert ho hod (hx x (by simp [opsOf])) h
 | nilCheck x => cases hod : o.dst with
  | none => unfold step at h; rw [ho, hod] at h; cases h
  | some d => exact loc_nilCheck ho hod (rdP_RP (fun p hp => hO p (by rw [ho]; exact hp))) h
 | extract x j => cases hod : o.dst with
  | none => unfold step at h; rw [ho, hod] at h; cases x <;> cases h
  | some d => cases x with
   | tmp t =>
    have hx := hX (by rw [ho]; rfl)
    rw [ho] at hx
    exact loc_extract ho hod (hx (.tmp t) (by simp [opsOf])).1 h
   | _ => unfold step at h; rw [ho, hod] at h; cases h
 | field T x j => cases hod : o.dst with
  | none => unfold step at h; rw [ho, hod] at h; cases x <;> cases h
  | some d => cases x with
   | tmp t =>
    have hx := hX (by rw [ho]; rfl)
    rw [ho] at hx
    exact loc_field ho hod (hx (.tmp t) (by simp [opsOf])).1 h
   | _ => unfold step at h; rw [ho, hod] at h; cases h
 | build T ps => cases hod : o.dst with
  | none => unfold step at h; rw [ho, hod] at h; cases h
  | some d =>
   have hx := hX (by rw [ho]; rfl)
   rw [ho] at hx
   exact loc_build ho hod (fun p hp => hx p.2 (List.mem_map_of_mem hp)) h
 | alloc T => cases hod : o.dst with
  | none => unfold step at h; rw [ho, hod] at h; cases h
  | some d => exact loc_alloc ho hod (hD d hod).2 h
 | box T x => cases hod : o.dst with
  | none => unfold step at h; rw [ho, hod] at h; cases h
  | some d =>
   have hx := hX (by rw [ho]; rfl)
   rw [ho] at hx
   exact loc_box ho hod (hD d hod).2 (hx x (by simp [opsOf])) h
 | load T x => cases hod : o.dst with
  | none => unfold step at h; rw [ho, hod] at h; cases h
  | some d =>
   have hx := hX (by rw [ho]; rfl)
   rw [ho] at hx
   exact loc_load ho hod (hx x (by simp [opsOf])) h
 | fieldAddr T x j => cases hod : o.dst with
  | none => unfold step at h; rw [ho, hod] at h; cases h
  | some d => exact loc_fieldAddr ho hod (rdP_RP (fun p hp => hO p (by rw [ho]; exact hp))) h
 | indexAddr T x i => cases hod : o.dst with
  | none => unfold step at h; rw [ho, hod] at h; cases h
  | some d =>
   have hx := hX (by rw [ho]; rfl)
   rw [ho] at hx
   cases hop : E.opn d with
   | true => exact loc_indexOpen ho hod hop (hD3 d hod).2.2 (hx x (by simp [opsOf])) (hx i (by simp [opsOf])) h
   | false => exact loc_indexAddr ho hod hop (hx x (by simp [opsOf])) (hx i (by simp [opsOf])) h
 | index T x i => cases hod : o.dst with
  | none => unfold step at h; rw [ho, hod] at h; cases h
  | some d =>
   have hx := hX (by rw [ho]; rfl)
   rw [ho] at hx
   exact loc_index ho hod (hx x (by simp [opsOf])) (hx i (by simp [opsOf])) h
 | slice T x lo hi mx => cases hod : o.dst with
  | none => unfold step at h; rw [ho, hod] at h; cases mx <;> cases h
  | some d => cases mx with
   | none =>
    have hx := hX (by rw [ho]; rfl)
    rw [ho] at hx
    exact loc_slice ho hod (hx x (by simp [opsOf])) (fun y hy => hx y (by simp [opsOf, hy])) (fun y hy => hx y (by simp [opsOf, hy])) h
   | some m => unfold step at h; rw [ho, hod] at h; cases h
 | buildSlice T n ps => cases hod : o.dst with
  | none => unfold step at h; rw [ho, hod] at h; cases h
  | some d =>
   have hx := hX (by rw [ho]; rfl)
   rw [ho] at hx
   exact loc_buildSlice ho hod (fun p hp => hx p.2 (List.mem_map_of_mem hp)) h
 | makeSlice T x y => cases hod : o.dst with
  | none => unfold step at h; rw [ho, hod] at h; cases h
  | some d =>
   have hx := hX (by rw [ho]; rfl)
   rw [ho] at hx
   exact loc_makeSlice ho hod (hx x (by simp [opsOf])) (hx y (by simp [opsOf])) h
 | makeFunc fn x y =>
  cases fn with
  | func f => cases hod : o.dst with
   | none => unfold step at h; rw [ho, hod] at h; cases h
   | some d =>
    have hx := hX (by rw [ho]; rfl)
    rw [ho] at hx
    exact loc_makeFunc ho hod (fun z hz => hx z (by simp only [opsOf]; exact List.mem_append_right _ hz)) h
  | _ => unfold step at h; rw [ho] at h; cases hod : o.dst <;> (rw [hod] at h; cases h)
 | _ => unfold step at h; rw [ho] at h; cases hod : o.dst <;> (rw [hod] at h; cases h)
end
end Go.Proofs.YtgocagaijgcnmaaGreat.Vf
end

section
set_option linter.unusedVariables false
set_option linter.unusedSimpArgs false
namespace Go.Proofs.YtgocagaijgcnmaaGreat.Vf
open Go
attribute [local irreducible] C H
abbrev Gs := Nat → Nat × Sv
def gup (g : Gs) (u : Up) : Gs := fun p => if p = u.l then ((bif u.keep then (g u.l).1 else (g u.l).1 + 1), u.s) else g p
def gups (g : Gs) : List Up → Gs
 | [] => g
 | u :: U => gups (gup g u) U
theorem get_gups : ∀ (U : List Up) (A : Ab), get (ups A U) = gups (get A) U
 | [], _ => rfl
 | u :: U, A => by
  show get (ups (up A u) U) = gups (gup (get A) u) U
  rw [get_gups U (up A u)]
  congr 1
  funext p
  exact get_up1 A u p
theorem gups_out : ∀ (U : List Up) (g : Gs) (p : Nat), p ∉ U.map Up.l → gups g U p = g p
 | [], _, _, _ => rfl
 | u :: U, g, p, h => by
  simp only [List.map_cons, List.mem_cons, not_or] at h
  show gups (gup g u) U p = g p
  rw [gups_out U _ p h.2]
  exact if_neg h.1
theorem gups_same : ∀ (U : List Up) (g g' : Gs) (p : Nat), g p = g' p → gups g U p = gups g' U p
 | [], _, _, _, h => h
 | u :: U, g, g', p, h => by
  refine gups_same U (gup g u) (gup g' u) p ?_
  unfold gup
  by_cases e : p = u.l
  ·subst e; rw [if_pos rfl, if_pos rfl, h]
  ·rw [if_neg e, if_neg e, h]
structure Ak where
 N : Gs → Prop
 e : Gs → Gs
def Ind (x y : Ak) : Prop := (∀ g, x.N g → y.N (x.e g) → y.N g) ∧ (∀ g, y.N g → x.N g → x.N (y.e g)) ∧ (∀ g, x.N g → y.N g → x.e (y.e g) = y.e (x.e g))
def Runs : List Ak → Gs → Gs → Prop
 | [], g, f => g = f
 | x :: L, g, f => x.N g ∧ Runs L (x.e g) f
theorem Runs.front {y : Ak} {L2 : List Ak} : ∀ {L1 : List Ak} {g f : Gs}, (∀ x ∈ L1, Ind x y) → Runs (L1 ++ y :: L2) g f → y.N g ∧ Runs (L1 ++ L2) (y.e g) f
 | [], g, f, _, h => h
 | x :: L1, g, f, hi, h => by
  obtain ⟨h1, h2⟩ := h
  obtain ⟨h3, h4⟩ := Runs.front (fun z hz => hi z (List.mem_cons_of_mem _ hz)) h2
  obtain ⟨i1, i2, i3⟩ := hi x (by simp)
  have hy := i1 g h1 h3
  exact ⟨hy, i2 g hy h1, by rw [i3 g h1 hy]; exact h4⟩
inductive Anc (ops : Array Oper) : Nat → Nat → Prop
 | dir {i j : Nat} {o : Oper} (h : ops[i]? = some o) (hj : j ∈ aft o) : Anc ops j i
 | tr {i j k : Nat} {o : Oper} (h : ops[i]? = some o) (hk : k ∈ aft o) (ha : Anc ops j k) : Anc ops j i
theorem mem_aft {o : Oper} {j : Nat} : j ∈ aft o ↔ ∃ e ∈ o.after, Region.binds .any e = true ∧ e.on = j := by
 unfold aft
 rw [List.mem_filterMap]
 constructor
 ·rintro ⟨e, he, h⟩
  cases hb : Region.binds .any e with
  | false => rw [hb] at h; simp at h
  | true =>
   rw [hb] at h
   simp only [cond_true, Option.some.injEq] at h
   exact ⟨e, by simpa using he, hb, h⟩
 ·rintro ⟨e, he, hb, h⟩
  exact ⟨e, by simpa using he, by rw [hb]; simp [h]⟩
section
variable {X : Cx} {E : En} {ops : Array Oper} {Q : Exit → Act → World → Prop}
def OpOk (X : Cx) (ops : Array Oper) (Q : Exit → Act → World → Prop) (i : Nat) (x : Ak) : Prop :=
 ∀ (S : Sit) (a : Act) (A : Ab), Okay X S a → S.g = get A → x.N (get A) → ∀ K : Act → World → Prop, (∀ S' a' A', Okay X S' a' → S'.g = get A' → get A' = x.e (get A) → K a' S'.w) → wpOp X.P ops Q i K a S.w
theorem anc_listed {listed : Array Bool} (hd : ∀ i o, ops[i]? = some o → listed.getD i false = true → ∀ j ∈ aft o, listed.getD j false = true) {i j : Nat} (h : Anc ops j i) : listed.getD i false = true → listed.getD j false = true := by
 induction h with
 | dir h hj => exact fun hi => hd _ _ h hi _ hj
 | tr h hk _ ih => exact fun hi => ih (hd _ _ h hi _ hk)
theorem getD_tf {listed : Array Bool} {i : Nat} (hi : i < listed.size) : listed.getD i true = listed.getD i false := by
 simp [Array.getD_eq_getD_getElem?, hi]
theorem any_ok (hlt : ∀ i o, ops[i]? = some o → ∀ j ∈ aft o, j < i) {f : Gs} (hQ : ∀ S a A, Okay X S a → S.g = get A → get A = f → Q .normal a S.w) :
  ∀ (fuel : Nat) (L : List (Nat × Ak)) (listed : Array Bool) (S : Sit) (a : Act) (A : Ab), L.length = fuel → listed.size = ops.size → L.Pairwise (fun x y => x.1 < y.1) → (∀ i, i < ops.size → (listed.getD i false = false ↔ ∃ x ∈ L, x.1 = i)) →
   L.Pairwise (fun x y => Anc ops x.1 y.1 ∨ Ind x.2 y.2) → (∀ x ∈ L, OpOk X ops Q x.1 x.2) → (∀ x ∈ L, x.1 < ops.size) →
   (∀ i o, ops[i]? = some o → listed.getD i false = true → ∀ j ∈ aft o, listed.getD j false = true) →
   Okay X S a → S.g = get A → Runs (L.map Prod.snd) (get A) f → wpAny X.P .any ops Q fuel listed a S.w
 | 0, L, listed, S, a, A, hlen, hsz, hs, hl, hi, ho, hb, hd, K, hg, hr => by
  have : L = [] := List.eq_nil_of_length_eq_zero hlen
  subst this
  refine ⟨?_, hQ S a A K hg hr⟩
  rw [List.eq_nil_iff_forall_not_mem]
  intro i hm
  obtain ⟨h1, o, h2, _⟩ := mem_ready.1 hm
  have hlt2 : i < ops.size := (Array.getElem?_eq_some_iff.1 h2).1
  rw [getD_tf (by omega)] at h1
  obtain ⟨x, hx, _⟩ := (hl i hlt2).1 h1
  simp at hx
 | fuel + 1, L, listed, S, a, A, hlen, hsz, hs, hl, hi, ho, hb, hd, K, hg, hr => by
  cases L with
  | nil => simp at hlen
  | cons x0 L0 =>
   refine ⟨fun h0 => ?_, fun i hm => ?_⟩
   ·exfalso
    have hx0 := hb x0 (by simp)
    obtain ⟨o, h2⟩ : ∃ o, ops[x0.1]? = some o := ⟨_, Array.getElem?_eq_getElem hx0⟩
    have hu := (hl x0.1 hx0).2 ⟨x0, by simp, rfl⟩
    have : x0.1 ∈ Region.ready .any ops listed := by
     refine mem_ready.2 ⟨by rw [getD_tf (by omega)]; exact hu, o, h2, fun e he hbe => ?_⟩
     have hj := hlt _ _ h2 e.on (mem_aft.2 ⟨e, he, hbe, rfl⟩)
     cases hc : listed.getD e.on false with
     | true => rfl
     | false =>
      obtain ⟨y, hy, hye⟩ := (hl e.on (by omega)).1 hc
      rcases List.mem_cons.1 hy with rfl | hy
      ·omega
      ·have := (List.pairwise_cons.1 hs).1 y hy
       omega
    rw [h0] at this
    simp at this
   ·obtain ⟨h1, o, h2, h3⟩ := mem_ready.1 hm
    have hil : i < ops.size := (Array.getElem?_eq_some_iff.1 h2).1
    rw [getD_tf (by omega)] at h1
    obtain ⟨y, hy, hyi⟩ := (hl i hil).1 h1
    obtain ⟨L1, L2, hL⟩ := List.append_of_mem hy
    have haft : ∀ j ∈ aft o, listed.getD j false = true := fun j hj => by
     obtain ⟨e, he, hbe, rfl⟩ := mem_aft.1 hj
     exact h3 e he hbe
    have hanc : ∀ j, Anc ops j i → listed.getD j false = true := by
     intro j hj
     cases hj with
     | dir h hj => rw [h2] at h; cases h; exact haft _ hj
     | tr h hk ha => rw [h2] at h; cases h; exact anc_listed hd ha (haft _ hk)
    rw [hL] at hs hl hi ho hb hr hlen
    rw [List.pairwise_append] at hs hi
    obtain ⟨s1, s2, s3⟩ := hs
    obtain ⟨i1, i2, i3⟩ := hi
    rw [List.pairwise_cons] at s2 i2
    have hind : ∀ x ∈ L1, Ind x.2 y.2 := by
     intro x hx
     rcases i3 x hx y (by simp) with h | h
     ·exfalso
      have h4 := hanc x.1 (by rw [← hyi]; exact h)
      have h5 := (hl x.1 (hb x (by simp [hx]))).2 ⟨x, by simp [hx], rfl⟩
      rw [h4] at h5
      cases h5
     ·exact h
    rw [List.map_append, List.map_cons] at hr
    obtain ⟨hN, hr2⟩ := Runs.front (fun z hz => by obtain ⟨x, hx, rfl⟩ := List.mem_map.1 hz; exact hind x hx) hr
    rw [← List.map_append] at hr2
    subst hyi
    refine ho y (by simp) S a A K hg hN _ (fun S' a' A' K' g' e' => ?_)
    refine any_ok hlt hQ fuel (L1 ++ L2) (listed.setIfInBounds y.1 true) S' a' A' (by simp at hlen ⊢; omega) (by simpa using hsz) ?_ ?_ ?_ (fun x hx => ho x (by rcases List.mem_append.1 hx with h | h <;> simp [h])) (fun x hx => hb x (by rcases List.mem_append.1 hx with h | h <;> simp [h])) ?_ K' g' (by rw [e']; exact hr2)
    ·exact List.pairwise_append.2 ⟨s1, s2.2, fun x hx z hz => s3 x hx z (List.mem_cons_of_mem _ hz)⟩
    ·intro k hk
     by_cases hky : k = y.1
     ·subst hky
      have e1 : (listed.setIfInBounds y.1 true).getD y.1 false = true := by simp [Array.getD_eq_getD_getElem?, hsz, hk]
      rw [e1]
      constructor
      ·intro h; cases h
      ·rintro ⟨x, hx, hxe⟩
       exfalso
       rcases List.mem_append.1 hx with h | h
       ·have := s3 x h y (by simp); omega
       ·have := s2.1 x h; omega
     ·rw [getD_set_ne false (Ne.symm hky), hl k hk]
      constructor
      ·rintro ⟨x, hx, hxe⟩
       refine ⟨x, ?_, hxe⟩
       rcases List.mem_append.1 hx with h | h
       ·exact List.mem_append_left _ h
       ·rcases List.mem_cons.1 h with rfl | h
        ·exact (hky hxe.symm).elim
        ·exact List.mem_append_right _ h
      ·rintro ⟨x, hx, hxe⟩
       exact ⟨x, by rcases List.mem_append.1 hx with h | h <;> simp [h], hxe⟩
    ·exact List.pairwise_append.2 ⟨i1, i2.2, fun x hx z hz => i3 x hx z (List.mem_cons_of_mem _ hz)⟩
    ·intro k o' hk hkl j hj
     by_cases hky : k = y.1
     ·subst hky
      rw [h2] at hk
      cases hk
      exact getD_set_true (haft j hj)
     ·rw [getD_set_ne false (Ne.symm hky)] at hkl
      exact getD_set_true (hd k o' hk hkl j hj)
end
end Go.Proofs.YtgocagaijgcnmaaGreat.Vf
end
