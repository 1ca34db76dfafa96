import Derived.Test.YtgocagaijgcnmaaGreatMai
section
set_option linter.unusedVariables false
set_option linter.unusedSimpArgs false
namespace Go.Proofs.YtgocagaijgcnmaaGreat.Vf
open Go
attribute [local irreducible] C H
def Loc {R : Type} (E : En) (o : Oper) (A : Ab) (F : List Nat) (Kc : List Up → Option R) (r : R) : Prop :=
 ∃ U, Kc U = some r ∧ ∀ A', Ag A A' F → ∀ {R' : Type} (K' : List Up → Option R'), Ap E o A' K' = K' U
section
variable {E : En} {A A' : Ab} {F : List Nat} {o : Oper} {R : Type} {Kc : List Up → Option R} {r : R}
theorem Eta {op : BinOp} {k : IntKind} {x y : Int} {Kv : Value → Option R} (h : Pm op k x y Kv = some r) : ∃ v, Kv v = some r ∧ ∀ {R' : Type} (K' : Value → Option R'), Pm op k x y K' = K' v := by
 cases op
 case quo =>
  simp only [Pm] at h ⊢
  cases hy : decide (y = 0) with
  | true => rw [hy] at h; simp at h
  | false => rw [hy] at h; exact ⟨_, h, fun K' => rfl⟩
 case rem =>
  simp only [Pm] at h ⊢
  cases hy : decide (y = 0) with
  | true => rw [hy] at h; simp at h
  | false => rw [hy] at h; exact ⟨_, h, fun K' => rfl⟩
 all_goals Aa | exact ⟨_, h, fun K' => rfl⟩ | (simp [Pm] at h; done)
theorem Eua {op : BinOp} {x y : ByteArray} {Kv : Value → Option R} (h : Sq op x y Kv = some r) : ∃ v, Kv v = some r ∧ ∀ {R' : Type} (K' : Value → Option R'), Sq op x y K' = K' v := by
 cases op
 case add =>
  simp only [Sq] at h ⊢
  cases hy : Nat.ble (x.size + y.size) 9223372036854775807 with
  | false => rw [hy] at h; simp at h
  | true => rw [hy] at h; exact ⟨_, h, fun K' => rfl⟩
 all_goals Aa | exact ⟨_, h, fun K' => rfl⟩ | (simp [Sq] at h; done)
theorem Oba {op : BinOp} {t : Option TI} {e : Bool} {x y : Sv} {Kv : Value → Option R} (h : bop op t e x y Kv = some r) : ∃ v, Kv v = some r ∧ ∀ {R' : Type} (K' : Value → Option R'), bop op t e x y K' = K' v := by
 unfold bop at h
 split at h
 ·rename_i k a k' b
  split at h
  ·cases hb : decide (b < 0) with
   | true => rw [hb] at h; simp at h
   | false => rw [hb] at h; exact ⟨_, h, fun K' => by unfold bop; simp only [hb, cond_false]⟩
  ·cases hb : decide (b < 0) with
   | true => rw [hb] at h; simp at h
   | false => rw [hb] at h; exact ⟨_, h, fun K' => by unfold bop; simp only [hb, cond_false]⟩
  ·rename_i n1 n2
   cases hb : decide (k = k') with
   | false => rw [hb] at h; simp at h
   | true =>
    rw [hb, cond_true] at h
    obtain ⟨v, h1, h2⟩ := Eta h
    refine ⟨v, h1, fun K' => ?_⟩
    unfold bop
    cases op <;> Aa | exact (n1 rfl).elim | exact (n2 rfl).elim | (simp only [hb, cond_true]; exact h2 K')
 ·obtain ⟨v, h1, h2⟩ := Eua h
  exact ⟨v, h1, fun K' => h2 K'⟩
 ·rename_i a b
  split at h
  ·exact ⟨_, h, fun K' => rfl⟩
  ·exact ⟨_, h, fun K' => rfl⟩
  ·cases h
 ·rename_i l l'
  cases hb : (e && Kx l && Kx l' && (Jh t l && Jh t l')) with
  | false => rw [hb] at h; simp at h
  | true =>
   rw [hb, cond_true] at h
   split at h
   ·split at h
    ·rename_i b he
     exact ⟨_, h, fun K' => by unfold bop; simp only [hb, cond_true, he]⟩
    ·cases h
   ·split at h
    ·rename_i b he
     exact ⟨_, h, fun K' => by unfold bop; simp only [hb, cond_true, he]⟩
    ·cases h
   ·cases h
 ·cases h
theorem Oca {op : UnOp} {x : Sv} {Kv : Value → Option R} (h : uop op x Kv = some r) : ∃ v, Kv v = some r ∧ ∀ {R' : Type} (K' : Value → Option R'), uop op x K' = K' v := by
 unfold uop at h
 split at h
 ·exact ⟨_, h, fun K' => rfl⟩
 ·exact ⟨_, h, fun K' => rfl⟩
 ·exact ⟨_, h, fun K' => rfl⟩
 ·cases h
theorem Kua {t t' : Option TI} {x : Sv} {Kv : Sv → Option R} (h : E7a t t' x Kv = some r) : ∃ v, Kv v = some r ∧ ∀ {R' : Type} (K' : Sv → Option R'), E7a t t' x K' = K' v := by
 unfold E7a at h
 split at h
 ·exact ⟨_, h, fun K' => rfl⟩
 ·exact ⟨_, h, fun K' => rfl⟩
 ·rename_i e _ _ _ _ e' xs
  cases hb : Nat.beq e e' with
  | false => rw [hb] at h; simp at h
  | true => rw [hb] at h; exact ⟨_, h, fun K' => by unfold E7a; simp only [hb, cond_true]⟩
 ·rename_i e _ _ _ _ e' xs
  cases hb : Nat.beq e e' with
  | false => rw [hb] at h; simp at h
  | true => rw [hb] at h; exact ⟨_, h, fun K' => by unfold E7a; simp only [hb, cond_true]⟩
 ·rename_i s
  cases hb : Nat.ble s.size 140737488355328 with
  | false => rw [hb] at h; simp at h
  | true => rw [hb] at h; exact ⟨_, h, fun K' => by unfold E7a; simp only [hb, cond_true]⟩
 ·cases h
theorem T7 {mx : Bool} : ∀ {l : List Sv} {k : IntKind} {x : Int} {Kv : Value → Option R}, N1 mx l k x Kv = some r → ∃ v, Kv v = some r ∧ ∀ {R' : Type} (K' : Value → Option R'), N1 mx l k x K' = K' v := by
 intro l
 induction l with
 | nil => intro k x Kv h; exact ⟨_, h, fun K' => rfl⟩
 | cons s l ih =>
  intro k x Kv h
  unfold N1 at h
  split at h
  ·rename_i heq; cases heq
  ·rename_i k0 x0 K0 l9 k9 x9 K9 k' y l0 heq
   cases heq
   cases hb : decide (k0 = k') with
   | false => rw [hb] at h; simp at h
   | true =>
    rw [hb, cond_true] at h
    obtain ⟨v, h1, h2⟩ := ih h
    exact ⟨v, h1, fun K' => by E7a => { lhs; unfold N1 }; simp only [hb, cond_true]; exact h2 K'⟩
  ·cases h
theorem Jx {lo hi : Option Int} {n : Nat} {Kv : Unit → Option R} (h : Zu lo hi n Kv = some r) : Kv () = some r ∧ ∀ {R' : Type} (K' : Unit → Option R'), Zu lo hi n K' = K' () := by
 unfold Zu at h
 split at h
 ·exact ⟨h, fun K' => rfl⟩
 ·rename_i l
  cases h1 : decide (0 ≤ l) with
  | false => rw [h1] at h; simp at h
  | true =>
   rw [h1, cond_true] at h
   cases h2 : decide (l ≤ (n : Int)) with
   | false => rw [h2] at h; simp at h
   | true => rw [h2, cond_true] at h; exact ⟨h, fun K' => by unfold Zu; simp only [h1, h2, cond_true]⟩
 ·rename_i l
  cases h1 : decide (0 ≤ l) with
  | false => rw [h1] at h; simp at h
  | true =>
   rw [h1, cond_true] at h
   cases h2 : decide (l ≤ (n : Int)) with
   | false => rw [h2] at h; simp at h
   | true => rw [h2, cond_true] at h; exact ⟨h, fun K' => by unfold Zu; simp only [h1, h2, cond_true]⟩
 ·rename_i l u
  cases h1 : decide (0 ≤ l) with
  | false => rw [h1] at h; simp at h
  | true =>
   rw [h1, cond_true] at h
   cases h2 : decide (l ≤ u) with
   | false => rw [h2] at h; simp at h
   | true =>
    rw [h2, cond_true] at h
    cases h3 : decide (u ≤ (n : Int)) with
    | false => rw [h3] at h; simp at h
    | true => rw [h3, cond_true] at h; exact ⟨h, fun K' => by unfold Zu; simp only [h1, h2, h3, cond_true]⟩
theorem Hka {op : BinOp} {T T' : TypeId} {x y : Operand} {d : Nat} (ho : o.op = .binOp op T x y T') (hod : o.dst = some d) (hx : RX A F x) (hy : RX A F y) (h : Ap E o A Kc = some r) : Loc E o A F Kc r := by
 unfold Ap at h
 rw [ho, hod] at h
 simp only at h
 split at h
 ·rename_i s s' hs hs'
  obtain ⟨v, h1, h2⟩ := Oba h
  refine ⟨_, h1, fun A' hA R' K' => ?_⟩
  unfold Ap
  rw [ho, hod]
  simp only [Ax hA hx, Ax hA hy, hs, hs']
  exact h2 _
 ·cases h
theorem Kva {op : UnOp} {T : TypeId} {x : Operand} {d : Nat} (ho : o.op = .unOp op T x) (hod : o.dst = some d) (hx : RX A F x) (h : Ap E o A Kc = some r) : Loc E o A F Kc r := by
 unfold Ap at h
 rw [ho, hod] at h
 simp only at h
 split at h
 ·rename_i s hs
  obtain ⟨v, h1, h2⟩ := Oca h
  refine ⟨_, h1, fun A' hA R' K' => ?_⟩
  unfold Ap
  rw [ho, hod]
  simp only [Ax hA hx, hs]
  exact h2 _
 ·cases h
theorem Aya {T T' : TypeId} {x : Operand} {d : Nat} (ho : o.op = .convert T T' x) (hod : o.dst = some d) (hx : RX A F x) (h : Ap E o A Kc = some r) : Loc E o A F Kc r := by
 unfold Ap at h
 rw [ho, hod] at h
 simp only at h
 split at h
 ·rename_i y hs
  obtain ⟨v, h1, h2⟩ := Kua h
  refine ⟨_, h1, fun A' hA R' K' => ?_⟩
  unfold Ap
  rw [ho, hod]
  simp only [Ax hA hx, hs, Hia hA (Gn hx hs)]
  exact h2 _
 ·cases h
theorem Kwa {x : Operand} {d : Nat} (ho : o.op = .move x) (hod : o.dst = some d) (hx : ∀ t, x = .tmp t → t ∈ F) (h : Ap E o A Kc = some r) : Loc E o A F Kc r := by
 have hag : ∀ A', Ag A A' F → ∀ T, opT E T A' x = opT E T A x := by
  intro A' hA T
  cases x with
  | tmp t => show (bif Nat.blt t E.nt then some (get A' t).2 else none) = (bif Nat.blt t E.nt then some (get A t).2 else none); rw [hA t (hx t rfl)]
  | const v => exact Ax hA (x := .const v) trivial
  | func f => rfl
  | global g => rfl
 unfold Ap at h
 rw [ho, hod] at h
 simp only at h
 split at h
 ·rename_i s hs
  split at h
  ·rename_i t e r' xs
   cases hn : (E.nm t && !(E.mv d)) with
   | true =>
    rw [hn, cond_true] at h
    refine ⟨_, h, fun A' hA R' K' => ?_⟩
    unfold Ap
    rw [ho, hod]
    simp only [hag A' hA, hs, hn, cond_true, hA t (hx t rfl)]
   | false =>
    rw [hn, cond_false] at h
    refine ⟨_, h, fun A' hA R' K' => ?_⟩
    unfold Ap
    rw [ho, hod]
    simp only [hag A' hA, hs, hn, cond_false]
  ·rename_i hne
   refine ⟨_, h, fun A' hA R' K' => ?_⟩
   unfold Ap
   rw [ho, hod]
   simp only [hag A' hA, hs]
 ·cases h
theorem Eva {x : Operand} {d : Nat} (ho : o.op = .assign x) (hod : o.dst = some d) (hx : RX A F x) (h : Ap E o A Kc = some r) : Loc E o A F Kc r := by
 unfold Ap at h
 rw [ho, hod] at h
 simp only at h
 split at h
 ·rename_i p v hs
  have hp : p ∈ F := Gn hx hs
  split at h
  ·rename_i n e r' xs hg
   cases hn : Nat.beq n v with
   | false => rw [hn] at h; simp at h
   | true =>
    rw [hn, cond_true] at h
    cases hr : E.res d with
    | true =>
     rw [hr, cond_true] at h
     refine ⟨_, h, fun A' hA R' K' => ?_⟩
     unfold Ap
     rw [ho, hod]
     simp only [Ax hA hx, hs, hA p hp, hg, hn, hr, cond_true]
    | false =>
     rw [hr, cond_false] at h
     refine ⟨_, h, fun A' hA R' K' => ?_⟩
     unfold Ap
     rw [ho, hod]
     simp only [Ax hA hx, hs, hA p hp, hg, hn, hr, cond_true, cond_false]
  ·rename_i n e r' xs hg
   cases hn : Nat.beq n v with
   | false => rw [hn] at h; simp at h
   | true =>
    rw [hn, cond_true] at h
    refine ⟨_, h, fun A' hA R' K' => ?_⟩
    unfold Ap
    rw [ho, hod]
    simp only [Ax hA hx, hs, hA p hp, hg, hn, cond_true]
  ·cases h
 ·rename_i s hne hs
  refine ⟨_, h, fun A' hA R' K' => ?_⟩
  unfold Ap
  rw [ho, hod]
  simp only [Ax hA hx, hs]
 ·cases h
theorem Kxa {c x y : Operand} {d : Nat} (ho : o.op = .pick c x y) (hod : o.dst = some d) (hc : RX A F c) (hx : RX A F x) (hy : RX A F y) (h : Ap E o A Kc = some r) : Loc E o A F Kc r := by
 unfold Ap at h
 rw [ho, hod] at h
 simp only at h
 split at h
 ·rename_i b hs
  cases b with
  | true =>
   rw [cond_true] at h
   split at h
   ·rename_i u hu
    refine ⟨_, h, fun A' hA R' K' => ?_⟩
    unfold Ap
    rw [ho, hod]
    simp only [Ax hA hc, Ax hA hx, hs, hu, cond_true]
   ·cases h
  | false =>
   rw [cond_false] at h
   split at h
   ·rename_i u hu
    refine ⟨_, h, fun A' hA R' K' => ?_⟩
    unfold Ap
    rw [ho, hod]
    simp only [Ax hA hc, Ax hA hy, hs, hu, cond_false]
   ·cases h
 ·cases h
def RP (A : Ab) (F : List Nat) : Operand → Prop
 | .tmp t => t ∈ F ∧ ∀ y ∈ parts (get A t).2, (∀ b v n, y = .bp b v n → H b ∈ F) ∧ (∀ p v i n, y = .ep p v i n → p ∈ F) ∧ (∀ p v pi e r, ∀ xs : List (Ty.den r), ∀ i n, y = .dp p v pi e r xs i n → p ∈ F)
 | _ => True
theorem D0a : ∀ {l : List Lf}, (∀ p ∈ Pna l, p ∈ F) → ∀ y ∈ l, (∀ b v n, y = .bp b v n → H b ∈ F) ∧ (∀ p v i n, y = .ep p v i n → p ∈ F) ∧ (∀ p v pi e r, ∀ xs : List (Ty.den r), ∀ i n, y = .dp p v pi e r xs i n → p ∈ F)
 | [], _, y, hy => by simp at hy
 | z :: l, h, y, hy => by
  unfold Pna at h
  rcases List.mem_cons.1 hy with rfl | hy
  ·refine ⟨fun b v n e => h _ (List.mem_append_left _ ?_), fun p v i n e => h _ (List.mem_append_left _ ?_), fun p v pi e0 r xs i n e => h _ (List.mem_append_left _ ?_)⟩ <;> (subst e; simp [rdH])
  ·exact D0a (fun p hp => h p (List.mem_append_right _ hp)) y hy
theorem Mla {x : Operand} (h : ∀ p ∈ rdP A x, p ∈ F) : RP A F x := by
 cases x with
 | tmp t =>
  have h : ∀ p ∈ t :: Pna (parts (get A t).2), p ∈ F := h
  exact ⟨h t (by simp), D0a fun p hp => h p (List.mem_cons_of_mem _ hp)⟩
 | _ => trivial
theorem RP.opT {x : Operand} {T : TypeId} (hA : Ag A A' F) (hx : RP A F x) : Vf.opT E T A' x = Vf.opT E T A x := by
 cases x with
 | tmp t => show (bif Nat.blt t E.nt then some (get A' t).2 else none) = (bif Nat.blt t E.nt then some (get A t).2 else none); rw [hA t hx.1]
 | const v => exact Ax hA (x := .const v) trivial
 | func f => rfl
 | global g => rfl
theorem RP.live {x : Operand} {T : TypeId} {y : Lf} (hA : Ag A A' F) (hx : RP A F x) (h : Vf.opT E T A x = some (.one y)) : Np A' y = Np A y := by
 cases x with
 | tmp t =>
  have h : (bif Nat.blt t E.nt then some (get A t).2 else none) = some (.one y) := h
  cases hb : Nat.blt t E.nt with
  | false => rw [hb] at h; simp at h
  | true =>
   rw [hb] at h
   simp only [cond_true, Option.some.injEq] at h
   obtain ⟨h1, h2, h3⟩ := hx.2 y (by rw [h]; simp [parts])
   cases y with
   | bp b v n => show Nat.beq (get A' (H b)).1 v = Nat.beq (get A (H b)).1 v; rw [hA _ (h1 b v n rfl)]
   | ep p v i n => simp only [Np]; rw [hA _ (h2 p v i n rfl)]
   | dp p v pi e r xs i n => show Nat.beq (get A' p).1 v = Nat.beq (get A p).1 v; rw [hA _ (h3 p v pi e r xs i n rfl)]
   | _ => rfl
 | const v => exact Ul hA (Gn (x := .const v) (F := F) trivial h)
 | func f => exact Ul hA (Gn (x := .func f) (F := F) trivial h)
 | global g => exact Ul hA (Gn (x := .global g) (F := F) trivial h)
theorem Xn {x : Operand} {d : Nat} (ho : o.op = .nilCheck x) (hod : o.dst = some d) (hx : RP A F x) (h : Ap E o A Kc = some r) : Loc E o A F Kc r := by
 unfold Ap at h
 rw [ho, hod] at h
 simp only at h
 split at h
 ·rename_i y hs
  cases hl : Np A y with
  | false => rw [hl] at h; simp at h
  | true =>
   rw [hl, cond_true] at h
   refine ⟨_, h, fun A' hA R' K' => ?_⟩
   unfold Ap
   rw [ho, hod]
   simp only [hx.opT hA, hs, hx.live hA hs, hl, cond_true]
 ·cases h
theorem Um {T : TypeId} {x : Operand} {j d : Nat} (ho : o.op = .fieldAddr T x j) (hod : o.dst = some d) (hx : RP A F x) (h : Ap E o A Kc = some r) : Loc E o A F Kc r := by
 unfold Ap at h
 rw [ho, hod] at h
 simp only at h
 split at h
 ·rename_i ti y hT hs
  split at h
  ·rename_i f hf
   cases hl : (ti.ag && Np A y) with
   | false => rw [hl] at h; simp at h
   | true =>
    rw [hl, cond_true] at h
    refine ⟨_, h, fun A' hA R' K' => ?_⟩
    unfold Ap
    rw [ho, hod]
    simp only [hT, hx.opT hA, hs, hf, hx.live hA hs, hl, cond_true]
  ·cases h
 ·cases h
theorem Aza {t j d : Nat} (ho : o.op = .extract (.tmp t) j) (hod : o.dst = some d) (ht : t ∈ F) (h : Ap E o A Kc = some r) : Loc E o A F Kc r := by
 unfold Ap at h
 rw [ho, hod] at h
 simp only at h
 cases hb : Nat.blt t E.nt with
 | false => rw [hb] at h; simp at h
 | true =>
  rw [hb, cond_true] at h
  split at h
  ·rename_i vs hg
   split at h
   ·rename_i ag l hn
    split at h
    ·rename_i s hs
     cases hw : Eh l with
     | true =>
      rw [hw, cond_true] at h
      refine ⟨_, h, fun A' hA R' K' => ?_⟩
      unfold Ap
      rw [ho, hod]
      simp only [hb, cond_true, hA t ht, hg, hn, hs, hw]
     | false =>
      rw [hw, cond_false] at h
      refine ⟨_, h, fun A' hA R' K' => ?_⟩
      unfold Ap
      rw [ho, hod]
      simp only [hb, cond_true, hA t ht, hg, hn, hs, hw, cond_false]
    ·cases h
   ·cases h
  ·cases h
theorem Hla {T : TypeId} {t j d : Nat} (ho : o.op = .field T (.tmp t) j) (hod : o.dst = some d) (ht : t ∈ F) (h : Ap E o A Kc = some r) : Loc E o A F Kc r := by
 unfold Ap at h
 rw [ho, hod] at h
 simp only at h
 split at h
 ·rename_i ti l hT hg
  split at h
  ·rename_i off z ag hn
   split at h
   ·rename_i s hs
    cases hb : (ti.ag && Nat.blt t E.nt && Nat.ble (off + z) l.length) with
    | false => rw [hb] at h; simp at h
    | true =>
     rw [hb, cond_true] at h
     cases hw : Eh ((l.drop off).take z) with
     | true =>
      rw [hw, cond_true] at h
      refine ⟨_, h, fun A' hA R' K' => ?_⟩
      unfold Ap
      rw [ho, hod]
      simp only [hT, hA t ht, hg, hn, hs, hb, hw, cond_true]
     | false =>
      rw [hw, cond_false] at h
      refine ⟨_, h, fun A' hA R' K' => ?_⟩
      unfold Ap
      rw [ho, hod]
      simp only [hT, hA t ht, hg, hn, hs, hb, hw, cond_true, cond_false]
   ·cases h
  ·cases h
 ·cases h
theorem Hma {T : TypeId} {d : Nat} (ho : o.op = .alloc T) (hod : o.dst = some d) (hH : H d ∈ F) (h : Ap E o A Kc = some r) : Loc E o A F Kc r := by
 unfold Ap at h
 rw [ho, hod] at h
 simp only at h
 split at h
 ·rename_i ti hT
  cases hb : (Nat.blt ti.ty.sz 999 && Nat.ble E.np d) with
  | false => rw [hb] at h; simp at h
  | true =>
   rw [hb, cond_true] at h
   refine ⟨_, h, fun A' hA R' K' => ?_⟩
   unfold Ap
   rw [ho, hod]
   simp only [hT, hb, cond_true, hA _ hH]
 ·cases h
theorem RL.als {s : Sv} (h : ∀ y ∈ parts s, RL A F y) : ∀ y ∈ parts s, AL F y := fun y hy => (h y hy).al
theorem Po (hA : Ag A A' F) : ∀ {l : List Lf}, (∀ y ∈ l, AL F y) → Ct A' l = Ct A l
 | [], _ => rfl
 | y :: l, h => by
  have ih := Po hA (l := l) (fun z hz => h z (List.mem_cons_of_mem _ hz))
  cases y with
  | al p v => simp only [Ct, ih, F8 hA (h (.al p v) (by simp))]
  | _ => simp only [Ct, ih]
theorem Oda {T : TypeId} {x : Operand} {d : Nat} (ho : o.op = .box T x) (hod : o.dst = some d) (hH : H d ∈ F) (hx : RX A F x) (h : Ap E o A Kc = some r) : Loc E o A F Kc r := by
 unfold Ap at h
 rw [ho, hod] at h
 simp only at h
 split at h
 ·rename_i ti s hT hs
  have hal := RL.als (M6 hx hs)
  cases hmv : mvO E x with
  | true =>
   rw [hmv, cond_true] at h
   cases hb : (Ct A (parts s) && Nat.beq (parts s).length ti.ty.sz && Nat.blt ti.ty.sz 999 && Nat.ble E.np d) with
   | false => rw [hb] at h; simp at h
   | true =>
    rw [hb, cond_true] at h
    refine ⟨_, h, fun A' hA R' K' => ?_⟩
    unfold Ap
    rw [ho, hod]
    simp only [hT, Ax hA hx, hs, hmv, Po hA hal, hb, cond_true, hA _ hH]
  | false =>
  rw [hmv, cond_false] at h
  cases hb : (A4 ((parts s).map (Hh A)) && Nat.beq ((parts s).map (Hh A)).length ti.ty.sz && Nat.blt ti.ty.sz 999 && Nat.ble E.np d) with
  | false => rw [hb] at h; simp at h
  | true =>
   rw [hb, cond_true] at h
   refine ⟨_, h, fun A' hA R' K' => ?_⟩
   unfold Ap
   rw [ho, hod]
   simp only [hT, Ax hA hx, hs, hmv, cond_false, O8 hA hal, hb, cond_true, Mt hA hal, hA _ hH]
 ·cases h
theorem Kya {T : TypeId} {x : Operand} {d : Nat} (ho : o.op = .load T x) (hod : o.dst = some d) (hx : RX A F x) (h : Ap E o A Kc = some r) : Loc E o A F Kc r := by
 unfold Ap at h
 rw [ho, hod] at h
 simp only at h
 split at h
 ·rename_i ti b v off hT hs
  obtain ⟨h1, h2⟩ : RL A F (.bp b v off) := Gn hx hs
  split at h
  ·rename_i n m hg
   cases hb : (Nat.beq n v && Nat.ble (off + ti.ty.sz) m) with
   | false => rw [hb] at h; simp at h
   | true =>
    rw [hb, cond_true] at h
    have hle : off + ti.ty.sz ≤ m := by
     simp only [Bool.and_eq_true] at hb
     exact Nat.le_of_ble_eq_true hb.2
    have hcell : ∀ i, i < ti.ty.sz → C b (off + i) ∈ F := fun i hi => (h2 m (by rw [hg]) (off + i) (by omega) (by omega)).1
    split at h
    ·rename_i s hp
     refine ⟨_, h, fun A' hA R' K' => ?_⟩
     unfold Ap
     rw [ho, hod]
     simp only [hT, Ax hA hx, hs, hA _ h1, hg, hb, cond_true, Pe hA hcell, hp]
    ·cases h
  ·cases h
 ·rename_i ti p v i off hT hs
  have hp : p ∈ F := Gn hx hs
  split at h
  ·rename_i n e r' xs hg
   cases hb : (Nat.beq n v && Hb r' && Nat.ble (off + ti.ty.sz) r'.sz) with
   | false => rw [hb] at h; simp at h
   | true =>
    rw [hb, cond_true] at h
    split at h
    ·rename_i s hp2
     refine ⟨_, h, fun A' hA R' K' => ?_⟩
     unfold Ap
     rw [ho, hod]
     simp only [hT, Ax hA hx, hs, hA _ hp, hg, hb, cond_true, hp2]
    ·cases h
  ·cases h
 ·rename_i ti p v pi e0 r' xs i off hT hs
  have hp : p ∈ F := Gn hx hs
  cases hb : (Nat.beq (get A p).1 v && Nat.ble (off + ti.ty.sz) r'.sz) with
  | false => rw [hb] at h; simp at h
  | true =>
   rw [hb, cond_true] at h
   split at h
   ·rename_i s hp2
    refine ⟨_, h, fun A' hA R' K' => ?_⟩
    unfold Ap
    rw [ho, hod]
    simp only [hT, Ax hA hx, hs, hA _ hp, hb, cond_true, hp2]
   ·cases h
 ·rename_i ti r' x' off hT hs
  cases hb : Nat.ble (off + ti.ty.sz) r'.sz with
  | false => rw [hb] at h; simp at h
  | true =>
   rw [hb, cond_true] at h
   split at h
   ·rename_i s hp2
    refine ⟨_, h, fun A' hA R' K' => ?_⟩
    unfold Ap
    rw [ho, hod]
    simp only [hT, Ax hA hx, hs, hb, cond_true, hp2]
   ·cases h
 ·cases h
theorem Pp (h : Ag A A' F) : ∀ {l : List Lf}, (∀ p v pi e r, ∀ xs : List (Ty.den r), Lf.da p v pi e r xs ∈ l → p ∈ F) → Fq A' l = Fq A l
 | [], _ => rfl
 | y :: l, hp => by
  have ih := Pp h (l := l) (fun p v pi e r xs hm => hp p v pi e r xs (List.mem_cons_of_mem _ hm))
  cases y with
  | da p v pi e r xs => simp only [Fq, ih, h p (hp p v pi e r xs (by simp))]
  | _ => simp only [Fq, ih]
theorem Oea {l : List Lf} (h : ∀ y ∈ l, RL A F y) : ∀ p v pi e r, ∀ xs : List (Ty.den r), Lf.da p v pi e r xs ∈ l.map (Hh A) → p ∈ F := by
 intro p v pi e r xs hm
 obtain ⟨y, hy, he⟩ := List.mem_map.1 hm
 cases y with
 | da p' v' pi' e' r' xs' =>
  simp only [Hh, Lf.da.injEq] at he
  have := h _ hy
  rw [he.1] at this
  exact this
 | al q w =>
  exfalso
  simp only [Hh] at he
  have h1 : ∀ z : Lf, (∀ p v pi e r, ∀ xs : List (Ty.den r), z ≠ .da p v pi e r xs) → ∀ p v pi e r, ∀ xs : List (Ty.den r), Jd z ≠ .da p v pi e r xs := by
   intro z hz p v pi e r xs
   cases z <;> simp [Jd]
   exact fun e1 e2 e3 e4 e5 e6 => hz _ _ _ _ _ _ rfl
  refine h1 (Ic A (.al q w)) ?_ _ _ _ _ _ _ he
  intro p v pi e r xs
  simp only [Ic]
  split
  ·rename_i n _ _ _ _
   cases Nat.beq n w <;> simp
  ·rename_i n _ _ _ _
   cases Nat.beq n w <;> simp
  ·simp
 | _ => simp [Hh] at he
theorem M7 : ∀ {ts : List Ty} {l : List Lf} {A A' : Ab}, Ag A A' F → (∀ y ∈ l, AL F y) → Ff A' ts l = Ff A ts l
 | [], [], _, _, _, _ => rfl
 | [], _ :: _, _, _, _, _ => rfl
 | t :: ts, [], _, _, _, _ => by cases t <;> rfl
 | t :: ts, x :: l, A, A', hA, hy => by
  have hx : AL F x := hy x (by simp)
  have hl : ∀ y ∈ l, AL F y := fun y hm => hy y (List.mem_cons_of_mem _ hm)
  cases t <;> simp only [Ff, F8 hA hx, Awa hA hx, Axa hA hx, M7 (hA.ups (U := A2a x)) hl, M7 (hA.ups (U := Q3 A x)) hl]
theorem Hna (hA : Ag A A' F) : ∀ {l : List Lf}, (∀ y ∈ l, AL F y) → Nda A' l = Nda A l
 | [], _ => rfl
 | y :: l, h => by simp only [Nda, F8 hA (h y (by simp)), Hna hA (fun z hz => h z (List.mem_cons_of_mem _ hz))]
theorem Kza {x : Operand} {s : Sv} (hA : Ag A A' F) (hal : ∀ y ∈ parts s, AL F y) : Ou A' x s (Nda (ups A' (gone x s)) (parts s)) = Ou A x s (Nda (ups A (gone x s)) (parts s)) := by
 have hA1 := hA.ups (U := gone x s)
 unfold Ou
 rw [Hna hA1 hal, M7 hA1 hal]
theorem Hoa {T : TypeId} {x y : Operand} (ho : o.op = .store T x y) (hod : o.dst = none) (hx : RX A F x) (hy : RX A F y) (h : Ap E o A Kc = some r) : Loc E o A F Kc r := by
 unfold Ap at h
 rw [ho, hod] at h
 simp only at h
 split at h
 ·rename_i ti b v off s hT hs hs2
  obtain ⟨h1, h2⟩ : RL A F (.bp b v off) := Gn hx hs
  have hal := RL.als (M6 hy hs2)
  cases hmv : mvO E y with
  | true =>
   rw [hmv, cond_true] at h
   split at h
   ·rename_i m vs hgive
    split at h
    ·rename_i n hd hg
     cases hb : (Nat.beq n v && Nat.beq m.length ti.ty.sz && Nat.ble (off + ti.ty.sz) hd) with
     | false => rw [hb] at h; simp at h
     | true =>
      rw [hb, cond_true] at h
      refine ⟨_, h, fun A' hA R' K' => ?_⟩
      unfold Ap
      rw [ho, hod]
      simp only [hT, Ax hA hx, hs, Ax hA hy, hs2, hmv, Kza hA hal, hgive, hA _ h1, hg, hb, cond_true]
    ·cases h
   ·cases h
  | false =>
  rw [hmv, cond_false] at h
  split at h
  ·rename_i n m hg
   cases hb : (Nat.beq n v && Fq (ups A (Hc A (parts s) ++ gone y s)) ((parts s).map (Hh A)) && Nat.beq ((parts s).map (Hh A)).length ti.ty.sz && Nat.ble (off + ti.ty.sz) m) with
   | false => rw [hb] at h; simp at h
   | true =>
    rw [hb, cond_true] at h
    refine ⟨_, h, fun A' hA R' K' => ?_⟩
    unfold Ap
    rw [ho, hod]
    simp only [hT, Ax hA hx, hs, Ax hA hy, hs2, hmv, cond_false, hA _ h1, hg, O8 hA hal, Mt hA hal, Pp (hA.ups (U := Hc A (parts s) ++ gone y s)) (Oea (M6 hy hs2)), hb, cond_true]
  ·cases h
 ·rename_i ti p v i off s hT hs hs2
  have hp : p ∈ F := Gn hx hs
  have hal := RL.als (M6 hy hs2)
  split at h
  ·rename_i n e r' xs hg
   cases hb : (Nat.beq n v && Hb r' && A4 ((parts s).map (Hh A)) && Nat.beq ((parts s).map (fun x => Jd (Hh A x))).length ti.ty.sz && Nat.ble (off + ((parts s).map (fun x => Jd (Hh A x))).length) r'.sz && Tw p (Hc A (parts s) ++ gone y s)) with
   | false => rw [hb] at h; simp at h
   | true =>
    rw [hb, cond_true] at h
    split at h
    ·rename_i z hz
     refine ⟨_, h, fun A' hA R' K' => ?_⟩
     unfold Ap
     rw [ho, hod]
     simp only [hT, Ax hA hx, hs, Ax hA hy, hs2, hA _ hp, hg, O8 hA hal, Cza hA hal, hb, cond_true, Mt hA hal, hz]
    ·cases h
  ·cases h
 ·rename_i ti p v q e r1 xs i off s hT hs hs2
  have hp : p ∈ F := Gn hx hs
  have hal := RL.als (M6 hy hs2)
  split at h
  ·rename_i m us hgive
   split at h
   ·rename_i n E0 R0 XS hg
    cases hb : (Nat.beq n v && Lq m && Nat.beq m.length ti.ty.sz && Nat.ble (off + m.length) r1.sz && Tw p us && Eg R0) with
    | false => rw [hb] at h; simp at h
    | true =>
     rw [hb, cond_true] at h
     split at h
     ·rename_i z hz
      split at h
      ·rename_i XS' hput
       refine ⟨_, h, fun A' hA R' K' => ?_⟩
       unfold Ap
       rw [ho, hod]
       simp only [hT, Ax hA hx, hs, Ax hA hy, hs2, Hja hA hal, hgive, hA _ hp, hg, hb, cond_true, hz, hput]
      ·cases h
     ·cases h
   ·cases h
  ·cases h
 ·cases h
end
end Go.Proofs.YtgocagaijgcnmaaGreat.Vf
end

section
set_option linter.unusedVariables false
set_option linter.unusedSimpArgs false
namespace Go.Proofs.YtgocagaijgcnmaaGreat.Vf
open Go
attribute [local irreducible] C H
section
variable {E : En} {A A' : Ab} {F : List Nat} {o : Oper} {R : Type} {Kc : List Up → Option R} {r : R}
theorem Hpa {B p : Nat} {e : TypeId} {r' : Ty} {xs : List r'.den} {i : Int} {K : List Up → Option R} (hB : H B ∈ F) (h : Qk A B p e r' xs i K none = some r) : ∃ U, K U = some r ∧ ∀ A', Ag A A' F → ∀ {R' : Type} (K' : List Up → Option R'), Qk A' B p e r' xs i K' none = K' U := by
 unfold Qk at h
 cases h1 : ((Hb r' || Eg r') && Nat.blt r'.sz 999 && !(Nat.beq (p / 1000) (B + 1)) && Nat.ble 2000 B) with
 | false => rw [h1] at h; simp at h
 | true =>
  rw [h1, cond_true] at h
  cases h2 : decide (0 ≤ i) with
  | false => rw [h2] at h; simp at h
  | true =>
   rw [h2, cond_true] at h
   cases h3 : decide (i < (xs.length : Int)) with
   | false => rw [h3] at h; simp at h
   | true =>
    rw [h3, cond_true] at h
    refine ⟨_, h, fun A' hA R' K' => ?_⟩
    unfold Qk
    simp only [h1, h2, h3, cond_true, hA _ hB]
theorem Un {T : TypeId} {x i : Operand} {d : Nat} (ho : o.op = .indexAddr T x i) (hod : o.dst = some d) (hopn : E.opn d = true) (hB : H (2000 + d) ∈ F) (hx : RX A F x) (hi : RX A F i) (h : Ap E o A Kc = some r) : Loc E o A F Kc r := by
 unfold Ap at h
 rw [ho, hod] at h
 simp only [hopn, cond_true] at h
 split at h
 ·rename_i p v k n hs hn
  have hp : p ∈ F := Gn hx hs
  split at h
  ·rename_i m e r' xs hgp
   cases hq : (Nat.beq m v && Iz E T e && !(Nat.beq p d)) with
   | false => rw [hq] at h; simp at h
   | true =>
    rw [hq, cond_true] at h
    obtain ⟨U, h1, h2⟩ := Hpa hB h
    refine ⟨_, h1, fun A' hA R' K' => ?_⟩
    unfold Ap
    rw [ho, hod]
    simp only [hopn, Ax hA hx, Ax hA hi, hs, hn, hA p hp, hgp, hq, cond_true, hA _ hB]
    exact h2 A' hA _
  ·cases h
 ·cases h
theorem Uo {T : TypeId} {x i : Operand} {d : Nat} (ho : o.op = .indexAddr T x i) (hod : o.dst = some d) (hopn : E.opn d = false) (hx : RX A F x) (hi : RX A F i) (h : Ap E o A Kc = some r) : Loc E o A F Kc r := by
 unfold Ap at h
 rw [ho, hod] at h
 simp only [hopn, cond_false] at h
 split at h
 ·rename_i y k n hs hn
  have hrl := Gn hx hs
  have hal := hrl.al
  split at h
  ·rename_i p v e r' xs hse
   cases hb : (Iz E T e && decide (0 ≤ n)) with
   | false => rw [hb] at h; simp at h
   | true =>
    rw [hb, cond_true] at h
    cases hl : decide (n < (xs.length : Int)) with
    | false => rw [hl] at h; simp at h
    | true =>
     rw [hl, cond_true] at h
     cases hno : Hb r' with
     | true =>
      rw [hno, cond_true] at h
      refine ⟨_, h, fun A' hA R' K' => ?_⟩
      unfold Ap
      rw [ho, hod]
      simp only [hopn, cond_false, Ax hA hx, Ax hA hi, hs, hn, F8 hA hal, hse, hb, hl, hno, cond_true]
     | false =>
      rw [hno, cond_false] at h
      cases hao : Eg r' with
      | false => rw [hao] at h; simp at h
      | true =>
       rw [hao, cond_true] at h
       refine ⟨_, h, fun A' hA R' K' => ?_⟩
       unfold Ap
       rw [ho, hod]
       simp only [hopn, cond_false, Ax hA hx, Ax hA hi, hs, hn, F8 hA hal, hse, hb, hl, hno, hao, cond_true, cond_false]
  ·rename_i p v pi e r' xs
   have hp : p ∈ F := hrl
   cases hb : (Iz E T e && Nat.beq (get A p).1 v && decide (0 ≤ n)) with
   | false => rw [hb] at h; simp at h
   | true =>
    rw [hb, cond_true] at h
    cases hl : decide (n < (xs.length : Int)) with
    | false => rw [hl] at h; simp at h
    | true =>
     rw [hl, cond_true] at h
     refine ⟨_, h, fun A' hA R' K' => ?_⟩
     unfold Ap
     rw [ho, hod]
     simp only [hopn, cond_false, Ax hA hx, Ax hA hi, hs, hn, hA p hp, hb, hl, cond_true]
  ·rename_i p v hse
   have hp : p ∈ F := hrl
   split at h
   ·rename_i m e r0 xs0 i0 b0 vb hgp
    cases hb : (Nat.beq m v && Iz E T e) with
    | false => rw [hb] at h; simp at h
    | true =>
     rw [hb, cond_true] at h
     cases hl : decide (n = i0) with
     | false => rw [hl] at h; simp at h
     | true =>
      rw [hl, cond_true] at h
      refine ⟨_, h, fun A' hA R' K' => ?_⟩
      unfold Ap
      rw [ho, hod]
      simp only [hopn, cond_false, Ax hA hx, Ax hA hi, hs, hn, F8 hA hal, hse, hA p hp, hgp, hb, hl, cond_true]
   ·cases h
  ·rename_i e r' xs hnda hse
   cases hb : (Iz E T e && decide (0 ≤ n)) with
   | false => rw [hb] at h; simp at h
   | true =>
    rw [hb, cond_true] at h
    cases hl : decide (n < (xs.length : Int)) with
    | false => rw [hl] at h; simp at h
    | true =>
     rw [hl, cond_true] at h
     refine ⟨_, h, fun A' hA R' K' => ?_⟩
     unfold Ap
     rw [ho, hod]
     simp only [hopn, cond_false, Ax hA hx, Ax hA hi, hs, hn, F8 hA hal, hse, hb, hl, cond_true]
  ·rename_i e r' xs hne hnda hse
   split at h
   ·rename_i t
    have ht : t ∈ F := hx.1
    cases hb : (Iz E T e && decide (0 ≤ n)) with
    | false => rw [hb] at h; simp at h
    | true =>
     rw [hb, cond_true] at h
     cases hl : decide (n < (xs.length : Int)) with
     | false => rw [hl] at h; simp at h
     | true =>
      rw [hl, cond_true] at h
      cases hno : Hb r' with
      | true =>
       rw [hno, cond_true] at h
       refine ⟨_, h, fun A' hA R' K' => ?_⟩
       unfold Ap
       rw [ho, hod]
       simp only [hopn, cond_false, Ax hA hx, Ax hA hi, hs, hn, F8 hA hal, hse, hb, hl, hno, cond_true, hA t ht]
      | false =>
       rw [hno, cond_false] at h
       cases hao : Eg r' with
       | false => rw [hao] at h; simp at h
       | true =>
        rw [hao, cond_true] at h
        refine ⟨_, h, fun A' hA R' K' => ?_⟩
        unfold Ap
        rw [ho, hod]
        simp only [hopn, cond_false, Ax hA hx, Ax hA hi, hs, hn, F8 hA hal, hse, hb, hl, hno, hao, cond_true, cond_false, hA t ht]
   ·cases h
  ·cases h
 ·cases h
theorem Hqa {T : TypeId} {x i : Operand} {d : Nat} (ho : o.op = .index T x i) (hod : o.dst = some d) (hx : RX A F x) (hi : RX A F i) (h : Ap E o A Kc = some r) : Loc E o A F Kc r := by
 unfold Ap at h
 rw [ho, hod] at h
 simp only at h
 split at h
 ·rename_i s k n hs hn
  cases hb : (No E T && decide (0 ≤ n)) with
  | false => rw [hb] at h; simp at h
  | true =>
   rw [hb, cond_true] at h
   cases hl : decide (n < (s.size : Int)) with
   | false => rw [hl] at h; simp at h
   | true =>
    rw [hl, cond_true] at h
    refine ⟨_, h, fun A' hA R' K' => ?_⟩
    unfold Ap
    rw [ho, hod]
    simp only [Ax hA hx, Ax hA hi, hs, hn, hb, hl, cond_true]
 ·cases h
theorem Gy (hA : Ag A A' F) {x : Option Operand} (hx : ∀ y, x = some y → RX A F y) : A5a E A' x = A5a E A x := by
 cases x with
 | none => rfl
 | some y => simp only [A5a, Ax hA (hx y rfl)]
theorem Hra {T : TypeId} {x : Operand} {lo hi : Option Operand} {d : Nat} (ho : o.op = .slice T x lo hi none) (hod : o.dst = some d) (hx : RX A F x) (hlo : ∀ y, lo = some y → RX A F y) (hhi : ∀ y, hi = some y → RX A F y) (h : Ap E o A Kc = some r) : Loc E o A F Kc r := by
 unfold Ap at h
 rw [ho, hod] at h
 simp only at h
 split at h
 ·rename_i s l u hs hl hu
  cases hq : No E T with
  | false => rw [hq] at h; simp at h
  | true =>
   rw [hq, cond_true] at h
   obtain ⟨h1, h2⟩ := Jx h
   refine ⟨_, h1, fun A' hA R' K' => ?_⟩
   unfold Ap
   rw [ho, hod]
   simp only [Ax hA hx, Gy hA hlo, Gy hA hhi, hs, hl, hu, hq, cond_true]
   exact h2 _
 ·rename_i y l u hne hs hl hu
  have hal := (Gn hx hs).al
  split at h
  ·rename_i e0 r0 xs0 e r' xs hsn
   cases hq : Iz E T e with
   | false => rw [hq] at h; simp at h
   | true =>
    rw [hq, cond_true] at h
    split at h
    ·obtain ⟨h1, h2⟩ := Jx h
     refine ⟨_, h1, fun A' hA R' K' => ?_⟩
     unfold Ap
     rw [ho, hod]
     simp only [Ax hA hx, Gy hA hlo, Gy hA hhi, hs, hl, hu, F8 hA hal, hsn, hq, cond_true]
     exact h2 _
    ·obtain ⟨h1, h2⟩ := Jx h
     refine ⟨_, h1, fun A' hA R' K' => ?_⟩
     unfold Ap
     rw [ho, hod]
     simp only [Ax hA hx, Gy hA hlo, Gy hA hhi, hs, hl, hu, F8 hA hal, hsn, hq, cond_true]
     exact h2 _
  ·rename_i p v e r' xs hsn
   have hp : p ∈ F := Gn hx hs
   cases hq : Iz E T e with
   | false => rw [hq] at h; simp at h
   | true =>
    rw [hq, cond_true] at h
    cases hmv : E.mv d with
    | true =>
     rw [hmv, cond_true] at h
     split at h
     ·obtain ⟨h1, h2⟩ := Jx h
      refine ⟨_, h1, fun A' hA R' K' => ?_⟩
      unfold Ap
      rw [ho, hod]
      simp only [Ax hA hx, Gy hA hlo, Gy hA hhi, hs, hl, hu, F8 hA hal, hsn, hq, hmv, cond_true]
      exact h2 _
     ·cases h
    | false =>
     rw [hmv, cond_false] at h
     cases hno : Hb r' with
     | true =>
      rw [hno, cond_true] at h
      obtain ⟨h1, h2⟩ := Jx h
      refine ⟨_, h1, fun A' hA R' K' => ?_⟩
      unfold Ap
      rw [ho, hod]
      simp only [Ax hA hx, Gy hA hlo, Gy hA hhi, hs, hl, hu, F8 hA hal, hsn, hq, hmv, hno, cond_true, cond_false, Axa hA hal]
      exact h2 _
     | false =>
      rw [hno, cond_false] at h
      cases hao : Eg r' with
      | false => rw [hao] at h; simp at h
      | true =>
       rw [hao, cond_true] at h
       obtain ⟨h1, h2⟩ := Jx h
       refine ⟨_, h1, fun A' hA R' K' => ?_⟩
       unfold Ap
       rw [ho, hod]
       simp only [Ax hA hx, Gy hA hlo, Gy hA hhi, hs, hl, hu, F8 hA hal, hsn, hq, hmv, hno, hao, cond_true, cond_false]
       exact h2 _
  ·rename_i p v pi e r' xs
   have hp : p ∈ F := Gn hx hs
   cases hq : (Iz E T e && Nat.beq (get A p).1 v) with
   | false => rw [hq] at h; simp at h
   | true =>
    rw [hq, cond_true] at h
    obtain ⟨h1, h2⟩ := Jx h
    refine ⟨_, h1, fun A' hA R' K' => ?_⟩
    unfold Ap
    rw [ho, hod]
    simp only [Ax hA hx, Gy hA hlo, Gy hA hhi, hs, hl, hu, hA p hp, hq, cond_true]
    exact h2 _
  ·rename_i e r' xs hnda hsn
   cases hq : Iz E T e with
   | false => rw [hq] at h; simp at h
   | true =>
    rw [hq, cond_true] at h
    obtain ⟨h1, h2⟩ := Jx h
    refine ⟨_, h1, fun A' hA R' K' => ?_⟩
    unfold Ap
    rw [ho, hod]
    simp only [Ax hA hx, Gy hA hlo, Gy hA hhi, hs, hl, hu, F8 hA hal, hsn, hq, cond_true]
    exact h2 _
  ·cases h
 ·cases h
theorem Xo {A : Ab} {y : Lf} : ∀ u ∈ Q3 A y, M5 u := by
 intro u hu
 unfold Q3 at hu
 split at hu
 ·rename_i p v
  split at hu
  ·rename_i n e r xs hg
   cases hb : Nat.beq n v with
   | false => rw [hb] at hu; simp at hu
   | true =>
    rw [hb] at hu
    simp only [cond_true, List.mem_singleton] at hu
    subst hu
    exact .inr ⟨e, r, xs, rfl⟩
  ·simp at hu
 ·simp at hu
theorem T8 {A : Ab} : ∀ {l : List Lf}, ∀ u ∈ Hc A l, M5 u
 | [], u, hu => by simp [Hc] at hu
 | y :: l, u, hu => by
  unfold Hc at hu
  rcases List.mem_append.1 hu with hu | hu
  ·exact Xo u hu
  ·exact T8 u hu
theorem Rd {x : Operand} {s : Sv} : ∀ u ∈ gone x s, M5 u := by
 intro u hu
 unfold gone at hu
 split at hu
 ·rename_i t
  cases hb : Kd s with
  | false => rw [hb] at hu; simp at hu
  | true =>
   rw [hb] at hu
   simp only [cond_true, List.mem_singleton] at hu
   subst hu
   exact .inl rfl
 ·simp at hu
theorem Hsa {y : Lf} {x : Operand} : ∀ u ∈ A0a y x, M5 u := by
 intro u hu
 unfold A0a at hu
 split at hu
 ·simp only [List.mem_singleton] at hu; subst hu; exact .inl rfl
 ·simp only [List.mem_singleton] at hu; subst hu; exact .inl rfl
 ·simp at hu
theorem Hta {A : Ab} {l : List Lf} {x : Operand} {s : Sv} : ∀ u ∈ Hc A l ++ gone x s, M5 u := fun u hu => (List.mem_append.1 hu).elim (T8 u) (Rd u)
theorem Nh : ∀ {l : List Lf} {A : Ab} {m : List Lf} {us : List Up}, Id A l = some (m, us) → ∀ u ∈ us, M5 u
 | [], A, m, us, h => by
  simp only [Id, Option.some.injEq, Prod.mk.injEq] at h
  obtain ⟨_, rfl⟩ := h
  simp
 | x :: l, A, m, us, h => by
  by_cases hal : ∃ p v, x = .al p v
  ·obtain ⟨p, v, rfl⟩ := hal
   simp only [Id] at h
   split at h
   ·split at h
    ·rename_i m' us' hrec
     simp only [Option.some.injEq, Prod.mk.injEq] at h
     obtain ⟨_, rfl⟩ := h
     intro u hu
     rcases List.mem_cons.1 hu with rfl | hu
     ·exact .inl rfl
     ·exact Nh hrec u hu
    ·cases h
   ·cases h
  ·obtain ⟨m', rfl, h'⟩ := Nf (fun p v e => hal ⟨p, v, e⟩) h
   exact Nh h'
theorem Hua {A : Ab} {x : Operand} {s : Sv} {m : List Lf} {us : List Up} (h : Foa A x s = some (m, us)) : ∀ u ∈ us, M5 u := by
 unfold Foa at h
 split at h
 ·rename_i m0 vs0 ht
  simp only [Option.some.injEq, Prod.mk.injEq] at h
  obtain ⟨_, rfl⟩ := h
  exact fun u hu => (List.mem_append.1 hu).elim (Rd u) (Nh ht u)
 ·cases h
theorem Re {T : TI} : ∀ {ps : List (Nat × Operand)} {A A' : Ab} {l : List Lf} {us : List Up}, Ag A A' F → (∀ p ∈ ps, RX A F p.2) → Ke E A' T l us ps = Ke E A T l us ps
 | [], _, _, _, _, _, _ => rfl
 | (i, x) :: ps, A, A', l, us, hA, hp => by
  have hx : RX A F x := hp (i, x) (by simp)
  have hps : ∀ p ∈ ps, RX A F p.2 := fun p hm => hp p (List.mem_cons_of_mem _ hm)
  have e0 : ∀ l us, Ke E A' T l us ps = Ke E A T l us ps := fun l us => Re hA hps
  unfold Ke
  cases hn : nth T.fo i with
  | none => rfl
  | some o =>
   obtain ⟨off, z, ag⟩ := o
   simp only [Ax hA hx]
   have gen : ∀ {s : Sv}, opT E 0 A x = some s → (let m := (parts s).map (Hh A'); bif A4 m && Nat.beq m.length z && Nat.ble (off + z) l.length then Ke E (ups A' (Hc A' (parts s) ++ gone x s)) T (setAll l off m) (us ++ (Hc A' (parts s) ++ gone x s)) ps else none) =
     (let m := (parts s).map (Hh A); bif A4 m && Nat.beq m.length z && Nat.ble (off + z) l.length then Ke E (ups A (Hc A (parts s) ++ gone x s)) T (setAll l off m) (us ++ (Hc A (parts s) ++ gone x s)) ps else none) := by
    intro s hs
    have hal := RL.als (M6 hx hs)
    simp only [O8 hA hal, Mt hA hal]
    rw [Re (hA.ups (U := Hc A (parts s) ++ gone x s)) (fun p hm => (hps p hm).ups Hta)]
   split
   ·cases Nat.beq z 1 with
    | false => rfl
    | true =>
     simp only [cond_true]
     split
     ·exact e0 _ _
     ·rfl
   ·cases hs : opT E 0 A x with
    | none => rfl
    | some s => exact gen hs
theorem Hva {T : TypeId} {ps : Array (Nat × Operand)} {d : Nat} (ho : o.op = .build T ps) (hod : o.dst = some d) (hp : ∀ p ∈ ps.toList, RX A F p.2) (h : Ap E o A Kc = some r) : Loc E o A F Kc r := by
 unfold Ap at h
 rw [ho, hod] at h
 simp only at h
 split at h
 ·rename_i ti hT
  split at h
  ·rename_i l us hb
   cases ha : ti.ag with
   | false => rw [ha] at h; simp at h
   | true =>
    rw [ha, cond_true] at h
    refine ⟨_, h, fun A' hA R' K' => ?_⟩
    unfold Ap
    rw [ho, hod]
    simp only [hT, Re hA hp, hb, ha, cond_true]
  ·cases h
 ·cases h
theorem D1a {e : TypeId} {t : Ty} : ∀ {ps : List (Nat × Operand)} {A A' : Ab} {i : Nat}, Ag A A' F → (∀ p ∈ ps, RX A F p.2) → W5 E A' e t i ps = W5 E A e t i ps
 | [], _, _, _, _, _ => rfl
 | (j, x) :: ps, A, A', i, hA, hp => by
  have hx : RX A F x := hp (j, x) (by simp)
  have hps : ∀ p ∈ ps, RX A F p.2 := fun p hm => hp p (List.mem_cons_of_mem _ hm)
  unfold W5
  cases Nat.beq i j with
  | false => rfl
  | true =>
   simp only [cond_true, Ax hA hx]
   cases hs : opT E e A x with
   | none => rfl
   | some s =>
    have hal := RL.als (M6 hx hs)
    simp only [O8 hA hal, Cza hA hal, Mt hA hal]
    rw [D1a (hA.ups (U := Hc A (parts s) ++ gone x s)) (fun p hm => (hps p hm).ups Hta)]
theorem D2a {e : TypeId} {t : Ty} : ∀ {ps : List (Nat × Operand)} {A A' : Ab} {i : Nat}, Ag A A' F → (∀ p ∈ ps, RX A F p.2) → W6 E A' e t i ps = W6 E A e t i ps
 | [], _, _, _, _, _ => rfl
 | (j, x) :: ps, A, A', i, hA, hp => by
  have hx : RX A F x := hp (j, x) (by simp)
  have hps : ∀ p ∈ ps, RX A F p.2 := fun p hm => hp p (List.mem_cons_of_mem _ hm)
  unfold W6
  cases Nat.beq i j with
  | false => rfl
  | true =>
   simp only [cond_true, Ax hA hx]
   cases hs : opT E e A x with
   | none => rfl
   | some s =>
    have hal := RL.als (M6 hx hs)
    simp only [Hja hA hal]
    cases hgv : Foa A x s with
    | none => rfl
    | some q =>
     obtain ⟨m, us⟩ := q
     simp only
     rw [D2a (hA.ups (U := us)) (fun p hm => (hps p hm).ups (Hua hgv))]
theorem Sj {T : TypeId} {n : Nat} {ps : Array (Nat × Operand)} {d : Nat} (ho : o.op = .buildSlice T n ps) (hod : o.dst = some d) (hp : ∀ p ∈ ps.toList, RX A F p.2) (h : Ap E o A Kc = some r) : Loc E o A F Kc r := by
 unfold Ap at h
 rw [ho, hod] at h
 simp only at h
 split at h
 ·rename_i e r' b f hT
  cases hb : (Nat.beq n ps.size && Nat.ble (n * r'.sz) 16777216 && (E.ti e).isSome) with
  | false => rw [hb] at h; simp at h
  | true =>
   rw [hb, cond_true] at h
   split at h
   ·rename_i hh
    cases hno : Hb r' with
    | false => rw [hno] at h; simp at h
    | true =>
     rw [hno, cond_true] at h
     split at h
     ·rename_i ys us hr
      refine ⟨_, h, fun A' hA R' K' => ?_⟩
      unfold Ap
      rw [ho, hod]
      simp only [hT, hb, hh, hno, cond_true, D1a hA hp, hr]
     ·cases h
   ·rename_i r2 hh
    cases hb2 : (decide (shp r2 = shp r') && Eg r2) with
    | false => rw [hb2] at h; simp at h
    | true =>
     rw [hb2, cond_true] at h
     split at h
     ·rename_i ys us hr
      refine ⟨_, h, fun A' hA R' K' => ?_⟩
      unfold Ap
      rw [ho, hod]
      simp only [hT, hb, hh, hb2, cond_true, D2a hA hp, hr]
     ·cases h
 ·cases h
theorem Uq {T : TypeId} {x y : Operand} {d : Nat} (ho : o.op = .makeSlice T x y) (hod : o.dst = some d) (hx : RX A F x) (hy : RX A F y) (h : Ap E o A Kc = some r) : Loc E o A F Kc r := by
 unfold Ap at h
 rw [ho, hod] at h
 simp only at h
 split at h
 ·rename_i e r' b f n m hT hs hm
  split at h
  ·rename_i te he
   cases hb : (Nn te.ty r' && decide (n = m)) with
   | false => rw [hb] at h; simp at h
   | true =>
    rw [hb, cond_true] at h
    cases h0 : decide (0 ≤ n) with
    | false => rw [h0] at h; simp at h
    | true =>
     rw [h0, cond_true] at h
     cases h1 : decide (n * te.by_ ≤ 140737488355328) with
     | false => rw [h1] at h; simp at h
     | true =>
      rw [h1, cond_true] at h
      split at h
      ·rename_i hh
       refine ⟨_, h, fun A' hA R' K' => ?_⟩
       unfold Ap
       rw [ho, hod]
       simp only [hT, Ax hA hx, Ax hA hy, hs, hm, he, hb, h0, h1, hh, cond_true]
      ·rename_i r2 hh
       cases h2 : decide (shp r2 = shp r') with
       | false => rw [h2] at h; simp at h
       | true =>
        rw [h2, cond_true] at h
        refine ⟨_, h, fun A' hA R' K' => ?_⟩
        unfold Ap
        rw [ho, hod]
        simp only [hT, Ax hA hx, Ax hA hy, hs, hm, he, hb, h0, h1, hh, h2, cond_true]
  ·cases h
 ·cases h
theorem Rf (hA : Ag A A' F) : ∀ {xs : List Operand} {Ts : List TypeId}, (∀ x ∈ xs, RX A F x) → Ow E Ts A' xs = Ow E Ts A xs
 | [], _, _ => by simp only [Ow]
 | x :: xs, [], _ => by simp only [Ow]
 | x :: xs, T :: Ts, hx => by
  unfold Ow
  simp only [Ax hA (hx x (by simp)), Rf hA (xs := xs) (Ts := Ts) (fun y hy => hx y (List.mem_cons_of_mem _ hy))]
theorem B0a : ∀ {xs : List Operand} {Ts : List TypeId} {ss : List Sv}, (∀ x ∈ xs, RX A F x) → Ow E Ts A xs = some ss → ∀ s ∈ ss, ∀ y ∈ parts s, RL A F y
 | [], _, ss, _, h => by
  simp only [Ow, Option.some.injEq] at h
  subst h
  intro s hs
  simp at hs
 | x :: xs, [], ss, _, h => by simp [Ow] at h
 | x :: xs, T :: Ts, ss, hx, h => by
  simp only [Ow] at h
  split at h
  ·rename_i s hs
   split at h
   ·rename_i ss' hss
    simp only [Option.some.injEq] at h
    subst h
    intro s' hs' y hy
    rcases List.mem_cons.1 hs' with rfl | hs'
    ·exact M6 (hx x (by simp)) hs y hy
    ·exact B0a (fun y hy => hx y (List.mem_cons_of_mem _ hy)) hss s' hs' y hy
   ·cases h
  ·cases h
theorem Ofa {c : Call} (ho : o.op = .call c) (hc : c.callee = .builtin .len) (hx : ∀ x ∈ c.args.toList, RX A F x) (h : Ap E o A Kc = some r) : Loc E o A F Kc r := by
 unfold Ap at h
 rw [ho] at h
 simp only [hc] at h
 split at h
 ·rename_i T x d hT hxs hod
  have hx0 : RX A F x := hx x (by rw [hxs]; simp)
  split at h
  ·rename_i y hs
   have hal := (Gn hx0 hs).al
   split at h
   ·rename_i s hse
    cases hb : No E T with
    | false => rw [hb] at h; simp at h
    | true =>
     rw [hb, cond_true] at h
     refine ⟨_, h, fun A' hA R' K' => ?_⟩
     unfold Ap
     rw [ho, hod]
     simp only [hc, hT, hxs, Ax hA hx0, hs, F8 hA hal, hse, hb, cond_true]
   ·rename_i p v pi e r' xs hse
    have hy : y = .da p v pi e r' xs := by
     cases y <;> Aa | exact hse | skip
     simp only [Ic] at hse
     split at hse
     ·rename_i n _ _ _ _
      cases hbb : Nat.beq n _ <;> rw [hbb] at hse <;> simp at hse
     ·rename_i n _ _ _ _
      cases hbb : Nat.beq n _ <;> rw [hbb] at hse <;> simp at hse
     ·cases hse
    have hp : p ∈ F := by have := Gn hx0 hs; rw [hy] at this; exact this
    cases hb : (Iz E T e && Nat.beq (get A p).1 v) with
    | false => rw [hb] at h; simp at h
    | true =>
     rw [hb, cond_true] at h
     refine ⟨_, h, fun A' hA R' K' => ?_⟩
     unfold Ap
     rw [ho, hod]
     simp only [hc, hT, hxs, Ax hA hx0, hs, F8 hA hal, hse, hA p hp, hb, cond_true]
   ·rename_i e r' xs hse
    cases hb : Iz E T e with
    | false => rw [hb] at h; simp at h
    | true =>
     rw [hb, cond_true] at h
     refine ⟨_, h, fun A' hA R' K' => ?_⟩
     unfold Ap
     rw [ho, hod]
     simp only [hc, hT, hxs, Ax hA hx0, hs, F8 hA hal, hse, hb, cond_true]
   ·rename_i e r' xs hse
    cases hb : Iz E T e with
    | false => rw [hb] at h; simp at h
    | true =>
     rw [hb, cond_true] at h
     refine ⟨_, h, fun A' hA R' K' => ?_⟩
     unfold Ap
     rw [ho, hod]
     simp only [hc, hT, hxs, Ax hA hx0, hs, F8 hA hal, hse, hb, cond_true]
   ·cases h
  ·cases h
 ·cases h
theorem Oga {c : Call} (ho : o.op = .call c) (hc : c.callee = .builtin .min) (hx : ∀ x ∈ c.args.toList, RX A F x) (h : Ap E o A Kc = some r) : Loc E o A F Kc r := by
 unfold Ap at h
 rw [ho] at h
 simp only [hc] at h
 split at h
 ·rename_i k n l d hs hod
  obtain ⟨v, h1, h2⟩ := T7 h
  refine ⟨_, h1, fun A' hA R' K' => ?_⟩
  unfold Ap
  rw [ho, hod]
  simp only [hc, Rf hA hx, hs]
  exact h2 _
 ·cases h
theorem Oha {c : Call} (ho : o.op = .call c) (hc : c.callee = .builtin .max) (hx : ∀ x ∈ c.args.toList, RX A F x) (h : Ap E o A Kc = some r) : Loc E o A F Kc r := by
 unfold Ap at h
 rw [ho] at h
 simp only [hc] at h
 split at h
 ·rename_i k n l d hs hod
  obtain ⟨v, h1, h2⟩ := T7 h
  refine ⟨_, h1, fun A' hA R' K' => ?_⟩
  unfold Ap
  rw [ho, hod]
  simp only [hc, Rf hA hx, hs]
  exact h2 _
 ·cases h
theorem Ewa {c : Call} (ho : o.op = .call c) (hc : c.callee = .builtin .append) (hx : ∀ x ∈ c.args.toList, RX A F x) (h : Ap E o A Kc = some r) : Loc E o A F Kc r := by
 unfold Ap at h
 rw [ho] at h
 simp only [hc] at h
 split at h
 ·rename_i T T' x y d hT hxs hod
  have hx0 : RX A F x := hx x (by rw [hxs]; simp)
  have hy0 : RX A F y := hx y (by rw [hxs]; simp)
  split at h
  ·rename_i u w hsu hsw
   have hau := (Gn hx0 hsu).al
   have hrw := Gn hy0 hsw
   split at h
   ·rename_i e r' xs hsu'
    split at h
    ·rename_i r2 hh
     have hy1 : RX (ups A (A0a u x)) F y := hy0.ups Hsa
     split at h
     ·rename_i w2 hsw2
      have haw2 := (Gn hy1 hsw2).al
      split at h
      ·rename_i e' r3 ys xs2 te hsn hcx hte
       split at h
       ·rename_i ys2 hcy
        cases hq : (Eg r2 && Nat.beq e e' && Iz E T e && Nat.beq T T') with
        | false => rw [hq] at h; simp at h
        | true =>
         rw [hq, cond_true] at h
         cases hq2 : Nat.ble ((xs2.length + ys2.length) * te.by_) 140737488355328 with
         | false => rw [hq2] at h; simp at h
         | true =>
          rw [hq2, cond_true] at h
          refine ⟨_, h, fun A' hA R' K' => ?_⟩
          have hA1 := hA.ups (U := A0a u x)
          unfold Ap
          rw [ho, hod]
          simp only [hc, hT, hxs, Ax hA hx0, Ax hA hy0, hsu, hsw, F8 hA hau, hsu', hh, Ax hA1 hy1, hsw2, F8 hA1 haw2, hsn, hcx, hte, hcy, hq, hq2, cond_true]
       ·cases h
      ·cases h
     ·cases h
    ·rename_i hh
     cases hno : Hb r' with
     | false => rw [hno] at h; simp at h
     | true =>
     rw [hno, cond_true] at h
     split at h
     ·rename_i e' r'' ys hasl
      split at h
      ·rename_i ys' te hcast hte
       cases hq : (Nat.beq e e' && Iz E T e && Nat.beq T T') with
       | false => rw [hq] at h; simp at h
       | true =>
        rw [hq, cond_true] at h
        cases hq2 : Nat.ble ((xs.length + ys'.length) * te.by_) 140737488355328 with
        | false => rw [hq2] at h; simp at h
        | true =>
         rw [hq2, cond_true] at h
         refine ⟨_, h, fun A' hA R' K' => ?_⟩
         unfold Ap
         rw [ho, hod]
         simp only [hc, hT, hxs, Ax hA hx0, Ax hA hy0, hsu, hsw, F8 hA hau, Cya hA hrw, hsu', hh, hno, hasl, hcast, hte, hq, hq2, cond_true]
      ·cases h
     ·rename_i hasl
      split at h
      ·rename_i s
       split at h
       ·rename_i ys' f hcast hte
        cases hq : (Iz E T e && No E T' && Nat.ble ((xs.length + s.size) * 1) 140737488355328) with
        | false => rw [hq] at h; simp at h
        | true =>
         rw [hq, cond_true] at h
         refine ⟨_, h, fun A' hA R' K' => ?_⟩
         unfold Ap
         rw [ho, hod]
         simp only [hc, hT, hxs, Ax hA hx0, Ax hA hy0, hsu, hsw, F8 hA hau, Cya hA hrw, hsu', hh, hno, hasl, hcast, hte, hq, cond_true]
       ·cases h
      ·cases h
   ·cases h
  ·cases h
 ·cases h
theorem Xp (hA : Ag A A' F) : ∀ {ps : List Par} {ss : List Sv}, (∀ s ∈ ss, ∀ y ∈ parts s, RL A F y) → Lu A' ps ss = Lu A ps ss
 | [], [], _ => rfl
 | [], _ :: _, _ => rfl
 | p :: _, [], _ => by cases p <;> rfl
 | .ptr _ _ :: _, _ :: _, _ => rfl
 | .hid _ _ :: _, _ :: _, _ => rfl
 | .rd _ :: _, _ :: _, _ => rfl
 | .fn _ _ :: _, _ :: _, _ => rfl
 | .vw _ _ :: _, _ :: _, _ => rfl
 | .val ag t :: ps, s :: ss, hs => by
  unfold Lu
  rw [Kta hA (hs s (by simp)), Xp hA (fun s' hs' => hs s' (List.mem_cons_of_mem _ hs'))]
theorem Exa {y : Lf} : ∀ u ∈ A2a y, M5 u := by
 intro u hu
 unfold A2a at hu
 split at hu
 ·simp only [List.mem_singleton] at hu; subst hu; exact .inl rfl
 ·simp at hu
theorem Le : ∀ {ts : List Ty} {l : List Lf} {A : Ab} {m : List Lf} {us : List Up}, Ff A ts l = some (m, us) → ∀ u ∈ us, M5 u
 | [], [], A, m, us, h => by
  simp only [Ff, Option.some.injEq, Prod.mk.injEq] at h
  obtain ⟨_, rfl⟩ := h
  simp
 | [], _ :: _, A, m, us, h => by simp [Ff] at h
 | t :: ts, [], A, m, us, h => by cases t <;> simp [Ff] at h
 | t :: ts, x :: l, A, m, us, h => by
  cases t with
  | ow e r =>
   simp only [Ff] at h
   split at h
   ·split at h
    ·rename_i hr
     simp only [Option.some.injEq, Prod.mk.injEq] at h
     obtain ⟨_, rfl⟩ := h
     exact fun u hu => (List.mem_append.1 hu).elim (Exa u) (Le hr u)
    ·cases h
   ·cases h
  | _ =>
   simp only [Ff] at h
   split at h
   ·rename_i hr
    simp only [Option.some.injEq, Prod.mk.injEq] at h
    obtain ⟨_, rfl⟩ := h
    exact fun u hu => (List.mem_append.1 hu).elim (Xo u) (Le hr u)
   ·cases h
theorem L0a {x : Operand} {s : Sv} {t : Ty} (hA : Ag A A' F) (hal : ∀ y ∈ parts s, AL F y) : Ov A' x s t = Ov A x s t := by
 unfold Ov Ou
 rw [M7 (hA.ups (U := gone x s)) hal]
theorem Eya {x : Operand} {s : Sv} {t : Ty} {m : List Lf} {us : List Up} (h : Ov A x s t = some (m, us)) : ∀ u ∈ us, M5 u := by
 unfold Ov Ou at h
 split at h
 ·rename_i m0 vs0 ht
  cases hst : A4 m0 with
  | false => rw [hst] at h; simp at h
  | true =>
   rw [hst] at h
   simp only [cond_true, Option.some.injEq, Prod.mk.injEq] at h
   obtain ⟨_, rfl⟩ := h
   exact fun u hu => (List.mem_append.1 hu).elim (Rd u) (Le ht u)
 ·cases h
theorem D3a {b v : Nat} {t t' : Ty} (hA : Ag A A' F) (hb : RB A F b 0) : N9 A' b v t t' = N9 A b v t t' := by
 obtain ⟨h1, h2⟩ := hb
 unfold N9
 rw [hA _ h1]
 split
 ·rename_i n m hg
  have hcell : ∀ i, i < m → C b (0 + i) ∈ F ∧ ∀ p v, (get A (C b (0 + i))).2 = .one (.al p v) → p ∈ F := fun i hi => by
   rw [Nat.zero_add]
   exact h2 m (by rw [hg]) i (Nat.zero_le _) hi
  have hac := T6 hcell
  have e1 : cellsOf A' b 0 m = cellsOf A b 0 m := Pe hA (fun i hi => (hcell i hi).1)
  rw [e1, M7 hA hac]
 ·rfl
theorem T9 {b v : Nat} {t t' : Ty} {m : List Lf} {us : List Up} (h : N9 A b v t t' = some (m, us)) : ∀ u ∈ us, M5 u := by
 unfold N9 at h
 split at h
 ·rename_i n hd hp
  cases hq : (Nat.beq n v && Nat.beq hd t.sz && Nat.beq hd t'.sz) with
  | false => rw [hq] at h; simp at h
  | true =>
   rw [hq, cond_true] at h
   split at h
   ·rename_i l us0 hx
    cases hst : A4 l with
    | false => rw [hst] at h; simp at h
    | true =>
     rw [hst] at h
     simp only [cond_true, Option.some.injEq, Prod.mk.injEq] at h
     obtain ⟨_, rfl⟩ := h
     exact Le hx
   ·cases h
 ·cases h
theorem Rg (hA : Ag A A' F) : ∀ {bs : List (Nat × Nat)}, (∀ c ∈ bs, RB A F c.1 0) → J7 A' bs = J7 A bs
 | [], _ => rfl
 | c :: bs, h => by
  unfold J7
  rw [hA _ (h c (by simp)).1, Rg hA (fun c hc => h c (List.mem_cons_of_mem _ hc))]
theorem Hwa (hA : Ag A A' F) {b : Nat} : ∀ {ts : List Ty} {j : Nat} {l : List Lf}, (∀ y ∈ l, AL F y) → A3a A' b j ts l = A3a A b j ts l
 | [], _, [], _ => rfl
 | [], _, _ :: _, _ => rfl
 | t :: ts, _, [], _ => by cases t <;> rfl
 | t :: ts, j, x :: l, h => by
  have hx := h x (by simp)
  have ih := Hwa hA (b := b) (ts := ts) (j := j + 1) (l := l) (fun y hy => h y (List.mem_cons_of_mem _ hy))
  cases t with
  | ow e r =>
   cases x with
   | al p v => simp only [A3a, ih, F8 hA hx, hA p hx]
   | _ => rfl
  | _ => simp only [A3a, ih, F8 hA hx]
def RV (A : Ab) (F : List Nat) (ss : List Sv) : Prop := ∀ ys, Sv.agg ys ∈ ss → ∀ p v, Lf.al p v ∈ ys → 1000 ≤ p → RB A F (p / 1000 - 1) 0
theorem Ta : ∀ {ys : List Lf} {b : Nat}, W2 ys = some b → ∃ p v, Lf.al p v ∈ ys ∧ 1000 ≤ p ∧ b = p / 1000 - 1
 | [], b, h => by simp [W2] at h
 | y :: ys, b, h => by
  have rest : W2 ys = some b → ∃ p v, Lf.al p v ∈ y :: ys ∧ 1000 ≤ p ∧ b = p / 1000 - 1 := fun h => by
   obtain ⟨p, v, h1, h2⟩ := Ta h
   exact ⟨p, v, List.mem_cons_of_mem _ h1, h2⟩
  cases y with
  | al p v =>
   simp only [W2] at h
   cases hq : Nat.ble 1000 p with
   | false => rw [hq] at h; exact rest h
   | true =>
    rw [hq] at h
    simp only [cond_true, Option.some.injEq] at h
    exact ⟨p, v, by simp, Nat.le_of_ble_eq_true hq, h.symm⟩
  | _ => exact rest h
theorem Hxa (hA : Ag A A' F) : ∀ {ps : List Par} {ss : List Sv}, RV A F ss → W3 A' ps ss = W3 A ps ss ∧ ∀ c ∈ W3 A ps ss, RB A F c.1 0
 | [], ss, _ => ⟨rfl, by simp [W3]⟩
 | p :: ps, [], _ => by cases p <;> exact ⟨rfl, by simp [W3]⟩
 | p :: ps, s :: ss, h => by
  obtain ⟨h1, h2⟩ := Hxa hA (ps := ps) (ss := ss) (fun ys hy => h ys (List.mem_cons_of_mem _ hy))
  cases p with
  | vw t h0 =>
   cases s with
   | agg ys =>
    simp only [W3]
    cases hb : W2 ys with
    | none => exact ⟨h1, h2⟩
    | some b =>
     obtain ⟨p, v, e1, e2, rfl⟩ := Ta hb
     have hrb := h ys (by simp) p v e1 e2
     refine ⟨by simp only [h1, hA _ hrb.1], fun c hc => ?_⟩
     rcases List.mem_cons.1 hc with rfl | hc
     ·exact hrb
     ·exact h2 c hc
   | _ => exact ⟨h1, h2⟩
  | _ => cases s <;> exact ⟨h1, h2⟩
theorem D4a (hA : Ag A A' F) {cb hb : List (Nat × Nat)} {nv : Nat} {x : Operand} {p : Par} {s : Sv} (hhb : ∀ c ∈ hb, RB A F c.1 0) (hs : ∀ y ∈ parts s, RL A F y) : Pv A' cb hb nv x p s = Pv A cb hb nv x p s ∧ ∀ l u b, Pv A cb hb nv x p s = some (l, u, b) → ∀ v ∈ u, M5 v := by
 have hal := RL.als hs
 constructor
 ·unfold Pv
  split
  ·rename_i t h0 ys
   cases hn : nth hb (h0 - nv) with
   | none => rfl
   | some c =>
    rw [H6] at hn
    simp only [hA _ (hhb c (List.mem_of_getElem? hn)).1, Hwa hA (show ∀ y ∈ ys, AL F y from hal)]
  ·simp only [L0a hA hal]
  ·rename_i b v
   rw [D3a hA (show RB A F b 0 from hs (.bp b v 0) (by simp [parts]))]
  ·rename_i b v
   rw [D3a hA (show RB A F b 0 from hs (.bp b v 0) (by simp [parts]))]
  ·rfl
  ·rename_i F0 m F' bs
   rw [Rg hA (show ∀ c ∈ bs, RB A F c.1 0 from hs (.fn F' bs) (by simp [parts]))]
  ·rfl
 ·intro l u b h v hv
  unfold Pv at h
  split at h
  ·rename_i t h0 ys
   split at h
   ·split at h
    ·rename_i n m _
     generalize (Nat.ble nv h0 && Nat.beq n _ && Nat.beq m t.sz) = bb at h
     cases bb with
     | false => simp at h
     | true =>
      rw [cond_true] at h
      split at h
      ·simp only [Option.some.injEq, Prod.mk.injEq] at h
       obtain ⟨_, rfl, _⟩ := h
       simp at hv
      ·cases h
    ·cases h
   ·cases h
  ·rename_i ag t
   cases hf : Hj ag s with
   | false => rw [hf] at h; simp at h
   | true =>
    rw [hf, cond_true] at h
    split at h
    ·rename_i hgive
     simp only [Option.some.injEq, Prod.mk.injEq] at h
     obtain ⟨_, rfl, _⟩ := h
     exact Eya hgive v hv
    ·cases h
  ·split at h
   ·rename_i hgive
    simp only [Option.some.injEq, Prod.mk.injEq] at h
    obtain ⟨_, rfl, _⟩ := h
    exact T9 hgive v hv
   ·cases h
  ·split at h
   ·rename_i hgive
    simp only [Option.some.injEq, Prod.mk.injEq] at h
    obtain ⟨_, rfl, _⟩ := h
    exact T9 hgive v hv
   ·cases h
  ·rename_i t r y
   cases hf : (decide (shp r = shp t) && Hb t) with
   | false => rw [hf] at h; simp at h
   | true =>
    rw [hf] at h
    simp only [cond_true, Option.some.injEq, Prod.mk.injEq] at h
    obtain ⟨_, rfl, _⟩ := h
    simp at hv
  ·rename_i F0 m F' bs
   cases hf : (Nat.beq F0 F' && Nat.beq m bs.length && M8a bs cb && J7 A bs) with
   | false => rw [hf] at h; simp at h
   | true =>
    rw [hf] at h
    simp only [cond_true, Option.some.injEq, Prod.mk.injEq] at h
    obtain ⟨_, rfl, _⟩ := h
    simp at hv
  ·cases h
theorem Rh {cb hb : List (Nat × Nat)} {nv : Nat} : ∀ {ps : List Par} {xs : List (TypeId × Operand)} {hs : List (Nat × Nat)} {A A' : Ab}, Ag A A' F → (∀ x ∈ xs, RX A F x.2) → (∀ h ∈ hs, RB A F h.1 0) → (∀ c ∈ hb, RB A F c.1 0) → J8 E cb hb nv A' xs hs ps = J8 E cb hb nv A xs hs ps
 | [], [], [], _, _, _, _, _, _ => rfl
 | [], [], _ :: _, _, _, _, _, _, _ => rfl
 | [], _ :: _, _, _, _, _, _, _, _ => rfl
 | _ :: _, [], [], _, _, _, _, _, _ => rfl
 | p :: ps, x :: xs, hs, A, A', hA, hx, hb', hhb => by
  have hx0 : RX A F x.2 := hx x (by simp)
  unfold J8
  rw [Ax hA hx0]
  cases hs : opT E x.1 A x.2 with
  | none => rfl
  | some s =>
   simp only
   obtain ⟨h1, h2⟩ := D4a hA (cb := cb) (hb := hb) (nv := nv) (x := x.2) (p := p) hhb (M6 hx0 hs)
   rw [h1]
   cases ha : Pv A cb hb nv x.2 p s with
   | none => rfl
   | some q =>
    obtain ⟨l, u, b⟩ := q
    simp only
    rw [Rh (hA.ups (U := u)) (fun y hy => (hx y (List.mem_cons_of_mem _ hy)).ups (h2 l u b ha)) (fun c hc => (hb' c hc).ups (h2 l u b ha)) (fun c hc => (hhb c hc).ups (h2 l u b ha))]
 | p :: ps, [], h :: hs, A, A', hA, hx, hb', hhb => by
  unfold J8
  obtain ⟨h1, h2⟩ := D4a hA (cb := cb) (hb := hb) (nv := nv) (x := .func 0) (p := p) (s := .one (.bp h.1 h.2 0)) (F := F) hhb (fun y hy => by
   simp only [parts, List.mem_singleton] at hy
   subst hy
   exact hb' h (by simp))
  rw [h1]
  cases ha : Pv A cb hb nv (.func 0) p (.one (.bp h.1 h.2 0)) with
  | none => rfl
  | some q =>
   obtain ⟨l, u, b⟩ := q
   simp only
   rw [Rh (hA.ups (U := u)) (fun y hy => by simp at hy) (fun c hc => (hb' c (List.mem_cons_of_mem _ hc)).ups (h2 l u b ha)) (fun c hc => (hhb c hc).ups (h2 l u b ha))]
theorem B1a : ∀ {ss : List Sv}, (∀ s ∈ ss, ∀ y ∈ parts s, RL A F y) → ∀ c ∈ Fwa ss, RB A F c.1 0
 | [], _, c, hc => by simp [Fwa] at hc
 | s :: ss, h, c, hc => by
  have h2 := fun s' hs' => h s' (List.mem_cons_of_mem _ hs')
  cases s with
  | one z =>
   cases z with
   | fn F' bs => exact (show ∀ c ∈ bs, RB A F c.1 0 from h (.one (.fn F' bs)) (by simp) (.fn F' bs) (by simp [parts])) c hc
   | _ => exact B1a h2 c hc
  | _ => exact B1a h2 c hc
theorem D5a (hA : Ag A A' F) : ∀ {xs : List Operand}, (∀ x ∈ xs, RX A F x) → W7 E A' xs = W7 E A xs
 | [], _ => rfl
 | x :: xs, h => by
  unfold W7
  rw [Ax hA (h x (by simp)), D5a hA (fun y hy => h y (List.mem_cons_of_mem _ hy))]
theorem D6a {rs : List (RK × Ty)} {ls : List (List Lf)} {d : Option Nat} (hA : ∀ d', d = some d' → get A' (H d') = get A (H d')) : Na A' rs ls d = Na A rs ls d := by
 unfold Na
 split <;> Aa | rfl | skip
 ·rename_i d _ _ _ _ _
  unfold Fxa
  rw [hA _ rfl]
theorem Xq {en : Ent} {xs : List (TypeId × Operand)} {cs : List (Nat × Nat)} {ss : List Sv} {d : Option Nat} (hd : ∀ d', d = some d' → H d' ∈ F) (hx : ∀ x ∈ xs, RX A F x.2) (hcs : ∀ c ∈ cs, RB A F c.1 0) (hrl : ∀ s ∈ ss, ∀ y ∈ parts s, RL A F y) (hrv : RV A F ss) (h : Tx E A en xs cs ss d Kc = some r) :
  ∃ U, Kc U = some r ∧ ∀ A', Ag A A' F → ∀ {R' : Type} (K' : List Up → Option R'), Tx E A' en xs cs ss d K' = K' U := by
 unfold Tx at h
 cases hnv : Nat.beq en.nv (xs.length + cs.length) with
 | false => rw [hnv] at h; simp at h
 | true =>
  rw [hnv, cond_true] at h
  cases hb : (Lt en.ps && S8 en.rs && cs.isEmpty) with
  | true =>
   rw [hb, cond_true] at h
   split at h
   ·cases h
   ·rename_i ls hl
    split at h
    ·cases h
    ·rename_i x hm
     cases hr : en.run x with
     | none => rw [hr] at h; simp at h
     | some y =>
      rw [hr] at h
      simp only [Option.bind_some] at h
      split at h
      ·cases h
      ·rename_i rs hrs
       refine ⟨_, h, fun A' hA R' K' => ?_⟩
       unfold Tx
       simp only [hnv, hb, cond_true, Xp hA hrl, hl, hm, hr, Option.bind_some, D6a (A := A) (A' := A') (fun d' hd' => hA _ (hd d' hd')), hrs]
  | false =>
   rw [hb, cond_false] at h
   cases hb2 : (Fya E en.rs d && (Nat.ble en.nv 1000 && J0 en.nv 0 en.ps && Nat.ble en.rs.length 400 && Nat.ble en.ps.length 2000)) with
   | false => rw [hb2] at h; simp at h
   | true =>
    rw [hb2, cond_true] at h
    split at h
    ·cases h
    ·rename_i ls us bs hl
     cases hnd : Qj bs with
     | false => rw [hnd] at h; simp at h
     | true =>
      rw [hnd, cond_true] at h
      split at h
      ·cases h
      ·rename_i x hm
       cases hr : en.run x with
       | none => rw [hr] at h; simp at h
       | some y =>
        rw [hr] at h
        simp only [Option.bind_some] at h
        split at h
        ·cases h
        ·rename_i ws hws
         split at h
         ·cases h
         ·rename_i rs hrs
          refine ⟨_, h, fun A' hA R' K' => ?_⟩
          have hA2 := (hA.ups (U := us)).ups (U := ws)
          obtain ⟨v1, v2⟩ := Hxa hA (ps := en.ps) hrv
          have hhb : ∀ c ∈ Fwa ss ++ W3 A en.ps ss, RB A F c.1 0 := fun c hc => (List.mem_append.1 hc).elim (B1a hrl c) (v2 c)
          have hargs := Rh (E := E) (cb := Fwa ss ++ W3 A en.ps ss) (hb := Fwa ss ++ W3 A en.ps ss) (nv := en.nv) (ps := en.ps) hA hx (hs := cs ++ (Fwa ss ++ W3 A en.ps ss)) (fun c hc => (List.mem_append.1 hc).elim (hcs c) (hhb c)) hhb
          unfold Tx
          simp only [v1, hnv, hb, hb2, hnd, cond_true, cond_false, hargs, hl, hm, hr, Option.bind_some, hws, D6a (A := ups (ups A us) ws) (A' := ups (ups A' us) ws) (fun d' hd' => hA2 _ (hd d' hd')), hrs]
theorem B2a : ∀ {xs : List Operand} {Ts : List TypeId} {ss : List Sv}, (∀ t, .tmp t ∈ xs → RV A F [(get A t).2]) → Ow E Ts A xs = some ss → RV A F ss
 | [], _, ss, _, h => by
  simp only [Ow, Option.some.injEq] at h
  subst h
  intro ys hy
  simp at hy
 | x :: xs, [], ss, _, h => by simp [Ow] at h
 | x :: xs, T :: Ts, ss, hx, h => by
  simp only [Ow] at h
  split at h
  ·rename_i s hs
   split at h
   ·rename_i ss' hss
    simp only [Option.some.injEq] at h
    subst h
    intro ys hy p v hp h1
    rcases List.mem_cons.1 hy with hy | hy
    ·subst hy
     cases x with
     | tmp t =>
      have h2 : (bif Nat.blt t E.nt then some (get A t).2 else none) = some (.agg ys) := hs
      cases hb : Nat.blt t E.nt with
      | false => rw [hb] at h2; simp at h2
      | true =>
       rw [hb] at h2
       simp only [cond_true, Option.some.injEq] at h2
       exact hx t (by simp) ys (by rw [h2]; simp) p v hp h1
     | const w =>
      exfalso
      unfold opT at hs
      split at hs
      ·rename_i e; cases e
      ·split at hs <;> cases hs
      ·rename_i w' _ _
       cases hq : C2a w' <;> simp [hq] at hs
      ·rename_i e; cases e
      ·cases hs
     | func f => simp [opT] at hs
     | global g => simp [opT] at hs
    ·exact B2a (fun t ht => hx t (List.mem_cons_of_mem _ ht)) hss ys hy p v hp h1
   ·cases h
  ·cases h
theorem Hya : ∀ {ys : List Lf}, (∀ p ∈ Paa A ys, p ∈ F) → ∀ p v, Lf.al p v ∈ ys → 1000 ≤ p → RB A F (p / 1000 - 1) 0
 | [], _, p, v, hm, _ => by simp at hm
 | y :: ys, h, p, v, hm, hp => by
  have rest : (∀ p ∈ Paa A ys, p ∈ F) → Lf.al p v ∈ ys → RB A F (p / 1000 - 1) 0 := fun h hm => Hya h p v hm hp
  cases y with
  | al q w =>
   simp only [Paa] at h
   rcases List.mem_cons.1 hm with e | hm
   ·simp only [Lf.al.injEq] at e
    obtain ⟨rfl, rfl⟩ := e
    rw [show Nat.ble 1000 p = true from Nat.ble_eq_true_of_le hp, cond_true] at h
    exact Hga fun p hp => h p (List.mem_append_left _ hp)
   ·exact rest (fun p hp => h p (List.mem_append_right _ hp)) hm
  | _ =>
   rcases List.mem_cons.1 hm with e | hm
   ·cases e
   ·exact rest h hm
theorem Hza : ∀ {xs : List Operand}, (∀ p ∈ Nea A xs, p ∈ F) → ∀ t, .tmp t ∈ xs → RV A F [(get A t).2]
 | [], _, t, hm => by simp at hm
 | x :: xs, h, t, hm => by
  rcases List.mem_cons.1 hm with rfl | hm
  ·intro ys hy
   simp only [List.mem_singleton] at hy
   simp only [Nea, ← hy] at h
   exact Hya fun p hp => h p (List.mem_append_left _ hp)
  ·refine Hza (fun p hp => h p ?_) t hm
   cases x <;> Aa | exact hp | (simp only [Nea]; exact List.mem_append_right _ hp)
theorem Mma {Ts : List TypeId} {xs : List Operand} (hx : ∀ x ∈ xs, RX A F x) : ∀ x ∈ Ts.zip xs, RX A F x.2 := fun x hm => hx x.2 (List.of_mem_zip (show (x.1, x.2) ∈ Ts.zip xs from hm)).2
theorem I0a {c : Call} {f : FuncId} (ho : o.op = .call c) (hc : c.callee = .value (.func f)) (hd : ∀ d, o.dst = some d → H d ∈ F) (hx : ∀ x ∈ c.args.toList, RX A F x) (hv : ∀ t, .tmp t ∈ c.args.toList → RV A F [(get A t).2]) (h : Ap E o A Kc = some r) : Loc E o A F Kc r := by
 unfold Ap at h
 rw [ho] at h
 simp only [hc] at h
 split at h
 ·rename_i en ss he hss
  obtain ⟨U, h1, h2⟩ := Xq hd (Mma hx) (by simp) (B0a hx hss) (B2a hv hss) h
  refine ⟨U, h1, fun A' hA R' K' => ?_⟩
  unfold Ap
  rw [ho]
  simp only [hc, he, Rf hA hx, hss]
  exact h2 A' hA K'
 ·cases h
theorem I1a {c : Call} {t : Nat} (ho : o.op = .call c) (hc : c.callee = .value (.tmp t)) (hd : ∀ d, o.dst = some d → H d ∈ F) (ht : RX A F (.tmp t)) (hx : ∀ x ∈ c.args.toList, RX A F x) (hv : ∀ t, .tmp t ∈ c.args.toList → RV A F [(get A t).2]) (h : Ap E o A Kc = some r) : Loc E o A F Kc r := by
 unfold Ap at h
 rw [ho] at h
 simp only [hc] at h
 split at h
 ·rename_i f bs hf
  have hbs : ∀ c ∈ bs, RB A F c.1 0 := Gn ht hf
  split at h
  ·rename_i en ss he hss
   cases hal : J7 A bs with
   | false => rw [hal] at h; simp at h
   | true =>
    rw [hal, cond_true] at h
    obtain ⟨U, h1, h2⟩ := Xq hd (Mma hx) hbs (B0a hx hss) (B2a hv hss) h
    refine ⟨U, h1, fun A' hA R' K' => ?_⟩
    unfold Ap
    rw [ho]
    simp only [hc, Ax hA ht, hf, he, Rf hA hx, hss, Rg hA hbs, hal, cond_true]
    exact h2 A' hA K'
  ·cases h
 ·cases h
theorem Xr {f : FuncId} {x y : Array Operand} {d : Nat} (ho : o.op = .makeFunc (.func f) x y) (hod : o.dst = some d) (hy : ∀ z ∈ y.toList, RX A F z) (h : Ap E o A Kc = some r) : Loc E o A F Kc r := by
 unfold Ap at h
 rw [ho, hod] at h
 simp only at h
 split at h
 ·rename_i bs hx hbs
  refine ⟨_, h, fun A' hA R' K' => ?_⟩
  unfold Ap
  rw [ho, hod]
  simp only [hx, D5a hA hy, hbs]
 ·cases h
theorem L1a (hF : ∀ p ∈ rds A o, p ∈ F) (h : Ap E o A Kc = some r) : Loc E o A F Kc r := by
 have hD3 : ∀ d, o.dst = some d → d ∈ F ∧ H d ∈ F ∧ H (2000 + d) ∈ F := fun d hd => by
  unfold rds at hF
  rw [hd] at hF
  exact ⟨hF d (by simp [rdD]), hF (H d) (by simp [rdD]), hF (H (2000 + d)) (by simp [rdD])⟩
 have hD : ∀ d, o.dst = some d → d ∈ F ∧ H d ∈ F := fun d hd => ⟨(hD3 d hd).1, (hD3 d hd).2.1⟩
 have hO : ∀ p ∈ Poa A o.op, p ∈ F := fun p hp => hF p (by unfold rds; exact List.mem_append_right _ hp)
 have hX : Poa A o.op = M9a A (I1 o.op) → ∀ x ∈ I1 o.op, RX A F x := fun e => Ava (by rw [← e]; exact hO)
 cases ho : o.op with
 | call c =>
  have hOc : ∀ p ∈ M9a A (I1 (.call c)) ++ Nea A c.args.toList, p ∈ F := fun p hp => hO p (by rw [ho]; exact hp)
  have hx := Ava (fun p hp => hOc p (List.mem_append_left _ hp))
  have hvv := Hza (A := A) (F := F) (xs := c.args.toList) (fun p hp => hOc p (List.mem_append_right _ hp))
  have hxs : (∀ y, c.callee = .value y → RX A F y) ∧ ∀ x ∈ c.args.toList, RX A F x := by
   unfold I1 at hx
   simp only at hx
   split at hx
   ·rename_i y hy
    exact ⟨fun z hz => by rw [hy] at hz; cases hz; exact hx y (by simp), fun x hm => hx x (List.mem_cons_of_mem _ hm)⟩
   ·rename_i hno
    exact ⟨fun z hz => absurd hz (hno z), hx⟩
  have hcv := hxs.1
  replace hx := hxs.2
  cases hc : c.callee with
  | builtin b =>
   cases b with
   | len => exact Ofa ho hc hx h
   | min => exact Oga ho hc hx h
   | max => exact Oha ho hc hx h
   | append => exact Ewa ho hc hx h
   | _ => unfold Ap at h; rw [ho] at h; simp only [hc] at h; cases h
  | value f =>
   cases f with
   | func f => exact I0a ho hc (fun d hd => (hD d hd).2) hx hvv h
   | tmp t => exact I1a ho hc (fun d hd => (hD d hd).2) (hcv _ hc) hx hvv h
   | _ => unfold Ap at h; rw [ho] at h; simp only [hc] at h; cases h
  | invoke x m => unfold Ap at h; rw [ho] at h; simp only [hc] at h; cases h
 | store T x y =>
  have hx := hX (by rw [ho]; rfl)
  rw [ho] at hx
  cases hod : o.dst with
  | none => exact Hoa ho hod (hx x (by simp [I1])) (hx y (by simp [I1])) h
  | some d => unfold Ap at h; rw [ho, hod] at h; cases h
 | move x => cases hod : o.dst with
  | none => unfold Ap at h; rw [ho, hod] at h; cases h
  | some d =>
   refine Kwa ho hod (fun t e => ?_) h
   subst e
   exact hO t (by rw [ho]; simp [Poa, rdT])
 | assign x => cases hod : o.dst with
  | none => unfold Ap at h; rw [ho, hod] at h; cases h
  | some d =>
   have hx := hX (by rw [ho]; rfl)
   rw [ho] at hx
   exact Eva ho hod (hx x (by simp [I1])) h
 | pick c x y => cases hod : o.dst with
  | none => unfold Ap at h; rw [ho, hod] at h; cases h
  | some d =>
   have hx := hX (by rw [ho]; rfl)
   rw [ho] at hx
   exact Kxa ho hod (hx c (by simp [I1])) (hx x (by simp [I1])) (hx y (by simp [I1])) h
 | binOp op T x y T' => cases hod : o.dst with
  | none => unfold Ap at h; rw [ho, hod] at h; cases h
  | some d =>
   have hx := hX (by rw [ho]; rfl)
   rw [ho] at hx
   exact Hka ho hod (hx x (by simp [I1])) (hx y (by simp [I1])) h
 | unOp op T x => cases hod : o.dst with
  | none => unfold Ap at h; rw [ho, hod] at h; cases h
  | some d =>
   have hx := hX (by rw [ho]; rfl)
   rw [ho] at hx
   exact Kva ho hod (hx x (by simp [I1])) h
 | convert T T' x => cases hod : o.dst with
  | none => unfold Ap at h; rw [ho, hod] at h; cases h
  | some d =>
   have hx := hX (by rw [ho]; rfl)
   rw [ho] at hx
   exact Aya ho hod (hx x (by simp [I1])) h
 | nilCheck x => cases hod : o.dst with
  | none => unfold Ap at h; rw [ho, hod] at h; cases h
  | some d => exact Xn ho hod (Mla (fun p hp => hO p (by rw [ho]; exact hp))) h
 | extract x j => cases hod : o.dst with
  | none => unfold Ap at h; rw [ho, hod] at h; cases x <;> cases h
  | some d => cases x with
   | tmp t =>
    have hx := hX (by rw [ho]; rfl)
    rw [ho] at hx
    exact Aza ho hod (hx (.tmp t) (by simp [I1])).1 h
   | _ => unfold Ap at h; rw [ho, hod] at h; cases h
 | field T x j => cases hod : o.dst with
  | none => unfold Ap at h; rw [ho, hod] at h; cases x <;> cases h
  | some d => cases x with
   | tmp t =>
    have hx := hX (by rw [ho]; rfl)
    rw [ho] at hx
    exact Hla ho hod (hx (.tmp t) (by simp [I1])).1 h
   | _ => unfold Ap at h; rw [ho, hod] at h; cases h
 | build T ps => cases hod : o.dst with
  | none => unfold Ap at h; rw [ho, hod] at h; cases h
  | some d =>
   have hx := hX (by rw [ho]; rfl)
   rw [ho] at hx
   exact Hva ho hod (fun p hp => hx p.2 (List.mem_map_of_mem hp)) h
 | alloc T => cases hod : o.dst with
  | none => unfold Ap at h; rw [ho, hod] at h; cases h
  | some d => exact Hma ho hod (hD d hod).2 h
 | box T x => cases hod : o.dst with
  | none => unfold Ap at h; rw [ho, hod] at h; cases h
  | some d =>
   have hx := hX (by rw [ho]; rfl)
   rw [ho] at hx
   exact Oda ho hod (hD d hod).2 (hx x (by simp [I1])) h
 | load T x => cases hod : o.dst with
  | none => unfold Ap at h; rw [ho, hod] at h; cases h
  | some d =>
   have hx := hX (by rw [ho]; rfl)
   rw [ho] at hx
   exact Kya ho hod (hx x (by simp [I1])) h
 | fieldAddr T x j => cases hod : o.dst with
  | none => unfold Ap at h; rw [ho, hod] at h; cases h
  | some d => exact Um ho hod (Mla (fun p hp => hO p (by rw [ho]; exact hp))) h
 | indexAddr T x i => cases hod : o.dst with
  | none => unfold Ap at h; rw [ho, hod] at h; cases h
  | some d =>
   have hx := hX (by rw [ho]; rfl)
   rw [ho] at hx
   cases hop : E.opn d with
   | true => exact Un ho hod hop (hD3 d hod).2.2 (hx x (by simp [I1])) (hx i (by simp [I1])) h
   | false => exact Uo ho hod hop (hx x (by simp [I1])) (hx i (by simp [I1])) h
 | index T x i => cases hod : o.dst with
  | none => unfold Ap at h; rw [ho, hod] at h; cases h
  | some d =>
   have hx := hX (by rw [ho]; rfl)
   rw [ho] at hx
   exact Hqa ho hod (hx x (by simp [I1])) (hx i (by simp [I1])) h
 | slice T x lo hi mx => cases hod : o.dst with
  | none => unfold Ap at h; rw [ho, hod] at h; cases mx <;> cases h
  | some d => cases mx with
   | none =>
    have hx := hX (by rw [ho]; rfl)
    rw [ho] at hx
    exact Hra ho hod (hx x (by simp [I1])) (fun y hy => hx y (by simp [I1, hy])) (fun y hy => hx y (by simp [I1, hy])) h
   | some m => unfold Ap at h; rw [ho, hod] at h; cases h
 | buildSlice T n ps => cases hod : o.dst with
  | none => unfold Ap at h; rw [ho, hod] at h; cases h
  | some d =>
   have hx := hX (by rw [ho]; rfl)
   rw [ho] at hx
   exact Sj ho hod (fun p hp => hx p.2 (List.mem_map_of_mem hp)) h
 | makeSlice T x y => cases hod : o.dst with
  | none => unfold Ap at h; rw [ho, hod] at h; cases h
  | some d =>
   have hx := hX (by rw [ho]; rfl)
   rw [ho] at hx
   exact Uq ho hod (hx x (by simp [I1])) (hx y (by simp [I1])) h
 | makeFunc fn x y =>
  cases fn with
  | func f => cases hod : o.dst with
   | none => unfold Ap at h; rw [ho, hod] at h; cases h
   | some d =>
    have hx := hX (by rw [ho]; rfl)
    rw [ho] at hx
    exact Xr ho hod (fun z hz => hx z (by simp only [I1]; exact List.mem_append_right _ hz)) h
  | _ => unfold Ap at h; rw [ho] at h; cases hod : o.dst <;> (rw [hod] at h; cases h)
 | _ => unfold Ap at h; rw [ho] at h; cases hod : o.dst <;> (rw [hod] at h; cases h)
end
end Go.Proofs.YtgocagaijgcnmaaGreat.Vf
end

section
set_option linter.unusedVariables false
set_option linter.unusedSimpArgs false
namespace Go.Proofs.YtgocagaijgcnmaaGreat.Vf
open Go
attribute [local irreducible] C H
abbrev Gs := Nat → Nat × Sv
def gup (g : Gs) (u : Up) : Gs := fun p => if p = u.l then ((bif u.keep then (g u.l).1 else (g u.l).1 + 1), u.s) else g p
def B3a (g : Gs) : List Up → Gs
 | [] => g
 | u :: U => B3a (gup g u) U
theorem Mu : ∀ (U : List Up) (A : Ab), get (ups A U) = B3a (get A) U
 | [], _ => rfl
 | u :: U, A => by
  show get (ups (up A u) U) = B3a (gup (get A) u) U
  rw [Mu U (up A u)]
  congr 1
  funext p
  exact Rb A u p
theorem O9 : ∀ (U : List Up) (g : Gs) (p : Nat), p ∉ U.map Up.l → B3a g U p = g p
 | [], _, _, _ => rfl
 | u :: U, g, p, h => by
  simp only [List.map_cons, List.mem_cons, not_or] at h
  show B3a (gup g u) U p = g p
  rw [O9 U _ p h.2]
  exact if_neg h.1
theorem Oa : ∀ (U : List Up) (g g' : Gs) (p : Nat), g p = g' p → B3a g U p = B3a g' U p
 | [], _, _, _, h => h
 | u :: U, g, g', p, h => by
  refine Oa U (gup g u) (gup g' u) p ?_
  unfold gup
  by_cases e : p = u.l
  ·subst e; rw [if_pos rfl, if_pos rfl, h]
  ·rw [if_neg e, if_neg e, h]
structure Ak where
 N : Gs → Prop
 e : Gs → Gs
def Ind (x y : Ak) : Prop := (∀ g, x.N g → y.N (x.e g) → y.N g) ∧ (∀ g, y.N g → x.N g → x.N (y.e g)) ∧ (∀ g, x.N g → y.N g → x.e (y.e g) = y.e (x.e g))
def Mna : List Ak → Gs → Gs → Prop
 | [], g, f => g = f
 | x :: L, g, f => x.N g ∧ Mna L (x.e g) f
theorem Mna.front {y : Ak} {L2 : List Ak} : ∀ {L1 : List Ak} {g f : Gs}, (∀ x ∈ L1, Ind x y) → Mna (L1 ++ y :: L2) g f → y.N g ∧ Mna (L1 ++ L2) (y.e g) f
 | [], g, f, _, h => h
 | x :: L1, g, f, hi, h => by
  obtain ⟨h1, h2⟩ := h
  obtain ⟨h3, h4⟩ := Mna.front (fun z hz => hi z (List.mem_cons_of_mem _ hz)) h2
  obtain ⟨i1, i2, i3⟩ := hi x (by simp)
  have hy := i1 g h1 h3
  exact ⟨hy, i2 g hy h1, by rw [i3 g h1 hy]; exact h4⟩
inductive Anc (ops : Array Oper) : Nat → Nat → Prop
 | dir {i j : Nat} {o : Oper} (h : ops[i]? = some o) (hj : j ∈ aft o) : Anc ops j i
 | tr {i j k : Nat} {o : Oper} (h : ops[i]? = some o) (hk : k ∈ aft o) (ha : Anc ops j k) : Anc ops j i
theorem I2a {o : Oper} {j : Nat} : j ∈ aft o ↔ ∃ e ∈ o.after, Region.binds .any e = true ∧ e.on = j := by
 unfold aft
 rw [List.mem_filterMap]
 constructor
 ·rintro ⟨e, he, h⟩
  cases hb : Region.binds .any e with
  | false => rw [hb] at h; simp at h
  | true =>
   rw [hb] at h
   simp only [cond_true, Option.some.injEq] at h
   exact ⟨e, by simpa using he, hb, h⟩
 ·rintro ⟨e, he, hb, h⟩
  exact ⟨e, by simpa using he, by rw [hb]; simp [h]⟩
section
variable {X : Cx} {E : En} {ops : Array Oper} {Q : Exit → Act → World → Prop}
def Pga (X : Cx) (ops : Array Oper) (Q : Exit → Act → World → Prop) (i : Nat) (x : Ak) : Prop :=
 ∀ (S : Sit) (a : Act) (A : Ab), Aw X S a → S.g = get A → x.N (get A) → ∀ K : Act → World → Prop, (∀ S' a' A', Aw X S' a' → S'.g = get A' → get A' = x.e (get A) → K a' S'.w) → wpOp X.P ops Q i K a S.w
theorem Eza {listed : Array Bool} (hd : ∀ i o, ops[i]? = some o → listed.getD i false = true → ∀ j ∈ aft o, listed.getD j false = true) {i j : Nat} (h : Anc ops j i) : listed.getD i false = true → listed.getD j false = true := by
 induction h with
 | dir h hj => exact fun hi => hd _ _ h hi _ hj
 | tr h hk _ ih => exact fun hi => ih (hd _ _ h hi _ hk)
theorem B4a {listed : Array Bool} {i : Nat} (hi : i < listed.size) : listed.getD i true = listed.getD i false := by
 simp [Array.getD_eq_getD_getElem?, hi]
theorem Moa (hlt : ∀ i o, ops[i]? = some o → ∀ j ∈ aft o, j < i) {f : Gs} (hQ : ∀ S a A, Aw X S a → S.g = get A → get A = f → Q .normal a S.w) :
  ∀ (fuel : Nat) (L : List (Nat × Ak)) (listed : Array Bool) (S : Sit) (a : Act) (A : Ab), L.length = fuel → listed.size = ops.size → L.Pairwise (fun x y => x.1 < y.1) → (∀ i, i < ops.size → (listed.getD i false = false ↔ ∃ x ∈ L, x.1 = i)) →
   L.Pairwise (fun x y => Anc ops x.1 y.1 ∨ Ind x.2 y.2) → (∀ x ∈ L, Pga X ops Q x.1 x.2) → (∀ x ∈ L, x.1 < ops.size) →
   (∀ i o, ops[i]? = some o → listed.getD i false = true → ∀ j ∈ aft o, listed.getD j false = true) →
   Aw X S a → S.g = get A → Mna (L.map Prod.snd) (get A) f → wpAny X.P .any ops Q fuel listed a S.w
 | 0, L, listed, S, a, A, hlen, hsz, hs, hl, hi, ho, hb, hd, K, hg, hr => by
  have : L = [] := List.eq_nil_of_length_eq_zero hlen
  subst this
  refine ⟨?_, hQ S a A K hg hr⟩
  rw [List.eq_nil_iff_forall_not_mem]
  intro i hm
  obtain ⟨h1, o, h2, _⟩ := mem_ready.1 hm
  have hlt2 : i < ops.size := (Array.getElem?_eq_some_iff.1 h2).1
  rw [B4a (by omega)] at h1
  obtain ⟨x, hx, _⟩ := (hl i hlt2).1 h1
  simp at hx
 | fuel + 1, L, listed, S, a, A, hlen, hsz, hs, hl, hi, ho, hb, hd, K, hg, hr => by
  cases L with
  | nil => simp at hlen
  | cons x0 L0 =>
   refine ⟨fun h0 => ?_, fun i hm => ?_⟩
   ·exfalso
    have hx0 := hb x0 (by simp)
    obtain ⟨o, h2⟩ : ∃ o, ops[x0.1]? = some o := ⟨_, Array.getElem?_eq_getElem hx0⟩
    have hu := (hl x0.1 hx0).2 ⟨x0, by simp, rfl⟩
    have : x0.1 ∈ Region.ready .any ops listed := by
     refine mem_ready.2 ⟨by rw [B4a (by omega)]; exact hu, o, h2, fun e he hbe => ?_⟩
     have hj := hlt _ _ h2 e.on (I2a.2 ⟨e, he, hbe, rfl⟩)
     cases hc : listed.getD e.on false with
     | true => rfl
     | false =>
      obtain ⟨y, hy, hye⟩ := (hl e.on (by omega)).1 hc
      rcases List.mem_cons.1 hy with rfl | hy
      ·omega
      ·have := (List.pairwise_cons.1 hs).1 y hy
       omega
    rw [h0] at this
    simp at this
   ·obtain ⟨h1, o, h2, h3⟩ := mem_ready.1 hm
    have hil : i < ops.size := (Array.getElem?_eq_some_iff.1 h2).1
    rw [B4a (by omega)] at h1
    obtain ⟨y, hy, hyi⟩ := (hl i hil).1 h1
    obtain ⟨L1, L2, hL⟩ := List.append_of_mem hy
    have haft : ∀ j ∈ aft o, listed.getD j false = true := fun j hj => by
     obtain ⟨e, he, hbe, rfl⟩ := I2a.1 hj
     exact h3 e he hbe
    have hanc : ∀ j, Anc ops j i → listed.getD j false = true := by
     intro j hj
     cases hj with
     | dir h hj => rw [h2] at h; cases h; exact haft _ hj
     | tr h hk ha => rw [h2] at h; cases h; exact Eza hd ha (haft _ hk)
    rw [hL] at hs hl hi ho hb hr hlen
    rw [List.pairwise_append] at hs hi
    obtain ⟨s1, s2, s3⟩ := hs
    obtain ⟨i1, i2, i3⟩ := hi
    rw [List.pairwise_cons] at s2 i2
    have hind : ∀ x ∈ L1, Ind x.2 y.2 := by
     intro x hx
     rcases i3 x hx y (by simp) with h | h
     ·exfalso
      have h4 := hanc x.1 (by rw [← hyi]; exact h)
      have h5 := (hl x.1 (hb x (by simp [hx]))).2 ⟨x, by simp [hx], rfl⟩
      rw [h4] at h5
      cases h5
     ·exact h
    rw [List.map_append, List.map_cons] at hr
    obtain ⟨hN, hr2⟩ := Mna.front (fun z hz => by obtain ⟨x, hx, rfl⟩ := List.mem_map.1 hz; exact hind x hx) hr
    rw [← List.map_append] at hr2
    subst hyi
    refine ho y (by simp) S a A K hg hN _ (fun S' a' A' K' g' e' => ?_)
    refine Moa hlt hQ fuel (L1 ++ L2) (listed.setIfInBounds y.1 true) S' a' A' (by simp at hlen ⊢; omega) (by simpa using hsz) ?_ ?_ ?_ (fun x hx => ho x (by rcases List.mem_append.1 hx with h | h <;> simp [h])) (fun x hx => hb x (by rcases List.mem_append.1 hx with h | h <;> simp [h])) ?_ K' g' (by rw [e']; exact hr2)
    ·exact List.pairwise_append.2 ⟨s1, s2.2, fun x hx z hz => s3 x hx z (List.mem_cons_of_mem _ hz)⟩
    ·intro k hk
     by_cases hky : k = y.1
     ·subst hky
      have e1 : (listed.setIfInBounds y.1 true).getD y.1 false = true := by simp [Array.getD_eq_getD_getElem?, hsz, hk]
      rw [e1]
      constructor
      ·intro h; cases h
      ·rintro ⟨x, hx, hxe⟩
       exfalso
       rcases List.mem_append.1 hx with h | h
       ·have := s3 x h y (by simp); omega
       ·have := s2.1 x h; omega
     ·rw [getD_set_ne false (Ne.symm hky), hl k hk]
      constructor
      ·rintro ⟨x, hx, hxe⟩
       refine ⟨x, ?_, hxe⟩
       rcases List.mem_append.1 hx with h | h
       ·exact List.mem_append_left _ h
       ·rcases List.mem_cons.1 h with rfl | h
        ·exact (hky hxe.symm).elim
        ·exact List.mem_append_right _ h
      ·rintro ⟨x, hx, hxe⟩
       exact ⟨x, by rcases List.mem_append.1 hx with h | h <;> simp [h], hxe⟩
    ·exact List.pairwise_append.2 ⟨i1, i2.2, fun x hx z hz => i3 x hx z (List.mem_cons_of_mem _ hz)⟩
    ·intro k o' hk hkl j hj
     by_cases hky : k = y.1
     ·subst hky
      rw [h2] at hk
      cases hk
      exact getD_set_true (haft j hj)
     ·rw [getD_set_ne false (Ne.symm hky)] at hkl
      exact getD_set_true (hd k o' hk hkl j hj)
end
end Go.Proofs.YtgocagaijgcnmaaGreat.Vf
end

section
set_option linter.unusedVariables false
set_option linter.unusedSimpArgs false
namespace Go.Proofs.YtgocagaijgcnmaaGreat.Vf
open Go
attribute [local irreducible] C H
theorem Ur {p : Nat} : ∀ {l : List Nat}, Pba p l = true ↔ p ∈ l
 | [] => by simp [Pba]
 | q :: l => by
  simp only [Pba, Bool.or_eq_true, List.mem_cons, Ur (l := l)]
  constructor
  ·rintro (h | h)
   ·exact .inl (Nat.eq_of_beq_eq_true h).symm
   ·exact .inr h
  ·rintro (rfl | h)
   ·exact .inl (by simp)
   ·exact .inr h
theorem Us {m : List Nat} : ∀ {l : List Nat}, Pca l m = true ↔ ∀ p ∈ l, p ∉ m
 | [] => by simp [Pca]
 | q :: l => by
  simp only [Pca, Bool.and_eq_true, Bool.not_eq_true', List.mem_cons, Us (l := l)]
  constructor
  ·rintro ⟨h1, h2⟩ p (rfl | h) hm
   ·rw [Ur.2 hm] at h1; cases h1
   ·exact h2 p h hm
  ·intro h
   refine ⟨?_, fun p hp => h p (.inr hp)⟩
   cases hc : Pba q m with
   | false => rfl
   | true => exact (h q (.inl rfl) (Ur.1 hc)).elim
def Oia (s : Sv) (j : Nat) : Sv := match s with
 | .tup vs => .tup (vs.set j (false, [.dead]))
 | s => s
structure Ext (x : Ak) (t j d : Nat) : Prop where
 N : ∃ ag l, ∀ g, x.N g ↔ ∃ vs, (g t).2 = .tup vs ∧ nth vs j = some (ag, l)
 e : d ≠ t → ∃ (w : Bool) (s : Sv), ∀ g p, x.e g p = if p = d then ((g p).1 + 1, s) else if w = true ∧ p = t then ((g p).1 + 1, Oia (g p).2 j) else g p
structure Ut (y : Lg) (x : Ak) : Prop where
 WF : ∀ p ∈ y.W, p ∈ y.F
 N : ∀ g g', (∀ p ∈ y.F, g p = g' p) → x.N g → x.N g'
 out : ∀ g p, p ∉ y.W → x.e g p = g p
 loc : ∀ g g' p, p ∈ y.W → g p = g' p → x.e g p = x.e g' p
 ex : ∀ t j d, y.ex = some (t, j, d) → Ext x t j d
theorem Ut.ind {y y' : Lg} {x x' : Ak} (h : Ut y x) (h' : Ut y' x') (hi : G1a y y' = true) : Ind x x' := by
 unfold G1a at hi
 simp only [Bool.or_eq_true, Bool.and_eq_true] at hi
 rcases hi with ⟨d1, d2⟩ | hi
 ·have d1 := Us.1 d1
  have d2 := Us.1 d2
  have o1 : ∀ g, ∀ p ∈ y'.F, x.e g p = g p := fun g p hp => h.out g p (fun hw => d1 p hw hp)
  have o2 : ∀ g, ∀ p ∈ y.F, x'.e g p = g p := fun g p hp => h'.out g p (fun hw => d2 p hw hp)
  refine ⟨fun g _ hn => h'.N _ _ (o1 g) hn, fun g _ hn => h.N _ _ (fun p hp => (o2 g p hp).symm) hn, fun g _ _ => ?_⟩
  funext p
  by_cases hp : p ∈ y.W
  ·have hp' : p ∉ y'.W := fun hw => d2 p hw (h.WF p hp)
   rw [h'.out (x.e g) p hp', h.loc (x'.e g) g p hp (o2 g p (h.WF p hp))]
  ·rw [h.out (x'.e g) p hp]
   by_cases hp' : p ∈ y'.W
   ·exact h'.loc g (x.e g) p hp' (o1 g p (h'.WF p hp')).symm
   ·rw [h'.out _ p hp', h'.out _ p hp', h.out _ p hp]
 ·split at hi
  ·rename_i t j d t' j' d' e1 e2
   simp only [Bool.and_eq_true, Bool.not_eq_true'] at hi
   obtain ⟨⟨⟨⟨q1, q2⟩, q3⟩, q4⟩, q5⟩ := hi
   have ht : t = t' := Nat.eq_of_beq_eq_true q1
   subst ht
   have hj : j ≠ j' := fun e => by subst e; simp at q2
   have hd : d ≠ d' := fun e => by subst e; simp at q3
   have hdt : d ≠ t := fun e => by subst e; simp at q4
   have hdt' : d' ≠ t := fun e => by subst e; simp at q5
   obtain ⟨⟨ag, l, hN⟩, he⟩ := h.ex t j d e1
   obtain ⟨⟨ag', l', hN'⟩, he'⟩ := h'.ex t j' d' e2
   obtain ⟨w, s, he⟩ := he hdt
   obtain ⟨w', s', he'⟩ := he' hdt'
   have et : ∀ g, (x.e g t).2 = if w = true then Oia (g t).2 j else (g t).2 := fun g => by
    rw [he, if_neg (Ne.symm hdt)]
    cases w <;> simp
   have et' : ∀ g, (x'.e g t).2 = if w' = true then Oia (g t).2 j' else (g t).2 := fun g => by
    rw [he', if_neg (Ne.symm hdt')]
    cases w' <;> simp
   refine ⟨fun g hn hn' => ?_, fun g hn' hn => ?_, fun g hn hn' => ?_⟩
   ·obtain ⟨vs, g1, g2⟩ := (hN g).1 hn
    obtain ⟨vs', g1', g2'⟩ := (hN' _).1 hn'
    refine (hN' g).2 ⟨vs, g1, ?_⟩
    rw [et, g1] at g1'
    cases w with
    | false =>
     simp only [Bool.false_eq_true, if_false, Sv.tup.injEq] at g1'
     rw [g1']; exact g2'
    | true =>
     simp only [if_true, Oia, Sv.tup.injEq] at g1'
     rw [← g1', H6, List.getElem?_set_ne hj] at g2'
     rw [H6]; exact g2'
   ·obtain ⟨vs, g1, g2⟩ := (hN g).1 hn
    refine (hN _).2 ?_
    cases w' with
    | false => exact ⟨vs, by rw [et', g1]; simp, g2⟩
    | true =>
     refine ⟨vs.set j' (false, [.dead]), by rw [et', g1]; simp [Oia], ?_⟩
     rw [H6, List.getElem?_set_ne (Ne.symm hj), ← H6]
     exact g2
   ·funext p
    by_cases p1 : p = d
    ·subst p1
     simp [he, he', hd, hdt]
    ·by_cases p2 : p = d'
     ·subst p2
      simp [he, he', p1, hdt']
     ·by_cases p3 : p = t
      ·subst p3
       obtain ⟨vs, g1, g2⟩ := (hN g).1 hn
       cases w <;> cases w' <;> simp [he, he', p1, p2, g1, Oia]
       exact List.set_comm _ _ (Ne.symm hj)
      ·simp [he, he', p1, p2, p3]
  ·cases hi
theorem D7a {ops : Array Oper} : ∀ {lg : List Lg}, (∀ y ∈ lg, ∀ k, Nat.testBit y.anc k = true → Anc ops k y.i) → ∀ j k, Nat.testBit (G2a lg j) k = true → Anc ops k j
 | [], _, j, k, h => by simp [G2a] at h
 | y :: lg, hl, j, k, h => by
  unfold G2a at h
  cases hb : Nat.beq y.i j with
  | true =>
   rw [hb, cond_true] at h
   rw [← Nat.eq_of_beq_eq_true hb]
   exact hl y (by simp) k h
  | false =>
   rw [hb, cond_false] at h
   exact D7a (fun z hz => hl z (List.mem_cons_of_mem _ hz)) j k h
theorem I3a {ops : Array Oper} {lg : List Lg} (hl : ∀ y ∈ lg, ∀ k, Nat.testBit y.anc k = true → Anc ops k y.i) {i : Nat} {o : Oper} (ho : ops[i]? = some o) : ∀ {l : List Nat}, (∀ j ∈ l, j ∈ aft o) → ∀ k, Nat.testBit (Maa lg l) k = true → Anc ops k i
 | [], _, k, h => by simp [Maa] at h
 | j :: l, hj, k, h => by
  unfold Maa at h
  simp only [Nat.testBit_or, Bool.or_eq_true] at h
  rcases h with (h | h) | h
  ·rw [Nat.testBit_two_pow] at h
   simp only [decide_eq_true_eq] at h
   subst h
   exact .dir ho (hj _ (by simp))
  ·exact .tr ho (hj j (by simp)) (D7a hl j k h)
  ·exact I3a hl ho (fun m hm => hj m (List.mem_cons_of_mem _ hm)) k h
section
variable {X : Cx} {E : En} {ops : Array Oper} {Q : Exit → Act → World → Prop}
theorem D8a {S : Sit} {a : Act} (hE : I8 X E) (hK : Aw X S a) {o : Oper} {j dj : Nat} {want : Bool} (hgd : o.guard = some (j, want)) (hdj : G0a ops.toList j = some dj) (hb : Nat.blt dj E.nt = true) :
  (∀ b, (S.g dj).2 = .one (.sc (.bool b)) → Region.wanted o (yielded ops a.tmps) = (b == want)) ∧ ((S.g dj).2 = .one .un → Region.wanted o (yielded ops a.tmps) = false) := by
 have hdj' : (ops[j]?).bind (·.dst) = some dj := by
  unfold G0a at hdj
  rw [H6] at hdj
  have : ops.toList[j]? = ops[j]? := by simp
  rw [this] at hdj
  cases hj : ops[j]? with
  | none => rw [hj] at hdj; cases hdj
  | some oj => rw [hj] at hdj; simpa using hdj
 have hjl : dj < X.nt := hE.nt ▸ (Nat.le_of_ble_eq_true hb : dj + 1 ≤ E.nt)
 have htm : a.tmps[dj]? = some (S.ph dj) := by
  have h1 := hK.sl dj hjl
  have h2 : dj < a.tmps.size := by rw [hK.sz]; exact hjl
  rw [← h1, Array.getD_eq_getD_getElem?, Array.getElem?_eq_getElem h2]
  rfl
 have hy : yielded ops a.tmps j = (match S.ph dj with | .bool b => some b | _ => none) := by
  unfold yielded
  rw [hdj', Option.bind_some, htm]
  cases S.ph dj <;> rfl
 have hwd : Region.wanted o (yielded ops a.tmps) = ((match S.ph dj with | .bool b => some b | _ => none) == some want) := by
  unfold Region.wanted
  rw [hgd]
  simp only
  rw [hy]
 have hat := hK.at_ dj
 constructor
 ·intro b hs
  rw [hs] at hat
  have hph : S.ph dj = .bool b := hat.1
  rw [hwd, hph]
  cases b <;> cases want <;> rfl
 ·intro hs
  rw [hs] at hat
  have hph : S.ph dj = undef := hat
  rw [hwd, hph]
  simp [undef]
def Roa (F : List Nat) (A : Ab) (U : List Up) : Ak := ⟨fun g => ∀ p ∈ F, g p = get A p, fun g => B3a g U⟩
theorem I4a {y : Lg} {A : Ab} {U : List Up} {F : List Nat} (hF : y.F = F ++ U.map Up.l) (hW : y.W = U.map Up.l) (hex : y.ex = none) : Ut y (Roa y.F A U) := by
 refine ⟨fun p hp => ?_, fun g g' h hn p hp => by rw [← h p hp]; exact hn p hp, fun g p hp => O9 U g p (by rw [← hW]; exact hp), fun g g' p _ h => Oa U g g' p h, fun t j d h => by rw [hex] at h; cases h⟩
 rw [hF, List.mem_append]
 exact .inr (by rw [← hW]; exact hp)
theorem Qka (hV : R8 X E) {i : Nat} {o : Oper} (hi : ops[i]? = some o) (hd : Sg E o = true) {x : Ak} (hw : ∀ S a, Aw X S a → x.N S.g → Region.wanted o (yielded ops a.tmps) = true)
  (hU : ∀ A', x.N (get A') → ∃ U, Ap E o A' some = some U ∧ B3a (get A') U = x.e (get A')) : Pga X ops Q i x := by
 intro S a A' K hg hn Kn hk
 have hdl : ∀ d, o.dst = some d → d < X.nt := fun d hod => by
  unfold Sg at hd
  rw [hod] at hd
  exact hV.en.nt ▸ (Nat.le_of_ble_eq_true hd : d + 1 ≤ E.nt)
 obtain ⟨U, hU1, hU2⟩ := hU A' hn
 obtain ⟨U', hU', hgo⟩ := H5a hV K hg hdl hU1
 simp only [Option.some.injEq] at hU'
 subst hU'
 unfold wpOp
 rw [hi]
 simp only
 rw [if_pos (hw S a K (by rw [hg]; exact hn))]
 exact .inl (hgo _ _ (fun S' a' K' g' => hk S' a' _ K' g' ((Mu U' A').trans hU2)))
theorem Oja (hV : R8 X E) {i : Nat} {o : Oper} (hi : ops[i]? = some o) (hd : Sg E o = true) {N : Gs → Prop} (hw : ∀ S a, Aw X S a → N S.g → Region.wanted o (yielded ops a.tmps) = false) :
  Pga X ops Q i ⟨N, fun g => B3a g (match o.dst with | some d => [⟨d, false, .one .un⟩] | none => [])⟩ := by
 intro S a A' K hg hn Kn hk
 unfold wpOp
 rw [hi]
 simp only
 rw [if_neg (by rw [hw S a K (by rw [hg]; exact hn)]; decide)]
 obtain ⟨S', K', g', w'⟩ := Mia hV.en K hg hd
 rw [← w']
 refine hk S' _ _ K' g' ?_
 unfold Nr
 cases o.dst with
 | none => rfl
 | some d => exact Mu [⟨d, false, .one .un⟩] A'
def D9a (t j d : Nat) (l : List Lf) (s : Sv) (vs : List (Bool × List Lf)) : List Up := bif Eh l then [⟨t, false, .tup (vs.set j (false, [.dead]))⟩, ⟨d, false, s⟩] else [⟨d, false, s⟩]
theorem L2a {R : Type} {Kc : List Up → Option R} {r : R} {A : Ab} {o : Oper} {t j d : Nat} (ho : o.op = .extract (.tmp t) j) (hod : o.dst = some d) (h : Ap E o A Kc = some r) :
  ∃ vs ag l s, (get A t).2 = .tup vs ∧ nth vs j = some (ag, l) ∧ Kc (D9a t j d l s vs) = some r ∧ ∀ A' vs', (get A' t).2 = .tup vs' → nth vs' j = some (ag, l) → Ap E o A' some = some (D9a t j d l s vs') := by
 unfold Ap at h
 rw [ho, hod] at h
 simp only at h
 cases hb : Nat.blt t E.nt with
 | false => rw [hb] at h; simp at h
 | true =>
  rw [hb, cond_true] at h
  split at h
  ·rename_i vs hg
   split at h
   ·rename_i ag l hn
    split at h
    ·rename_i s hs
     refine ⟨vs, ag, l, s, hg, hn, ?_, fun A' vs' hg' hn' => ?_⟩
     ·rw [← h]
      unfold D9a
      cases Eh l <;> rfl
     ·unfold Ap
      rw [ho, hod]
      simp only [hb, cond_true, hg', hn', hs]
      unfold D9a
      cases Eh l <;> rfl
    ·cases h
   ·cases h
  ·cases h
def B5a (t j d : Nat) (ag : Bool) (l : List Lf) (s : Sv) : Ak :=
 ⟨fun g => ∃ vs, (g t).2 = .tup vs ∧ nth vs j = some (ag, l), fun g => B3a g (bif Eh l then [⟨t, false, Oia (g t).2 j⟩, ⟨d, false, s⟩] else [⟨d, false, s⟩])⟩
theorem L3a {o : Oper} {i : Nat} {lg : List Lg} {A : Ab} {t j d : Nat} {ag : Bool} {l : List Lf} {s : Sv} {vs : List (Bool × List Lf)} (ho : o.op = .extract (.tmp t) j) (hod : o.dst = some d) :
  Ut (Ss o i lg [] A (D9a t j d l s vs)) (B5a t j d ag l s) := by
 have ht : t ∈ (Ss o i lg [] A (D9a t j d l s vs)).F := by
  show t ∈ [] ++ rds A o ++ _
  simp [rds, Poa, ho, I1, M9a, rdO]
 have hW : (Ss o i lg [] A (D9a t j d l s vs)).W = bif Eh l then [t, d] else [d] := by
  show (D9a t j d l s vs).map Up.l = _
  unfold D9a
  cases Eh l <;> rfl
 refine ⟨fun p hp => List.mem_append_right _ hp, fun g g' hF hn => ?_, fun g p hp => ?_, fun g g' p hp h => ?_, fun t' j' d' h => ?_⟩
 ·obtain ⟨vs', h1, h2⟩ := hn
  exact ⟨vs', by rw [← hF t ht]; exact h1, h2⟩
 ·rw [hW] at hp
  unfold B5a
  cases hl : Eh l with
  | true =>
   rw [hl] at hp
   exact O9 _ _ _ hp
  | false =>
   rw [hl] at hp
   exact O9 _ _ _ hp
 ·rw [hW] at hp
  unfold B5a
  cases hl : Eh l with
  | false => exact Oa _ _ _ p h
  | true =>
   rw [hl] at hp
   simp only [cond_true]
   show gup (gup g _) _ p = gup (gup g' _) _ p
   unfold gup
   by_cases e1 : p = d
   ·subst e1
    by_cases e2 : p = t
    ·subst e2; simp [h]
    ·simp [e2, h]
   ·rcases List.mem_cons.1 hp with e2 | e2
    ·subst e2; simp [e1, h]
    ·exact (e1 (by simpa using e2)).elim
 ·have hex : (Ss o i lg [] A (D9a t j d l s vs)).ex = some (t, j, d) := by
   show (bif List.isEmpty ([] : List Nat) then Ppa o else none) = _
   simp [Ppa, ho, hod]
  rw [hex] at h
  cases h
  refine ⟨⟨ag, l, fun g => Iff.rfl⟩, fun hdt => ⟨Eh l, s, fun g p => ?_⟩⟩
  unfold B5a
  cases hl : Eh l with
  | false =>
   show gup g _ p = _
   unfold gup
   by_cases e1 : p = d
   ·subst e1; simp
   ·simp [e1]
  | true =>
   simp only [cond_true]
   show gup (gup g _) _ p = _
   unfold gup
   by_cases e1 : p = d
   ·subst e1; simp [hdt]
   ·simp [e1]
    by_cases e2 : p = t
    ·subst e2; simp
    ·simp [e2]
end
end Go.Proofs.YtgocagaijgcnmaaGreat.Vf
end
