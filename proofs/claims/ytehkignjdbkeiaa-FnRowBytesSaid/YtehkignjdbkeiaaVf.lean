/- Operations on numbers and texts; a temporary's content handed on. -/
import Derived.Test.YtehkignjdbkeiaaVe
namespace Go.Proofs.Ytehkignjdbkeiaa.Vf
open Go

section
variable {X : Cx} {S : Sit} {a : Act} {E : En} {A : Ab} {o : Oper} {R : Type} {Kc : List Up → Option R} {r : R}

theorem goes_pair {A' A'' : Ab} {w : World} (h : get A' = get A'') (hg : Goes X o a w A') : Goes X o a w A'' := by
  intro next Q hn
  exact hg next Q (fun S' a' K e => hn S' a' K (e.trans h))

theorem eqGuard_int (op : BinOp) (T : TypeId) (x y : Operand) (k k' : IntKind) (p q : Int) (P : Program) (w : World) : (eqGuard op T x y (.int k p) (.int k' q)).run P w = .ok () w := by
  cases op <;> simp [eqGuard]
theorem eqGuard_str (op : BinOp) (T : TypeId) (x y : Operand) (p q : ByteArray) (P : Program) (w : World) : (eqGuard op T x y (.string p) (.string q)).run P w = .ok () w := by
  cases op <;> simp [eqGuard]
theorem eqGuard_bool (op : BinOp) (T : TypeId) (x y : Operand) (p q : Bool) (P : Program) (w : World) : (eqGuard op T x y (.bool p) (.bool q)).run P w = .ok () w := by
  cases op <;> simp [eqGuard]

theorem run_binOp {op : BinOp} {T T' : TypeId} {x y : Operand} {v1 v2 v : Value} {P : Program} {w : World} (ho : o.op = .binOp op T x y T') (e1 : a.eval x = v1) (e2 : a.eval y = v2)
    (hq : (eqGuard op T x y v1 v2).run P w = .ok () w) (hv : (binOp op T v1 v2).run P w = .ok v w) : (execOp a.eval o).run P w = .ok (.value v) w := by
  unfold execOp
  simp only [ho, e1, e2, Sem.run_bind, hq, Result.andThen_ok, hv, Sem.run_pure]

theorem desc_bool {P : Program} {T : TypeId} {by_ : Nat} {fo : List (Nat × Nat × Bool)} (h : TOk P T ⟨.b, false, by_, fo⟩) : P.underlying T = some .bool := by
  have := h.desc
  unfold descB at this
  split at this <;> simp_all

theorem allSc_rep {G : Nat → Prop} {w : World} : ∀ {l : List Lf} {f : Nat → Lab} {j : Nat} {us : List Value}, allSc l = true → LfsOk X.P S f j l us → All2 (LfRep X.P G w) l us
  | [], _, _, [], _, _ => .nil
  | [], _, _, _ :: _, _, h => h.elim
  | _ :: _, _, _, [], _, h => h.elim
  | y :: ys, f, j, u :: us, h, hl => by
    cases y <;> first | (simp [allSc] at h; done) | exact .cons hl.1 (allSc_rep (by simpa [allSc] using h) hl.2)

theorem run_equalIn_bool {P : Program} {T : TypeId} (h : P.underlying T = some .bool) (d : Nat) (p q : Bool) (w : World) : (Op.equalIn (d + 1) T (.bool p) (.bool q)).run P w = .ok (p == q) w := by
  simp [Op.equalIn, underlying, h]
theorem run_eql_bool {P : Program} {T : TypeId} (h : P.underlying T = some .bool) (p q : Bool) (w : World) : (binOp .eql T (.bool p) (.bool q)).run P w = .ok (.bool (p == q)) w := by
  have := run_equalIn_bool h 9999 p q w
  unfold binOp
  rw [Sem.run_bind]
  show ((Op.equalIn (9999 + 1) T (.bool p) (.bool q)).run P w).andThen _ = _
  rw [this]
  rfl
theorem run_neq_bool {P : Program} {T : TypeId} (h : P.underlying T = some .bool) (p q : Bool) (w : World) : (binOp .neq T (.bool p) (.bool q)).run P w = .ok (.bool (!(p == q))) w := by
  have := run_equalIn_bool h 9999 p q w
  unfold binOp
  rw [Sem.run_bind]
  show ((Op.equalIn (9999 + 1) T (.bool p) (.bool q)).run P w).andThen _ = _
  rw [this]
  rfl

theorem bop_ok (hE : EnOk X E) {op : BinOp} {T T' : TypeId} {x y : Operand} {s s' : Sv} {r : R} {Kv : Value → Option R} (h : bop op (E.ti T) (E.eq T) s s' Kv = some r)
    (hx : ∃ l', SvOk X.P S l' s (a.eval x)) (hy : ∃ l', SvOk X.P S l' s' (a.eval y)) (ho : o.op = .binOp op T x y T') :
    ∃ v, Kv v = some r ∧ isSc v = true ∧ (execOp a.eval o).run X.P S.w = .ok (.value v) S.w := by
  obtain ⟨lx, hx⟩ := hx
  obtain ⟨ly, hy⟩ := hy
  unfold bop at h
  split at h
  · rename_i k p k' q
    have e1 : a.eval x = .int k p := hx.1
    have e2 : a.eval y = .int k' q := hy.1
    have go : ∀ v, (binOp op T (.int k p) (.int k' q)).run X.P S.w = .ok v S.w → (execOp a.eval o).run X.P S.w = .ok (.value v) S.w := fun v hv => run_binOp ho e1 e2 (eqGuard_int ..) hv
    split at h
    · by_cases hq : q < 0
      · simp [hq] at h
      · simp [hq] at h
        exact ⟨_, h, rfl, go _ (by simp [binOp, Op.shift, hq])⟩
    · by_cases hq : q < 0
      · simp [hq] at h
      · simp [hq] at h
        exact ⟨_, h, rfl, go _ (by simp [binOp, Op.shift, hq])⟩
    · rename_i n1 n2
      by_cases hk : k = k'
      · subst hk
        simp at h
        obtain ⟨v, h1, h2, h3⟩ := bopInt_ok (T := T) h ⟨n1, n2⟩ X.P S.w
        exact ⟨v, h1, h2, go _ h3⟩
      · simp [hk] at h
  · rename_i p q
    have e1 : a.eval x = .string p := hx.1
    have e2 : a.eval y = .string q := hy.1
    have go : ∀ v, (binOp op T (.string p) (.string q)).run X.P S.w = .ok v S.w → (execOp a.eval o).run X.P S.w = .ok (.value v) S.w := fun v hv => run_binOp ho e1 e2 (eqGuard_str ..) hv
    unfold bopStr at h
    split at h
    case h_1 =>
      cases hb : Nat.ble (p.size + q.size) 9223372036854775807 with
      | false => simp [hb] at h
      | true =>
        simp only [hb, cond_true] at h
        refine ⟨_, h, rfl, go _ ?_⟩
        have hb' := Nat.le_of_ble_eq_true hb
        have hb2 : ¬ (((p.size + q.size : Nat) : Int) > IntKind.i64.max) := by
          have : IntKind.i64.max = 9223372036854775807 := by decide
          omega
        simp only [binOp, Op.stringOp, if_neg hb2, Sem.run_pure]
    all_goals first | (cases h; done) | exact ⟨_, h, rfl, go _ (by simp [binOp, Op.stringOp])⟩
  · rename_i p q
    have e1 : a.eval x = .bool p := hx.1
    have e2 : a.eval y = .bool q := hy.1
    have go : ∀ v, (binOp op T (.bool p) (.bool q)).run X.P S.w = .ok v S.w → (execOp a.eval o).run X.P S.w = .ok (.value v) S.w := fun v hv => run_binOp ho e1 e2 (eqGuard_bool ..) hv
    split at h
    · rename_i hT
      have hu := desc_bool (hE.ti _ _ hT)
      exact ⟨_, h, rfl, go _ (run_eql_bool hu ..)⟩
    · rename_i hT
      have hu := desc_bool (hE.ti _ _ hT)
      exact ⟨_, h, rfl, go _ (run_neq_bool hu ..)⟩
    · cases h
  · rename_i l l'
    cases hq : (E.eq T && allSc l && allSc l' && (kindsOk (E.ti T) l && kindsOk (E.ti T) l')) with
    | false => simp [hq] at h
    | true =>
      simp only [hq, cond_true] at h
      simp only [Bool.and_eq_true] at hq
      obtain ⟨⟨⟨he, ha⟩, ha'⟩, hk, hk'⟩ := hq
      obtain ⟨us, e1, h1⟩ := hx
      obtain ⟨vs, e2, h2⟩ := hy
      split at h
      · split at h
        · rename_i b hb
          obtain ⟨h3, h4, h5⟩ := hE.eq T he (fun _ => True) S.w S.w x y l l' us vs b (allSc_rep ha h1) (allSc_rep ha' h2) hb ha ha' hk hk'
          exact ⟨_, h, rfl, run_binOp ho e1 e2 h4 (by unfold binOp; rw [Sem.run_bind, h3]; rfl)⟩
        · cases h
      · split at h
        · rename_i b hb
          obtain ⟨h3, h4, h5⟩ := hE.eq T he (fun _ => True) S.w S.w x y l l' us vs b (allSc_rep ha h1) (allSc_rep ha' h2) hb ha ha' hk hk'
          exact ⟨_, h, rfl, run_binOp ho e1 e2 h5 (by unfold binOp; rw [Sem.run_bind, h3]; rfl)⟩
        · cases h
      · cases h
  · cases h
end
end Go.Proofs.Ytehkignjdbkeiaa.Vf
