/- What is forgotten at a loop's head; code. -/
import Derived.Test.YtehkignjdbkeiaaWa
set_option linter.unusedVariables false
set_option linter.unusedSimpArgs false
namespace Go.Proofs.Ytehkignjdbkeiaa.Vf
open Go
attribute [local irreducible] C H

section
variable {X : Cx} {S S1 S2 : Sit} {a : Act} {E : En} {A : Ab} {o : Oper} {R : Type} {Kc : List Up → Option R} {r : R}

/-- A list of entries: what holds of each holds of what is found. -/
theorem get_all {Q : Nat → Nat × Sv → Prop} (h0 : ∀ l, Q l (0, .one .dead)) : ∀ (B : Ab), (∀ e ∈ B, Q e.1 e.2) → ∀ l, Q l (get B l)
  | [], _, l => h0 l
  | (k, n, s) :: B, h, l => by
    simp only [get]
    cases hb : Nat.beq k l with
    | true =>
      have : k = l := Nat.eq_of_beq_eq_true hb
      subst this
      exact h (k, n, s) (by simp)
    | false => exact get_all h0 B (fun e he => h e (List.mem_cons_of_mem _ he)) l

theorem absVs_mem : ∀ (vs : List (Nat × Ty)) (all : List (Nat × Ty)) (x : Den (vs.map Prod.snd)), absVs A all vs = some x →
    ∀ e ∈ concVs vs x, ∃ t, ∃ z : t.den, ∃ y, (e.1, t) ∈ vs ∧ absV A all e.1 t = some z ∧ leaves t z = [y] ∧ e.2 = (0, .one y)
  | [], _, _, _ => by simp [concVs]
  | [v], all, x, h => by
    intro e he
    simp only [concVs] at he
    split at he
    · rename_i y hy
      simp at he
      subst he
      exact ⟨v.2, x, y, by simp, h, hy, rfl⟩
    · simp at he
  | v :: w :: l, all, x, h => by
    simp only [absVs] at h
    split at h
    · rename_i x1 hx1
      split at h
      · rename_i x2 hx2
        cases h
        intro e he
        simp only [concVs] at he
        rcases List.mem_append.1 he with he | he
        · split at he
          · rename_i y hy
            simp at he
            subst he
            exact ⟨v.2, x1, y, by simp, hx1, hy, rfl⟩
          · simp at he
        · obtain ⟨t, z, y, h1, h2, h3, h4⟩ := absVs_mem (w :: l) all x2 hx2 e he
          exact ⟨t, z, y, List.mem_cons_of_mem _ h1, h2, h3, h4⟩
      · cases h
    · cases h

theorem absC_mem : ∀ (cs : List (Nat × Lf)), absC A cs = true → ∀ c ∈ cs,
    (∃ b off v, c.2 = .bp b 0 off ∧ (get A c.1).2 = .one (.bp b v off) ∧ (get A (H b)).1 = v) ∨ (∃ m, c.2 = .hd m ∧ (get A c.1).2 = .one (.hd m))
  | [], _, c, hc => by simp at hc
  | (l, z) :: cs, h, c, hc => by
    cases z with
    | bp b v0 off =>
      simp only [absC, Bool.and_eq_true] at h
      obtain ⟨h1, h2⟩ := h
      rcases List.mem_cons.1 hc with rfl | hc
      · split at h1
        · rename_i n b' v off' hg
          simp only [Bool.and_eq_true] at h1
          obtain ⟨⟨⟨e1, e2⟩, e3⟩, e4⟩ := h1
          have e1 : v0 = 0 := Nat.eq_of_beq_eq_true e1
          have e2 : b = b' := Nat.eq_of_beq_eq_true e2
          have e3 : off = off' := Nat.eq_of_beq_eq_true e3
          subst e1 e2 e3
          split at e4
          · rename_i n' m' hh
            have : n' = v := Nat.eq_of_beq_eq_true e4
            refine .inl ⟨b, off, v, rfl, by rw [hg], by rw [hh, this]⟩
          · cases e4
        · cases h1
      · exact absC_mem cs h2 c hc
    | hd m =>
      simp only [absC, Bool.and_eq_true] at h
      obtain ⟨h1, h2⟩ := h
      rcases List.mem_cons.1 hc with rfl | hc
      · split at h1
        · rename_i n m' hg
          have : m = m' := Nat.eq_of_beq_eq_true h1
          subst this
          exact .inr ⟨m, rfl, by rw [hg]⟩
        · cases h1
      · exact absC_mem cs h2 c hc
    | _ => simp [absC] at h

theorem concL_mem {v : Live} {x : v.den} {e : Nat × Nat × Sv} (h : e ∈ concL v x) : e ∈ concVs v.vs x ∨ ∃ c ∈ v.cs, e = (c.1, 0, .one c.2) := by
  rcases List.mem_append.1 h with h | h
  · exact .inl h
  · obtain ⟨c, hc, rfl⟩ := List.mem_map.1 h
    exact .inr ⟨c, hc, rfl⟩

/-- All that is not kept is forgotten. -/
theorem forget (K : Okay X S a) (hg : S.g = get A) {v : Live} {x : v.den} (h : absL v A = some x) : ∃ S', Okay X S' a ∧ S'.g = get (concL v x) ∧ S'.w = S.w := by
  unfold absL at h
  cases hc : absC A v.cs with
  | false => rw [hc] at h; simp at h
  | true =>
    rw [hc, cond_true] at h
    have hfz : ∀ k, S.O k = .fz → forgO S.O v.vs k = .fz := fun k hk => forgO_other hk (by simp)
    have hmem := absVs_mem v.vs v.vs x h
    have hcm := absC_mem v.cs hc
    refine ⟨{ S with O := forgO S.O v.vs, g := get (concL v x) }, K.ghost _ _ (fun k e => forgO_other e (by simp)) (fun k e1 e2 => e1 (forgO_other e2 (by simp))) hfz (fun k b e => forgO_other e (by simp)) (fun b n hb => ?_) ?_, rfl, rfl⟩
    · -- a box that is kept was one
      have key : ∀ l, (∀ n, (get (concL v x) l).2 = .one (.hd n) → (S.g l).2 = .one (.hd n)) := by
        refine get_all (Q := fun l s => ∀ n, s.2 = .one (.hd n) → (S.g l).2 = .one (.hd n)) (fun l n hn => by cases hn) _ (fun e he n hn => ?_)
        rcases concL_mem he with he | ⟨c, hcc, rfl⟩
        · obtain ⟨t, z, y, _, _, h3, h4⟩ := hmem e he
          rw [h4] at hn
          have hy := leaves_solid t z y (by rw [h3]; simp)
          simp only [Sv.one.injEq] at hn
          rw [hn] at hy
          simp [solid] at hy
        · rcases hcm c hcc with ⟨b', off, v', e1, _⟩ | ⟨m, e1, e2⟩
          · rw [e1] at hn; cases hn
          · rw [e1] at hn
            cases hn
            rw [hg]
            exact e2
      exact key _ n hb
    · refine get_all (Q := fun l s => SvOk X.P { S with O := forgO S.O v.vs, g := get (concL v x) } l s.2 (S.ph l)) (fun l => trivial) _ (fun e he => ?_)
      rcases concL_mem he with he | ⟨c, hcc, rfl⟩
      · obtain ⟨t, z, y, h1, h2, h3, h4⟩ := hmem e he
        rw [h4]
        have hy := leaves_solid t z y (by rw [h3]; simp)
        exact LfOk.bare (S1 := { S with O := forgO S.O v.vs }) hy rfl (fun k hk => hk) (fun k hk => hk) (absV_ok K hg h1 h2 y h3)
      · rcases hcm c hcc with ⟨b', off, v', e1, e2, e3⟩ | ⟨m, e1, e2⟩
        · rw [e1]
          have hat := K.at_ c.1
          rw [hg, e2] at hat
          have hat' : LfOk X.P S (.pl c.1 []) (.bp b' v' off) (S.ph c.1) := hat
          refine ⟨Nat.zero_le _, fun _ => hat'.2 (by rw [hg]; exact e3)⟩
        · rw [e1]
          trivial

/-! ### Code -/
def DoneE (X : Cx) (Q : Exit → Act → World → Prop) (K : Ex → Ab → Option R) (r : R) : Prop := ∀ e S a A, Okay X S a → S.g = get A → K e A = some r → Q (toExit e) a S.w

/-- What holds of a loop, where it is met: from its head it comes to one of its ends. -/
def LoopOk (X : Cx) (L : Lp) (c : Code) : Prop := ∀ x y, L.run x = some y → ∀ S a, Okay X S a → S.g = get (concL L.ins x) → ∀ Q : Exit → Act → World → Prop,
  (∀ e A S' a', altK (fun e A => some (e, A)) L.alts y = some (e, A) → Okay X S' a' → S'.g = get A → Q (toExit e) a' S'.w) → (Code.loop c).wp X.P Q a S.w

/-- Every loop in this code. -/
def LoopsOk (X : Cx) (E : En) : Code → Prop
  | .seq a b => LoopsOk X E a ∧ LoopsOk X E b
  | .cond _ a b => LoopsOk X E a ∧ LoopsOk X E b
  | .block _ c => LoopsOk X E c
  | .loop c => ∀ L, E.lp (first c) = some L → LoopOk X L c
  | _ => True

/-- Regions whose order is drawn. -/
def DrawOk (X : Cx) (E : En) : Prop := ∀ {R : Type} (id : Nat) (ops : Array Oper) (Q : Exit → Act → World → Prop) (S : Sit) (a : Act) (A : Ab) (K : Ab → Option R) (r : R), Okay X S a → S.g = get A → evDraw E ops.toList A K = some r → Done X Q K r → (Code.region id ops true).wp X.P Q a S.w

theorem altK_bind {K : Ex → Ab → Option R} : ∀ (l : List (Ex × Live)) (y : AltD l) (r : R), altK K l y = some r → ∃ e A, altK (fun e A => some (e, A)) l y = some (e, A) ∧ K e A = some r
  | [], y, _, _ => nomatch y
  | [b], y, r, h => ⟨_, _, rfl, h⟩
  | b :: b2 :: l, .inl y, r, h => ⟨_, _, rfl, h⟩
  | b :: b2 :: l, .inr z, r, h => altK_bind (b2 :: l) z r h

theorem evCode_ok (hV : EnvOk X E) (hD : DrawOk X E) : ∀ (c : Code) {S : Sit} {a : Act} {A : Ab} {Q : Exit → Act → World → Prop} {R : Type} {K : Ex → Ab → Option R} {r : R}, LoopsOk X E c → Okay X S a → S.g = get A → evCode E c A K = some r → DoneE X Q K r → c.wp X.P Q a S.w := by
  intro c
  induction c with
  | skip => intro S a A Q R K r hL hK hg h hQ; exact wp_skip (hQ .normal S a A hK hg h)
  | region id ops draw =>
    intro S a A Q R K r hL hK hg h hQ
    unfold evCode at h
    cases draw with
    | true => exact hD id ops Q S a A _ r hK hg h (fun S' a' A' K' g' h' => hQ .normal S' a' A' K' g' h')
    | false => exact wp_region (evOps_ok hV _ hK hg h (fun S' a' A' K' g' h' => hQ .normal S' a' A' K' g' h'))
  | seq x y ihx ihy =>
    intro S a A Q R K r hL hK hg h hQ
    unfold evCode at h
    refine wp_seq (ihx hL.1 hK hg h (fun e S' a' A' K' g' h' => ?_))
    cases e with
    | normal => exact ihy hL.2 K' g' h' hQ
    | exit i => exact hQ (.exit i) S' a' A' K' g' h'
    | ret => exact hQ .ret S' a' A' K' g' h'
  | cond x y z ihy ihz =>
    intro S a A Q R K r hL hK hg h hQ
    unfold evCode at h
    split at h
    · rename_i b hx
      have e1 := (opT_sc hV.en hK hg hx).1
      cases b with
      | true => exact wp_cond_true e1 (ihy hL.1 hK hg h hQ)
      | false => exact wp_cond_false e1 (ihz hL.2 hK hg h hQ)
    · cases h
  | block id c ih =>
    intro S a A Q R K r hL hK hg h hQ
    unfold evCode at h
    refine wp_block (ih hL hK hg h (fun e S' a' A' K' g' h' => ?_))
    cases e with
    | normal => exact hQ .normal S' a' A' K' g' h'
    | exit i =>
      show (if i = id then Q .normal a' S'.w else Q (.exit i) a' S'.w)
      simp only at h'
      cases hb : Nat.beq i id with
      | true =>
        rw [hb, cond_true] at h'
        rw [if_pos (Nat.eq_of_beq_eq_true hb)]
        exact hQ .normal S' a' A' K' g' h'
      | false =>
        rw [hb, cond_false] at h'
        rw [if_neg (fun e => by rw [e] at hb; simp at hb)]
        exact hQ (.exit i) S' a' A' K' g' h'
    | ret => exact hQ .ret S' a' A' K' g' h'
  | loop c ih =>
    intro S a A Q R K r hL hK hg h hQ
    unfold evCode at h
    split at h
    · rename_i L hLp
      split at h
      · rename_i x hx
        cases hr : L.run x with
        | none => rw [hr] at h; simp at h
        | some y =>
          rw [hr] at h
          simp only [Option.bind_some] at h
          obtain ⟨S1, K1, g1, w1⟩ := forget hK hg hx
          rw [← w1]
          obtain ⟨e0, A0, h0, h1⟩ := altK_bind L.alts y r h
          refine hL L hLp x y hr S1 a K1 g1 Q (fun e A' S' a' h2 K' g' => ?_)
          rw [h0] at h2
          cases h2
          exact hQ _ S' a' _ K' g' h1
      · cases h
    · cases h
  | exit id => intro S a A Q R K r hL hK hg h hQ; exact wp_exit (hQ (.exit id) S a A hK hg h)
  | ret => intro S a A Q R K r hL hK hg h hQ; exact wp_ret (hQ .ret S a A hK hg h)
  | _ => intro S a A Q R K r hL hK hg h hQ; unfold evCode at h; cases h
end
end Go.Proofs.Ytehkignjdbkeiaa.Vf
