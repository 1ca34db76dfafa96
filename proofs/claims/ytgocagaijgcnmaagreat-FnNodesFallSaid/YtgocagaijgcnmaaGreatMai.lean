import Derived.Test.YtgocagaijgcnmaaGreatMah
section
set_option linter.unusedVariables false
set_option linter.unusedSimpArgs false
namespace Go.Proofs.YtgocagaijgcnmaaGreat.Vf
open Go
attribute [local irreducible] C H
section
variable {X : Cx} {S S1 S2 : Sit} {a : Act} {E : En} {A : Ab} {o : Oper} {R : Type} {Kc : List Up → Option R} {r : R}
theorem get_all {Q : Nat → Nat × Sv → Prop} (h0 : ∀ l, Q l (0, .one .dead)) : ∀ (B : Ab), (∀ e ∈ B, Q e.1 e.2) → ∀ l, Q l (get B l)
 | [], _, l => h0 l
 | (k, n, s) :: B, h, l => by
  simp only [get]
  cases hb : Nat.beq k l with
  | true =>
   have : k = l := Nat.eq_of_beq_eq_true hb
   subst this
   exact h (k, n, s) (by simp)
  | false => exact get_all h0 B (fun e he => h e (List.mem_cons_of_mem _ he)) l
theorem absVs_mem : ∀ (vs : List (Nat × Ty)) (all : List (Nat × Ty)) (x : Den (vs.map Prod.snd)), absVs A all vs = some x →
  ∀ e ∈ concVs vs x, ∃ t, ∃ z : t.den, ∃ y, (e.1, t) ∈ vs ∧ absV A all e.1 t = some z ∧ leaves t z = [y] ∧ e.2 = (0, .one y)
 | [], _, _, _ => by simp [concVs]
 | [v], all, x, h => by
  intro e he
  simp only [concVs] at he
  split at he
  ·rename_i y hy
   simp at he
   subst he
   exact ⟨v.2, x, y, by simp, h, hy, rfl⟩
  ·simp at he
 | v :: w :: l, all, x, h => by
  simp only [absVs] at h
  split at h
  ·rename_i x1 hx1
   split at h
   ·rename_i x2 hx2
    cases h
    intro e he
    simp only [concVs] at he
    rcases List.mem_append.1 he with he | he
    ·split at he
     ·rename_i y hy
      simp at he
      subst he
      exact ⟨v.2, x1, y, by simp, hx1, hy, rfl⟩
     ·simp at he
    ·obtain ⟨t, z, y, h1, h2, h3, h4⟩ := absVs_mem (w :: l) all x2 hx2 e he
     exact ⟨t, z, y, List.mem_cons_of_mem _ h1, h2, h3, h4⟩
   ·cases h
  ·cases h
theorem absC_mem : ∀ (cs : List (Nat × Lf)), absC A cs = true → ∀ c ∈ cs,
  (∃ b off v, c.2 = .bp b 0 off ∧ (get A c.1).2 = .one (.bp b v off) ∧ (get A (H b)).1 = v) ∨ (∃ m, c.2 = .hd m ∧ (get A c.1).2 = .one (.hd m)) ∨
   ∃ F bs bs', c.2 = .fn F bs ∧ (get A c.1).2 = .one (.fn F bs') ∧ sameB bs bs' = true ∧ aliveB A bs' = true
 | [], _, c, hc => by simp at hc
 | (l, z) :: cs, h, c, hc => by
  cases z with
  | bp b v0 off =>
   simp only [absC, Bool.and_eq_true] at h
   obtain ⟨h1, h2⟩ := h
   rcases List.mem_cons.1 hc with rfl | hc
   ·split at h1
    ·rename_i n b' v off' hg
     simp only [Bool.and_eq_true] at h1
     obtain ⟨⟨⟨e1, e2⟩, e3⟩, e4⟩ := h1
     have e1 : v0 = 0 := Nat.eq_of_beq_eq_true e1
     have e2 : b = b' := Nat.eq_of_beq_eq_true e2
     have e3 : off = off' := Nat.eq_of_beq_eq_true e3
     subst e1 e2 e3
     split at e4
     ·rename_i n' m' hh
      have : n' = v := Nat.eq_of_beq_eq_true e4
      refine .inl ⟨b, off, v, rfl, by rw [hg], by rw [hh, this]⟩
     ·cases e4
    ·cases h1
   ·exact absC_mem cs h2 c hc
  | hd m =>
   simp only [absC, Bool.and_eq_true] at h
   obtain ⟨h1, h2⟩ := h
   rcases List.mem_cons.1 hc with rfl | hc
   ·split at h1
    ·rename_i n m' hg
     have : m = m' := Nat.eq_of_beq_eq_true h1
     subst this
     exact .inr (.inl ⟨m, rfl, by rw [hg]⟩)
    ·cases h1
   ·exact absC_mem cs h2 c hc
  | fn F bs =>
   simp only [absC, Bool.and_eq_true] at h
   obtain ⟨h1, h2⟩ := h
   rcases List.mem_cons.1 hc with rfl | hc
   ·split at h1
    ·rename_i n F' bs' hg
     simp only [Bool.and_eq_true] at h1
     have e1 : F = F' := Nat.eq_of_beq_eq_true h1.1.1
     subst e1
     exact .inr (.inr ⟨F, bs, bs', rfl, by rw [hg], h1.1.2, h1.2⟩)
    ·cases h1
   ·exact absC_mem cs h2 c hc
  | _ => simp [absC] at h
theorem fns_new {S S' : Sit} {A : Ab} (hg : S.g = get A) (hb : S'.bb = S.bb) : ∀ {bs bs' : List (Nat × Nat)} {us : List Value}, sameB bs bs' = true → aliveB A bs' = true → FnsOk S bs' us → FnsOk S' bs us
 | [], [], us, _, _, h => h
 | [], _ :: _, _, h, _, _ => by simp [sameB] at h
 | _ :: _, [], _, h, _, _ => by simp [sameB] at h
 | a :: bs, c :: bs', us, hs, ha, h => by
  obtain ⟨u, us', e, ⟨h1, h2⟩, h3⟩ := h
  simp only [sameB, Bool.and_eq_true] at hs
  simp only [aliveB, Bool.and_eq_true] at ha
  have e1 : a.1 = c.1 := Nat.eq_of_beq_eq_true hs.1.1
  have e2 : a.2 = 0 := Nat.eq_of_beq_eq_true hs.1.2
  refine ⟨u, us', e, ⟨by rw [e2]; exact Nat.zero_le _, fun _ => ?_⟩, fns_new hg hb hs.2 ha.2 h3⟩
  rw [hb, e1]
  exact h2 (by rw [hg]; exact Nat.eq_of_beq_eq_true ha.1)
theorem concL_mem {v : Live} {x : v.den} {e : Nat × Nat × Sv} (h : e ∈ concL v x) : e ∈ concVs v.vs x ∨ ∃ c ∈ v.cs, e = (c.1, 0, .one c.2) := by
 rcases List.mem_append.1 h with h | h
 ·exact .inl h
 ·obtain ⟨c, hc, rfl⟩ := List.mem_map.1 h
  exact .inr ⟨c, hc, rfl⟩
theorem forget (K : Okay X S a) (hg : S.g = get A) {v : Live} {x : v.den} (h : absL v A = some x) : ∃ S', Okay X S' a ∧ S'.g = get (concL v x) ∧ S'.w = S.w := by
 unfold absL at h
 cases hc : absC A v.cs with
 | false => rw [hc] at h; simp at h
 | true =>
  rw [hc, cond_true] at h
  have hfz : ∀ k, S.O k = .fz → forgO S.O v.vs k = .fz := fun k hk => forgO_other hk (by simp)
  have hmem := absVs_mem v.vs v.vs x h
  have hcm := absC_mem v.cs hc
  refine ⟨{ S with O := forgO S.O v.vs, g := get (concL v x) }, K.ghost _ _ (fun k e => forgO_other e (by simp)) (fun k e1 e2 => e1 (forgO_other e2 (by simp))) hfz (fun k b e => forgO_other e (by simp)) (fun b n hb => ?_) ?_, rfl, rfl⟩
  ·-- a box that is kept was one
   have key : ∀ l, (∀ n, (get (concL v x) l).2 = .one (.hd n) → (S.g l).2 = .one (.hd n)) := by
    refine get_all (Q := fun l s => ∀ n, s.2 = .one (.hd n) → (S.g l).2 = .one (.hd n)) (fun l n hn => by cases hn) _ (fun e he n hn => ?_)
    rcases concL_mem he with he | ⟨c, hcc, rfl⟩
    ·obtain ⟨t, z, y, _, _, h3, h4⟩ := hmem e he
     rw [h4] at hn
     have hy := leaves_solid t z y (by rw [h3]; simp)
     simp only [Sv.one.injEq] at hn
     rw [hn] at hy
     simp [solid] at hy
    ·rcases hcm c hcc with ⟨b', off, v', e1, _⟩ | ⟨m, e1, e2⟩ | ⟨F, bs, bs', e1, _⟩
     rotate_left 2
     ·rw [e1] at hn; cases hn
     ·rw [e1] at hn; cases hn
     ·rw [e1] at hn
      cases hn
      rw [hg]
      exact e2
   exact key _ n hb
  ·refine get_all (Q := fun l s => SvOk X.P { S with O := forgO S.O v.vs, g := get (concL v x) } l s.2 (S.ph l)) (fun l => trivial) _ (fun e he => ?_)
   rcases concL_mem he with he | ⟨c, hcc, rfl⟩
   ·obtain ⟨t, z, y, h1, h2, h3, h4⟩ := hmem e he
    rw [h4]
    have hy := leaves_solid t z y (by rw [h3]; simp)
    exact LfOk.bare (S1 := { S with O := forgO S.O v.vs }) hy rfl (fun k hk => hk) (fun k hk => hk) (absV_ok K hg h1 h2 y h3)
   ·rcases hcm c hcc with ⟨b', off, v', e1, e2, e3⟩ | ⟨m, e1, e2⟩ | ⟨F, bs, bs', e1, e2, e3, e4⟩
    rotate_left 2
    ·rw [e1]
     have hat := K.at_ c.1
     rw [hg, e2] at hat
     obtain ⟨us, h5, h6⟩ : LfOk X.P S (.pl c.1 []) (.fn F bs') (S.ph c.1) := hat
     exact ⟨us, h5, fns_new (S' := { S with O := forgO S.O v.vs, g := get (concL v x) }) hg rfl e3 e4 h6⟩
    ·rw [e1]
     have hat := K.at_ c.1
     rw [hg, e2] at hat
     have hat' : LfOk X.P S (.pl c.1 []) (.bp b' v' off) (S.ph c.1) := hat
     refine ⟨Nat.zero_le _, fun _ => hat'.2 (by rw [hg]; exact e3)⟩
    ·rw [e1]
     trivial
def DoneE (X : Cx) (Q : Exit → Act → World → Prop) (K : Ex → Ab → Option R) (r : R) : Prop := ∀ e S a A, Okay X S a → S.g = get A → K e A = some r → Q (toExit e) a S.w
def LoopOk (X : Cx) (L : Lp) (c : Code) : Prop := ∀ x y, L.run x = some y → ∀ S a, Okay X S a → S.g = get (concL L.ins x) → ∀ Q : Exit → Act → World → Prop,
 (∀ e A S' a', altK (fun e A => some (e, A)) L.alts y = some (e, A) → Okay X S' a' → S'.g = get A → Q (toExit e) a' S'.w) → (Code.loop c).wp X.P Q a S.w
def LoopsOk (X : Cx) (E : En) : Code → Prop
 | .seq a b => LoopsOk X E a ∧ LoopsOk X E b
 | .cond _ a b => LoopsOk X E a ∧ LoopsOk X E b
 | .block _ c => LoopsOk X E c
 | .loop c => ∀ L, E.lp (first c) = some L → LoopOk X L c
 | _ => True
def DrawOk (X : Cx) (E : En) : Prop := ∀ {R : Type} (id : Nat) (ops : Array Oper) (Q : Exit → Act → World → Prop) (S : Sit) (a : Act) (A : Ab) (K : Ab → Option R) (r : R), Okay X S a → S.g = get A → evDraw E ops.toList A K = some r → Done X Q K r → (Code.region id ops true).wp X.P Q a S.w
theorem altK_bind {K : Ex → Ab → Option R} : ∀ (l : List (Ex × Live)) (y : AltD l) (r : R), altK K l y = some r → ∃ e A, altK (fun e A => some (e, A)) l y = some (e, A) ∧ K e A = some r
 | [], y, _, _ => nomatch y
 | [b], y, r, h => ⟨_, _, rfl, h⟩
 | b :: b2 :: l, .inl y, r, h => ⟨_, _, rfl, h⟩
 | b :: b2 :: l, .inr z, r, h => altK_bind (b2 :: l) z r h
theorem refB_get {A : Ab} {c : Operand} {b : Bool} (h : opT E 0 A c = some (.one (.sc (.bool b)))) : get (refB E A c b) = get A := by
 cases c with
 | tmp t =>
  unfold refB
  cases E.rf with
  | false => rfl
  | true =>
   have h : (bif Nat.blt t E.nt then some (get A t).2 else none) = some (.one (.sc (.bool b))) := h
   cases hb : Nat.blt t E.nt with
   | false => rw [hb] at h; cases h
   | true =>
    rw [hb, cond_true, Option.some.injEq] at h
    funext l
    show (bif Nat.beq t l then _ else get A l) = get A l
    cases hl : Nat.beq t l with
    | false => rfl
    | true =>
     rw [← Nat.eq_of_beq_eq_true hl, cond_true, cond_true, ← h]
 | _ => rfl
theorem evCode_ok (hV : EnvOk X E) (hD : DrawOk X E) : ∀ (c : Code) {S : Sit} {a : Act} {A : Ab} {Q : Exit → Act → World → Prop} {R : Type} {K : Ex → Ab → Option R} {r : R}, LoopsOk X E c → Okay X S a → S.g = get A → evCode E c A K = some r → DoneE X Q K r → c.wp X.P Q a S.w := by
 intro c
 induction c with
 | skip => intro S a A Q R K r hL hK hg h hQ; exact wp_skip (hQ .normal S a A hK hg h)
 | region id ops draw =>
  intro S a A Q R K r hL hK hg h hQ
  unfold evCode at h
  obtain ⟨A1, S1, h, K1, g1, w1⟩ := ghosts_ok hV.en _ hK hg h
  rw [← w1]
  cases draw with
  | true => exact hD id ops Q S1 a A1 _ r K1 g1 h (fun S' a' A' K' g' h' => hQ .normal S' a' A' K' g' h')
  | false => exact wp_region (evOps_ok hV _ K1 g1 h (fun S' a' A' K' g' h' => hQ .normal S' a' A' K' g' h'))
 | seq x y ihx ihy =>
  intro S a A Q R K r hL hK hg h hQ
  unfold evCode at h
  refine wp_seq (ihx hL.1 hK hg h (fun e S' a' A' K' g' h' => ?_))
  cases e with
  | normal => exact ihy hL.2 K' g' h' hQ
  | exit i => exact hQ (.exit i) S' a' A' K' g' h'
  | ret => exact hQ .ret S' a' A' K' g' h'
 | cond x y z ihy ihz =>
  intro S a A Q R K r hL hK hg h hQ
  unfold evCode at h
  split at h
  ·rename_i b hx
   have e1 := (opT_sc hV.en hK hg hx).1
   have hg2 := hg.trans (refB_get hx).symm
   cases b with
   | true => exact wp_cond_true e1 (ihy hL.1 hK hg2 h hQ)
   | false => exact wp_cond_false e1 (ihz hL.2 hK hg2 h hQ)
  ·cases h
 | block id c ih =>
  intro S a A Q R K r hL hK hg h hQ
  unfold evCode at h
  refine wp_block (ih hL hK hg h (fun e S' a' A' K' g' h' => ?_))
  cases e with
  | normal => exact hQ .normal S' a' A' K' g' h'
  | exit i =>
   show (if i = id then Q .normal a' S'.w else Q (.exit i) a' S'.w)
   simp only at h'
   cases hb : Nat.beq i id with
   | true =>
    rw [hb, cond_true] at h'
    rw [if_pos (Nat.eq_of_beq_eq_true hb)]
    exact hQ .normal S' a' A' K' g' h'
   | false =>
    rw [hb, cond_false] at h'
    rw [if_neg (fun e => by rw [e] at hb; simp at hb)]
    exact hQ (.exit i) S' a' A' K' g' h'
  | ret => exact hQ .ret S' a' A' K' g' h'
 | loop c ih =>
  intro S a A Q R K r hL hK hg h hQ
  unfold evCode at h
  split at h
  ·rename_i L hLp
   obtain ⟨A0, S0, h, hK, hg, w0⟩ := ghosts_ok hV.en _ hK hg h
   rw [← w0]
   split at h
   ·rename_i x hx
    cases hr : L.run x with
    | none => rw [hr] at h; simp at h
    | some y =>
     rw [hr] at h
     simp only [Option.bind_some] at h
     obtain ⟨S1, K1, g1, w1⟩ := forget hK hg hx
     rw [← w1]
     obtain ⟨e0, A0, h0, h1⟩ := altK_bind L.alts y r h
     refine hL L hLp x y hr S1 a K1 g1 Q (fun e A' S' a' h2 K' g' => ?_)
     rw [h0] at h2
     cases h2
     exact hQ _ S' a' _ K' g' h1
   ·cases h
  ·cases h
 | exit id => intro S a A Q R K r hL hK hg h hQ; exact wp_exit (hQ (.exit id) S a A hK hg h)
 | ret => intro S a A Q R K r hL hK hg h hQ; exact wp_ret (hQ .ret S a A hK hg h)
 | _ => intro S a A Q R K r hL hK hg h hQ; unfold evCode at h; cases h
end
end Go.Proofs.YtgocagaijgcnmaaGreat.Vf
end

section
set_option linter.unusedVariables false
set_option linter.unusedSimpArgs false
namespace Go.Proofs.YtgocagaijgcnmaaGreat.Vf
open Go
attribute [local irreducible] C H
section
variable {X : Cx} {E : En} {A : Ab}
theorem exB_eq {e e' : Ex} (h : exB e e' = true) : e = e' := by
 cases e <;> cases e' <;> first | rfl | (simp [exB] at h; done) | skip
 simp only [exB] at h
 rw [Nat.eq_of_beq_eq_true h]
theorem altOf_ok {e : Ex} {A : Ab} : ∀ (l : List (Ex × Live)) (y : AltD l), altOf e A l = some y → ∃ v, ∃ z : v.den, altK (fun e A => some (e, A)) l y = some (e, concL v z) ∧ absL v A = some z
 | [], y, _ => nomatch y
 | [b], y, h => by
  simp only [altOf] at h
  cases hb : exB e b.1 with
  | false => rw [hb] at h; simp at h
  | true =>
   rw [hb, cond_true] at h
   exact ⟨b.2, y, by rw [exB_eq hb]; rfl, h⟩
 | b :: b2 :: l, y, h => by
  simp only [altOf] at h
  cases hb : exB e b.1 with
  | true =>
   rw [hb, cond_true] at h
   split at h
   ·rename_i x hx
    cases h
    exact ⟨b.2, x, by rw [exB_eq hb]; rfl, hx⟩
   ·cases h
  | false =>
   rw [hb, cond_false] at h
   split at h
   ·rename_i x hx
    cases h
    exact altOf_ok (b2 :: l) x hx
   ·cases h
theorem loop_ok {ins : Live} {alts : List (Ex × Live)} {f : Nat → ins.den → Option (AltD alts)} {En' : Nat → En} {c : Code} (h0 : ∀ x, f 0 x = none) (hs : ∀ k x, evLoop (En' k) ⟨ins, alts, f k⟩ c x = f (k + 1) x)
  (hV : ∀ k, EnvOk X (En' k)) (hD : ∀ k, DrawOk X (En' k)) (hL : ∀ k, LoopsOk X (En' k) c) : ∀ k, LoopOk X ⟨ins, alts, f k⟩ c := by
 intro k x y hy S a K hg Q hQ
 let J : Nat → Act → World → Prop := fun n a w => ∃ x y S, f n x = some y ∧ Okay X S a ∧ S.g = get (concL ins x) ∧ S.w = w ∧
  (∀ e A S' a', altK (fun e A => some (e, A)) alts y = some (e, A) → Okay X S' a' → S'.g = get A → Q (toExit e) a' S'.w)
 refine wp_loop_ix J (n := k) ⟨x, y, S, hy, K, hg, rfl, hQ⟩ ?_
 rintro n a w ⟨x, y, S, hy, K, hg, rfl, hQ⟩
 cases n with
 | zero => rw [h0] at hy; cases hy
 | succ m =>
  rw [← hs] at hy
  unfold evLoop at hy
  refine evCode_ok (hV m) (hD m) c (hL m) K hg hy (fun e S' a' A' K' g' h' => ?_)
  have ends : ∀ {e : Ex}, ghostsK (En' m) ((En' m).gh (1000001 + first c)) A' (fun A => altOf e A alts) = some y → Q (toExit e) a' S'.w := by
   intro e h
   obtain ⟨A', S2, h, K', g', w2⟩ := ghosts_ok (hV m).en _ K' g' h
   rw [← w2]
   obtain ⟨v, z, h1, h2⟩ := altOf_ok alts y h
   obtain ⟨S1, K1, g1, w1⟩ := forget K' g' h2
   rw [← w1]
   exact hQ e _ S1 a' h1 K1 g1
  cases e with
  | normal =>
   obtain ⟨A', S2, h', K', g', w2⟩ := ghosts_ok (hV m).en _ K' g' h'
   split at h'
   ·rename_i x' hx'
    obtain ⟨S1, K1, g1, w1⟩ := forget K' g' hx'
    exact ⟨m, Nat.lt_succ_self m, x', y, S1, h', K1, g1, w1.trans w2, hQ⟩
   ·cases h'
  | exit i => exact ends h'
  | ret => exact ends h'
end
end Go.Proofs.YtgocagaijgcnmaaGreat.Vf
end

section
set_option linter.unusedVariables false
set_option linter.unusedSimpArgs false
namespace Go.Proofs.YtgocagaijgcnmaaGreat.Vf
open Go
def uix (nv b : Nat) : Nat := if b < 1500 then b else nv + (b - 1500)
def bbS (nv : Nat) (us : List Value) : Nat → Nat × Nat := fun b => match us[uix nv b]? with
 | some (.pointer (some ad)) => (ad.block, ad.off)
 | _ => (0, 0)
def phS (nv : Nat) (us : List Value) (w : World) : Nat → Value := fun p => if p < 1000 then (us.take nv).getD p undef else (w.cell? ⟨(bbS nv us (p / 1000 - 1)).1, (bbS nv us (p / 1000 - 1)).2 + p % 1000, none⟩).getD undef
def S0 (nv : Nat) (ps : List Par) (ls : List (List Lf)) (us : List Value) (O : Nat → Lab) (w : World) : Sit := ⟨O, bbS nv us, get (startP nv 0 ps ls), phS nv us w, w⟩
theorem uix_bid {nv i : Nat} (hn : nv ≤ 1000) : uix nv (bid nv i) = i := by
 unfold uix bid
 cases h : Nat.blt i nv with
 | true =>
  have h1 : i < nv := Nat.le_of_ble_eq_true h
  rw [cond_true, if_pos (by omega)]
 | false =>
  have h1 : ¬ i < nv := fun h2 => by rw [show Nat.blt i nv = true from Nat.ble_eq_true_of_le h2] at h; cases h
  rw [cond_false, if_neg (by omega)]
  omega
theorem bid_vis {nv i : Nat} (h : i < nv) : bid nv i = i := by
 unfold bid
 rw [show Nat.blt i nv = true from Nat.ble_eq_true_of_le h]
 rfl
theorem bid_lt {nv i n : Nat} (h : i < n) (hn : nv ≤ 1000) (h2 : n - nv < 500) : bid nv i < 2000 := by
 unfold bid
 cases h3 : Nat.blt i nv with
 | true =>
  have h1 : i < nv := Nat.le_of_ble_eq_true h3
  rw [cond_true]
  omega
 | false => rw [cond_false]; omega
theorem C_div {b j : Nat} (h : j < 999) : C b j / 1000 - 1 = b ∧ C b j % 1000 = j ∧ ¬ C b j < 1000 := by unfold C; omega
theorem ups_mem : ∀ (b j : Nat) (l : List Lf) (A : Ab), ∀ e ∈ ups A (putCells b j l), e ∈ A ∨ ∃ n v x, l[n]? = some x ∧ e = (C b (j + n), v, .one x)
 | b, j, [], A, e, h => .inl h
 | b, j, x :: l, A, e, h => by
  rcases ups_mem b (j + 1) l (up A ⟨C b j, false, .one x⟩) e h with h | ⟨n, v, y, h1, h2⟩
  ·rcases List.mem_cons.1 h with h | h
   ·exact .inr ⟨0, _, x, rfl, by rw [Nat.add_zero]; exact h⟩
   ·exact .inl h
  ·exact .inr ⟨n + 1, v, y, by simpa using h1, by rw [show j + (n + 1) = j + 1 + n by omega]; exact h2⟩
def BoxE (B n : Nat) (l : List Lf) (e : Nat × Nat × Sv) : Prop := e = (H B, 0, .one (.hd n)) ∨ ∃ n v x, l[n]? = some x ∧ e = (C B n, v, .one x)
theorem cells0_mem : ∀ (b j : Nat) (l : List Lf), ∀ e ∈ cells0 b j l, ∃ n v x, l[n]? = some x ∧ e = (C b (j + n), v, .one x)
 | b, j, [], e, h => by simp [cells0] at h
 | b, j, x :: l, e, h => by
  rcases List.mem_cons.1 h with h | h
  ·exact ⟨0, _, x, rfl, by rw [Nat.add_zero]; exact h⟩
  ·obtain ⟨n, v, y, h1, h2⟩ := cells0_mem b (j + 1) l e h
   exact ⟨n + 1, v, y, by simpa using h1, by rw [show j + (n + 1) = j + 1 + n by omega]; exact h2⟩
def EntE (nv i : Nat) : Par → List Lf → Nat × Nat × Sv → Prop
 | .vw _ h, l, e => e = (i, 0, .agg (vwL (bid nv h) 0 l))
 | .val ag t, l, e => e = (i, 0, (bif ag then .agg l else .one (oneL l)))
 | .ptr t _, l, e => e = (i, 0, .one (.bp i 0 0)) ∨ BoxE (bid nv i) t.sz l e
 | .hid t _, l, e => BoxE (bid nv i) t.sz l e
 | .rd t, l, e => ∃ x, mkW t l = some x ∧ e = (i, 0, .one (.fp t x 0))
 | .fn F m, _, e => e = (i, 0, .one (.fn F ((List.range m).map fun j => (bid nv (nv + j), 0))))
theorem boxE_mem0 {B n : Nat} {l : List Lf} {R : Ab} {e : Nat × Nat × Sv} (he : e ∈ (H B, 0, Sv.one (.hd n)) :: (cells0 B 0 l ++ R)) : BoxE B n l e ∨ e ∈ R := by
 rcases List.mem_cons.1 he with he | he
 ·exact .inl (.inl he)
 ·rcases List.mem_append.1 he with he | he
  ·obtain ⟨n, v, x, g1, g2⟩ := cells0_mem B 0 l e he
   exact .inl (.inr ⟨n, v, x, g1, by rw [g2, Nat.zero_add]⟩)
  ·exact .inr he
theorem boxE_mem {B n : Nat} {l : List Lf} {R : Ab} {e : Nat × Nat × Sv} (he : e ∈ (H B, 0, Sv.one (.hd n)) :: (ups [] (putCells B 0 l) ++ R)) : BoxE B n l e ∨ e ∈ R := by
 rcases List.mem_cons.1 he with he | he
 ·exact .inl (.inl he)
 ·rcases List.mem_append.1 he with he | he
  ·rcases ups_mem B 0 l [] e he with he | ⟨n, v, x, g1, g2⟩
   ·cases he
   ·exact .inl (.inr ⟨n, v, x, g1, by rw [g2, Nat.zero_add]⟩)
  ·exact .inr he
theorem start_mem {P : Program} {S : Sit} {rg : Nat → Nat × Nat} {nv : Nat} {hs : List Value} : ∀ (ps : List Par) (i : Nat) (ls : List (List Lf)) (us : List Value), ArgsOk P S rg nv hs i ps ls us → ∀ e ∈ startP nv i ps ls,
  ∃ j p l u, us[j]? = some u ∧ ps[j]? = some p ∧ l ∈ ls ∧ ArgOk P S rg nv hs (i + j) p l u ∧ EntE nv (i + j) p l e
 | [], i, [], [], _, e, he => by simp [startP] at he
 | [], i, [], _ :: _, h, _, _ => h.elim
 | [], i, _ :: _, _, h, _, _ => h.elim
 | _ :: _, i, [], _, h, _, _ => h.elim
 | _ :: _, i, _ :: _, [], h, _, _ => h.elim
 | p :: ps, i, l :: ls, u :: us, h, e, he => by
  obtain ⟨h1, h2⟩ := h
  have here : EntE nv i p l e → ∃ j p' l' u', (u :: us)[j]? = some u' ∧ (p :: ps)[j]? = some p' ∧ l' ∈ l :: ls ∧ ArgOk P S rg nv hs (i + j) p' l' u' ∧ EntE nv (i + j) p' l' e := fun he => ⟨0, p, l, u, rfl, rfl, by simp, h1, he⟩
  have rest : e ∈ startP nv (i + 1) ps ls → ∃ j p' l' u', (u :: us)[j]? = some u' ∧ (p :: ps)[j]? = some p' ∧ l' ∈ l :: ls ∧ ArgOk P S rg nv hs (i + j) p' l' u' ∧ EntE nv (i + j) p' l' e := fun he => by
   obtain ⟨j, p', l', u', g1, g2, g3, g4, g5⟩ := start_mem ps (i + 1) ls us h2 e he
   refine ⟨j + 1, p', l', u', by simpa using g1, by simpa using g2, List.mem_cons_of_mem _ g3, ?_⟩
   rw [show i + (j + 1) = i + 1 + j by omega]
   exact ⟨g4, g5⟩
  cases p with
  | val ag t =>
   have he' : e = (i, 0, (bif ag then .agg l else .one (oneL l))) ∨ e ∈ startP nv (i + 1) ps ls := List.mem_cons.1 he
   rcases he' with he | he
   ·exact here he
   ·exact rest he
  | ptr t t' =>
   have he' : e ∈ (i, 0, Sv.one (.bp i 0 0)) :: (H i, 0, Sv.one (.hd t.sz)) :: (ups [] (putCells i 0 l) ++ startP nv (i + 1) ps ls) := he
   rcases List.mem_cons.1 he' with he | he
   ·exact here (.inl he)
   ·rcases boxE_mem he with he | he
    ·exact here (.inr (by rw [bid_vis h1.1]; exact he))
    ·exact rest he
  | vw t h0 =>
   have he' : e ∈ (i, 0, Sv.agg (vwL (bid nv h0) 0 l)) :: startP nv (i + 1) ps ls := he
   rcases List.mem_cons.1 he' with he | he
   ·exact here he
   ·exact rest he
  | hid t t' =>
   rcases boxE_mem0 he with he | he
   ·exact here he
   ·exact rest he
  | rd t =>
   have he' : e ∈ (match mkW t l with
    | some x => (i, 0, Sv.one (.fp t x 0)) :: startP nv (i + 1) ps ls
    | none => startP nv (i + 1) ps ls) := he
   split at he'
   ·rename_i x hx
    rcases List.mem_cons.1 he' with he | he
    ·exact here ⟨x, hx, he⟩
    ·exact rest he
   ·exact rest he'
  | fn F m =>
   have he' : e ∈ (i, 0, Sv.one (.fn F ((List.range m).map fun j => (bid nv (nv + j), 0)))) :: startP nv (i + 1) ps ls := he
   rcases List.mem_cons.1 he' with he | he
   ·exact here he
   ·exact rest he
theorem args_len {P : Program} {S : Sit} {rg : Nat → Nat × Nat} {nv : Nat} {hs : List Value} : ∀ (ps : List Par) (i : Nat) (ls : List (List Lf)) (us : List Value), ArgsOk P S rg nv hs i ps ls us → us.length = ps.length
 | [], i, [], [], _ => rfl
 | [], i, [], _ :: _, h => h.elim
 | [], i, _ :: _, _, h => h.elim
 | _ :: _, i, [], _, h => h.elim
 | _ :: _, i, _ :: _, [], h => h.elim
 | _ :: ps, i, _ :: ls, _ :: us, h => by simp [args_len ps (i + 1) ls us h.2]
theorem ArgsOk.at {P : Program} {S : Sit} {rg : Nat → Nat × Nat} {nv : Nat} {hs : List Value} : ∀ {ps : List Par} {i : Nat} {ls : List (List Lf)} {us : List Value} {j : Nat} {p : Par}, ArgsOk P S rg nv hs i ps ls us → ps[j]? = some p → ∃ l u, us[j]? = some u ∧ ArgOk P S rg nv hs (i + j) p l u
 | [], i, _, _, j, p, _, hj => by simp at hj
 | _ :: _, i, [], _, _, _, h, _ => h.elim
 | _ :: _, i, _ :: _, [], _, _, h, _ => h.elim
 | q :: ps, i, l :: ls, u :: us, 0, p, h, hj => by
  simp only [List.getElem?_cons_zero, Option.some.injEq] at hj
  subst hj
  exact ⟨l, u, rfl, h.1⟩
 | q :: ps, i, l :: ls, u :: us, j + 1, p, h, hj => by
  obtain ⟨l', u', h1, h2⟩ := ArgsOk.at (j := j) (p := p) h.2 (by simpa using hj)
  exact ⟨l', u', by simpa using h1, by rw [show i + (j + 1) = i + 1 + j by omega]; exact h2⟩
def isHid : Par → Bool
 | .hid _ _ => true
 | _ => false
theorem parsOk_at {nv : Nat} : ∀ {ps : List Par} {i j : Nat} {p : Par}, parsOk nv i ps = true → ps[j]? = some p → if isHid p then nv ≤ i + j else i + j < nv
 | [], _, _, _, _, h => by simp at h
 | q :: ps, i, 0, p, h, hj => by
  simp only [List.getElem?_cons_zero, Option.some.injEq] at hj
  subst hj
  cases q <;> simp only [parsOk, Bool.and_eq_true] at h <;> simp only [isHid, Bool.false_eq_true, if_false, if_true] <;> exact Nat.le_of_ble_eq_true h.1
 | q :: ps, i, j + 1, p, h, hj => by
  have h2 : parsOk nv (i + 1) ps = true := by cases q <;> simp only [parsOk, Bool.and_eq_true] at h <;> exact h.2
  have := parsOk_at (i := i + 1) (j := j) (p := p) h2 (by simpa using hj)
  rw [show i + (j + 1) = i + 1 + j by omega]
  exact this
theorem LfsOk.get {P : Program} {S : Sit} {f : Nat → Lab} {l : List Lf} {us : List Value} {n : Nat} {x : Lf} (h : LfsOk P S f 0 l us) (hx : l[n]? = some x) : ∃ u, us[n]? = some u ∧ LfOk P S (f n) x u := by
 have hn : n < l.length := (List.getElem?_eq_some_iff.1 hx).1
 obtain ⟨x', u', e1, _, e3, e4⟩ := h.at n hn
 rw [List.getD_eq_getElem?_getD, hx] at e1
 simp only [Option.getD_some] at e1
 subst e1
 rw [Nat.zero_add] at e4
 exact ⟨u', e3, e4⟩
theorem bbS_of {nv j : Nat} {us : List Value} {k o : Nat} (hn : nv ≤ 1000) (h : us[j]? = some (.pointer (some ⟨k, o, none⟩))) : bbS nv us (bid nv j) = (k, o) := by
 unfold bbS
 rw [uix_bid hn, h]
theorem head_mem {P : Program} {O : Nat → Lab} {w : World} {rg : Nat → Nat × Nat} {nv : Nat} {hs : List Value} {ps : List Par} {ls : List (List Lf)} {us : List Value} (hn9 : nv ≤ 1000)
  (hmem : ∀ e ∈ startP nv 0 ps ls, ∃ j p l u, us[j]? = some u ∧ ps[j]? = some p ∧ l ∈ ls ∧ ArgOk P (bare O w) rg nv hs (0 + j) p l u ∧ EntE nv (0 + j) p l e)
  (hsol : ∀ l ∈ ls, ∀ y ∈ l, solid y = true) (e : Nat × Nat × Sv) (he : e ∈ startP nv 0 ps ls) (b n : Nat) (hb : e.1 = H b) (hn : e.2.2 = .one (.hd n)) :
  ∃ (j k o : Nat) (c : Array Value) (e0 : TypeId) (vs : List Value), j < ps.length ∧ b = bid nv j ∧ bbS nv us b = (k, o) ∧ w.heap[k]? = some (.cells c e0 (0, 0)) ∧ O k = .bx b ∧ rg b = (o, n) ∧ o + n ≤ c.size ∧ n < 999 ∧ (∀ i, i < n → c[o + i]? = vs[i]?) ∧ n ≤ vs.length := by
 obtain ⟨j, p, l, u, g1, g2, g3, g4, g5⟩ := hmem e he
 simp only [Nat.zero_add] at g4 g5
 have hj : j < ps.length := (List.getElem?_eq_some_iff.1 g2).1
 have box : ∀ {t : Ty}, BoxArg P (bare O w) rg (bid nv j) t l u → BoxE (bid nv j) t.sz l e → ∃ (j k o : Nat) (c : Array Value) (e0 : TypeId) (vs : List Value), j < ps.length ∧ b = bid nv j ∧ bbS nv us b = (k, o) ∧ w.heap[k]? = some (.cells c e0 (0, 0)) ∧ O k = .bx b ∧ rg b = (o, n) ∧ o + n ≤ c.size ∧ n < 999 ∧ (∀ i, i < n → c[o + i]? = vs[i]?) ∧ n ≤ vs.length := by
  rintro t ⟨k, o, c, e0, vs, rfl, f2, f3, f4, f5, f6, f7, f8, f9⟩ g5
  have hbb := bbS_of hn9 g1
  rcases g5 with rfl | ⟨i, v, x, hx, rfl⟩
  ·have hjb : bid nv j = b := H_inj hb
   subst hjb
   simp only [Sv.one.injEq, Lf.hd.injEq] at hn
   subst hn
   have hvl := f9.len
   exact ⟨j, k, o, c, e0, vs, hj, rfl, hbb, f2, f3, f4, f5, f6, f8, by omega⟩
  ·have := hsol _ g3 x (List.mem_of_getElem? hx)
   simp only [Sv.one.injEq] at hn
   rw [hn] at this
   simp [solid] at this
 cases p with
 | val ag t =>
  have g5 : e = (j, 0, (bif ag then .agg l else .one (oneL l))) := g5
  subst g5
  cases ag with
  | true => cases hn
  | false =>
   simp only [cond_false, Sv.one.injEq] at hn
   cases l with
   | nil => cases hn
   | cons x l =>
    cases l with
    | cons y l => cases hn
    | nil =>
     have := hsol _ g3 x (by simp)
     have hx : x = .hd n := hn
     rw [hx] at this
     simp [solid] at this
 | vw t h0 =>
  have g5 : e = _ := g5
  subst g5
  cases hn
 | ptr t t' =>
  rcases g5 with rfl | g5
  ·cases hn
  ·exact box g4.2 g5
 | hid t t' => exact box g4.2 g5
 | rd t =>
  obtain ⟨x, _, rfl⟩ := g5
  cases hn
 | fn F m =>
  have g5 : e = _ := g5
  subst g5
  cases hn
theorem fns_start {nv : Nat} {S : Sit} (hs : List Value) (h : ∀ j u, hs[j]? = some u → u = Value.pointer (some ⟨(S.bb (bid nv (nv + j))).1, (S.bb (bid nv (nv + j))).2 + 0, none⟩)) : FnsOk S ((List.range hs.length).map fun j => (bid nv (nv + j), 0)) hs := by
 have key : ∀ (l : List Value) (a : Nat), (∀ j u, l[j]? = some u → u = Value.pointer (some ⟨(S.bb (bid nv (nv + (a + j)))).1, (S.bb (bid nv (nv + (a + j)))).2 + 0, none⟩)) → FnsOk S ((List.range' a l.length).map fun j => (bid nv (nv + j), 0)) l := by
  intro l
  induction l with
  | nil => intro a _; exact rfl
  | cons u l ih =>
   intro a h
   rw [List.length_cons, List.range'_succ, List.map_cons]
   refine ⟨u, l, rfl, ⟨Nat.zero_le _, fun _ => ?_⟩, ih (a + 1) (fun j u hj => ?_)⟩
   ·have := h 0 u rfl
    rw [Nat.add_zero] at this
    exact this
   ·have := h (j + 1) u (by simpa using hj)
    rw [show a + (j + 1) = a + 1 + j by omega] at this
    exact this
 rw [List.range_eq_range']
 exact key hs 0 (fun j u hj => by rw [Nat.zero_add]; exact h j u hj)
theorem start_ok {P : Program} {O : Nat → Lab} {w : World} {rg : Nat → Nat × Nat} {nt nv : Nat} {ps : List Par} {ls : List (List Lf)} {us : List Value} (hnt : nt ≤ 1000) (hlt : ∀ k, O k ≠ .no → k < w.heap.size) (hbx : ∀ k b, O k = .bx b → ∃ c e f, w.heap[k]? = some (.cells c e f))
  (hargs : ArgsOk P (bare O w) rg nv (us.drop nv) 0 ps ls us) (hsol : ∀ l ∈ ls, ∀ y ∈ l, solid y = true) (hps : nv ≤ nt) (hpk : parsOk nv 0 ps = true) (hpl : ps.length - nv < 500) :
  Okay ⟨P, O, w, rg, nt, nv⟩ (S0 nv ps ls us O w) ⟨(us.take nv).toArray ++ Array.replicate (nt - (us.take nv).toArray.size) undef, []⟩ := by
 have hul := args_len ps 0 ls us hargs
 have hn9 : nv ≤ 1000 := by omega
 have hmem := start_mem ps 0 ls us hargs
 have hph : ∀ t, t < 1000 → phS nv us w t = (us.take nv).getD t undef := fun t ht => by unfold phS; rw [if_pos ht]
 have hus : ∀ {j : Nat} {u : Value}, j < nv → us[j]? = some u → (us.take nv).getD j undef = u := fun hj h => by rw [List.getD_eq_getElem?_getD, List.getElem?_take, if_pos hj, h]; rfl
 refine ⟨hnt, hlt, ?_, ?_, ?_, fun t ht => ?_, ?_, rfl, ⟨rfl, rfl, rfl, Nat.le_refl _, fun k _ h => ⟨h, rfl⟩, fun k _ h => ⟨h, rfl⟩, fun k b hk h => ?_⟩⟩
 ·refine get_all (Q := fun l s => SvOk P (S0 nv ps ls us O w) l s.2 (phS nv us w l)) (fun l => trivial) _ (fun e he => ?_)
  obtain ⟨j, p, l, u, g1, g2, g3, g4, g5⟩ := hmem e he
  simp only [Nat.zero_add] at g4 g5
  have hvis := parsOk_at hpk g2
  rw [Nat.zero_add] at hvis
  have vis : isHid p = false → j < nv ∧ phS nv us w j = u := fun h => by
   rw [h] at hvis
   have hj : j < nv := hvis
   exact ⟨hj, by rw [hph j (by omega)]; exact hus hj g1⟩
  have box : ∀ {t : Ty}, BoxArg P (bare O w) rg (bid nv j) t l u → BoxE (bid nv j) t.sz l e → SvOk P (S0 nv ps ls us O w) e.1 e.2.2 (phS nv us w e.1) := by
   rintro t ⟨k, o, c, e0, vs, rfl, f2, f3, f4, f5, f6, f7, f8, f9⟩ g5
   have hbb := bbS_of hn9 g1
   rcases g5 with rfl | ⟨n, v, x, hx, rfl⟩
   ·trivial
   ·have hn : n < t.sz := by have := (List.getElem?_eq_some_iff.1 hx).1; omega
    obtain ⟨d1, d2, d3⟩ := C_div (b := bid nv j) (j := n) (by omega)
    obtain ⟨v', h1, h2⟩ := f9.get hx
    have hpc : phS nv us w (C (bid nv j) n) = v' := by
     unfold phS
     rw [if_neg d3, d1, d2, hbb]
     have f2' : w.heap[k]? = some (.cells c e0) := f2
     simp [World.cell?, f2', f8 n hn, h1]
    show LfOk P (S0 nv ps ls us O w) _ x (phS nv us w (C (bid nv j) n))
    rw [hpc]
    exact LfOk.bare (S1 := bare O w) (S2 := S0 nv ps ls us O w) (lab := .pl (C (bid nv j) n) []) (lab' := .pl (C (bid nv j) n) []) (hsol l g3 x (List.mem_of_getElem? hx)) rfl (fun k hk => hk) (fun k hk => hk) h2
  cases p with
  | val ag t =>
   obtain ⟨hj, hpj⟩ := vis rfl
   have g5 : e = (j, 0, (bif ag then .agg l else .one (oneL l))) := g5
   subst g5
   obtain ⟨vs, e1, e2⟩ := g4
   show SvOk P (S0 nv ps ls us O w) j _ (phS nv us w j)
   rw [hpj]
   have e3 := LfsOk.impM (S1 := bare O w) (S2 := S0 nv ps ls us O w) (f' := fun n => .pl j (if ag then [n] else [])) (fun x hx n u hu => LfOk.bare (S1 := bare O w) (S2 := S0 nv ps ls us O w) (hsol l g3 x hx) rfl (fun k hk => hk) (fun k hk => hk) hu) e2
   cases ag with
   | true => exact ⟨vs, e1, e3⟩
   | false =>
    simp only [Bool.false_eq_true, if_false] at e1
    subst e1
    cases l with
    | nil => exact e3.elim
    | cons x l =>
     cases l with
     | nil => exact e3.1
     | cons y l => exact e3.2.elim
  | vw t h0 =>
   obtain ⟨hj, hpj⟩ := vis rfl
   have g5 : e = _ := g5
   subst g5
   obtain ⟨q1, vs, k, o, c, e0, rfl, q2, q3, q4, q5, q6⟩ := g4
   show SvOk P (S0 nv ps ls us O w) j (.agg _) (phS nv us w j)
   rw [hpj]
   have hbb : bbS nv us (bid nv h0) = (k, o) := by
    refine bbS_of hn9 ?_
    rw [List.getElem?_drop] at q2
    rw [← q2, show nv + (h0 - nv) = h0 by omega]
   have hsl := hsol l g3
   have key : ∀ (l : List Lf) (i : Nat) (vs : List Value), i + l.length < 999 → (∀ y ∈ l, solid y = true) → QsOk (VwLf P (bare O w) (fun j => c.getD (o + j) undef)) i l vs → LfsOk P (S0 nv ps ls us O w) (fun n => .pl j [n]) i (vwL (bid nv h0) i l) vs := by
    intro l
    induction l with
    | nil => intro i vs _ _ h; cases vs <;> first | trivial | exact h.elim
    | cons x l ih =>
     intro i vs hi hs h
     simp only [List.length_cons] at hi
     cases vs with
     | nil => exact h.elim
     | cons u vs =>
      have hr := ih (i + 1) vs (by omega) (fun y hy => hs y (List.mem_cons_of_mem _ hy)) h.2
      have h1 := h.1
      have h2 := hs x (by simp)
      have sh : isSh x = true → LfOk P (bare O w) .fz x u → LfOk P (S0 nv ps ls us O w) (.pl j [i]) x u := fun hx hu => by
       have : LfOk P (S0 nv ps ls us O w) .fz x u := LfOk.bare (S1 := bare O w) (S2 := S0 nv ps ls us O w) h2 rfl (fun k hk => hk) (fun k hk => hk) hu
       cases x <;> first | exact LfOk.relab (lab' := .pl j [i]) rfl this | simp [isSh] at hx
      cases x with
      | own e r xs =>
       refine ⟨⟨Nat.zero_le _, fun _ => ?_⟩, hr⟩
       have h3 : u = c.getD (o + i) undef := h1
       obtain ⟨d1, d2, d3⟩ := C_div (b := bid nv h0) (j := i) (by omega)
       show u = phS nv us w (C (bid nv h0) i)
       unfold phS
       rw [if_neg d3, d1, d2, hbb, h3]
       have q3' : w.heap[k]? = some (.cells c e0) := q3
       simp [World.cell?, q3', Array.getD_eq_getD_getElem?]
      | sc v => exact ⟨sh h1.1 h1.2, hr⟩
      | fz e r xs => exact ⟨sh h1.1 h1.2, hr⟩
      | _ => simp [solid] at h2
   exact ⟨vs, rfl, key l 0 vs (by omega) hsl q6⟩
  | ptr t t' =>
   rcases g5 with rfl | g5
   ·obtain ⟨hj, hpj⟩ := vis rfl
    obtain ⟨_, k, o, c, e0, vs, rfl, _⟩ := g4
    have hbb := bbS_of hn9 g1
    rw [bid_vis hj] at hbb
    show LfOk P (S0 nv ps ls us O w) (.pl j []) (.bp j 0 0) (phS nv us w j)
    refine ⟨Nat.zero_le _, fun _ => ?_⟩
    rw [hpj]
    show _ = Value.pointer (some ⟨(bbS nv us j).1, (bbS nv us j).2 + 0, none⟩)
    rw [hbb]
    rfl
   ·exact box g4.2 g5
  | hid t t' => exact box g4.2 g5
  | rd t =>
   obtain ⟨hj, hpj⟩ := vis rfl
   obtain ⟨x, hx, rfl⟩ := g5
   obtain ⟨x', k, o, cs, h1, h2, h3, h4, h5⟩ := g4
   rw [hx] at h1
   cases h1
   show LfOk P (S0 nv ps ls us O w) (.pl j []) (.fp t x 0) (phS nv us w j)
   rw [hpj]
   exact ⟨k, o, cs, h2, h3, Ty.rep_mono (fun k hk => hk) (fun _ _ => rfl) t x cs h4, h5⟩
  | fn F m =>
   obtain ⟨hj, hpj⟩ := vis rfl
   have g5 : e = _ := g5
   subst g5
   obtain ⟨h1, h2⟩ := g4
   show LfOk P (S0 nv ps ls us O w) (.pl j []) (.fn F _) (phS nv us w j)
   rw [hpj]
   refine ⟨us.drop nv, h1, ?_⟩
   rw [← h2]
   refine fns_start _ (fun i v hi => ?_)
   rw [List.getElem?_drop] at hi
   have hlt2 : nv + i < ps.length := by rw [← hul]; exact (List.getElem?_eq_some_iff.1 hi).1
   have hp : ps[nv + i]? = some ps[nv + i] := List.getElem?_eq_getElem hlt2
   have hh := parsOk_at hpk hp
   have hhid : isHid ps[nv + i] = true := by
    cases hc : isHid ps[nv + i] with
    | true => rfl
    | false => rw [hc] at hh; simp only [Bool.false_eq_true, if_false] at hh; omega
   obtain ⟨l', u', k1, k2⟩ := hargs.at hp
   rw [hi] at k1
   cases k1
   rw [Nat.zero_add] at k2
   cases hpp : ps[nv + i] with
   | hid t t' =>
    rw [hpp] at k2
    obtain ⟨_, k, o, c, e0, vs, rfl, _⟩ := k2
    show _ = Value.pointer (some ⟨(bbS nv us (bid nv (nv + i))).1, (bbS nv us (bid nv (nv + i))).2 + 0, none⟩)
    rw [bbS_of hn9 hi]
    rfl
   | _ => rw [hpp] at hhid; cases hhid
 ·have key := get_all (Q := fun l s => ∀ b n, l = H b → s.2 = .one (.hd n) → n < 999 ∧ ∃ c e, w.heap[(bbS nv us b).1]? = some (.cells c e (0, 0)) ∧ O (bbS nv us b).1 = .bx b ∧ (bbS nv us b).2 + n ≤ c.size ∧ ∀ j, j < n → c[(bbS nv us b).2 + j]? = some (phS nv us w (C b j)))
   (fun l b n _ h => by cases h) (startP nv 0 ps ls) (fun e he b n hb hn => by
    obtain ⟨_, k, o, c, e0, vs, _, _, k1, f2, f3, f4, f5, f6, f8, hvl⟩ := head_mem hn9 hmem hsol e he b n hb hn
    refine ⟨f6, c, e0, by rw [k1]; exact f2, by rw [k1]; exact f3, by rw [k1]; exact f5, fun i hi => ?_⟩
    obtain ⟨d1, d2, d3⟩ := C_div (b := b) (j := i) (by omega)
    have : phS nv us w (C b i) = vs.getD i undef := by
     unfold phS
     rw [if_neg d3, d1, d2, k1]
     simp [World.cell?, f2, f8 i hi]
    rw [this, k1, f8 i hi, List.getD_eq_getElem?_getD, List.getElem?_eq_getElem (by omega)]
    rfl)
  exact fun b n h => key (H b) b n rfl h
 ·have key := get_all (Q := fun l s => ∀ b n, l = H b → s.2 = .one (.hd n) → b < 2000 ∧ O (bbS nv us b).1 = .bx b ∧ (rg b).1 ≤ (bbS nv us b).2 ∧ (bbS nv us b).2 + n ≤ (rg b).1 + (rg b).2 ∧ (bbS nv us b).1 < w.heap.size)
   (fun l b n _ h => by cases h) (startP nv 0 ps ls) (fun e he b n hb hn => by
    obtain ⟨j, k, o, c, e0, vs, hj, hbj, k1, f2, f3, f4, f5, f6, f8, hvl⟩ := head_mem hn9 hmem hsol e he b n hb hn
    rw [k1, f4]
    exact ⟨by rw [hbj]; exact bid_lt hj hn9 hpl, f3, Nat.le_refl _, Nat.le_refl _, (Array.getElem?_eq_some_iff.1 f2).1⟩)
  intro b n h
  obtain ⟨h1, h2, h3, h4, h5⟩ := key (H b) b n rfl h
  exact ⟨fun _ _ => ⟨h2, h3, h4⟩, fun _ => h5, fun h6 => by omega⟩
 ·show ((us.take nv).toArray ++ Array.replicate (nt - (us.take nv).toArray.size) undef).getD t undef = phS nv us w t
  have ht' : t < nt := ht
  rw [hph t (by omega)]
  generalize us.take nv = vs
  by_cases h : t < vs.length
  ·simp [Array.getD_eq_getD_getElem?, Array.getElem?_append, h, List.getD_eq_getElem?_getD]
  ·have h2 : vs.getD t undef = undef := by rw [List.getD_eq_getElem?_getD, List.getElem?_eq_none (by omega)]; rfl
   rw [h2]
   simp [Array.getD_eq_getD_getElem?, Array.getElem?_append, h, Array.getElem?_replicate]
   split <;> rfl
 ·have : (us.take nv).length ≤ nt := by rw [List.length_take]; omega
  simp
  omega
 ·obtain ⟨c, e, f, h1⟩ := hbx k b h
  exact ⟨h, c, c, e, f, h1, h1, rfl, fun _ _ => rfl⟩
end Go.Proofs.YtgocagaijgcnmaaGreat.Vf
end

section
set_option linter.unusedVariables false
set_option linter.unusedSimpArgs false
namespace Go.Proofs.YtgocagaijgcnmaaGreat.Vf
open Go
attribute [local irreducible] C H
section
variable {X : Cx} {S S1 S2 : Sit} {a : Act} {E : En} {A : Ab}
theorem kept_ok {l0 : List Lf} (K : Okay X S a) (hg : S.g = get A) (K1 : Okay X S1 a) (E1 : Eased X S S1) (P1 : ∀ p v, Lf.al p v ∈ l0 → ∀ n e r, ∀ xs : List (Ty.den r), get A p = (n, .one (.own e r xs)) → n = v → S1.g p = (n, .one (.fz e r xs)))
  (f : Nat → Lab) (hf : ∀ n k, S.O k = f n → S1.O k = f n) : ∀ (l : List Lf), (∀ x ∈ l, x ∈ l0) → ∀ j us, LfsOk X.P S f j l us → LfsOk X.P S1 f j (l.map (kept A)) us
 | [], _, _, [], _ => trivial
 | [], _, _, _ :: _, h => h.elim
 | _ :: _, _, _, [], h => h.elim
 | x :: l, hm, j, u :: us, h => by
  refine ⟨?_, kept_ok K hg K1 E1 P1 f hf l (fun z hz => hm z (List.mem_cons_of_mem _ hz)) (j + 1) us h.2⟩
  have h1 : LfOk X.P S (f j) x u := h.1
  cases x with
  | al p v =>
   show LfOk X.P S1 (f j) (calm (seen A (.al p v))) u
   simp only [seen]
   split
   ·rename_i n e r' xs hp
    cases hb : Nat.beq n v with
    | false => exact trivial
    | true =>
     have hnv : n = v := by simpa using hb
     subst hnv
     rw [cond_true]
     show LfOk X.P S1 (f j) (.fz e r' xs) u
     have h2 := P1 p n (hm _ (by simp)) n e r' xs hp rfl
     have h3 := K1.at_ p
     rw [h2, E1.ph, ← h1.2 (by rw [hg, hp])] at h3
     exact LfOk.relab (lab := .pl p []) rfl h3
   ·rename_i n e r' xs hp
    cases hb : Nat.beq n v with
    | false => exact trivial
    | true =>
     have hnv : n = v := by simpa using hb
     subst hnv
     rw [cond_true]
     show LfOk X.P S1 (f j) (.fz e r' xs) u
     have h3 := K.at_ p
     rw [hg, hp, ← h1.2 (by rw [hg, hp])] at h3
     have h4 : LfOk X.P S (.pl p []) (.fz e r' xs) u := h3
     exact (LfOk.relab (lab' := f j) rfl h4).later E1.later (fun k hk => ⟨hf j k hk, by rw [E1.w]⟩)
   ·exact trivial
  | _ => exact h1.later E1.later (fun k hk => ⟨hf j k hk, by rw [E1.w]⟩)
theorem kept_noOwn : ∀ l : List Lf, ownIn l = false → ownIn (l.map (kept A)) = false
 | [], _ => rfl
 | x :: l, h => by
  have hc : ∀ z : Lf, ownIn (calm z :: l.map (kept A)) = ownIn (l.map (kept A)) := by intro z; cases z <;> rfl
  cases x with
  | own e r xs => simp [ownIn] at h
  | opn e r xs i b v => simp [ownIn] at h
  | al p v => rw [List.map_cons]; exact (hc _).trans (kept_noOwn l (by simpa [ownIn] using h))
  | _ => exact kept_noOwn l (by simpa [ownIn] using h)
theorem rep_of_noOwn {P : Program} {S : Sit} {f : Nat → Lab} : ∀ {l : List Lf} {j : Nat} {us : List Value}, storable l = true → ownIn l = false → LfsOk P S f j l us → All2 (LfRep P (fun k => S.O k = .fz) S.w) l us
 | [], _, [], _, _, _ => .nil
 | [], _, _ :: _, _, _, h => h.elim
 | _ :: _, _, [], _, _, h => h.elim
 | x :: l, j, u :: us, hs, ho, h => by
  cases x with
  | sc v => exact .cons h.1 (rep_of_noOwn (by simpa [storable] using hs) (by simpa [ownIn] using ho) h.2)
  | fz e r xs => exact .cons h.1 (rep_of_noOwn (by simpa [storable] using hs) (by simpa [ownIn] using ho) h.2)
  | own e r xs => simp [ownIn] at ho
  | _ => simp [storable] at hs
theorem res_val (hE : EnOk X E) (K : Okay X S a) (hg : S.g = get A) {x : Nat} (hx : Nat.blt x E.nt = true) {k : RK} {t : Ty} {l : List Lf} {us : List Up} (i : Nat) (hk : k ≠ .ptr) (h : resOf E.np A k t (.tmp x) (get A x).2 = some (l, us)) {y : t.den} (hy : mkW t l = some y) :
  ∃ S', Okay X S' a ∧ S'.g = get (ups A us) ∧ GivenX X S S' (fun n _ => n = i) ∧
   ∃ vs, (if isAggK k then a.eval (.tmp x) = .agg vs.toArray else vs = [a.eval (.tmp x)]) ∧ LfsOk X.P S' (fun n => .tm i (if isAggK k then [n] else [])) 0 (leaves t y) vs := by
 have hop : opT E 0 A (.tmp x) = some (get A x).2 := by show (bif Nat.blt x E.nt then some (get A x).2 else none) = _; rw [hx]; rfl
 have h' : (bif formOk (isAggK k) (get A x).2 then giveT A (.tmp x) (get A x).2 t else none) = some (l, us) := by
  unfold resOf at h
  cases k <;> first | exact h | exact absurd rfl hk
 cases hq : formOk (isAggK k) (get A x).2 with
 | false => rw [hq] at h'; simp at h'
 | true =>
  rw [hq, cond_true] at h'
  obtain ⟨S1, K1, g1, G, h2, _, vs, hsh, hl⟩ := giveT_ok hE K hg (.inl hop) (form_nt hq) h' i
  have hp := form_of hq
  simp only [hp] at hl
  exact ⟨S1, K1, g1, G, vs, form_shape hq hsh, mkW_lfsG (giveT_fits h') hy hl⟩
theorem Okay.unbox (K : Okay X S a) (hb0 : ∀ k b, X.O0 k = .bx b → b < X.np ∨ 1500 ≤ b) {b n : Nat} (hh : (S.g (H b)).2 = .one (.hd n)) (hnp : X.np ≤ b) (hb1 : b < 1000) (j : Nat) :
  Okay X { S with O := fun k => if k = (S.bb b).1 then .tm j [] else S.O k, g := upd S.g (H b) ((S.g (H b)).1 + 1, .one .dead) } a ∧
  Later S { S with O := fun k => if k = (S.bb b).1 then .tm j [] else S.O k, g := upd S.g (H b) ((S.g (H b)).1 + 1, .one .dead) } := by
 obtain ⟨hn, c, e, e1, e2, e3, e4⟩ := K.box b n hh
 have hnew : X.w0.heap.size ≤ (S.bb b).1 := by
  rcases Nat.lt_or_ge (S.bb b).1 X.w0.heap.size with h | h
  ·have := hb0 _ _ ((K.rgn b n hh).1 (by omega) h).1
   omega
  ·exact h
 have keep : ∀ k o, S.O k = o → o ≠ .bx b → (if k = (S.bb b).1 then Lab.tm j [] else S.O k) = o := fun k o' h ho => by
  rw [if_neg (fun e => ho (by rw [← h, e, e2]))]
  exact h
 have hbk : ∀ b' n', b' ≠ b → (S.g (H b')).2 = .one (.hd n') → (S.bb b').1 ≠ (S.bb b).1 := fun b' n' hne hb' e5 => by
  obtain ⟨_, _, _, _, g4, _⟩ := K.box b' n' hb'
  rw [e5, e2] at g4
  simp only [Lab.bx.injEq] at g4
  exact hne g4.symm
 have gne : ∀ p, p ≠ H b → ({ S with O := fun k => if k = (S.bb b).1 then .tm j [] else S.O k, g := upd S.g (H b) ((S.g (H b)).1 + 1, .one .dead) } : Sit).g p = S.g p := fun p h => upd_ne _ _ h
 have gsm : ({ S with O := fun k => if k = (S.bb b).1 then .tm j [] else S.O k, g := upd S.g (H b) ((S.g (H b)).1 + 1, .one .dead) } : Sit).g (H b) = ((S.g (H b)).1 + 1, .one .dead) := upd_same _ _ _
 have L : Later S { S with O := fun k => if k = (S.bb b).1 then .tm j [] else S.O k, g := upd S.g (H b) ((S.g (H b)).1 + 1, .one .dead) } := by
  refine ⟨fun p => ?_, fun _ _ => rfl, fun p v e r xs' hp hv => ?_, fun _ _ => rfl, fun k hk => ⟨keep k _ hk (by simp), rfl⟩, fun b' n' hv hb' hO => ?_, fun p hv hd => ?_⟩
  ·by_cases h : p = H b
   ·subst h; rw [gsm]; exact Nat.le_succ _
   ·rw [gne p h]; exact Nat.le_refl _
  ·by_cases h : p = H b
   ·subst h; rw [gsm] at hp; cases hp
   ·rw [gne p h] at hp; exact ⟨xs', hp, rfl⟩
  ·have hne : b' ≠ b := fun e => by subst e; rw [gsm] at hv; simp at hv
   refine ⟨by rw [gne _ (fun e => hne (H_inj e))]; exact hb', ?_, fun c e f h => ⟨c, h, rfl, fun _ _ => rfl⟩⟩
   show (if (S.bb b').1 = (S.bb b).1 then Lab.tm j [] else S.O (S.bb b').1) = _
   rw [if_neg (hbk b' n' hne hb')]
   exact hO
  ·have h : p ≠ H b := fun e => by subst e; rw [hh] at hd; simp [deepS, deepL] at hd
   rw [gne p h]
   exact ⟨hd, fun _ _ _ h => h, fun k hk => ⟨.inl (keep k _ hk (by simp)), rfl⟩⟩
 have F := K.fr
 have hd : ∀ b' n', (({ S with O := fun k => if k = (S.bb b).1 then .tm j [] else S.O k, g := upd S.g (H b) ((S.g (H b)).1 + 1, .one .dead) } : Sit).g (H b')).2 = .one (.hd n') → b' ≠ b ∧ (S.g (H b')).2 = .one (.hd n') := fun b' n' hb' => by
  have hne : b' ≠ b := fun e => by subst e; rw [gsm] at hb'; cases hb'
  exact ⟨hne, by rw [gne _ (fun e => hne (H_inj e))] at hb'; exact hb'⟩
 refine ⟨⟨K.nt, fun k hk => ?_, fun l => ?_, fun b' n' hb' => ?_, fun b' n' hb' => K.rgn b' n' (hd b' n' hb').2, K.sl, K.sz, K.df, ⟨F.os, F.tape, F.out, F.size, fun k hk h0 => ?_, fun k hk h0 => ?_, fun k b' hk h0 => ?_⟩⟩, L⟩
 ·by_cases h : k = (S.bb b).1
  ·exact K.lt k (by rw [h, e2]; simp)
  ·have hk' : (if k = (S.bb b).1 then Lab.tm j [] else S.O k) ≠ .no := hk
   rw [if_neg h] at hk'
   exact K.lt k hk'
 ·by_cases h : l = H b
  ·subst h; rw [gsm]; trivial
  ·rw [gne l h]
   exact (K.at_ l).later L (fun p k hk => ⟨keep k _ hk (by simp), rfl⟩)
 ·obtain ⟨hne, hb2⟩ := hd b' n' hb'
  obtain ⟨g1, c1, g2, g3, g4, g5, g6⟩ := K.box b' n' hb2
  exact ⟨g1, c1, g2, g3, keep _ _ g4 (by simp [hne]), g5, g6⟩
 ·obtain ⟨f1, f2⟩ := F.no k hk h0
  exact ⟨keep k _ f1 (by simp), f2⟩
 ·obtain ⟨f1, f2⟩ := F.fz k hk h0
  exact ⟨keep k _ f1 (by simp), f2⟩
 ·obtain ⟨f1, rest⟩ := F.bx k b' hk h0
  refine ⟨?_, rest⟩
  show (if k = (S.bb b).1 then Lab.tm j [] else S.O k) = _
  rw [if_neg (by omega)]
  exact f1
theorem res_ptr (hE : EnOk X E) (K : Okay X S a) (hg : S.g = get A) (hb0 : ∀ k b, X.O0 k = .bx b → b < X.np ∨ 1500 ≤ b) {x : Nat} (hx : Nat.blt x E.nt = true) {t : Ty} {l : List Lf} {us : List Up} (i : Nat) (h : resOf E.np A .ptr t (.tmp x) (get A x).2 = some (l, us)) {y : t.den} (hy : mkW t l = some y) :
  ∃ S', Okay X S' a ∧ S'.g = get (ups A us) ∧ S'.w = S.w ∧ Later S S' ∧ (∀ n q z v, LfOk X.P S (.tm n q) z v → LfOk X.P S' (.tm n q) z v) ∧ (∀ n q k, S.O k = .tm n q → S'.O k = .tm n q) ∧ ResOk X.P S' X.w0.heap.size i .ptr (leaves t y) (a.eval (.tmp x)) := by
 have hop : opT E 0 A (.tmp x) = some (get A x).2 := by show (bif Nat.blt x E.nt then some (get A x).2 else none) = _; rw [hx]; rfl
 unfold resOf at h
 simp only at h
 split at h
 ·rename_i b v hs
  rw [hs] at hop
  split at h
  ·rename_i n m hp
   cases hq : (Nat.beq n v && (Nat.ble E.np b && Nat.blt b 1000) && noOw t && Nat.beq m t.sz && Nat.blt m 999 && storable ((cellsOf A b 0 m).map (kept A))) with
   | false => rw [hq] at h; simp at h
   | true =>
    rw [hq] at h
    simp only [cond_true, Option.some.injEq, Prod.mk.injEq] at h
    obtain ⟨rfl, rfl⟩ := h
    simp only [Bool.and_eq_true] at hq
    obtain ⟨⟨⟨⟨⟨q1, q2, q7⟩, q3⟩, q4⟩, q5⟩, q6⟩ := hq
    have hnv : n = v := by simpa using q1
    have hm : m = t.sz := Nat.eq_of_beq_eq_true q4
    have hlt : m < 999 := Nat.le_of_ble_eq_true q5
    have hnp : X.np ≤ b := hE.np ▸ (Nat.le_of_ble_eq_true q2)
    have hb1 : b < 1000 := Nat.le_of_ble_eq_true q7
    subst hnv
    obtain ⟨pl, hl⟩ := opT_ex hE K hg hop
    have hlf : LfOk X.P S (.pl pl []) (.bp b n 0) (a.eval (.tmp x)) := hl
    have hu := hlf.2 (by rw [hg, hp])
    obtain ⟨S1, K1, g1, E1, F1, P1⟩ := costs_ok (X := X) (a := a) (A := A) (cellsOf A b 0 m) K hg (fun p => .inl rfl)
    obtain ⟨c1, c2, c3⟩ := cellsOf_ok K hg b m 0
    have hkept := kept_ok K hg K1 E1 P1 (fun _ => .fz) (fun n k hk => (E1.later.fz k hk).1) (cellsOf A b 0 m) (fun _ h => h) 0 _ (c3 (fun _ => .fz) 0)
    have hrep := rep_of_noOwn q6 (kept_noOwn _ c2) hkept
    have hh : (S.g (H b)).2 = .one (.hd m) := by rw [hg, hp]
    have hh1 : (S1.g (H b)).2 = .one (.hd m) := by
     rcases F1 (H b) with h1 | ⟨n', e, r', xs, h1, h2⟩
     ·rw [h1, hp]
     ·rw [hp] at h1; cases h1
    obtain ⟨_, c, e, e1, e2, e3, e4⟩ := K1.box b m hh1
    have hnew : X.w0.heap.size ≤ (S1.bb b).1 := by
     rcases Nat.lt_or_ge (S1.bb b).1 X.w0.heap.size with h | h
     ·have := hb0 _ _ ((K1.rgn b m hh1).1 (by omega) h).1
      omega
     ·exact h
    obtain ⟨K2, L2⟩ := K1.unbox hb0 hh1 hnp hb1 (i + 500)
    have hll : (leaves t y).length = m := by rw [leaves_len, hm]
    have htm : ∀ n q k, S1.O k = .tm n q → (if k = (S1.bb b).1 then Lab.tm (i + 500) [] else S1.O k) = .tm n q := fun n q k hk => by
     rw [if_neg (fun e => by rw [e, e2] at hk; cases hk)]
     exact hk
    refine ⟨_, K2, ?_, E1.w, E1.later.trans L2, fun n q z v hz => (hz.later E1.later (fun k hk => ⟨E1.tm n q k hk, by rw [E1.w]⟩)).later L2 (fun k hk => ⟨htm n q k hk, rfl⟩), fun n q k hk => htm n q k (E1.tm n q k hk), (S1.bb b).1, (S1.bb b).2, c, e, (List.range m).map (fun j => S.ph (C b (0 + j))), ?_, e1, hnew, if_pos rfl, by rw [hll]; exact e3, by rw [hll]; exact hlt, fun j hj => ?_, ?_⟩
    ·show upd S1.g (H b) _ = _
     rw [ups_append]
     show _ = get (up (ups A (costs A (cellsOf A b 0 m))) ⟨H b, false, .one .dead⟩)
     rw [get_up, ← g1]
     rfl
    ·rw [E1.bb]; exact hu
    ·rw [hll] at hj
     rw [e4 j hj, E1.ph]
     simp [hj]
    ·exact shared_arg (G := fun k => S1.O k = .fz) (fun k hk => (L2.fz k hk).1) hy q3 hrep _ _
  ·cases h
 ·cases h
end
end Go.Proofs.YtgocagaijgcnmaaGreat.Vf
end

section
set_option linter.unusedVariables false
set_option linter.unusedSimpArgs false
namespace Go.Proofs.YtgocagaijgcnmaaGreat.Vf
open Go
attribute [local irreducible] C H
theorem run_loadVar {P : Program} {w : World} {T : TypeId} {t : TI} {k o' : Nat} {cs : List Value} (ht : TOk P T t) (ha : t.ag = true) (hc : CellsAt w k o' cs) (hl : cs.length = t.ty.sz) :
  (loadVar T ⟨k, o', none⟩).run P w = .ok (.agg cs.toArray) w := by
 obtain ⟨d, hd, hagg⟩ := tok_agg ht
 rw [ha] at hagg
 have hc' : ∀ j v, cs[j]? = some v → w.cell? (Addr.add ⟨k, o', none⟩ j) = some v := fun j v hj => by rw [add_none]; exact hc j v hj
 have hlc := run_loadCells_list (P := P) w ⟨k, o', none⟩ cs hc'
 simp only [Sem.run_bind, Sem.run_pure, Result.andThen_ok, loadVar, isAgg_of hd hagg, if_true, info_size (tok_size ht), ← hl, hlc]
def resRun (a : Act) : ResultVar → Sem Value
 | .tmp t => pure (a.tmps.getD t undef)
 | .cell x t => do loadVar t (← asAddr (a.tmps.getD x undef))
section
variable {X : Cx} {S S1 S2 : Sit} {a : Act} {E : En} {A : Ab}
theorem res_cell (hE : EnOk X E) (K : Okay X S a) (hg : S.g = get A) {x : Nat} (hx : Nat.blt x E.nt = true) {T : TypeId} {ti : TI} (hT : E.ti T = some ti) (hag : ti.ag = true) {t : Ty} (hsz : ti.ty.sz = t.sz) {l : List Lf} {us : List Up} (i : Nat)
  (h : resCell A t (get A x).2 = some (l, us)) {y : t.den} (hy : mkW t l = some y) :
  ∃ S', Okay X S' a ∧ S'.g = get (ups A us) ∧ GivenX X S S' (fun n _ => n = i) ∧
   ∃ vs, (resRun a (.cell x T)).run X.P S.w = .ok (.agg vs.toArray) S.w ∧ LfsOk X.P S' (fun n => .tm i [n]) 0 (leaves t y) vs := by
 have hop : opT E 0 A (.tmp x) = some (get A x).2 := by show (bif Nat.blt x E.nt then some (get A x).2 else none) = _; rw [hx]; rfl
 unfold resCell at h
 split at h
 ·rename_i b v hs
  rw [hs] at hop
  obtain ⟨pl, hl⟩ := opT_ex hE K hg hop
  have hlf : LfOk X.P S (.pl pl []) (.bp b v 0) (a.eval (.tmp x)) := hl
  obtain ⟨g1, g2, _, _, g5, S1, K1, g6, G, hls⟩ := giveB_ok K hg h i
  have hu := hlf.2 g1
  obtain ⟨hm9, c, e, e1, e2, e3, e4⟩ := K.box b _ g2
  have hcells : CellsAt S.w (S.bb b).1 (S.bb b).2 ((List.range t.sz).map fun i => S.ph (C b (0 + i))) := by
   intro j u hj
   have hj' : j < t.sz := by
    have := (List.getElem?_eq_some_iff.1 hj).1
    simpa using this
   have : u = S.ph (C b j) := by simpa [hj'] using hj.symm
   rw [this]
   simp [World.cell?, e1, e4 j hj']
  have hrun : (resRun a (.cell x T)).run X.P S.w = .ok (.agg ((List.range t.sz).map fun i => S.ph (C b (0 + i))).toArray) S.w := by
   have hu' : a.tmps.getD x undef = .pointer (some ⟨(S.bb b).1, (S.bb b).2 + 0, none⟩) := hu
   unfold resRun
   simp only [hu', asAddr, Sem.run_bind, Sem.run_pure, Result.andThen_ok, Nat.add_zero]
   exact run_loadVar (hE.ti T ti hT) hag hcells (by rw [hsz]; simp)
  exact ⟨S1, K1, g6, G, _, hrun, mkW_lfsG (giveB_fits h) hy hls⟩
 ·cases h
def Kp (i n : Nat) : Prop := n < i ∨ 500 ≤ n
theorem ResOk.keep {P : Program} {n0 i : Nat} {k : RK} {l : List Lf} {u : Value} (hw : S2.w = S1.w) (hi : ∀ q z v, LfOk P S1 (.tm i q) z v → LfOk P S2 (.tm i q) z v) (ho : ∀ q k, S1.O k = .tm (i + 500) q → S2.O k = .tm (i + 500) q) (h : ResOk P S1 n0 i k l u) : ResOk P S2 n0 i k l u := by
 cases k with
 | one => exact LfsOk.impM (fun x hx n u h => hi _ _ u h) h
 | agg =>
  obtain ⟨us, e, h⟩ := h
  exact ⟨us, e, h.impM (fun x hx n u h => hi _ _ u h)⟩
 | ptr =>
  obtain ⟨k, o, c, e, us, h1, h2, h3, h4, h5, h6, h7, h8⟩ := h
  exact ⟨k, o, c, e, us, h1, by rw [hw]; exact h2, h3, ho _ _ h4, h5, h6, h7, h8.impM (fun x hx n u h => hi _ _ u h)⟩
theorem resL_ok (hE : EnOk X E) (hb0 : ∀ k b, X.O0 k = .bx b → b < X.np ∨ 1500 ≤ b) : ∀ (rs : List (RK × Ty)) (rv : List ResultVar) {S : Sit} {A : Ab} {ls ls' : List (List Lf)} {us : List Up} (i : Nat), Okay X S a → S.g = get A → i + rs.length < 500 → resL E A rs rv = some (ls, us) → Mk (rs.map Prod.snd) ls ls' →
  ∃ S' vs, Okay X S' a ∧ S'.g = get (ups A us) ∧ S'.w = S.w ∧ Later S S' ∧ (∀ n q z v, Kp i n → LfOk X.P S (.tm n q) z v → LfOk X.P S' (.tm n q) z v) ∧ (∀ n q k, Kp i n → S.O k = .tm n q → S'.O k = .tm n q) ∧ ResAll X.P S' X.w0.heap.size i rs ls' vs ∧ All2 (fun r v => (resRun a r).run X.P S.w = .ok v S.w) rv vs
 | [], [], S, A, ls, ls', us, i, K, hg, _, h, hm => by
  simp only [resL, Option.some.injEq, Prod.mk.injEq] at h
  obtain ⟨rfl, rfl⟩ := h
  refine ⟨S, [], K, hg, rfl, .refl S, fun _ _ _ _ _ h => h, fun _ _ _ _ h => h, ?_, .nil⟩
  cases ls' with
  | nil => rfl
  | cons => exact hm.elim
 | [], _ :: _, S, A, ls, ls', us, i, K, hg, _, h, hm => by simp [resL] at h
 | (k, t) :: ks, [], S, A, ls, ls', us, i, K, hg, _, h, hm => by cases k <;> simp [resL] at h
 | (k, t) :: ks, r :: rs, S, A, ls, ls', us, i, K, hg, hi, h, hm => by
  simp only [List.length_cons] at hi
  have rest : ∀ {l : List Lf} {u : List Up} {ls2 : List (List Lf)} {us2 : List Up} {S1 : Sit} {y : t.den} {v : Value}, mkW t l = some y → Okay X S1 a → S1.g = get (ups A u) → S1.w = S.w → Later S S1 → (∀ n q z v, n ≠ i → LfOk X.P S (.tm n q) z v → LfOk X.P S1 (.tm n q) z v) → (∀ n q k, n ≠ i → S.O k = .tm n q → S1.O k = .tm n q) →
    ResOk X.P S1 X.w0.heap.size i k (leaves t y) v → (resRun a r).run X.P S.w = .ok v S.w → resL E (ups A u) ks rs = some (ls2, us2) → (∃ ls2', ls' = leaves t y :: ls2' ∧ Mk (ks.map Prod.snd) ls2 ls2') → us = u ++ us2 →
    ∃ S' vs, Okay X S' a ∧ S'.g = get (ups A us) ∧ S'.w = S.w ∧ Later S S' ∧ (∀ n q z v, Kp i n → LfOk X.P S (.tm n q) z v → LfOk X.P S' (.tm n q) z v) ∧ (∀ n q k, Kp i n → S.O k = .tm n q → S'.O k = .tm n q) ∧ ResAll X.P S' X.w0.heap.size i ((k, t) :: ks) ls' vs ∧ All2 (fun r v => (resRun a r).run X.P S.w = .ok v S.w) (r :: rs) vs := by
   intro l u ls2 us2 S1 y v hy K1 g1 w1 L1 t1 o1 hres hrun hr2 hmk hus
   obtain ⟨ls2', rfl, hmk⟩ := hmk
   subst hus
   obtain ⟨S', vs, K', g', w', L', t', o', hall, hruns⟩ := resL_ok hE hb0 ks rs (i + 1) K1 g1 (by omega) hr2 hmk
   have hk1 : ∀ n, Kp i n → Kp (i + 1) n ∧ n ≠ i := fun n h => by unfold Kp at *; omega
   refine ⟨S', v :: vs, K', by rw [ups_append]; exact g', w'.trans w1, L1.trans L', fun n q z v hn hz => t' n q z v (hk1 n hn).1 (t1 n q z v (hk1 n hn).2 hz), fun n q k hn hk => o' n q k (hk1 n hn).1 (o1 n q k (hk1 n hn).2 hk), ⟨hres.keep w' (fun q z v => t' i q z v (by unfold Kp; omega)) (fun q k => o' _ q k (by unfold Kp; omega)), hall⟩, .cons hrun ?_⟩
   rw [w1] at hruns
   exact hruns
  cases ls' with
  | nil => cases ls <;> exact hm.elim
  | cons l' ls2' =>
   cases ls with
   | nil => exact hm.elim
   | cons l ls2 =>
    obtain ⟨⟨y, hy, rfl⟩, hmk⟩ := hm
    cases r with
    | tmp x =>
     have h' : (bif Nat.blt x E.nt then (match resOf E.np A k t (.tmp x) (get A x).2 with
      | some (l, u) => (match resL E (ups A u) ks rs with
       | some (ls, us) => some (l :: ls, u ++ us)
       | none => none)
      | none => none) else none) = some (l :: ls2, us) := by
      unfold resL at h
      cases k <;> exact h
     cases hx : Nat.blt x E.nt with
     | false => rw [hx] at h'; simp at h'
     | true =>
      rw [hx, cond_true] at h'
      split at h'
      ·rename_i l1 u1 hr1
       split at h'
       ·rename_i l2 u2 hr2
        simp only [Option.some.injEq, Prod.mk.injEq, List.cons.injEq] at h'
        obtain ⟨⟨rfl, rfl⟩, rfl⟩ := h'
        by_cases hk : k = .ptr
        ·subst hk
         obtain ⟨S1, K1, g1, w1, L1, t1, o1, hres⟩ := res_ptr hE K hg hb0 hx i hr1 hy
         exact rest hy K1 g1 w1 L1 (fun n q z v _ => t1 n q z v) (fun n q k _ => o1 n q k) hres rfl hr2 ⟨ls2', rfl, hmk⟩ rfl
        ·obtain ⟨S1, K1, g1, G, vs, e1, e2⟩ := res_val hE K hg hx i hk hr1 hy
         refine rest hy K1 g1 G.w G.later (fun n q z v hn => G.tms n q z v hn) (fun n q k hn => G.tm n q k hn) ?_ (v := a.eval (.tmp x)) rfl hr2 ⟨ls2', rfl, hmk⟩ rfl
         cases k with
         | ptr => exact absurd rfl hk
         | one =>
          simp only [isAggK, Bool.false_eq_true, if_false] at e1 e2
          subst e1
          exact e2
         | agg =>
          simp only [isAggK, if_true] at e1 e2
          exact ⟨vs, e1, e2⟩
       ·cases h'
      ·cases h'
    | cell x T =>
     cases k with
     | one => simp [resL] at h
     | ptr => simp [resL] at h
     | agg =>
      unfold resL at h
      cases hx : Nat.blt x E.nt with
      | false => rw [hx] at h; simp at h
      | true =>
       cases hT : E.ti T with
       | none => rw [hT] at h; simp at h
       | some ti =>
        cases hag : ti.ag && Nat.beq ti.ty.sz t.sz with
        | false => rw [hT, hx] at h; simp [hag] at h
        | true =>
         rw [hT, hx] at h
         simp only [hag, Bool.and_self, cond_true] at h
         simp only [Bool.and_eq_true] at hag
         split at h
         ·rename_i l1 u1 hr1
          split at h
          ·rename_i l2 u2 hr2
           simp only [Option.some.injEq, Prod.mk.injEq, List.cons.injEq] at h
           obtain ⟨⟨rfl, rfl⟩, rfl⟩ := h
           obtain ⟨S1, K1, g1, G, vs, hrun, e2⟩ := res_cell hE K hg hx hT hag.1 (Nat.eq_of_beq_eq_true hag.2) i hr1 hy
           exact rest hy K1 g1 G.w G.later (fun n q z v hn => G.tms n q z v hn) (fun n q k hn => G.tm n q k hn) ⟨vs, rfl, e2⟩ hrun hr2 ⟨ls2', rfl, hmk⟩ rfl
          ·cases h
         ·cases h
def szs : List Par → Bool
 | [] => true
 | .ptr t t' :: ps => Nat.beq t.sz t'.sz && szs ps
 | .hid t t' :: ps => Nat.beq t.sz t'.sz && szs ps
 | _ :: ps => szs ps
theorem bid_pb {X : Cx} {i n : Nat} (hn : X.np ≤ 1000) (h : i < n) (h2 : n - X.np < 500) : X.pb (bid X.np i) := by
 unfold Cx.pb bid
 cases h3 : Nat.blt i X.np with
 | true =>
  have h1 : i < X.np := Nat.le_of_ble_eq_true h3
  rw [cond_true]
  omega
 | false => rw [cond_false]; omega
theorem ptrL_ok (hE : EnOk X E) (hnp : X.np ≤ 1000) (hu : ∀ k b, X.O0 k = .bx b → ∀ k', X.O0 k' = .bx b → k' = k) {hs : List Value} : ∀ (ps : List Par) {S : Sit} {A : Ab} {ls ls' la : List (List Lf)} {us : List Value} (i : Nat), Okay X S a → S.g = get A → i + ps.length - X.np < 500 → szs ps = true → ptrL X.np A i ps = some ls → Mk (ptrOuts ps) ls ls' →
  ArgsOk X.P (bare X.O0 X.w0) X.rg X.np hs i ps la us →
  ∃ S', Okay X S' a ∧ S'.w = S.w ∧ Later S S' ∧ (∀ n q z v, n < 1001 + i → LfOk X.P S (.tm n q) z v → LfOk X.P S' (.tm n q) z v) ∧ (∀ n q k, n < 1001 + i → S.O k = .tm n q → S'.O k = .tm n q) ∧ Backs X.P S' i ps us ls'
 | [], S, A, ls, ls', la, us, i, K, hg, hn, hz, h, hm, ha => by
  refine ⟨S, K, rfl, .refl S, fun _ _ _ _ _ h => h, fun _ _ _ _ h => h, ?_⟩
  simp only [ptrL, Option.some.injEq] at h
  subst h
  cases ls' with
  | nil => rfl
  | cons => exact hm.elim
 | p :: ps, S, A, ls, ls', la, us, i, K, hg, hn, hz, h, hm, ha => by
  cases la with
  | nil => exact ha.elim
  | cons l0 la =>
   cases us with
   | nil => exact ha.elim
   | cons u us =>
    simp only [List.length_cons] at hn
    obtain ⟨ha1, ha2⟩ := ha
    have skip : szs ps = true → ptrL X.np A (i + 1) ps = some ls → Mk (ptrOuts ps) ls ls' → (∀ {S' : Sit}, Backs X.P S' (i + 1) ps us ls' → Backs X.P S' i (p :: ps) (u :: us) ls') →
      ∃ S', Okay X S' a ∧ S'.w = S.w ∧ Later S S' ∧ (∀ n q z v, n < 1001 + i → LfOk X.P S (.tm n q) z v → LfOk X.P S' (.tm n q) z v) ∧ (∀ n q k, n < 1001 + i → S.O k = .tm n q → S'.O k = .tm n q) ∧ Backs X.P S' i (p :: ps) (u :: us) ls' := by
     intro hz h hm hb
     obtain ⟨S', K', w', L', t', o', b'⟩ := ptrL_ok hE hnp hu ps (i + 1) K hg (by omega) hz h hm ha2
     exact ⟨S', K', w', L', fun n q z v hn => t' n q z v (by omega), fun n q k hn => o' n q k (by omega), hb b'⟩
    have box : ∀ {t t' : Ty}, (Nat.beq t.sz t'.sz && szs ps) = true → BoxArg X.P (bare X.O0 X.w0) X.rg (bid X.np i) t l0 u → (match ptrL1 A (bid X.np i) t' with
      | some (l, us) => (match ptrL X.np (ups A us) (i + 1) ps with
       | some ls => some (l :: ls)
       | none => none)
      | none => none) = some ls → Mk (t' :: ptrOuts ps) ls ls' → (∀ {S' : Sit} {l' : List Lf} {ls2 : List (List Lf)}, ls' = l' :: ls2 → BackOk X.P S' i t' l' u → Backs X.P S' (i + 1) ps us ls2 → Backs X.P S' i (p :: ps) (u :: us) ls') →
      ∃ S', Okay X S' a ∧ S'.w = S.w ∧ Later S S' ∧ (∀ n q z v, n < 1001 + i → LfOk X.P S (.tm n q) z v → LfOk X.P S' (.tm n q) z v) ∧ (∀ n q k, n < 1001 + i → S.O k = .tm n q → S'.O k = .tm n q) ∧ Backs X.P S' i (p :: ps) (u :: us) ls' := by
     intro t t' hz ha1 h hm hb
     simp only [Bool.and_eq_true] at hz
     have hsz : t.sz = t'.sz := Nat.eq_of_beq_eq_true hz.1
     split at h
     ·rename_i l1 us1 hgive
      split at h
      ·rename_i ls2 h2
       cases h
       cases ls' with
       | nil => exact hm.elim
       | cons l' ls2' =>
        obtain ⟨⟨y, hy, rfl⟩, hmk⟩ := hm
        obtain ⟨g1, g2, _, _, g5, S1, K1, g6, G, hls⟩ := giveB_ok K hg hgive (1001 + i)
        obtain ⟨S2, K2, w2, L2, t2, o2, b2⟩ := ptrL_ok hE hnp hu ps (i + 1) K1 g6 (by omega) hz.2 h2 hmk ha2
        obtain ⟨hm9, c, e, e1, e2, e3, e4⟩ := K.box _ _ g2
        obtain ⟨r1, r2, _⟩ := K.rgn _ _ g2
        have hpb : X.pb (bid X.np i) := bid_pb (n := i + (ps.length + 1)) hnp (by omega) hn
        obtain ⟨r3, r4, r5⟩ := r1 (bid_lt (n := i + (ps.length + 1)) (by omega) hnp hn) (r2 hpb)
        obtain ⟨k, o, c0, e0, vs, rfl, f2, f3, f4, f5, f6, f7, f8, f9⟩ := ha1
        have hk : (S.bb (bid X.np i)).1 = k := hu k _ f3 _ r3
        rw [f4] at r4 r5
        simp only at r4 r5
        have ho : (S.bb (bid X.np i)).2 = o := by omega
        refine ⟨S2, K2, w2.trans G.w, G.later.trans L2, fun n q z v hn hz => t2 n q z v (by omega) (G.tms n q z v (by omega) hz), fun n q k hn hk => o2 n q k (by omega) (G.tm n q k (by omega) hk), hb rfl ⟨k, o, c, e, (List.range t'.sz).map (fun j => S.ph (C (bid X.np i) (0 + j))), rfl, ?_, leaves_len t' y, fun j hj => ?_, ?_⟩ b2⟩
        ·rw [w2, G.w, ← hk]; exact e1
        ·rw [← ho, e4 j hj]
         simp [hj]
        ·exact (mkW_lfsG (giveB_fits hgive) hy hls).impM (fun z hz n u hu => t2 _ _ z u (by omega) hu)
      ·cases h
     ·cases h
    cases p with
    | val ag t => exact skip hz h hm (fun h => h)
    | vw t h0 => exact skip hz h hm (fun h => h)
    | rd t => exact skip hz h hm (fun h => h)
    | fn F m => exact skip hz h hm (fun h => h)
    | ptr t t' => exact box hz ha1.2 h hm (fun e h1 h2 => by subst e; exact ⟨h1, h2⟩)
    | hid t t' => exact box hz ha1.2 h hm (fun e h1 h2 => by subst e; exact ⟨h1, h2⟩)
end
end Go.Proofs.YtgocagaijgcnmaaGreat.Vf
end

section
set_option linter.unusedVariables false
set_option linter.unusedSimpArgs false
namespace Go.Proofs.YtgocagaijgcnmaaGreat.Vf
open Go
attribute [local irreducible] C H
theorem mapM_run {P : Program} {w : World} {a : Act} : ∀ {rv : List ResultVar} {vs : List Value}, All2 (fun r v => (resRun a r).run P w = .ok v w) rv vs → (rv.mapM (resRun a)).run P w = .ok vs w
 | _, _, .nil => rfl
 | _, _, .cons h hs => by
  rw [List.mapM_cons]
  simp only [Sem.run_bind, h, Result.andThen_ok, mapM_run hs, Sem.run_pure]
theorem results_run {P : Program} {w : World} {a : Act} {fn : Func} {vs : List Value} (h : All2 (fun r v => (resRun a r).run P w = .ok v w) fn.results.toList vs) :
  (results fn a.tmps).run P w = .ok (if h : vs.length = 1 then vs[0] else .tuple vs.toArray) w := by
 refine Eq.trans (b := (do let vs ← fn.results.mapM (resRun a); pure (if h : vs.size = 1 then vs[0] else .tuple vs) : Sem Value).run P w) ?_ ?_
 ·unfold results
  refine congrArg (fun (f : ResultVar → Sem Value) => Sem.run P (do let vs ← fn.results.mapM f; pure (if h : vs.size = 1 then vs[0] else Value.tuple vs) : Sem Value) w) (?_ : _ = resRun a)
  funext x
  cases x <;> rfl
 rw [Array.mapM_eq_mapM_toList]
 simp only [map_eq_pure_bind, Sem.run_bind, mapM_run h, Result.andThen_ok, Sem.run_pure]
 simp
theorem leavesD_app : ∀ (ts us : List Ty) (x : Den (ts ++ us)) (ls ls' : List (List Lf)), ls.length = ts.length → Mk (ts ++ us) (ls ++ ls') (leavesD (ts ++ us) x) →
  Mk ts ls ((leavesD (ts ++ us) x).take ts.length) ∧ Mk us ls' ((leavesD (ts ++ us) x).drop ts.length)
 | [], us, x, [], ls', _, h => ⟨trivial, h⟩
 | [], us, x, _ :: _, ls', hl, h => by simp at hl
 | t :: ts, us, x, [], ls', hl, h => by simp at hl
 | t :: ts, us, x, l :: ls, ls', hl, h => by
  have key : ∀ (ts us : List Ty) (ls ls' lx : List (List Lf)), ls.length = ts.length → Mk (ts ++ us) (ls ++ ls') lx → Mk ts ls (lx.take ts.length) ∧ Mk us ls' (lx.drop ts.length) := by
   intro ts
   induction ts with
   | nil =>
    intro us ls ls' lx hl h
    cases ls with
    | nil => exact ⟨trivial, h⟩
    | cons => simp at hl
   | cons t ts ih =>
    intro us ls ls' lx hl h
    cases ls with
    | nil => simp at hl
    | cons l ls =>
     cases lx with
     | nil => exact h.elim
     | cons lx1 lx =>
      obtain ⟨h1, h2⟩ := ih us ls ls' lx (by simpa using hl) h.2
      exact ⟨⟨h.1, h1⟩, h2⟩
  exact key (t :: ts) us (l :: ls) ls' _ hl h
theorem resL_len {E : En} : ∀ (rs : List (RK × Ty)) (rv : List ResultVar) (A : Ab) (ls : List (List Lf)) (us : List Up), resL E A rs rv = some (ls, us) → ls.length = rs.length
 | [], [], A, ls, us, h => by
  simp only [resL, Option.some.injEq, Prod.mk.injEq] at h
  obtain ⟨rfl, rfl⟩ := h
  rfl
 | [], _ :: _, A, ls, us, h => by simp [resL] at h
 | (k, t) :: ks, [], A, ls, us, h => by cases k <;> simp [resL] at h
 | (k, t) :: ks, .tmp x :: rs, A, ls, us, h => by
  have h' : (bif Nat.blt x E.nt then (match resOf E.np A k t (.tmp x) (get A x).2 with
   | some (l, u) => (match resL E (ups A u) ks rs with
    | some (ls, us) => some (l :: ls, u ++ us)
    | none => none)
   | none => none) else none) = some (ls, us) := by
   unfold resL at h
   cases k <;> exact h
  cases hx : Nat.blt x E.nt with
  | false => rw [hx] at h'; simp at h'
  | true =>
   rw [hx, cond_true] at h'
   split at h'
   ·split at h'
    ·rename_i hr
     simp only [Option.some.injEq, Prod.mk.injEq] at h'
     obtain ⟨rfl, rfl⟩ := h'
     simp [resL_len ks rs _ _ _ hr]
    ·cases h'
   ·cases h'
 | (.agg, t) :: ks, .cell x T :: rs, A, ls, us, h => by
  unfold resL at h
  generalize (Nat.blt x E.nt && (match E.ti T with | some ti => ti.ag && Nat.beq ti.ty.sz t.sz | none => false)) = bb at h
  cases bb with
  | false => simp at h
  | true =>
   rw [cond_true] at h
   split at h
   ·split at h
    ·rename_i hr
     simp only [Option.some.injEq, Prod.mk.injEq] at h
     obtain ⟨rfl, rfl⟩ := h
     simp [resL_len ks rs _ _ _ hr]
    ·cases h
   ·cases h
 | (.one, t) :: ks, .cell x T :: rs, A, ls, us, h => by simp [resL] at h
 | (.ptr, t) :: ks, .cell x T :: rs, A, ls, us, h => by simp [resL] at h
theorem Results.of {P : Program} {S : Sit} {n0 : Nat} {rs : List (RK × Ty)} {ls : List (List Lf)} {vs : List Value} (h : ResAll P S n0 1 rs ls vs) (ll : List (List Lf)) : Results P S n0 rs (ls ++ ll) (if h : vs.length = 1 then vs[0] else .tuple vs.toArray) := by
 have len : ∀ (rs : List (RK × Ty)) (i : Nat) (ls : List (List Lf)) (vs : List Value), ResAll P S n0 i rs ls vs → vs.length = rs.length := by
  intro rs
  induction rs with
  | nil => intro i ls vs h; (have : vs = [] := by (cases ls <;> exact h)); subst this; rfl
  | cons r rs ih =>
   intro i ls vs h
   cases ls with
   | nil => exact h.elim
   | cons l ls =>
    cases vs with
    | nil => exact h.elim
    | cons v vs => simp [ih _ _ _ h.2]
 have ext : ∀ (rs : List (RK × Ty)) (i : Nat) (ls : List (List Lf)) (vs : List Value), ResAll P S n0 i rs ls vs → ResAll P S n0 i rs (ls ++ ll) vs := by
  intro rs
  induction rs with
  | nil => intro i ls vs h; (have : vs = [] := by (cases ls <;> exact h)); subst this; cases (ls ++ ll) <;> rfl
  | cons r rs ih =>
   intro i ls vs h
   cases ls with
   | nil => exact h.elim
   | cons l ls =>
    cases vs with
    | nil => exact h.elim
    | cons v vs => exact ⟨h.1, ih _ _ _ h.2⟩
 have hl := len rs 1 ls vs h
 have he := ext rs 1 ls vs h
 unfold Results
 split
 ·rename_i r
  have h1 : vs.length = 1 := hl
  obtain ⟨v, rfl⟩ := List.length_eq_one_iff.1 h1
  cases ls with
  | nil => exact h.elim
  | cons l ls => exact ⟨l, ls ++ ll, rfl, h.1⟩
 ·rename_i hne
  refine ⟨vs, ?_, he⟩
  rw [dif_neg]
  intro h1
  rw [hl] at h1
  obtain ⟨r, hr⟩ := List.length_eq_one_iff.1 h1
  exact hne r hr
def parsFit (en : Ent) : Bool := parsOk en.nv 0 en.ps && szs en.ps && Nat.blt (en.ps.length - en.nv) 500 && Nat.blt en.rs.length 400
theorem body_sound {P : Program} {f : FuncId} {fn : Func} {c : Code} {en : Ent} {E : En} (hf : P.funcs[f]? = some fn) (hb : fn.body = some c) (hnt : fn.ntmps ≤ 1000) (hps : en.nv ≤ fn.ntmps)
  (hV : ∀ X : Cx, X.P = P → X.nt = fn.ntmps → X.np = en.nv → EnvOk X E) (hD : ∀ X : Cx, X.P = P → X.nt = fn.ntmps → X.np = en.nv → DrawOk X E) (hL : ∀ X : Cx, X.P = P → X.nt = fn.ntmps → X.np = en.nv → LoopsOk X E c)
  (hpl : parsFit en = true) (heq : ∀ x, evBody E c fn.results.toList en x = en.run x) : Sound P f en := by
 intro x r hr w O rg us hlt hbx hargs
 rw [← heq] at hr
 unfold parsFit at hpl
 simp only [Bool.and_eq_true] at hpl
 obtain ⟨⟨⟨hp1, hp2⟩, hp3⟩, hp4⟩ := hpl
 have hp3 : en.ps.length - en.nv < 500 := Nat.le_of_ble_eq_true hp3
 have hp4 : en.rs.length < 400 := Nat.le_of_ble_eq_true hp4
 let X : Cx := ⟨P, O, w, rg, fn.ntmps, en.nv⟩
 have hsol := leavesD_solid (en.ps.map Par.ty) x
 have K0 : Okay X (S0 en.nv en.ps (leavesD _ x) us O w) ⟨(us.take en.nv).toArray ++ Array.replicate (fn.ntmps - (us.take en.nv).toArray.size) undef, []⟩ :=
  start_ok hnt hlt (fun k b h => (hbx k b h).2.1) hargs hsol hps hp1 hp3
 refine calls_of_wp hf hb ?_
 refine evCode_ok (X := X) (S := S0 en.nv en.ps (leavesD _ x) us O w) (hV X rfl rfl rfl) (hD X rfl rfl rfl) c (hL X rfl rfl rfl) K0 rfl hr ?_
 intro e S a A K hg h
 have hE := (hV X rfl rfl rfl).en
 have hb0 : ∀ k b, O k = .bx b → b < en.nv ∨ 1500 ≤ b := fun k b hk => by
  obtain ⟨i, h1, h2⟩ := (hbx k b hk).1
  subst h2
  unfold bid
  cases h3 : Nat.blt i en.nv with
  | true => exact .inl (Nat.le_of_ble_eq_true h3)
  | false => rw [cond_false]; exact .inr (by omega)
 have fin : ghostsK E (E.gh 1000000) A (fun A => match resL E A en.rs fn.results.toList with
   | some (ls, us) => (match ptrL en.nv (ups A us) 0 en.ps with
    | some bs => mkDen (en.rs.map Prod.snd ++ ptrOuts en.ps) (ls ++ bs)
    | none => none)
   | none => none) = some r → bodyPost P fn (fun e w' => ∃ v O', e = .returned v ∧ Fr O w rg O' w' ∧ (∀ k, O' k ≠ .no → k < w'.heap.size) ∧ Results P (bare O' w') w.heap.size en.rs (leavesD _ r) v ∧ Backs P (bare O' w') 0 en.ps us ((leavesD _ r).drop en.rs.length)) .ret a S.w := by
  intro h
  obtain ⟨A, S0', h, K, hg, w0'⟩ := ghosts_ok hE _ K hg h
  rw [← w0']
  split at h
  ·rename_i ls1 us1 h1
   split at h
   ·rename_i bs h2
    have hmk := mkDen_mk _ _ _ h
    have hlen := resL_len _ _ _ _ _ h1
    obtain ⟨m1, m2⟩ := leavesD_app (en.rs.map Prod.snd) (ptrOuts en.ps) r ls1 bs (by simpa using hlen) hmk
    rw [List.length_map] at m1 m2
    obtain ⟨S1, vs, K1, g1, w1, L1, _, _, hall, hruns⟩ := resL_ok hE hb0 en.rs fn.results.toList 1 K hg (by omega) h1 m1
    obtain ⟨S2, K2, w2, L2, t2, o2, hback⟩ := ptrL_ok hE (show en.nv ≤ 1000 by omega) (fun k b hk => (hbx k b hk).2.2) en.ps 0 K1 g1 (by show 0 + en.ps.length - en.nv < 500; omega) hp2 h2 m2 hargs
    have hsolr := leavesD_solid _ r
    have hall2 : ResAll P (bare S2.O S2.w) w.heap.size 1 en.rs ((leavesD _ r).take en.rs.length) vs := by
     have key : ∀ (rs : List (RK × Ty)) (i : Nat) (ls : List (List Lf)) (us : List Value), i + rs.length < 500 → (∀ l ∈ ls, ∀ y ∈ l, solid y = true) → ResAll P S1 w.heap.size i rs ls us → ResAll P (bare S2.O S2.w) w.heap.size i rs ls us := by
      intro rs
      induction rs with
      | nil => intro i ls us _ _ h; exact h
      | cons r rs ih =>
       intro i ls us hi hs h
       simp only [List.length_cons] at hi
       cases ls with
       | nil => exact h.elim
       | cons l ls =>
        cases us with
        | nil => exact h.elim
        | cons u us =>
         refine ⟨?_, ih (i + 1) ls us (by omega) (fun l hl => hs l (List.mem_cons_of_mem _ hl)) h.2⟩
         have hl : ∀ q z v, solid z = true → LfOk P S1 (.tm i q) z v → LfOk P (bare S2.O S2.w) (.tm i q) z v := fun q z v hz hv => LfOk.bare (S1 := S2) hz rfl (fun k hk => hk) (fun k hk => hk) (t2 i q z v (by omega) hv)
         have h1 := h.1
         generalize r.1 = k at h1 ⊢
         cases k with
         | one => exact LfsOk.impM (fun x hx n u h => hl _ _ u (hs l (by simp) x hx) h) h1
         | agg =>
          obtain ⟨us, e, h⟩ := h1
          exact ⟨us, e, h.impM (fun x hx n u h => hl _ _ u (hs l (by simp) x hx) h)⟩
         | ptr =>
          obtain ⟨k, o, c, e, us, h1, h2, h3, h4, h5, h6, h7, h8⟩ := h1
          exact ⟨k, o, c, e, us, h1, by show S2.w.heap[k]? = _; rw [w2]; exact h2, h3, o2 _ _ _ (by omega) h4, h5, h6, h7, h8.impM (fun x hx n u h => hl _ _ u (hs l (by simp) x hx) h)⟩
     exact key _ _ _ _ (by omega) (fun l hl => hsolr l (List.mem_of_mem_take hl)) hall
    have hback2 : Backs P (bare S2.O S2.w) 0 en.ps us ((leavesD _ r).drop en.rs.length) := by
     have one : ∀ {i : Nat} {t' : Ty} {l : List Lf} {u : Value}, (∀ y ∈ l, solid y = true) → BackOk P S2 i t' l u → BackOk P (bare S2.O S2.w) i t' l u := by
      rintro i t' l u hs ⟨k, o, c, e, vs, q1, q2, q3, q4, q5⟩
      exact ⟨k, o, c, e, vs, q1, q2, q3, q4, q5.impM (fun y hy n u hu => LfOk.bare (S1 := S2) (hs y hy) rfl (fun k hk => hk) (fun k hk => hk) hu)⟩
     have key : ∀ (ps : List Par) (i : Nat) (us : List Value) (ls : List (List Lf)), (∀ l ∈ ls, ∀ y ∈ l, solid y = true) → Backs P S2 i ps us ls → Backs P (bare S2.O S2.w) i ps us ls := by
      intro ps
      induction ps with
      | nil => intro i us ls _ h; exact h
      | cons p ps ih =>
       intro i us ls hs h
       cases p <;> cases us <;> first | exact h.elim | skip
       all_goals first | exact ih _ _ _ hs h | skip
       all_goals
        cases ls with
        | nil => exact h.elim
        | cons l ls => exact ⟨one (hs l (by simp)) h.1, ih _ _ _ (fun l hl => hs l (List.mem_cons_of_mem _ hl)) h.2⟩
     exact key _ _ _ _ (fun l hl => hsolr l (List.mem_of_mem_drop hl)) hback
    have hres := Results.of hall2 ((leavesD _ r).drop en.rs.length)
    rw [List.take_append_drop] at hres
    have hw : S2.w = S0'.w := w2.trans w1
    rw [hw] at hres hback2
    refine ⟨K.df, _, results_run hruns, _, S2.O, rfl, ?_, ?_, hres, hback2⟩
    ·rw [← hw]; exact K2.fr
    ·rw [← hw]; exact K2.lt
   ·cases h
  ·cases h
 cases e with
 | exit i => cases h
 | normal => exact fin h
 | ret => exact fin h
end Go.Proofs.YtgocagaijgcnmaaGreat.Vf
end

section
set_option linter.unusedVariables false
set_option linter.unusedSimpArgs false
namespace Go.Proofs.YtgocagaijgcnmaaGreat.Vf
open Go
attribute [local irreducible] C H
def Ag (A A' : Ab) (F : List Nat) : Prop := ∀ p ∈ F, get A' p = get A p
def RB (A : Ab) (F : List Nat) (b lo : Nat) : Prop := H b ∈ F ∧ ∀ n, (get A (H b)).2 = .one (.hd n) → ∀ j, lo ≤ j → j < n → C b j ∈ F ∧ ∀ p v, (get A (C b j)).2 = .one (.al p v) → p ∈ F
def RL (A : Ab) (F : List Nat) : Lf → Prop
 | .al p _ => p ∈ F
 | .ep p _ _ _ => p ∈ F
 | .da p _ _ _ _ _ => p ∈ F
 | .dp p _ _ _ _ _ _ _ => p ∈ F
 | .bp b _ off => RB A F b off
 | .fn _ bs => ∀ c ∈ bs, RB A F c.1 0
 | _ => True
def RX (A : Ab) (F : List Nat) : Operand → Prop
 | .tmp t => t ∈ F ∧ ∀ y ∈ parts (get A t).2, RL A F y
 | _ => True
def calmU (u : Up) : Prop := u.s = .one .dead ∨ ∃ e r, ∃ xs : List (Ty.den r), u.s = .one (.fz e r xs)
section
variable {E : En} {A A' : Ab} {F : List Nat} {o : Oper} {R : Type} {Kc : List Up → Option R} {r : R}
theorem rdC_mem {b : Nat} : ∀ {n j : Nat}, (∀ p ∈ rdC A b j n, p ∈ F) → ∀ i, i < n → C b (j + i) ∈ F ∧ ∀ p v, (get A (C b (j + i))).2 = .one (.al p v) → p ∈ F
 | 0, j, h, i, hi => by omega
 | n + 1, j, h, i, hi => by
  unfold rdC at h
  cases i with
  | zero =>
   refine ⟨h _ (by simp), fun p v hp => h p ?_⟩
   rw [Nat.add_zero] at hp
   rw [hp]
   simp
  | succ i =>
   rw [show j + (i + 1) = j + 1 + i by omega]
   exact rdC_mem (n := n) (j := j + 1) (fun p hp => h p (List.mem_cons_of_mem _ (List.mem_append_right _ hp))) i (by omega)
theorem rdB_RB {b lo : Nat} (h : ∀ p ∈ H b :: (match (get A (H b)).2 with | .one (.hd n) => rdC A b lo (n - lo) | _ => []), p ∈ F) : RB A F b lo := by
 refine ⟨h _ (by simp), fun n hn j hl hj => ?_⟩
 rw [hn] at h
 have := rdC_mem (A := A) (F := F) (b := b) (n := n - lo) (j := lo) (fun p hp => h p (List.mem_cons_of_mem _ hp)) (j - lo) (by omega)
 rwa [show lo + (j - lo) = j by omega] at this
theorem rdL_RL {y : Lf} (h : ∀ p ∈ rdL A y, p ∈ F) : RL A F y := by
 cases y with
 | al p v => exact h p (by simp [rdL])
 | ep p v i off => exact h p (by simp [rdL])
 | da p v pi e r xs => exact h p (by simp [rdL])
 | dp p v pi e r xs i off => exact h p (by simp [rdL])
 | bp b v off => exact rdB_RB h
 | fn f bs => exact fun c hc => rdB_RB (lo := 0) fun p hp => h p (List.mem_flatMap.2 ⟨c, hc, hp⟩)
 | _ => trivial
theorem rdLs_RL : ∀ {l : List Lf}, (∀ p ∈ rdLs A l, p ∈ F) → ∀ y ∈ l, RL A F y
 | [], _, y, hy => by simp at hy
 | z :: l, h, y, hy => by
  unfold rdLs at h
  rcases List.mem_cons.1 hy with rfl | hy
  ·exact rdL_RL fun p hp => h p (List.mem_append_left _ hp)
  ·exact rdLs_RL (fun p hp => h p (List.mem_append_right _ hp)) y hy
theorem rdO_RX {x : Operand} (h : ∀ p ∈ rdO A x, p ∈ F) : RX A F x := by
 cases x with
 | tmp t =>
  unfold rdO at h
  exact ⟨h t (by simp), rdLs_RL fun p hp => h p (List.mem_cons_of_mem _ hp)⟩
 | _ => trivial
theorem rdOs_RX : ∀ {l : List Operand}, (∀ p ∈ rdOs A l, p ∈ F) → ∀ x ∈ l, RX A F x
 | [], _, y, hy => by simp at hy
 | z :: l, h, y, hy => by
  unfold rdOs at h
  rcases List.mem_cons.1 hy with rfl | hy
  ·exact rdO_RX fun p hp => h p (List.mem_append_left _ hp)
  ·exact rdOs_RX (fun p hp => h p (List.mem_append_right _ hp)) y hy
theorem get_up1 (A : Ab) (u : Up) (p : Nat) : get (up A u) p = if p = u.l then ((bif u.keep then (get A u.l).1 else (get A u.l).1 + 1), u.s) else get A p := by
 rw [get_up]
 unfold upd
 rfl
theorem Ag.up (h : Ag A A' F) (u : Up) : Ag (up A u) (up A' u) F := by
 intro p hp
 rw [get_up1, get_up1]
 by_cases e : p = u.l
 ·subst e
  rw [if_pos rfl, if_pos rfl, h _ hp]
 ·rw [if_neg e, if_neg e, h _ hp]
theorem Ag.ups : ∀ {U : List Up} {A A' : Ab}, Ag A A' F → Ag (ups A U) (ups A' U) F
 | [], _, _, h => h
 | u :: U, _, _, h => Ag.ups (U := U) (h.up u)
theorem RB.up {b lo : Nat} (h : RB A F b lo) {u : Up} (hu : calmU u) : RB (Vf.up A u) F b lo := by
 have key : ∀ q, (get (Vf.up A u) q).2 = (get A q).2 ∨ (get (Vf.up A u) q).2 = u.s := by
  intro q
  rw [get_up1]
  by_cases e : q = u.l
  ·rw [if_pos e]; exact .inr rfl
  ·rw [if_neg e]; exact .inl rfl
 refine ⟨h.1, fun n hn j hlo hj => ?_⟩
 have hn' : (get A (H b)).2 = .one (.hd n) := by
  rcases key (H b) with k | k
  ·rw [← k]; exact hn
  ·rw [k] at hn
   rcases hu with hu | ⟨e, r, xs, hu⟩ <;> rw [hu] at hn <;> cases hn
 obtain ⟨h1, h2⟩ := h.2 n hn' j hlo hj
 refine ⟨h1, fun p v hp => ?_⟩
 rcases key (C b j) with k | k
 ·exact h2 p v (by rw [← k]; exact hp)
 ·rw [k] at hp
  rcases hu with hu | ⟨e, r, xs, hu⟩ <;> rw [hu] at hp <;> cases hp
theorem RB.ups {b lo : Nat} : ∀ {U : List Up} {A : Ab}, RB A F b lo → (∀ u ∈ U, calmU u) → RB (Vf.ups A U) F b lo
 | [], _, h, _ => h
 | u :: U, _, h, hu => RB.ups (U := U) (h.up (hu u (by simp))) (fun v hv => hu v (List.mem_cons_of_mem _ hv))
theorem RL.up {y : Lf} (h : RL A F y) {u : Up} (hu : calmU u) : RL (Vf.up A u) F y := by
 cases y with
 | al p v => exact h
 | ep p v i off => exact h
 | da p v pi e r xs => exact h
 | dp p v pi e r xs i off => exact h
 | bp b v off => exact RB.up h hu
 | fn f bs => exact fun c hc => (h c hc).up hu
 | _ => trivial
theorem RX.up {x : Operand} (h : RX A F x) {u : Up} (hu : calmU u) : RX (Vf.up A u) F x := by
 cases x with
 | tmp t =>
  refine ⟨h.1, fun y hy => ?_⟩
  rw [get_up1] at hy
  by_cases e : t = u.l
  ·rw [if_pos e] at hy
   rcases hu with hu | ⟨e', r, xs, hu⟩
   ·rw [hu] at hy
    simp only [parts, List.mem_singleton] at hy
    subst hy
    trivial
   ·rw [hu] at hy
    simp only [parts, List.mem_singleton] at hy
    subst hy
    trivial
  ·rw [if_neg e] at hy
   exact (h.2 y hy).up hu
 | _ => trivial
theorem RX.ups {x : Operand} : ∀ {U : List Up} {A : Ab}, RX A F x → (∀ u ∈ U, calmU u) → RX (Vf.ups A U) F x
 | [], _, h, _ => h
 | u :: U, _, h, hu => RX.ups (U := U) (h.up (hu u (by simp))) (fun v hv => hu v (List.mem_cons_of_mem _ hv))
theorem opT_ag {x : Operand} {T : TypeId} (h : Ag A A' F) (hx : RX A F x) : opT E T A' x = opT E T A x := by
 cases x with
 | tmp t => show (bif Nat.blt t E.nt then some (get A' t).2 else none) = (bif Nat.blt t E.nt then some (get A t).2 else none); rw [h t hx.1]
 | const v =>
  unfold opT
  cases v <;> first | rfl | skip
  rename_i a b c
  cases a <;> cases b <;> cases c <;> rfl
 | func f => rfl
 | global g => rfl
theorem opT_RL {x : Operand} {T : TypeId} {s : Sv} (hx : RX A F x) (h : opT E T A x = some s) : ∀ y ∈ parts s, RL A F y := by
 unfold opT at h
 split at h
 ·rename_i t
  cases hb : Nat.blt t E.nt with
  | false => simp [hb] at h
  | true =>
   simp only [hb, cond_true, Option.some.injEq] at h
   rw [← h]
   exact hx.2
 ·split at h
  ·simp only [Option.some.injEq] at h
   subst h
   intro y hy
   simp only [parts, List.mem_singleton] at hy
   subst hy
   trivial
  ·cases h
 ·rename_i v _
  cases hs : isSc v with
  | false => simp [hs] at h
  | true =>
   simp only [hs, cond_true, Option.some.injEq] at h
   subst h
   intro y hy
   simp only [parts, List.mem_singleton] at hy
   subst hy
   trivial
 ·simp only [Option.some.injEq] at h
  subst h
  intro y hy
  simp only [parts, List.mem_singleton] at hy
  subst hy
  trivial
 ·cases h
theorem opT_one {x : Operand} {T : TypeId} {y : Lf} (hx : RX A F x) (h : opT E T A x = some (.one y)) : RL A F y := opT_RL hx h y (by simp [parts])
def AL (F : List Nat) : Lf → Prop
 | .al p _ => p ∈ F
 | _ => True
theorem RL.al {y : Lf} (h : RL A F y) : AL F y := by
 cases y <;> first | trivial | exact h
theorem seen_ag {y : Lf} (h : Ag A A' F) (hy : AL F y) : seen A' y = seen A y := by
 cases y with
 | al p v => simp only [seen]; rw [h p hy]
 | _ => rfl
theorem view_ag {y : Lf} (h : Ag A A' F) (hy : RL A F y) : view A' y = view A y := by
 cases y with
 | da p v pi e r xs => simp only [view]; rw [h p hy]
 | _ => exact seen_ag h hy.al
theorem viewM_ag (h : Ag A A' F) {l : List Lf} (hy : ∀ y ∈ l, RL A F y) : l.map (fun y => calm (view A' y)) = l.map (fun y => calm (view A y)) := List.map_congr_left fun y hm => by rw [view_ag h (hy y hm)]
theorem srcOf_ag {y : Lf} (h : Ag A A' F) (hy : RL A F y) : srcOf A' y = srcOf A y := by
 cases y with
 | da p v pi e r xs => simp only [srcOf]; rw [h p hy]
 | _ => simp only [srcOf, seen_ag h hy.al]
theorem takeLs_ag : ∀ {l : List Lf} {A A' : Ab}, Ag A A' F → (∀ y ∈ l, AL F y) → takeLs A' l = takeLs A l
 | [], _, _, _, _ => rfl
 | y :: l, A, A', h, hy => by
  have h1 : AL F y := hy y (by simp)
  have h2 : ∀ z ∈ l, AL F z := fun z hz => hy z (List.mem_cons_of_mem _ hz)
  cases y with
  | al p v =>
   unfold takeLs
   rw [seen_ag h h1, takeLs_ag (h.up ⟨p, false, .one .dead⟩) h2]
  | _ => simp only [takeLs, takeLs_ag h h2]
theorem give_ag {x : Operand} {s : Sv} (h : Ag A A' F) (hy : ∀ y ∈ parts s, AL F y) : give A' x s = give A x s := by
 unfold give
 rw [takeLs_ag (h.ups (U := gone x s)) hy]
theorem kept_ag {y : Lf} (h : Ag A A' F) (hy : AL F y) : kept A' y = kept A y := by
 cases y with
 | al p v => show calm (seen A' (.al p v)) = calm (seen A (.al p v)); rw [seen_ag h hy]
 | _ => rfl
theorem cost_ag {y : Lf} (h : Ag A A' F) (hy : AL F y) : cost A' y = cost A y := by
 cases y with
 | al p v => simp only [cost]; rw [h p hy]
 | _ => rfl
theorem costs_ag (h : Ag A A' F) : ∀ {l : List Lf}, (∀ y ∈ l, AL F y) → costs A' l = costs A l
 | [], _ => rfl
 | y :: l, hy => by
  unfold costs
  rw [cost_ag h (hy y (by simp)), costs_ag h (fun z hz => hy z (List.mem_cons_of_mem _ hz))]
theorem keptM_ag (h : Ag A A' F) {l : List Lf} (hy : ∀ y ∈ l, AL F y) : l.map (kept A') = l.map (kept A) := List.map_congr_left fun y hm => kept_ag h (hy y hm)
theorem calmM_ag (h : Ag A A' F) {l : List Lf} (hy : ∀ y ∈ l, AL F y) : l.map (fun y => calm (kept A' y)) = l.map (fun y => calm (kept A y)) := List.map_congr_left fun y hm => by rw [kept_ag h (hy y hm)]
theorem liveP_ag {y : Lf} (h : Ag A A' F) (hy : RL A F y) : liveP A' y = liveP A y := by
 cases y with
 | bp b v n => show Nat.beq (get A' (H b)).1 v = Nat.beq (get A (H b)).1 v; rw [h _ hy.1]
 | ep p v i n => simp only [liveP]; rw [h p hy]
 | dp p v pi e r xs i n => show Nat.beq (get A' p).1 v = Nat.beq (get A p).1 v; rw [h p hy]
 | _ => rfl
theorem cellsOf_ag (h : Ag A A' F) {b : Nat} : ∀ {n j : Nat}, (∀ i, i < n → C b (j + i) ∈ F) → cellsOf A' b j n = cellsOf A b j n
 | 0, _, _ => rfl
 | n + 1, j, hc => by
  unfold cellsOf
  rw [h (C b j) (by simpa using hc 0 (by omega)), cellsOf_ag h (fun i hi => by have := hc (i + 1) (by omega); rwa [show j + (i + 1) = j + 1 + i by omega] at this)]
theorem cellsOf_AL {b : Nat} : ∀ {n j : Nat}, (∀ i, i < n → C b (j + i) ∈ F ∧ ∀ p v, (get A (C b (j + i))).2 = .one (.al p v) → p ∈ F) → ∀ y ∈ cellsOf A b j n, AL F y
 | 0, _, _, y, hy => by simp [cellsOf] at hy
 | n + 1, j, hc, y, hy => by
  unfold cellsOf at hy
  rcases List.mem_cons.1 hy with hy | hy
  ·obtain ⟨c1, c2⟩ := hc 0 (by omega)
   rw [Nat.add_zero] at c1 c2
   split at hy
   ·subst hy; exact c1
   ·subst hy; exact c1
   ·rename_i hp
    subst hy
    cases y with
    | al p v => exact c2 p v (by rw [hp])
    | _ => trivial
   ·subst hy; trivial
  ·refine cellsOf_AL (n := n) (j := j + 1) (fun i hi => ?_) y hy
   have := hc (i + 1) (by omega)
   rwa [show j + (i + 1) = j + 1 + i by omega] at this
end
end Go.Proofs.YtgocagaijgcnmaaGreat.Vf
end
