/- Calls: arguments that are shared, given away, or pointers to a box. -/
import Derived.Test.YtehkignjdbkeiaaVw
set_option linter.unusedVariables false
set_option linter.unusedSimpArgs false
namespace Go.Proofs.Ytehkignjdbkeiaa.Vf
open Go
attribute [local irreducible] C H

def ArgP (P : Program) (S : Sit) (i : Nat) : Par → List Lf → Value → List Nat → Prop
  | .val ag t, l, u, bs => bs = [] ∧ ((noOw t = true ∧ ∃ us, (if ag then u = .agg us.toArray else us = [u]) ∧ All2 (LfRep P (fun k => S.O k = .fz) S.w) l us) ∨
      (ag = false ∧ ∃ e r e' r', ∃ xs : List (Ty.den r'), t = .ow e r ∧ l = [.own e' r' xs] ∧ LfOk P S (.tm (10 + i) []) (.own e' r' xs) u))
  | .ptr t t', l, u, bs => ∃ b, bs = [b] ∧ u = .pointer (some ⟨(S.bb b).1, (S.bb b).2, none⟩) ∧ (S.g (H b)).2 = .one (.hd t.sz) ∧ noOw t = true ∧ noOw t' = true ∧ t'.sz = t.sz ∧ l.length = t.sz ∧
      All2 (LfRep P (fun k => S.O k = .fz) S.w) l ((List.range t.sz).map fun j => S.ph (C b (0 + j)))

def ArgsP (P : Program) (S : Sit) : Nat → List Par → List (List Lf) → List Value → List Nat → Prop
  | _, [], [], [], bs => bs = []
  | i, p :: ps, l :: ls, u :: us, bs => ∃ b1 b2, bs = b1 ++ b2 ∧ ArgP P S i p l u b1 ∧ ArgsP P S (i + 1) ps ls us b2
  | _, _, _, _, _ => False

structure Stays (P : Program) (S S1 : Sit) (i : Nat) : Prop where
  w : S1.w = S.w
  bb : S1.bb = S.bb
  ph : S1.ph = S.ph
  later : Later S S1
  heads : ∀ b n, (S.g (H b)).2 = .one (.hd n) → S1.g (H b) = S.g (H b)
  tms : ∀ n q x u, 10 ≤ n → n < 10 + i → LfOk P S (.tm n q) x u → LfOk P S1 (.tm n q) x u

section
variable {X : Cx} {S S1 S2 : Sit} {a : Act} {E : En} {A : Ab} {o : Oper} {R : Type} {Kc : List Up → Option R} {r : R}

theorem Stays.trans {P : Program} {i : Nat} (h : Stays P S S1 i) (h' : Stays P S1 S2 (i + 1)) : Stays P S S2 i :=
  ⟨h'.w.trans h.w, h'.bb.trans h.bb, h'.ph.trans h.ph, h.later.trans h'.later, fun b n hn => by
    have e1 := h.heads b n hn
    exact (h'.heads b n (by rw [e1]; exact hn)).trans e1, fun n q x u h1 h2 hx => h'.tms n q x u h1 (by omega) (h.tms n q x u h1 h2 hx)⟩

theorem ArgP.stay {P : Program} {i j : Nat} {p : Par} {l : List Lf} {u : Value} {bs : List Nat} (h : Stays P S S1 i) (hj : j < i) (hp : ArgP P S j p l u bs) : ArgP P S1 j p l u bs := by
  have hfz : ∀ k, S.O k = .fz → S1.O k = .fz := fun k hk => (h.later.fz k hk).1
  cases p with
  | val ag t =>
    obtain ⟨h1, h2⟩ := hp
    refine ⟨h1, ?_⟩
    rcases h2 with ⟨h2, us, h3, h4⟩ | ⟨h2, e, r', e', r'', xs, h3, h4, h5⟩
    · exact .inl ⟨h2, us, h3, h4.imp (fun x y hx => hx.mono hfz (fun k _ => by rw [h.w]))⟩
    · exact .inr ⟨h2, e, r', e', r'', xs, h3, h4, h.tms _ _ _ _ (by omega) (by omega) h5⟩
  | ptr t t' =>
    obtain ⟨b, h1, h2, h3, h4, h5, h6, h7, h8⟩ := hp
    refine ⟨b, h1, by rw [h.bb]; exact h2, by rw [h.heads b _ h3]; exact h3, h4, h5, h6, h7, ?_⟩
    rw [h.ph]
    exact h8.imp (fun x y hx => hx.mono hfz (fun k _ => by rw [h.w]))

theorem kept_ok {l0 : List Lf} (K : Okay X S a) (hg : S.g = get A) (K1 : Okay X S1 a) (E1 : Eased X S S1) (P1 : ∀ p v, Lf.al p v ∈ l0 → ∀ n e r, ∀ xs : List (Ty.den r), get A p = (n, .one (.own e r xs)) → n = v → S1.g p = (n, .one (.fz e r xs)))
    (f : Nat → Lab) (hf : ∀ n k, S.O k = f n → S1.O k = f n) : ∀ (l : List Lf), (∀ x ∈ l, x ∈ l0) → ∀ j us, LfsOk X.P S f j l us → LfsOk X.P S1 f j (l.map (kept A)) us
  | [], _, _, [], _ => trivial
  | [], _, _, _ :: _, h => h.elim
  | _ :: _, _, _, [], h => h.elim
  | x :: l, hm, j, u :: us, h => by
    refine ⟨?_, kept_ok K hg K1 E1 P1 f hf l (fun z hz => hm z (List.mem_cons_of_mem _ hz)) (j + 1) us h.2⟩
    have h1 : LfOk X.P S (f j) x u := h.1
    cases x with
    | al p v =>
      show LfOk X.P S1 (f j) (calm (seen A (.al p v))) u
      simp only [seen]
      split
      · rename_i n e r' xs hp
        cases hb : Nat.beq n v with
        | false => exact trivial
        | true =>
          have hnv : n = v := by simpa using hb
          subst hnv
          rw [cond_true]
          show LfOk X.P S1 (f j) (.fz e r' xs) u
          have h2 := P1 p n (hm _ (by simp)) n e r' xs hp rfl
          have h3 := K1.at_ p
          rw [h2, E1.ph, ← h1.2 (by rw [hg, hp])] at h3
          exact LfOk.relab (lab := .pl p []) rfl h3
      · rename_i n e r' xs hp
        cases hb : Nat.beq n v with
        | false => exact trivial
        | true =>
          have hnv : n = v := by simpa using hb
          subst hnv
          rw [cond_true]
          show LfOk X.P S1 (f j) (.fz e r' xs) u
          have h3 := K.at_ p
          rw [hg, hp, ← h1.2 (by rw [hg, hp])] at h3
          have h4 : LfOk X.P S (.pl p []) (.fz e r' xs) u := h3
          exact (LfOk.relab (lab' := f j) rfl h4).later E1.later (fun k hk => ⟨hf j k hk, by rw [E1.w]⟩)
      · exact trivial
    | _ => exact h1.later E1.later (fun k hk => ⟨hf j k hk, by rw [E1.w]⟩)

theorem kept_noOwn : ∀ l : List Lf, ownIn l = false → ownIn (l.map (kept A)) = false
  | [], _ => rfl
  | x :: l, h => by
    have hc : ∀ z : Lf, ownIn (calm z :: l.map (kept A)) = ownIn (l.map (kept A)) := by intro z; cases z <;> rfl
    cases x with
    | own e r xs => simp [ownIn] at h
    | al p v => rw [List.map_cons]; exact (hc _).trans (kept_noOwn l (by simpa [ownIn] using h))
    | _ => exact kept_noOwn l (by simpa [ownIn] using h)

theorem rep_of_noOwn {P : Program} {S : Sit} {f : Nat → Lab} : ∀ {l : List Lf} {j : Nat} {us : List Value}, storable l = true → ownIn l = false → LfsOk P S f j l us → All2 (LfRep P (fun k => S.O k = .fz) S.w) l us
  | [], _, [], _, _, _ => .nil
  | [], _, _ :: _, _, _, h => h.elim
  | _ :: _, _, [], _, _, h => h.elim
  | x :: l, j, u :: us, hs, ho, h => by
    cases x with
    | sc v => exact .cons h.1 (rep_of_noOwn (by simpa [storable] using hs) (by simpa [ownIn] using ho) h.2)
    | fz e r xs => exact .cons h.1 (rep_of_noOwn (by simpa [storable] using hs) (by simpa [ownIn] using ho) h.2)
    | own e r xs => simp [ownIn] at ho
    | _ => simp [storable] at hs

theorem arg_step (hE : EnOk X E) (K : Okay X S a) (hg : S.g = get A) {T : TypeId} {x : Operand} {s : Sv} {p : Par} {l : List Lf} {us : List Up} {bs : List Nat} (i : Nat) (hx : opT E T A x = some s) (h : argOf A x p s = some (l, us, bs)) :
    ∃ S1, Okay X S1 a ∧ S1.g = get (ups A us) ∧ Stays X.P S S1 i ∧ ArgP X.P S1 i p l (a.eval x) bs := by
  unfold argOf at h
  split at h
  · rename_i e0 r0 y
    split at h
    · rename_i e r' xs hsn
      simp only [Option.some.injEq, Prod.mk.injEq] at h
      obtain ⟨rfl, rfl, rfl⟩ := h
      obtain ⟨S1, K1, g1, w1, L1, hown, t1, b1, p1, hd1⟩ := app_take hE K hg hx hsn
      let hh : Nat → List Nat → Option Lab := fun n q => if n = 0 then (match q with | [] => some (.tm (10 + i) []) | _ => none) else none
      obtain ⟨K2, L2⟩ := K1.names hh (by
        intro n q
        simp only [hh]
        split
        · split <;> simp
        · simp)
      refine ⟨_, K2, g1, ⟨w1, b1, p1, L1.trans L2, hd1, fun n q z v n1 n2 hz => (t1 n q z v hz).later L2 (fun k hk => ⟨atO_keep hk (by simp only [hh]; rw [if_neg (by omega)]), rfl⟩)⟩, rfl, .inr ⟨rfl, e0, r0, e, r', xs, rfl, rfl, ?_⟩⟩
      exact LfOk.later (x := .own e r' xs) (lab := .tm 0 []) (lab' := .tm (10 + i) []) L2 hown (fun k hk => ⟨atO_tm hk (by simp [hh]), rfl⟩)
    · cases h
  · rename_i ag t _
    cases hq : (noOw t && formOk ag s && storable ((parts s).map (kept A))) with
    | false => rw [hq] at h; simp at h
    | true =>
      rw [hq] at h
      simp only [cond_true, Option.some.injEq, Prod.mk.injEq] at h
      obtain ⟨rfl, rfl, rfl⟩ := h
      simp only [Bool.and_eq_true] at hq
      obtain ⟨⟨q1, q2⟩, q3⟩ := hq
      obtain ⟨S1, K1, g1, w1, b1, p1, L1, x1, heads, tms, us, hsh, hls⟩ := taken hE K hg hx (form_nt q2) (10 + i)
      obtain ⟨K2, L2⟩ := K1.names (frzH (10 + i)) (by intro n q; unfold frzH; split <;> simp)
      refine ⟨_, K2, g1, ⟨w1, b1, p1, L1.trans L2, fun b n hn => (heads b).2 n hn, fun n q z v n1 n2 hz => (tms n q z v hz).later L2 (fun k hk => ⟨atO_keep hk (by unfold frzH; rw [if_neg (by omega)]), rfl⟩)⟩, rfl, .inl ⟨q1, us, form_shape q2 hsh, calm_rep q3 hls⟩⟩
  · rename_i t t' b v
    split at h
    · rename_i n m hp
      cases hq : (noOw t && noOw t' && Nat.beq n v && Nat.beq m t.sz && Nat.beq m t'.sz && storable ((cellsOf A b 0 m).map (kept A))) with
      | false => rw [hq] at h; simp at h
      | true =>
        rw [hq] at h
        simp only [cond_true, Option.some.injEq, Prod.mk.injEq] at h
        obtain ⟨rfl, rfl, rfl⟩ := h
        simp only [Bool.and_eq_true] at hq
        obtain ⟨⟨⟨⟨⟨q1, q2⟩, q3⟩, q4⟩, q5⟩, q6⟩ := hq
        have hnv : n = v := by simpa using q3
        have hm : m = t.sz := Nat.eq_of_beq_eq_true q4
        have hm' : m = t'.sz := Nat.eq_of_beq_eq_true q5
        subst hnv
        obtain ⟨pl, hl⟩ := opT_ex hE K hg hx
        have hlf : LfOk X.P S (.pl pl []) (.bp b n 0) (a.eval x) := hl
        have hu := hlf.2 (by rw [hg, hp])
        obtain ⟨S1, K1, g1, E1, F1, P1⟩ := costs_ok (X := X) (a := a) (A := A) (cellsOf A b 0 m) K hg (fun p => .inl rfl)
        obtain ⟨c1, c2, c3⟩ := cellsOf_ok K hg b m 0
        have hkept := kept_ok K hg K1 E1 P1 (fun _ => .fz) (fun n k hk => (E1.later.fz k hk).1) (cellsOf A b 0 m) (fun _ h => h) 0 _ (c3 (fun _ => .fz) 0)
        have hrep := rep_of_noOwn q6 (kept_noOwn _ c2) hkept
        have heads : ∀ b n, (S.g (H b)).2 = .one (.hd n) → S1.g (H b) = S.g (H b) := fun b n hn => by
          rcases F1 (H b) with h1 | ⟨n', e, r', xs, h1, h2⟩
          · rw [h1, hg]
          · rw [hg, h1] at hn; cases hn
        have hh : (S.g (H b)).2 = .one (.hd m) := by rw [hg, hp]
        refine ⟨S1, K1, g1, ⟨E1.w, E1.bb, E1.ph, E1.later, heads, fun n q z v _ _ hz => hz.later E1.later (fun k hk => ⟨E1.tm n q k hk, by rw [E1.w]⟩)⟩, b, rfl, ?_, ?_, q1, q2, by omega, by rw [List.length_map, c1, hm], ?_⟩
        · rw [E1.bb]; exact hu
        · rw [heads b m hh, hh, hm]
        · rw [E1.ph, ← hm]; exact hrep
    · cases h
  · cases h

theorem args_step (hE : EnOk X E) : ∀ (ps : List Par) {Ts : List TypeId} {xs : List Operand} {S : Sit} {A : Ab} {ls : List (List Lf)} {us : List Up} {bs : List Nat} (i : Nat), Okay X S a → S.g = get A → argsOf E Ts A xs ps = some (ls, us, bs) →
    ∃ S1, Okay X S1 a ∧ S1.g = get (ups A us) ∧ Stays X.P S S1 i ∧ ArgsP X.P S1 i ps ls (xs.map a.eval) bs
  | [], Ts, xs, S, A, ls, us, bs, i, K, hg, h => by
    cases xs with
    | cons => unfold argsOf at h; cases Ts <;> cases h
    | nil =>
      have : (([], [], []) : List (List Lf) × List Up × List Nat) = (ls, us, bs) := by unfold argsOf at h; cases Ts <;> simpa using h
      cases this
      exact ⟨S, K, hg, ⟨rfl, rfl, rfl, .refl S, fun _ _ _ => rfl, fun _ _ _ _ _ _ h => h⟩, rfl⟩
  | p :: ps, Ts, xs, S, A, ls, us, bs, i, K, hg, h => by
    cases Ts with
    | nil => unfold argsOf at h; cases xs <;> cases h
    | cons T Ts =>
      cases xs with
      | nil => unfold argsOf at h; cases h
      | cons x xs =>
        unfold argsOf at h
        split at h
        · rename_i s hs
          split at h
          · rename_i l u b hb
            split at h
            · rename_i ls1 us1 bs1 hrec
              cases h
              obtain ⟨S1, K1, g1, st1, p1⟩ := arg_step hE K hg i hs hb
              obtain ⟨S2, K2, g2, st2, p2⟩ := args_step hE ps (i + 1) K1 g1 hrec
              exact ⟨S2, K2, by rw [ups_append]; exact g2, st1.trans st2, b, bs1, rfl, p1.stay st2 (by omega), p2⟩
            · cases h
          · cases h
        · cases h
end
end Go.Proofs.Ytehkignjdbkeiaa.Vf
