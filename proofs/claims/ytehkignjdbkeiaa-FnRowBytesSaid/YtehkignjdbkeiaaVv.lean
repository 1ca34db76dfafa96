/- Calls: the arguments. -/
import Derived.Test.YtehkignjdbkeiaaVu
set_option linter.unusedVariables false
set_option linter.unusedSimpArgs false
namespace Go.Proofs.Ytehkignjdbkeiaa.Vf
open Go
attribute [local irreducible] C H

def Mk : List Ty → List (List Lf) → List (List Lf) → Prop
  | [], [], [] => True
  | t :: ts, l :: ls, l' :: ls' => (∃ y, mkW t l = some y ∧ l' = leaves t y) ∧ Mk ts ls ls'
  | _, _, _ => False

theorem mkDen_mk : ∀ (ts : List Ty) (ls : List (List Lf)) (x : Den ts), mkDen ts ls = some x → Mk ts ls (leavesD ts x)
  | [], [], _, _ => trivial
  | [], _ :: _, _, h => by simp [mkDen] at h
  | [t], [], _, h => by simp [mkDen] at h
  | [t], [l], x, h => ⟨⟨x, h, rfl⟩, trivial⟩
  | [t], _ :: _ :: _, _, h => by simp [mkDen] at h
  | _ :: _ :: _, [], _, h => by simp [mkDen] at h
  | t :: u :: ts, l :: ls, x, h => by
    simp only [mkDen] at h
    split at h
    · rename_i y hy
      split at h
      · rename_i z hz
        cases h
        exact ⟨⟨y, hy, rfl⟩, mkDen_mk (u :: ts) ls z hz⟩
      · cases h
    · cases h

theorem leavesD_solid : ∀ (ts : List Ty) (x : Den ts), ∀ l ∈ leavesD ts x, ∀ y ∈ l, solid y = true
  | [], _ => by simp [leavesD]
  | [t], x => by
    intro l hl
    simp [leavesD] at hl
    subst hl
    exact leaves_solid t x
  | t :: u :: ts, x => by
    intro l hl
    rcases List.mem_cons.1 (show l ∈ leaves t x.1 :: leavesD (u :: ts) x.2 from hl) with rfl | h
    · exact leaves_solid t x.1
    · exact leavesD_solid (u :: ts) x.2 l h

theorem noOw_leaves : ∀ (t : Ty) (x : t.den), noOw t = true → leaves t x = lvs t x
  | .i _, _, _ => rfl
  | .b, _, _ => rfl
  | .s, _, _ => rfl
  | .sl _ _, _, _ => rfl
  | .ow _ _, _, h => by simp [noOw] at h
  | .pr x y, p, h => by
    simp only [noOw, Bool.and_eq_true] at h
    show leaves x p.1 ++ leaves y p.2 = lvs x p.1 ++ lvs y p.2
    rw [noOw_leaves x p.1 h.1, noOw_leaves y p.2 h.2]

section
variable {X : Cx} {S S' : Sit} {a : Act} {E : En} {A : Ab} {o : Oper} {R : Type} {Kc : List Up → Option R} {r : R}

/-- The cells of an operand. -/
theorem parts_lf (hE : EnOk X E) (K : Okay X S a) (hg : S.g = get A) {T : TypeId} {x : Operand} {s : Sv} {ag : Bool} (hx : opT E T A x = some s) (hf : formOk ag s = true) :
    ∃ us, ∃ f : Nat → Lab, (if ag then a.eval x = .agg us.toArray else us = [a.eval x]) ∧ LfsOk X.P S f 0 (parts s) us ∧ ∀ n, f n ≠ .no := by
  rcases opT_ok hE K hg hx with ⟨t, rfl, ht, hst, het, hok⟩ | ⟨hnt, y, rfl, hy⟩
  · cases s with
    | tup vs => simp [formOk, form] at hf
    | one y =>
      have : ag = false := by cases ag <;> simp [formOk, form] at hf ⊢
      subst this
      exact ⟨[a.eval (.tmp t)], fun _ => .pl t [], rfl, ⟨hok, trivial⟩, by simp⟩
    | agg l =>
      have : ag = true := by cases ag <;> simp [formOk, form] at hf ⊢
      subst this
      obtain ⟨us, e1, hl⟩ := hok
      exact ⟨us, fun n => .pl t [n], e1, hl, by simp⟩
  · have : ag = false := by cases ag <;> simp [formOk, form] at hf ⊢
    subst this
    exact ⟨[a.eval x], fun _ => .fz, rfl, ⟨hy _, trivial⟩, by simp⟩

theorem form_nt {ag : Bool} {s : Sv} (hf : formOk ag s = true) : ∀ vs, s ≠ .tup vs := by
  intro vs e
  subst e
  simp [formOk, form] at hf

theorem form_shape {ag : Bool} {s : Sv} {u : Value} {us : List Value} (hf : formOk ag s = true) (h : Shape s u us) : if ag then u = .agg us.toArray else us = [u] := by
  cases s with
  | tup vs => simp [formOk, form] at hf
  | one y =>
    have : ag = false := by cases ag <;> simp [formOk, form] at hf ⊢
    subst this
    exact h
  | agg l =>
    have : ag = true := by cases ag <;> simp [formOk, form] at hf ⊢
    subst this
    exact h

/-- Of shared leaves: the reading of the parameter. -/
theorem shared_arg {P : Program} {S : Sit} {G : Nat → Prop} {t : Ty} {l : List Lf} {y : t.den} {us : List Value} (hG : ∀ k, G k → S.O k = .fz) (hm : mkW t l = some y) (hn : noOw t = true) (h : All2 (LfRep P G S.w) l us) (f : Nat → Lab) (j : Nat) : LfsOk P S f j (leaves t y) us := by
  have h1 := mkW_rep hm h
  have h2 := lvs_rep (P := P) (G := fun k => S.O k = .fz) (w := S.w) t y us (Ty.rep_mono hG (fun _ _ => rfl) t y us h1)
  rw [noOw_leaves t y hn]
  exact LfsOk.ofRep h2 f j

/-! ### Arguments that are only read -/
def lendO (S : Sit) : Nat → Lab := fun k => if S.O k = .no then .no else .fz

theorem seen_lab {y : Lf} {u : Value} {lab : Lab} (K : Okay X S a) (hg : S.g = get A) (h : LfOk X.P S lab y u) : ∃ lab', (lab' = lab ∨ ∃ p, lab' = .pl p []) ∧ LfOk X.P S lab' (seen A y) u := by
  unfold seen
  split
  · rename_i p v
    split
    · rename_i n e r xs hp
      cases hb : Nat.beq n v with
      | false => exact ⟨lab, .inl rfl, trivial⟩
      | true =>
        have hnv : n = v := by simpa using hb
        subst hnv
        have e1 : u = S.ph p := h.2 (by rw [hg, hp])
        refine ⟨.pl p [], .inr ⟨p, rfl⟩, ?_⟩
        have := K.at_ p
        rw [hg, hp] at this
        rw [e1]
        exact this
    · rename_i n e r xs hp
      cases hb : Nat.beq n v with
      | false => exact ⟨lab, .inl rfl, trivial⟩
      | true =>
        have hnv : n = v := by simpa using hb
        subst hnv
        have e1 : u = S.ph p := h.2 (by rw [hg, hp])
        refine ⟨.pl p [], .inr ⟨p, rfl⟩, ?_⟩
        have := K.at_ p
        rw [hg, hp] at this
        rw [e1]
        exact this
    · exact ⟨lab, .inl rfl, trivial⟩
  · exact ⟨lab, .inl rfl, h⟩

theorem lent_rep (K : Okay X S a) (hg : S.g = get A) {f : Nat → Lab} (hf : ∀ n, f n ≠ .no) : ∀ {l : List Lf} {j : Nat} {us : List Value}, LfsOk X.P S f j l us → storable (l.map fun y => calm (seen A y)) = true →
    All2 (LfRep X.P (fun k => lendO S k = .fz) S.w) (l.map fun y => calm (seen A y)) us
  | [], _, [], _, _ => .nil
  | [], _, _ :: _, h, _ => h.elim
  | _ :: _, _, [], h, _ => h.elim
  | y :: l, j, u :: us, h, hst => by
    obtain ⟨lab', hlab, h1⟩ := seen_lab K hg h.1
    have hfz : ∀ k, S.O k = .fz → lendO S k = .fz := fun k hk => by simp [lendO, hk]
    have hno : lab' ≠ .no := by
      rcases hlab with rfl | ⟨p, rfl⟩
      · exact hf j
      · simp
    rw [List.map_cons] at hst ⊢
    have hrest : storable (l.map fun y => calm (seen A y)) = true := by
      generalize calm (seen A y) = z at hst
      cases z <;> first | (simp [storable] at hst; done) | simpa [storable] using hst
    refine .cons ?_ (lent_rep K hg hf h.2 hrest)
    generalize seen A y = z at h1 hst
    cases z with
    | sc v => exact h1
    | fz e r xs => exact Ty.rep_mono (t := .sl e r) hfz (fun _ _ => rfl) _ _ h1
    | own e r xs =>
      have h2 : OwnOk X.P S.O S.w lab' e r xs u := h1
      exact own_reads (O' := lendO S) h2 hfz (fun k hk => by
        have := h2.2.choose_spec.2.2 k hk
        simp [lendO, this, hno])
    | _ => simp [calm, storable] at hst

theorem lent_args (hE : EnOk X E) (K : Okay X S a) (hg : S.g = get A) (rg : Nat → Nat × Nat) : ∀ (ps : List Par) {xs : List Operand} {ss : List Sv} {ls ls' : List (List Lf)} {i : Nat}, All2 (fun s x => ∃ T, opT E T A x = some s) ss xs → lentOf A ps ss = some ls → Mk (ps.map Par.ty) ls ls' →
    lends ps = true → ArgsOk X.P (bare (lendO S) S.w) rg i ps ls' (xs.map a.eval)
  | [], _, _, ls, ls', i, .nil, h, hm, _ => by
    simp only [lentOf, Option.some.injEq] at h
    subst h
    cases ls' with
    | nil => trivial
    | cons => exact hm.elim
  | [], _, _, ls, ls', i, .cons _ _, h, hm, _ => by simp [lentOf] at h
  | .ptr _ _ :: _, _, _, _, _, _, _, _, _, hl => by simp [lends] at hl
  | .val ag t :: ps, _, _, ls, ls', i, .nil, h, _, _ => by simp [lentOf] at h
  | .val ag t :: ps, _, _, ls, ls', i, .cons (x := s) (y := x) (xs := ss) (ys := xs) hs hss, h, hm, hl => by
    simp only [lends, Bool.and_eq_true] at hl
    simp only [lentOf] at h
    cases hq : (formOk ag s && storable ((parts s).map (fun y => calm (seen A y)))) with
    | false => rw [hq] at h; simp at h
    | true =>
      rw [hq, cond_true] at h
      simp only [Bool.and_eq_true] at hq
      split at h
      · rename_i ls1 hls1
        cases h
        cases ls' with
        | nil => exact hm.elim
        | cons l' ls' =>
          obtain ⟨⟨y, hy, rfl⟩, hm2⟩ := hm
          obtain ⟨T, hx⟩ := hs
          obtain ⟨us, f, hsh, hlf, hf⟩ := parts_lf hE K hg hx hq.1
          exact ⟨⟨us, hsh, shared_arg (S := bare (lendO S) S.w) (fun k hk => hk) hy hl.1 (lent_rep K hg hf hlf hq.2) _ _⟩, lent_args hE K hg rg ps hss hls1 hm2 hl.2⟩
      · cases h

/-- What shares nothing. -/
def newLeaf : Lf → Bool
  | .sc _ => true
  | .own _ r _ => plain r
  | _ => false

theorem fresh_leaves : ∀ (t : Ty) (x : t.den), fresh t = true → ∀ y ∈ leaves t x, newLeaf y = true
  | .i _, _, _ => by simp [leaves, newLeaf]
  | .b, _, _ => by simp [leaves, newLeaf]
  | .s, _, _ => by simp [leaves, newLeaf]
  | .sl _ _, _, h => by simp [fresh] at h
  | .ow _ r, _, h => by simpa [leaves, newLeaf, fresh] using h
  | .pr x y, p, h => by
    simp only [fresh, Bool.and_eq_true] at h
    intro z hz
    rcases List.mem_append.1 (show z ∈ leaves x p.1 ++ leaves y p.2 from hz) with h' | h'
    · exact fresh_leaves x p.1 h.1 z h'
    · exact fresh_leaves y p.2 h.2 z h'

theorem plain_rep {P : Program} {G G' : Nat → Prop} {w w' : World} : ∀ (t : Ty) (x : t.den) (vs : List Value), plain t = true → t.rep P G w x vs → t.rep P G' w' x vs
  | .i _, _, _, _, h => h
  | .b, _, _, _, h => h
  | .s, _, _, _, h => h
  | .sl _ _, _, _, h, _ => by simp [plain] at h
  | .ow _ _, _, _, h, _ => by simp [plain] at h
  | .pr x y, p, _, h, ⟨c, d, e, h1, h2⟩ => by
    simp only [plain, Bool.and_eq_true] at h
    exact ⟨c, d, e, plain_rep x p.1 c h.1 h1, plain_rep y p.2 d h.2 h2⟩

theorem new_lf {P : Program} {S1 S2 : Sit} {lab lab' : Lab} {y : Lf} {u : Value} (hy : newLeaf y = true) (hw : S2.w = S1.w) (hl : ∀ k, S1.O k = lab → S2.O k = lab') (h : LfOk P S1 lab y u) : LfOk P S2 lab' y u := by
  cases y with
  | sc v => exact h
  | own e r xs =>
    obtain ⟨h1, cs, h2, h3, h4⟩ := h
    exact ⟨h1, cs, by rw [hw]; exact h2, h3.mono (fun x c => plain_rep r x c hy), fun k hk => hl k (h4 k hk)⟩
  | _ => simp [newLeaf] at hy

theorem news_leaves : ∀ (rs : List (RK × Ty)) (x : Den (rs.map Prod.snd)), news rs = true → ∀ l ∈ leavesD (rs.map Prod.snd) x, ∀ y ∈ l, newLeaf y = true
  | [], _, _ => fun l hl => by cases (show l ∈ ([] : List (List Lf)) from hl)
  | [(k, t)], x, h => by
    intro l hl
    have hl' : l ∈ [leaves t x] := hl
    simp at hl'
    subst hl'
    have : fresh t = true := by cases k <;> simp [news] at h <;> exact h
    exact fresh_leaves t x this
  | (k, t) :: r2 :: rs, x, h => by
    intro l hl
    have h2 : fresh t = true ∧ news (r2 :: rs) = true := by
      cases k <;> simp only [news, Bool.and_eq_true] at h <;> first | exact h | cases h
    rcases List.mem_cons.1 (show l ∈ leaves t x.1 :: leavesD ((r2 :: rs).map Prod.snd) x.2 from hl) with rfl | h'
    · exact fresh_leaves t x.1 h2.1
    · exact news_leaves (r2 :: rs) x.2 h2.2 l h'
end
end Go.Proofs.Ytehkignjdbkeiaa.Vf
