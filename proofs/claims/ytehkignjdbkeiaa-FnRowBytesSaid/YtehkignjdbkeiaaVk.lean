/- What is given away to be stored: shared aliases, moved contents. -/
import Derived.Test.YtehkignjdbkeiaaVj
set_option linter.unusedVariables false
set_option linter.unusedSimpArgs false
namespace Go.Proofs.Ytehkignjdbkeiaa.Vf
open Go

def pth : Sv → Nat → List Nat
  | .agg _, n => [n]
  | _, _ => []

/-- A value's cells. -/
def Shape (s : Sv) (u : Value) (us : List Value) : Prop := match s with
  | .agg _ => u = .agg us.toArray
  | _ => us = [u]

/-- Some places are read by all now; nothing else differs. -/
def Frz (g g' : Nat → Nat × Sv) : Prop := ∀ p, g' p = g p ∨ ∃ n e r, ∃ xs : List (Ty.den r), g p = (n, .one (.own e r xs)) ∧ g' p = (n, .one (.fz e r xs))

/-- A situation that differs by names of blocks alone. -/
structure Eased (X : Cx) (S S' : Sit) : Prop where
  w : S'.w = S.w
  ph : S'.ph = S.ph
  bb : S'.bb = S.bb
  later : Later S S'
  tm : ∀ n q k, S.O k = .tm n q → S'.O k = .tm n q
  pl : ∀ l p k, S.O k = .pl l p → p ≠ [] → S'.O k = .pl l p
  bx : ∀ b k, S.O k = .bx b → S'.O k = .bx b
  no : ∀ k, S.O k = .no → S'.O k = .no

section
variable {X : Cx} {S S' S'' : Sit} {a : Act} {E : En} {A : Ab} {o : Oper} {R : Type} {Kc : List Up → Option R} {r : R}

theorem Later.refl (S : Sit) : Later S S := ⟨fun _ => Nat.le_refl _, fun _ _ => rfl, fun p v e r xs' h _ => ⟨xs', h, rfl⟩, fun _ _ => rfl, fun k h => ⟨h, rfl⟩⟩
theorem Later.trans (L : Later S S') (L' : Later S' S'') : Later S S'' where
  ver := fun p => Nat.le_trans (L.ver p) (L'.ver p)
  ph := fun p e => by
    have e1 : (S'.g p).1 = (S.g p).1 := Nat.le_antisymm (e ▸ L'.ver p) (L.ver p)
    rw [L'.ph p (e.trans e1.symm), L.ph p e1]
  own := fun p v e r xs' h hv => by
    have e1 : (S'.g p).1 = v := Nat.le_antisymm (by have := L'.ver p; rw [h] at this; exact this) (hv ▸ L.ver p)
    obtain ⟨ys, hy, hl⟩ := L'.own p v e r xs' h e1
    obtain ⟨zs, hz, hl'⟩ := L.own p v e r ys hy hv
    exact ⟨zs, hz, hl'.trans hl⟩
  bb := fun b e => by
    have e1 : (S'.g (H b)).1 = (S.g (H b)).1 := Nat.le_antisymm (e ▸ L'.ver _) (L.ver _)
    rw [L'.bb b (e.trans e1.symm), L.bb b e1]
  fz := fun k h => ⟨(L'.fz k (L.fz k h).1).1, (L'.fz k (L.fz k h).1).2.trans (L.fz k h).2⟩

theorem Eased.refl (S : Sit) : Eased X S S := ⟨rfl, rfl, rfl, .refl S, fun _ _ _ h => h, fun _ _ _ h _ => h, fun _ _ h => h, fun _ h => h⟩
theorem Eased.trans (h : Eased X S S') (h' : Eased X S' S'') : Eased X S S'' :=
  ⟨h'.w.trans h.w, h'.ph.trans h.ph, h'.bb.trans h.bb, h.later.trans h'.later, fun n q k e => h'.tm n q k (h.tm n q k e), fun l p k e hp => h'.pl l p k (h.pl l p k e hp) hp, fun b k e => h'.bx b k (h.bx b k e), fun k e => h'.no k (h.no k e)⟩

theorem frS_eased {p : Nat} {e : TypeId} {r' : Ty} {xs : List r'.den} (K : Okay X S a) (hp : (S.g p).2 = .one (.own e r' xs)) : Eased X S (frS S p e r' xs) := by
  have hown : OwnOk X.P S.O S.w (.pl p []) e r' xs (S.ph p) := by have := K.at_ p; rw [hp] at this; exact this
  have hb : ∀ k, (S.ph p).ownBlock = some k → S.O k = .pl p [] := hown.2.choose_spec.2.2
  have other : ∀ k o, S.O k = o → o ≠ .pl p [] → (frS S p e r' xs).O k = o := fun k o h ho => by
    have hk : (S.ph p).ownBlock ≠ some k := fun e' => ho (h.symm.trans (hb k e'))
    simp [frS, hk, h]
  exact ⟨rfl, rfl, rfl, frS_later S p e r' xs, fun n q k h => other k _ h (by simp), fun l q k h hq => other k _ h (by simp [hq]), fun b k h => other k _ h (by simp), fun k h => other k _ h (by simp)⟩

/-- What the aliases among some leaves cost. -/
theorem costs_ok : ∀ (l : List Lf) {S : Sit} {A' : Ab}, Okay X S a → S.g = get A' → Frz (get A) (get A') → ∃ S', Okay X S' a ∧ S'.g = get (ups A' (costs A l)) ∧ Eased X S S' ∧ Frz (get A) S'.g ∧
    ∀ p v, Lf.al p v ∈ l → ∀ n e r, ∀ xs : List (Ty.den r), get A p = (n, .one (.own e r xs)) → n = v → S'.g p = (n, .one (.fz e r xs))
  | [], S, A', K, hg, hf => ⟨S, K, hg, .refl S, by rw [hg]; exact hf, by simp⟩
  | x :: l, S, A', K, hg, hf => by
    -- the first leaf
    have first : ∃ S1, Okay X S1 a ∧ S1.g = get (ups A' (cost A x)) ∧ Eased X S S1 ∧ Frz (get A) S1.g ∧ ∀ p v, x = Lf.al p v → ∀ n e r, ∀ xs : List (Ty.den r), get A p = (n, .one (.own e r xs)) → n = v → S1.g p = (n, .one (.fz e r xs)) := by
      cases x with
      | al p v =>
        by_cases hown : ∃ e r, ∃ xs : List (Ty.den r), get A p = (v, .one (.own e r xs))
        · obtain ⟨e, r', xs, hp⟩ := hown
          have hc : cost A (.al p v) = [⟨p, true, .one (.fz e r' xs)⟩] := by simp [cost, hp]
          rw [hc]
          have hfix : ∀ S1 : Sit, S1.g = get (ups A' [⟨p, true, .one (.fz e r' xs)⟩]) → S1.g p = (v, .one (.fz e r' xs)) → ∀ p' v', Lf.al p v = Lf.al p' v' → ∀ n e r, ∀ xs : List (Ty.den r), get A p' = (n, .one (.own e r xs)) → n = v' → S1.g p' = (n, .one (.fz e r xs)) := by
            intro S1 _ h1 p' v' h2 n e2 r2 xs2 h3 h4
            cases h2
            rw [hp] at h3
            cases h3
            exact h1
          rcases hf p with h0 | ⟨n, e2, r2, xs2, h1, h2⟩
          · have hSp : S.g p = (v, .one (.own e r' xs)) := by rw [hg, h0, hp]
            have hg1 : (frS S p e r' xs).g = get (ups A' [⟨p, true, .one (.fz e r' xs)⟩]) := by
              show upd S.g p _ = _
              rw [get_keep, ← hg]
            refine ⟨_, (freeze_ K (by rw [hSp])).1, hg1, frS_eased K (by rw [hSp]), fun q => ?_, hfix _ hg1 (by show upd S.g p _ p = _; rw [upd_same, hSp])⟩
            by_cases hq : q = p
            · subst hq
              exact .inr ⟨v, e, r', xs, hp, by show upd S.g q _ q = _; rw [upd_same, hSp]⟩
            · have : (frS S p e r' xs).g q = get A' q := by show upd S.g p _ q = _; rw [upd_ne _ _ hq, hg]
              rw [this]
              exact hf q
          · rw [hp] at h1
            cases h1
            have hg1 : S.g = get (ups A' [⟨p, true, .one (.fz e r' xs)⟩]) := by
              rw [get_keep, hg]
              funext q
              by_cases hq : q = p
              · subst hq; rw [upd_same, h2]
              · rw [upd_ne _ _ hq]
            exact ⟨S, K, hg1, .refl S, by rw [hg]; exact hf, hfix S hg1 (by rw [hg, h2])⟩
        · have hc : cost A (.al p v) = [] := by
            simp only [cost]
            split
            · rename_i n e r' xs hp
              cases hb : Nat.beq n v with
              | false => rfl
              | true =>
                have : n = v := by simpa using hb
                subst this
                exact absurd ⟨e, r', xs, hp⟩ hown
            · rfl
          rw [hc]
          refine ⟨S, K, hg, .refl S, by rw [hg]; exact hf, fun p' v' h1 n e r xs h2 h3 => ?_⟩
          cases h1
          subst h3
          exact absurd ⟨e, r, xs, h2⟩ hown
      | _ => exact ⟨S, K, hg, .refl S, by rw [hg]; exact hf, by simp⟩
    obtain ⟨S1, K1, hg1, E1, F1, P1⟩ := first
    obtain ⟨S2, K2, hg2, E2, F2, P2⟩ := costs_ok l K1 hg1 (by rw [← hg1]; exact F1)
    refine ⟨S2, K2, by rw [hg2, costs, ups_append], E1.trans E2, F2, fun p v hm n e r xs h1 h2 => ?_⟩
    rcases List.mem_cons.1 hm with hx | hl
    · have h3 := P1 p v hx.symm n e r xs h1 h2
      rcases F2 p with h4 | ⟨n', e', r', xs', h4, h5⟩
      · -- it was read by all already
        have hv := E2.later.ver p
        have hA := h4
        rw [h1] at hA
        obtain ⟨ys, hy, _⟩ := E2.later.own p n e r xs hA (by rw [h3])
        rw [h3] at hy
        simp at hy
      · rw [h1] at h4
        cases h4
        exact h5
    · exact P2 p v hl n e r xs h1 h2

/-- A content that is given away: what is kept of it, at a name of its own. -/
theorem taken (hE : EnOk X E) (K : Okay X S a) (hg : S.g = get A) {T : TypeId} {y : Operand} {s : Sv} (hs : opT E T A y = some s) (hnt : ∀ vs, s ≠ .tup vs) (i : Nat) :
    ∃ S', Okay X S' a ∧ S'.g = get (ups A (costs A (parts s) ++ gone y s)) ∧ S'.w = S.w ∧ S'.bb = S.bb ∧ S'.ph = S.ph ∧ Later S S' ∧ (∀ b k, S.O k = .bx b → S'.O k = .bx b) ∧ (∀ b, (S'.g (H b)).1 = (S.g (H b)).1 ∧ ∀ n, (S.g (H b)).2 = .one (.hd n) → S'.g (H b) = S.g (H b)) ∧
      (∀ n q x u, LfOk X.P S (.tm n q) x u → LfOk X.P S' (.tm n q) x u) ∧
      ∃ us, Shape s (a.eval y) us ∧ LfsOk X.P S' (fun n => .tm i (pth s n)) 0 ((parts s).map (kept A)) us := by
  obtain ⟨S1, K1, hg1, E1, F1, P1⟩ := costs_ok (X := X) (a := a) (A := A) (parts s) K hg (fun p => .inl rfl)
  -- each leaf, kept
  have keep : ∀ (f : Nat → Lab) (hf : ∀ n k, S.O k = f n → S1.O k = f n) (l : List Lf), (∀ x ∈ l, x ∈ parts s) → ∀ j us, LfsOk X.P S f j l us → LfsOk X.P S1 f j (l.map (kept A)) us := by
    intro f hf l
    induction l with
    | nil =>
      intro _ j us h
      cases us with
      | nil => trivial
      | cons => exact h.elim
    | cons x l ih =>
      intro hm j us h
      cases us with
      | nil => exact h.elim
      | cons u us =>
        refine ⟨?_, ih (fun z hz => hm z (List.mem_cons_of_mem _ hz)) _ _ h.2⟩
        have h1 : LfOk X.P S (f j) x u := h.1
        cases x with
        | al p v =>
          show LfOk X.P S1 (f j) (calm (seen A (.al p v))) u
          simp only [seen]
          split
          · rename_i n e r' xs hp
            cases hb : Nat.beq n v with
            | false => exact trivial
            | true =>
              have hnv : n = v := by simpa using hb
              subst hnv
              rw [cond_true]
              show LfOk X.P S1 (f j) (.fz e r' xs) u
              have h2 := P1 p n (hm _ (by simp)) n e r' xs hp rfl
              have h3 := K1.at_ p
              rw [h2, E1.ph, ← h1.2 (by rw [hg, hp])] at h3
              exact LfOk.relab (lab := .pl p []) rfl h3
          · rename_i n e r' xs hp
            cases hb : Nat.beq n v with
            | false => exact trivial
            | true =>
              have hnv : n = v := by simpa using hb
              subst hnv
              rw [cond_true]
              show LfOk X.P S1 (f j) (.fz e r' xs) u
              have h3 := K.at_ p
              rw [hg, hp, ← h1.2 (by rw [hg, hp])] at h3
              have h4 : LfOk X.P S (.pl p []) (.fz e r' xs) u := h3
              exact (LfOk.relab (lab' := f j) rfl h4).later E1.later (fun k hk => ⟨hf j k hk, by rw [E1.w]⟩)
          · exact trivial
        | _ => exact h1.later E1.later (fun k hk => ⟨hf j k hk, by rw [E1.w]⟩)
  have base : ∀ n q x u, LfOk X.P S (.tm n q) x u → LfOk X.P S1 (.tm n q) x u := fun n q x u h => h.later E1.later (fun k hk => ⟨E1.tm n q k hk, by rw [E1.w]⟩)
  have heads : ∀ b, (S1.g (H b)).1 = (S.g (H b)).1 ∧ ∀ n, (S.g (H b)).2 = .one (.hd n) → S1.g (H b) = S.g (H b) := fun b => by
    rcases F1 (H b) with h1 | ⟨n', e, r', xs, h1, h2⟩
    · exact ⟨by rw [h1, hg], fun n _ => by rw [h1, hg]⟩
    · exact ⟨by rw [hg, h1, h2], fun n h => by rw [hg, h1] at h; cases h⟩
  -- what has no owner needs no name
  have calmOwn : ∀ l : List Lf, ownIn l = false → ownIn (l.map (kept A)) = false := by
    intro l
    induction l with
    | nil => intro; rfl
    | cons x l ih =>
      intro h
      have hc : ∀ z : Lf, ownIn (calm z :: l.map (kept A)) = ownIn (l.map (kept A)) := by intro z; cases z <;> rfl
      cases x with
      | own e r xs => simp [ownIn] at h
      | al p v => rw [List.map_cons]; exact (hc _).trans (ih (by simpa [ownIn] using h))
      | _ => exact ih (by simpa [ownIn] using h)
  have finish : ∀ (us : List Value), Shape s (a.eval y) us → (ownSv s = false → ∃ f, LfsOk X.P S1 f 0 ((parts s).map (kept A)) us) →
      (∀ t, y = .tmp t → ownSv s = true → LfsOk X.P S1 (fun n => .pl t (pth s n)) 0 ((parts s).map (kept A)) us) → ((∀ t, y ≠ .tmp t) → LfsOk X.P S1 (fun n => .tm i (pth s n)) 0 ((parts s).map (kept A)) us) →
      ∃ S', Okay X S' a ∧ S'.g = get (ups A (costs A (parts s) ++ gone y s)) ∧ S'.w = S.w ∧ S'.bb = S.bb ∧ S'.ph = S.ph ∧ Later S S' ∧ (∀ b k, S.O k = .bx b → S'.O k = .bx b) ∧ (∀ b, (S'.g (H b)).1 = (S.g (H b)).1 ∧ ∀ n, (S.g (H b)).2 = .one (.hd n) → S'.g (H b) = S.g (H b)) ∧
      (∀ n q x u, LfOk X.P S (.tm n q) x u → LfOk X.P S' (.tm n q) x u) ∧
      ∃ us, Shape s (a.eval y) us ∧ LfsOk X.P S' (fun n => .tm i (pth s n)) 0 ((parts s).map (kept A)) us := by
    intro us hus h1 h2 h3
    cases ho : ownSv s with
    | false =>
      obtain ⟨f, h4⟩ := h1 ho
      have hgo : gone y s = [] := by unfold gone; split <;> simp [ho]
      have hp : ownIn (parts s) = false := by
        cases s with
        | one x => exact ho
        | agg l => exact ho
        | tup vs => exact absurd rfl (hnt vs)
      exact ⟨S1, K1, by rw [hgo, List.append_nil]; exact hg1, E1.w, E1.bb, E1.ph, E1.later, E1.bx, heads, base, us, hus, h4.relab (calmOwn _ hp)⟩
    | true =>
      by_cases hy : ∃ t, y = .tmp t
      · obtain ⟨t, rfl⟩ := hy
        obtain ⟨K2, g1, g2⟩ := detach K1 t i
        have hgo : gone (.tmp t) s = [⟨t, false, .one .dead⟩] := by simp [gone, ho]
        have htn : t < 1000 := by
          rcases opT_ok hE K hg hs with ⟨t', e, ht, _⟩ | ⟨hn, _⟩
          · cases e; exact Nat.lt_of_lt_of_le ht K.nt
          · exact absurd rfl (hn t)
        refine ⟨_, K2, ?_, E1.w, E1.bb, E1.ph, E1.later.trans (detS_later S1 t i), fun b k hk => (reO_other (by simp [E1.bx b k hk])).trans (E1.bx b k hk), fun b => ?_, fun n q x u h => g2 n q x u (base n q x u h), us, hus, (h2 t rfl ho).imp (fun n x u h => g1 _ x u h)⟩
        · rw [hgo, ups_append, get_ups1, ← hg1]
          rfl
        · have : (detS S1 t i).g (H b) = S1.g (H b) := upd_ne _ _ (fun e => by have h1 := H_ge b; rw [e] at h1; exact absurd htn (Nat.not_lt.2 h1))
          rw [this]
          exact heads b
      · have hy' : ∀ t, y ≠ .tmp t := fun t e => hy ⟨t, e⟩
        have hgo : gone y s = [] := by
          unfold gone
          split
          · exact absurd rfl (hy' _)
          · rfl
        exact ⟨S1, K1, by rw [hgo, List.append_nil]; exact hg1, E1.w, E1.bb, E1.ph, E1.later, E1.bx, heads, base, us, hus, h3 hy'⟩
  rcases opT_ok hE K hg hs with ⟨t, rfl, ht, hst, het, hok⟩ | ⟨hnt', x, rfl, hx⟩
  · cases s with
    | tup vs => exact absurd rfl (hnt vs)
    | one x =>
      have hok' : LfsOk X.P S (fun _ => .pl t []) 0 [x] [a.eval (.tmp t)] := ⟨hok, trivial⟩
      refine finish [a.eval (.tmp t)] rfl (fun ho => ?_) (fun t' e ho => ?_) (fun h => absurd rfl (h t))
      · have := keep (fun _ => .tm 0 []) (fun n k hk => E1.tm _ _ k hk) [x] (by simp [parts]) 0 _ (hok'.relab ho)
        exact ⟨_, this⟩
      · cases e
        cases x <;> first | (simp [ownSv, ownIn] at ho; done) | skip
        rename_i e r' xs
        have hS1 : S1.g t = (S.g t) := by
          have := hg1
          simp only [parts, costs, cost, List.append_nil, ups] at this
          rw [this, ← hg]
        have hnow := K1.at_ t
        rw [hS1, ← hst, E1.ph, ← het] at hnow
        exact ⟨hnow, trivial⟩
    | agg l =>
      obtain ⟨us, e1, hl⟩ := hok
      refine finish us e1 (fun ho => ?_) (fun t' e ho => ?_) (fun h => absurd rfl (h t))
      · have := keep (fun _ => .tm 0 []) (fun n k hk => E1.tm _ _ k hk) l (by simp [parts]) 0 us (hl.relab ho)
        exact ⟨_, this⟩
      · cases e
        exact keep (fun n => .pl t [n]) (fun n k hk => E1.pl t [n] k hk (by simp)) l (by simp [parts]) 0 us hl
  · refine finish [a.eval y] rfl (fun ho => ?_) (fun t e => absurd e (hnt' t)) (fun _ => ?_)
    · exact ⟨_, keep (fun _ => .tm i []) (fun n k hk => E1.tm _ _ k hk) [x] (by simp [parts]) 0 [a.eval y] ⟨hx _, trivial⟩⟩
    · exact keep (fun _ => .tm i []) (fun n k hk => E1.tm _ _ k hk) [x] (by simp [parts]) 0 [a.eval y] ⟨hx _, trivial⟩
end
end Go.Proofs.Ytehkignjdbkeiaa.Vf
