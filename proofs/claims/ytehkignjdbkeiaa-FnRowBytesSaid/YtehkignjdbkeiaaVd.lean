/- Steps that change no memory: what a place gives away, what it shares from now on, what a temporary gets. -/
import Derived.Test.YtehkignjdbkeiaaVc
namespace Go.Proofs.Ytehkignjdbkeiaa.Vf
open Go

section
variable {X : Cx} {S : Sit} {a : Act}

theorem Fr.relab {O0 O O' : Nat → Lab} {w0 w : World} {rg : Nat → Nat × Nat} (h : Fr O0 w0 rg O w)
    (h1 : ∀ k, O k = .no → O' k = .no) (h2 : ∀ k, O k = .fz → O' k = .fz) (h3 : ∀ k b, O k = .bx b → O' k = .bx b) : Fr O0 w0 rg O' w :=
  ⟨h.os, h.tape, h.out, h.size, fun k hk e => ⟨h1 k (h.no k hk e).1, (h.no k hk e).2⟩, fun k hk e => ⟨h2 k (h.fz k hk e).1, (h.fz k hk e).2⟩,
    fun k b hk e => ⟨h3 k b (h.bx k b hk e).1, (h.bx k b hk e).2⟩⟩

theorem Okay.ghost (K : Okay X S a) (O' : Nat → Lab) (g' : Nat → Nat × Sv)
    (h1 : ∀ k, S.O k = .no → O' k = .no) (h1' : ∀ k, O' k ≠ .no → S.O k ≠ .no) (h2 : ∀ k, S.O k = .fz → O' k = .fz) (h3 : ∀ k b, S.O k = .bx b → O' k = .bx b)
    (hH : ∀ b n, (g' (H b)).2 = .one (.hd n) → (S.g (H b)).2 = .one (.hd n))
    (hat : ∀ l, SvOk X.P { S with O := O', g := g' } l (g' l).2 (S.ph l)) : Okay X { S with O := O', g := g' } a where
  nt := K.nt
  lt := fun k hk => K.lt k (h1' k hk)
  at_ := hat
  box := fun b n h => by
    obtain ⟨hn, c, e, e1, e2, e3, e4⟩ := K.box b n (hH b n h)
    exact ⟨hn, c, e, e1, h3 _ _ e2, e3, e4⟩
  rgn := fun b n h => K.rgn b n (hH b n h)
  sl := K.sl
  sz := K.sz
  df := K.df
  fr := K.fr.relab h1 h2 h3

/-- The blocks of a place get other names. -/
def reO (O : Nat → Lab) (l : Nat) (i : Nat) : Nat → Lab := fun k => match O k with
  | .pl l' p => if l' = l then .tm i p else .pl l' p
  | o => o

theorem reO_other {O : Nat → Lab} {l k : Nat} {i : Nat} (h : ∀ p, O k ≠ .pl l p) : reO O l i k = O k := by
  unfold reO
  cases hk : O k <;> simp
  rename_i l' p
  intro e
  subst e
  exact absurd hk (h p)
theorem reO_own {O : Nat → Lab} {l k : Nat} {i : Nat} {p : List Nat} (h : O k = .pl l p) : reO O l i k = .tm i p := by
  unfold reO; rw [h]; simp

def detS (S : Sit) (l : Nat) (i : Nat) : Sit := { S with O := reO S.O l i, g := upd S.g l ((S.g l).1 + 1, .one .dead) }

theorem detS_later (S : Sit) (l : Nat) (i : Nat) : Later S (detS S l i) where
  ver := fun p => by
    by_cases h : p = l
    · subst h; simp [detS]
    · simp [detS, upd_ne _ _ h]
  ph := fun _ _ => rfl
  own := fun p v e r xs' h hv => by
    by_cases hp : p = l
    · subst hp; simp [detS] at h
    · simp only [detS, upd_ne _ _ hp] at h
      exact ⟨xs', h, rfl⟩
  bb := fun _ _ => rfl
  fz := fun k h => ⟨(reO_other (by simp [h])).trans h, rfl⟩

theorem detach (K : Okay X S a) (l : Nat) (i : Nat) :
    Okay X (detS S l i) a ∧ (∀ p x u, LfOk X.P S (.pl l p) x u → LfOk X.P (detS S l i) (.tm i p) x u) ∧ (∀ n q x u, LfOk X.P S (.tm n q) x u → LfOk X.P (detS S l i) (.tm n q) x u) := by
  have L := detS_later S l i
  refine ⟨?_, fun p x u h => h.later L (fun k hk => ⟨reO_own hk, rfl⟩), fun n q x u h => h.later L (fun k hk => ⟨(reO_other (by simp [hk])).trans hk, rfl⟩)⟩
  refine K.ghost _ _ (fun k h => (reO_other (by simp [h])).trans h) (fun k h => ?_) (fun k h => (reO_other (by simp [h])).trans h) (fun k b h => (reO_other (by simp [h])).trans h) (fun b n h => ?_) (fun l' => ?_)
  · intro e
    exact h ((reO_other (by simp [e])).trans e)
  · by_cases hb : H b = l
    · subst hb; simp at h
    · rwa [upd_ne _ _ hb] at h
  · by_cases hl : l' = l
    · subst hl
      show SvOk X.P _ l' (upd S.g l' _ l').2 _
      simp only [upd_same]
      trivial
    · show SvOk X.P _ l' (upd S.g l _ l').2 _
      rw [upd_ne _ _ hl]
      exact (K.at_ l').later L (fun p k hk => ⟨(reO_other (by simp [hk, hl])).trans hk, rfl⟩)

/-- A place is only emptied. -/
theorem Okay.kill (K : Okay X S a) (l : Nat) : ∃ O', Okay X { S with O := O', g := upd S.g l ((S.g l).1 + 1, .one .dead) } a ∧
    Later S { S with O := O', g := upd S.g l ((S.g l).1 + 1, .one .dead) } ∧ (∀ n q x u, LfOk X.P S (.tm n q) x u → LfOk X.P { S with O := O', g := upd S.g l ((S.g l).1 + 1, .one .dead) } (.tm n q) x u) :=
  ⟨_, (detach K l 0).1, detS_later S l _, (detach K l 0).2.2⟩

theorem own_nil_or {w : World} {e n m : Nat} {cs : List Value} {u : Value} (h : w.ownsRow 0 e n u m cs) :
    (u = .slice none 0 0 ∧ m = 0 ∧ cs = []) ∨ ∃ k cap cur, u = .slice (some ⟨k, 0, none⟩) m cap ∧ w.heap[k]? = some (.cells cur e (0, 0)) ∧ m ≤ cap ∧ cap ≤ maxLen ∧ cur.size = cap * n ∧ cur.toList.take (m * n) = cs := by
  rcases h.2 with ⟨e1, e2⟩ | ⟨k, cap, cur, e1, _, e2, e3, e4, e5, e6⟩
  · refine .inl ⟨e1, e2, ?_⟩
    have := h.1
    rw [e2, Nat.zero_mul] at this
    exact List.eq_nil_of_length_eq_zero this
  · exact .inr ⟨k, cap, cur, e1, e2, e3, e4, e5, e6⟩

theorem cells_of_row {w : World} {k : Nat} {cur : Array Value} {e : TypeId} {f : Nat × Nat} {cs : List Value} {n : Nat} (h : w.heap[k]? = some (.cells cur e f)) (ht : cur.toList.take n = cs) : CellsAt w k 0 cs := by
  intro j u hu
  subst ht
  rw [List.getElem?_take] at hu
  split at hu
  · simp [World.cell?, h]
    simpa using hu
  · cases hu

/-- What is owned may be read by all, once it is nobody's. -/
theorem own_reads {P : Program} {O O' : Nat → Lab} {w : World} {lab : Lab} {e : TypeId} {r : Ty} {xs : List r.den} {u : Value} (h : OwnOk P O w lab e r xs u)
    (hf : ∀ k, O k = .fz → O' k = .fz) (hk : ∀ k, u.ownBlock = some k → O' k = .fz) : (Ty.sl e r).rep P (fun k => O' k = .fz) w xs [u] := by
  obtain ⟨hs, cs, ho, hr, _⟩ := h
  have hr' := hr.mono (R' := fun x c => r.rep P (fun k => O' k = .fz) w x c) (fun x c => Ty.rep_mono hf (fun _ _ => rfl) r x c)
  refine ⟨u, rfl, hs, ?_⟩
  rcases own_nil_or ho with ⟨rfl, hm, rfl⟩ | ⟨k, cap, cur, rfl, hg, hc, _, _, ht⟩
  · refine ⟨none, 0, [], ?_, by omega, hr', fun hn => ?_⟩
    · rw [hm]
    · exact absurd (List.eq_nil_of_length_eq_zero hm) hn
  · exact ⟨_, cap, cs, rfl, hc, hr', fun _ => ⟨k, 0, rfl, hk k rfl, cells_of_row hg ht⟩⟩

/-- What may be read by all, of what is owned: in this very world, by other names. -/
def frS (S : Sit) (p : Nat) (e : TypeId) (r : Ty) (xs : List r.den) : Sit :=
  { S with O := fun k => if (S.ph p).ownBlock = some k then .fz else S.O k, g := upd S.g p ((S.g p).1, .one (.fz e r xs)) }

theorem frS_later (S : Sit) (p : Nat) (e : TypeId) (r : Ty) (xs : List r.den) : Later S (frS S p e r xs) where
  ver := fun q => by
    by_cases h : q = p
    · subst h; simp [frS]
    · simp [frS, upd_ne _ _ h]
  ph := fun _ _ => rfl
  own := fun q v e' r' xs' h hv => by
    by_cases hp : q = p
    · subst hp; simp [frS] at h
    · simp only [frS, upd_ne _ _ hp] at h
      exact ⟨xs', h, rfl⟩
  bb := fun _ _ => rfl
  fz := fun k h => ⟨by simp [frS, h], rfl⟩

theorem freeze_ (K : Okay X S a) {p : Nat} {e : TypeId} {r : Ty} {xs : List r.den} (hp : (S.g p).2 = .one (.own e r xs)) :
    Okay X (frS S p e r xs) a ∧ (∀ n q x u, LfOk X.P S (.tm n q) x u → LfOk X.P (frS S p e r xs) (.tm n q) x u) ∧ LfOk X.P (frS S p e r xs) .no (.fz e r xs) (S.ph p) := by
  have L := frS_later S p e r xs
  have hown : OwnOk X.P S.O S.w (.pl p []) e r xs (S.ph p) := by have := K.at_ p; rw [hp] at this; exact this
  have hb : ∀ k, (S.ph p).ownBlock = some k → S.O k = .pl p [] := hown.2.choose_spec.2.2
  have other : ∀ k o, S.O k = o → o ≠ .pl p [] → (frS S p e r xs).O k = o := fun k o h ho => by
    have hk : (S.ph p).ownBlock ≠ some k := fun e' => ho (h.symm.trans (hb k e'))
    simp [frS, hk, h]
  have hnew : LfOk X.P (frS S p e r xs) .no (.fz e r xs) (S.ph p) := own_reads hown (fun k h => (L.fz k h).1) (fun k h => by simp [frS, h])
  refine ⟨K.ghost _ _ (fun k h => other k _ h (by simp)) (fun k h e' => h (other k _ e' (by simp))) (fun k h => (L.fz k h).1) (fun k b h => other k _ h (by simp)) (fun b n h => ?_) (fun l => ?_),
    fun n q x u h => h.later L (fun k hk => ⟨other k _ hk (by simp), rfl⟩), hnew⟩
  · by_cases hbp : H b = p
    · subst hbp; simp at h
    · rwa [upd_ne _ _ hbp] at h
  · by_cases hl : l = p
    · subst hl
      show SvOk X.P _ l (upd S.g l _ l).2 _
      rw [upd_same]
      exact LfOk.relab (lab' := .pl l []) rfl hnew
    · show SvOk X.P _ l (upd S.g p _ l).2 _
      rw [upd_ne _ _ hl]
      exact (K.at_ l).later L (fun q k hk => ⟨other k _ hk (by simp [hl]), rfl⟩)

/-! ### A temporary gets a value -/
def atO (O : Nat → Lab) (h : Nat → List Nat → Option Lab) : Nat → Lab := fun k => match O k with
  | .tm n q => (match h n q with
    | some p => p
    | none => .tm n q)
  | o => o

theorem atO_other {O : Nat → Lab} {h : Nat → List Nat → Option Lab} {k : Nat} {o : Lab} (e : O k = o) (ho : ∀ n q, o ≠ .tm n q) : atO O h k = o := by
  unfold atO; rw [e]; cases o <;> first | rfl | (exact absurd rfl (ho _ _))
theorem atO_tm {O : Nat → Lab} {h : Nat → List Nat → Option Lab} {k n : Nat} {q : List Nat} {p : Lab} (e : O k = .tm n q) (hn : h n q = some p) : atO O h k = p := by
  unfold atO; rw [e]; simp [hn]
theorem atO_keep {O : Nat → Lab} {h : Nat → List Nat → Option Lab} {k n : Nat} {q : List Nat} (e : O k = .tm n q) (hn : h n q = none) : atO O h k = .tm n q := by
  unfold atO; rw [e]; simp [hn]

/-- What was held by name goes to a temporary. -/
def putS (S : Sit) (h : Nat → List Nat → Option Lab) (d : Nat) (s : Sv) (v : Value) : Sit :=
  { S with O := atO S.O h, g := upd S.g d ((S.g d).1 + 1, s), ph := upd S.ph d v }

theorem putS_later (S : Sit) (h : Nat → List Nat → Option Lab) (d : Nat) (s : Sv) (v : Value) : Later S (putS S h d s v) where
  ver := fun p => by
    by_cases hp : p = d
    · subst hp; simp [putS]
    · simp [putS, upd_ne _ _ hp]
  ph := fun p e => by
    by_cases hp : p = d
    · subst hp; simp [putS] at e
    · simp [putS, upd_ne _ _ hp]
  own := fun p v' e r xs' hh hv => by
    by_cases hp : p = d
    · subst hp
      simp only [putS, upd_same, Prod.mk.injEq] at hh
      omega
    · simp only [putS, upd_ne _ _ hp] at hh
      exact ⟨xs', hh, rfl⟩
  bb := fun _ _ => rfl
  fz := fun k hk => ⟨atO_other hk (by simp), rfl⟩

theorem Okay.put (K : Okay X S a) {d : Nat} (hd : d < X.nt) (h : Nat → List Nat → Option Lab) (hh : ∀ n q p, h n q = some p → ∃ p', p = .pl d p') (s : Sv) (v : Value) (hs : SvOk X.P (putS S h d s v) d s v) :
    Okay X (putS S h d s v) (a.put (some d) v) := by
  have L := putS_later S h d s v
  have hd1 : d < 1000 := Nat.lt_of_lt_of_le hd K.nt
  have keepO : ∀ k o, S.O k = o → (∀ n q, o ≠ .tm n q) → (putS S h d s v).O k = o := fun k o e ho => atO_other e ho
  refine ⟨K.nt, fun k hk => K.lt k (fun e => hk (keepO k _ e (by simp))), fun l => ?_, fun b n hb => ?_, fun b n hb => ?_, fun t ht => ?_, ?_, K.df, K.fr.relab (fun k e => keepO k _ e (by simp)) (fun k e => keepO k _ e (by simp)) (fun k b e => keepO k _ e (by simp))⟩
  · by_cases hl : l = d
    · subst hl
      show SvOk X.P _ l (upd S.g l _ l).2 (upd S.ph l _ l)
      rw [upd_same, upd_same]
      exact hs
    · show SvOk X.P _ l (upd S.g d _ l).2 (upd S.ph d _ l)
      rw [upd_ne _ _ hl, upd_ne _ _ hl]
      exact (K.at_ l).later L (fun p k e => ⟨keepO k _ e (by simp), rfl⟩)
  · have hne : H b ≠ d := fun e => by have := H_ge b; omega
    have hb' : (S.g (H b)).2 = .one (.hd n) := by
      have : (upd S.g d ((S.g d).1 + 1, s) (H b)).2 = .one (.hd n) := hb
      rwa [upd_ne _ _ hne] at this
    obtain ⟨hn, c, e, e1, e2, e3, e4⟩ := K.box b n hb'
    refine ⟨hn, c, e, e1, keepO _ _ e2 (by simp), e3, fun j hj => ?_⟩
    show c[(S.bb b).2 + j]? = some (upd S.ph d v (C b j))
    rw [upd_ne _ _ (fun e => by have := C_ge b j; omega)]
    exact e4 j hj
  · have hne : H b ≠ d := fun e => by have := H_ge b; omega
    have hb' : (S.g (H b)).2 = .one (.hd n) := by
      have : (upd S.g d ((S.g d).1 + 1, s) (H b)).2 = .one (.hd n) := hb
      rwa [upd_ne _ _ hne] at this
    exact K.rgn b n hb'
  · show (a.put (some d) v).tmps.getD t undef = upd S.ph d v t
    by_cases htd : t = d
    · subst htd
      rw [upd_same]
      simp [Act.put, K.sz, hd]
    · rw [upd_ne _ _ htd, ← K.sl t ht]
      simp [Act.put, Array.getD_eq_getD_getElem?, Array.getElem?_setIfInBounds_ne (fun e => htd e.symm)]
  · show (a.put (some d) v).tmps.size = X.nt
    simp [Act.put, K.sz]

/-- Put without names: nothing of what is put has an owner. -/
theorem Okay.put0 (K : Okay X S a) {d : Nat} (hd : d < X.nt) (s : Sv) (v : Value) (l : Nat) (ho : ownSv s = false) (hs : SvOk X.P S l s v) :
    Okay X (putS S (fun _ _ => none) d s v) (a.put (some d) v) :=
  K.put hd _ (by simp) s v ((hs.relab (l' := d) ho).imp (l' := d) (fun p _ _ h => h.later (lab' := .pl d p) (putS_later S _ d s v) (fun k hk => ⟨atO_other (h := fun _ _ => none) (o := .pl d p) hk (by simp), rfl⟩)))
end
end Go.Proofs.Ytehkignjdbkeiaa.Vf
