/- Steps by which something changes hands without memory being touched: assign, extract, field; addresses. -/
import Derived.Test.YtehkignjdbkeiaaVg
set_option linter.unusedVariables false
set_option linter.unusedSimpArgs false
namespace Go.Proofs.Ytehkignjdbkeiaa.Vf
open Go

/-- Some blocks of a place get other names. -/
def reP (O : Nat → Lab) (l i : Nat) (f : List Nat → Option (List Nat)) : Nat → Lab := fun k => match O k with
  | .pl l' p => if l' = l then (match f p with
    | some q => .tm i q
    | none => .pl l' p) else .pl l' p
  | o => o

section
variable {X : Cx} {S : Sit} {a : Act} {E : En} {A : Ab} {o : Oper} {R : Type} {Kc : List Up → Option R} {r : R}

theorem reP_other {O : Nat → Lab} {l i k : Nat} {f : List Nat → Option (List Nat)} (h : ∀ p, O k ≠ .pl l p) : reP O l i f k = O k := by
  unfold reP
  cases hk : O k <;> simp
  rename_i l' p
  intro e
  subst e
  exact absurd hk (h p)
theorem reP_own {O : Nat → Lab} {l i k : Nat} {f : List Nat → Option (List Nat)} {p q : List Nat} (h : O k = .pl l p) (hf : f p = some q) : reP O l i f k = .tm i q := by
  unfold reP; rw [h]; simp [hf]
theorem reP_stay {O : Nat → Lab} {l i k : Nat} {f : List Nat → Option (List Nat)} {p : List Nat} (h : O k = .pl l p) (hf : f p = none) : reP O l i f k = .pl l p := by
  unfold reP; rw [h]; simp [hf]

def detP (S : Sit) (l i : Nat) (f : List Nat → Option (List Nat)) (s : Sv) : Sit := { S with O := reP S.O l i f, g := upd S.g l ((S.g l).1 + 1, s) }

theorem detP_later (S : Sit) (l i : Nat) (f : List Nat → Option (List Nat)) (s : Sv) : Later S (detP S l i f s) where
  ver := fun p => by
    by_cases h : p = l
    · subst h; simp [detP]
    · simp [detP, upd_ne _ _ h]
  ph := fun _ _ => rfl
  own := fun p v e r xs' h hv => by
    by_cases hp : p = l
    · subst hp
      simp only [detP, upd_same, Prod.mk.injEq] at h
      omega
    · simp only [detP, upd_ne _ _ hp] at h
      exact ⟨xs', h, rfl⟩
  bb := fun _ _ => rfl
  fz := fun k h => ⟨(reP_other (by simp [h])).trans h, rfl⟩

theorem detachP (K : Okay X S a) (l i : Nat) (f : List Nat → Option (List Nat)) (s : Sv) (hnh : ∀ n, s ≠ .one (.hd n)) (hs : SvOk X.P (detP S l i f s) l s (S.ph l)) :
    Okay X (detP S l i f s) a ∧ (∀ p q x u, f p = some q → LfOk X.P S (.pl l p) x u → LfOk X.P (detP S l i f s) (.tm i q) x u) ∧ (∀ n q x u, LfOk X.P S (.tm n q) x u → LfOk X.P (detP S l i f s) (.tm n q) x u) := by
  have L := detP_later S l i f s
  refine ⟨?_, fun p q x u hf h => h.later L (fun k hk => ⟨reP_own hk hf, rfl⟩), fun n q x u h => h.later L (fun k hk => ⟨(reP_other (by simp [hk])).trans hk, rfl⟩)⟩
  refine K.ghost _ _ (fun k h => (reP_other (by simp [h])).trans h) (fun k h => ?_) (fun k h => (reP_other (by simp [h])).trans h) (fun k b h => (reP_other (by simp [h])).trans h) (fun b n h => ?_) (fun l' => ?_)
  · intro e
    exact h ((reP_other (by simp [e])).trans e)
  · by_cases hb : H b = l
    · subst hb
      simp at h
      exact absurd h (hnh n)
    · rwa [upd_ne _ _ hb] at h
  · by_cases hl : l' = l
    · subst hl
      show SvOk X.P _ l' (upd S.g l' _ l').2 _
      simp only [upd_same]
      exact hs
    · show SvOk X.P _ l' (upd S.g l _ l').2 _
      rw [upd_ne _ _ hl]
      exact (K.at_ l').later L (fun p k hk => ⟨(reP_other (by simp [hk, hl])).trans hk, rfl⟩)

/-- A content moves from a place to a temporary. -/
theorem put_from (K : Okay X S a) (hg : S.g = get A) {p d : Nat} (hd : d < X.nt) {s : Sv} (hs : (get A p).2 = s) :
    ∃ S', Okay X S' (a.put (some d) (S.ph p)) ∧ S'.g = get (ups A [⟨p, false, .one .dead⟩, ⟨d, false, s⟩]) ∧ S'.w = S.w := by
  obtain ⟨K1, h1, _⟩ := detach K p 0
  let h : Nat → List Nat → Option Lab := fun n q => if n = 0 then some (.pl d q) else none
  have L := putS_later (detS S p 0) h d s (S.ph p)
  have hok : SvOk X.P S p s (S.ph p) := by have := K.at_ p; rwa [hg, hs] at this
  have hso : SvOk X.P (putS (detS S p 0) h d s (S.ph p)) d s (S.ph p) := by
    refine SvOk.imp (S := S) (l := p) (fun q x u hx => ?_) hok
    exact (h1 q x u hx).later L (fun k hk => ⟨atO_tm hk (by simp [h]), rfl⟩)
  refine ⟨_, K1.put hd h (by intro n q p hp; simp only [h] at hp; split at hp <;> first | (cases hp; exact ⟨q, rfl⟩) | cases hp) s _ hso, ?_, rfl⟩
  show upd (detS S p 0).g d _ = _
  rw [show ups A [⟨p, false, .one .dead⟩, ⟨d, false, s⟩] = ups (ups A [⟨p, false, .one .dead⟩]) [⟨d, false, s⟩] from rfl, get_ups1, get_ups1, ← hg]
  rfl

theorem get_keep (A : Ab) (l : Nat) (s : Sv) : get (ups A [⟨l, true, s⟩]) = upd (get A) l ((get A l).1, s) := get_up A ⟨l, true, s⟩

theorem st_assign (hE : EnOk X E) (K : Okay X S a) (hg : S.g = get A) {x : Operand} {d : Nat} (ho : o.op = .assign x) (hod : o.dst = some d) (hd : d < X.nt) (h : step E o A Kc = some r) : After X o a S.w A Kc r := by
  unfold step at h
  rw [ho, hod] at h
  simp only at h
  split at h
  · rename_i p v hs
    obtain ⟨l, hl⟩ := opT_ex hE K hg hs
    split at h
    · rename_i n e r' xs hp
      cases hb : Nat.beq n v with
      | false => rw [hb] at h; simp at h
      | true =>
        rw [hb] at h
        simp only [cond_true] at h
        have hnv : n = v := by simpa using hb
        subst hnv
        have he : a.eval x = S.ph p := hl.2 (by rw [hg, hp])
        cases hr : E.res d with
        | true =>
          rw [hr] at h
          simp only [cond_true] at h
          obtain ⟨S', K', hg', hw⟩ := put_from K hg (p := p) hd (s := .one (.own e r' xs)) (by rw [hp])
          exact ⟨_, h, goes_value (S := S') (v := S.ph p) (by rw [hw, run_move (.inr ho), he]) (by rw [hod]; exact K') hg'⟩
        | false =>
          rw [hr] at h
          simp only [cond_false] at h
          obtain ⟨K1, _, hf⟩ := freeze_ K (p := p) (e := e) (r := r') (xs := xs) (by rw [hg, hp])
          have K2 := K1.put0 hd (.one (.fz e r' xs)) (S.ph p) 0 rfl (LfOk.relab (lab' := .pl 0 []) rfl hf)
          refine ⟨_, h, goes_value (S := _) (v := S.ph p) ?_ (by rw [hod]; exact K2) ?_⟩
          · show _ = Result.ok _ S.w
            rw [run_move (.inr ho), he]
          · show upd (frS S p e r' xs).g d _ = _
            rw [show ups A [⟨p, true, .one (.fz e r' xs)⟩, ⟨d, false, .one (.fz e r' xs)⟩] = ups (ups A [⟨p, true, .one (.fz e r' xs)⟩]) [⟨d, false, .one (.fz e r' xs)⟩] from rfl, get_ups1, get_keep, ← hg]
            rfl
    · rename_i n e r' xs hp
      cases hb : Nat.beq n v with
      | false => rw [hb] at h; simp at h
      | true =>
        rw [hb] at h
        simp only [cond_true] at h
        have hnv : n = v := by simpa using hb
        subst hnv
        have he : a.eval x = S.ph p := hl.2 (by rw [hg, hp])
        have hp' : SvOk X.P S p (.one (.fz e r' xs)) (S.ph p) := by have := K.at_ p; rwa [hg, hp] at this
        have K2 := K.put0 hd (.one (.fz e r' xs)) (S.ph p) p rfl hp'
        refine ⟨_, h, goes_value (S := _) (v := S.ph p) ?_ (by rw [hod]; exact K2) ?_⟩
        · show _ = Result.ok _ S.w
          rw [run_move (.inr ho), he]
        · show upd S.g d _ = _
          rw [get_ups1, ← hg]
    · cases h
  · rename_i s _ hs
    obtain ⟨S', K', hg', hw⟩ := put_any hE K hg hs hd
    exact ⟨_, h, goes_value (S := S') (by rw [hw]; exact run_move (.inr ho)) (by rw [hod]; exact K') hg'⟩
  · cases h

/-! ### Parts -/
theorem LfsOk.len {P : Program} {S : Sit} {f : Nat → Lab} : ∀ {j : Nat} {xs : List Lf} {us : List Value}, LfsOk P S f j xs us → us.length = xs.length
  | _, [], [], _ => rfl
  | _, _ :: _, _ :: _, h => by simp [h.2.len]
  | _, [], _ :: _, h => h.elim
  | _, _ :: _, [], h => h.elim

theorem LfsOk.shift {P : Program} {S : Sit} {f : Nat → Lab} : ∀ {j : Nat} {xs : List Lf} {us : List Value} (n : Nat), LfsOk P S f (j + n) xs us → LfsOk P S (fun i => f (i + n)) j xs us
  | _, [], [], _, _ => trivial
  | j, _ :: xs, _ :: us, n, h => ⟨h.1, LfsOk.shift (j := j + 1) n (by rw [show j + 1 + n = j + n + 1 by omega]; exact h.2)⟩
  | _, [], _ :: _, _, h => h.elim
  | _, _ :: _, [], _, h => h.elim

theorem LfsOk.drop {P : Program} {S : Sit} {f : Nat → Lab} : ∀ {j : Nat} {xs : List Lf} {us : List Value} (n : Nat), LfsOk P S f j xs us → LfsOk P S f (j + n) (xs.drop n) (us.drop n)
  | _, _, _, 0, h => h
  | _, [], [], _ + 1, _ => trivial
  | j, _ :: xs, _ :: us, n + 1, h => by
    rw [show j + (n + 1) = j + 1 + n by omega]
    exact LfsOk.drop n h.2
  | _, [], _ :: _, _, h => h.elim
  | _, _ :: _, [], _, h => h.elim

theorem LfsOk.take {P : Program} {S : Sit} {f : Nat → Lab} : ∀ {j : Nat} {xs : List Lf} {us : List Value} (n : Nat), LfsOk P S f j xs us → LfsOk P S f j (xs.take n) (us.take n)
  | _, _, _, 0, _ => trivial
  | _, [], [], _ + 1, _ => trivial
  | j, _ :: xs, _ :: us, n + 1, h => ⟨h.1, LfsOk.take n h.2⟩
  | _, [], _ :: _, _, h => h.elim
  | _, _ :: _, [], _, h => h.elim

theorem LfsOk.app {P : Program} {S : Sit} {f : Nat → Lab} : ∀ {j : Nat} {xs ys : List Lf} {us vs : List Value}, LfsOk P S f j xs us → LfsOk P S f (j + xs.length) ys vs → LfsOk P S f j (xs ++ ys) (us ++ vs)
  | _, [], _, [], _, _, h => h
  | j, _ :: xs, _, _ :: us, _, h, h' => ⟨h.1, LfsOk.app h.2 (by rw [show j + 1 + xs.length = j + (xs.length + 1) by omega]; exact h')⟩
  | _, [], _, _ :: _, _, h, _ => h.elim
  | _, _ :: _, _, [], _, h, _ => h.elim

/-- Nothing is said of what is gone. -/
theorem LfsOk.deads {P : Program} {S : Sit} {f : Nat → Lab} : ∀ {j : Nat} (us : List Value), LfsOk P S f j (List.replicate us.length .dead) us
  | _, [] => trivial
  | _, _ :: us => ⟨trivial, LfsOk.deads us⟩

theorem nth_eq {α : Type} : ∀ (l : List α) (n : Nat), nth l n = l[n]?
  | [], _ => by simp [nth]
  | _ :: _, 0 => by simp [nth]
  | _ :: l, n + 1 => by simp [nth, nth_eq l n]

theorem TupOk.get {P : Program} {S : Sit} {l : Nat} : ∀ {i : Nat} {vs : List (Bool × List Lf)} {us : List Value} (j : Nat) {v : Bool × List Lf}, TupOk P S l i vs us → vs[j]? = some v →
    ∃ u ws, us[j]? = some u ∧ (if v.1 then u = .agg ws.toArray else ws = [u]) ∧ LfsOk P S (fun n => .pl l [i + j, n]) 0 v.2 ws
  | _, [], _, j, v, _, h => by simp at h
  | i, v0 :: vs, u :: us, 0, v, ⟨⟨ws, h1, h2⟩, _⟩, h => by
    simp at h
    subst h
    exact ⟨u, ws, rfl, h1, h2⟩
  | i, _ :: vs, _ :: us, j + 1, v, ⟨_, h3⟩, h => by
    obtain ⟨u, ws, e1, e2, e3⟩ := h3.get j (by simpa using h)
    exact ⟨u, ws, by simpa using e1, e2, by rw [show i + (j + 1) = i + 1 + j by omega]; exact e3⟩
  | _, _ :: _, [], _, _, h, _ => h.elim

/-- One component is gone; the others stay. -/
theorem TupOk.gone {P : Program} {S S' : Sit} {l : Nat} (j : Nat) : ∀ {i : Nat} {vs : List (Bool × List Lf)} {us : List Value}, (∀ n m x u, n ≠ j → LfOk P S (.pl l [n, m]) x u → LfOk P S' (.pl l [n, m]) x u) →
    TupOk P S l i vs us → i ≤ j → TupOk P S' l i (vs.set (j - i) (false, [.dead])) us
  | _, [], [], _, _, _ => by simp [TupOk]
  | i, v :: vs, u :: us, hi, ⟨⟨ws, h1, h2⟩, h3⟩, hij => by
    by_cases he : i = j
    · subst he
      simp only [Nat.sub_self, List.set_cons_zero]
      refine ⟨⟨[u], by simp, trivial, trivial⟩, ?_⟩
      have : ∀ {n : Nat} {vs : List (Bool × List Lf)} {us : List Value}, i < n → TupOk P S l n vs us → TupOk P S' l n vs us := by
        intro n vs
        induction vs generalizing n with
        | nil => intro us _ h; cases us <;> first | trivial | exact h.elim
        | cons v vs ih =>
          intro us hn h
          cases us with
          | nil => exact h.elim
          | cons u us =>
            obtain ⟨⟨ws, h1, h2⟩, h3⟩ := h
            exact ⟨⟨ws, h1, h2.imp (fun m x u h => hi n m x u (by omega) h)⟩, ih (by omega) h3⟩
      exact this (by omega) h3
    · rw [show j - i = (j - (i + 1)) + 1 by omega, List.set_cons_succ]
      exact ⟨⟨ws, h1, h2.imp (fun m x u h => hi i m x u he h)⟩, h3.gone j hi (by omega)⟩
  | _, [], _ :: _, _, h, _ => h.elim
  | _, _ :: _, [], _, h, _ => h.elim

theorem ofParts_ok {P : Program} {S : Sit} {ag : Bool} {l : List Lf} {s : Sv} {d : Nat} {u : Value} {ws : List Value} (h : ofParts ag l = some s) (hu : if ag then u = .agg ws.toArray else ws = [u])
    (hl : LfsOk P S (fun n => .pl d (if ag then [n] else [])) 0 l ws) : SvOk P S d s u := by
  unfold ofParts at h
  cases ag with
  | true =>
    simp at h
    subst h
    exact ⟨ws, by simpa using hu, by simpa using hl⟩
  | false =>
    simp only [cond_false] at h
    split at h
    · cases h
      simp at hu
      subst hu
      exact hl.1
    · cases h

theorem ofParts_own {ag : Bool} {l : List Lf} {s : Sv} (h : ofParts ag l = some s) : ownSv s = ownIn l := by
  unfold ofParts at h
  cases ag with
  | true => simp at h; subst h; rfl
  | false =>
    simp only [cond_false] at h
    split at h
    · cases h; rfl
    · cases h

/-- The names of what was taken out of a temporary, at the next one. -/
def partH (d : Nat) (ag : Bool) : Nat → List Nat → Option Lab := fun n q => if n = 0 then some (.pl d (if ag then q else [])) else none
theorem partH_pl (d : Nat) (ag : Bool) : ∀ n q p, partH d ag n q = some p → ∃ p', p = .pl d p' := by
  intro n q p hp
  unfold partH at hp
  split at hp
  · cases hp; exact ⟨_, rfl⟩
  · cases hp

theorem st_extract (hE : EnOk X E) (K : Okay X S a) (hg : S.g = get A) {t j d : Nat} (ho : o.op = .extract (.tmp t) j) (hod : o.dst = some d) (hd : d < X.nt) (h : step E o A Kc = some r) : After X o a S.w A Kc r := by
  unfold step at h
  rw [ho, hod] at h
  simp only at h
  cases hb : Nat.blt t E.nt with
  | false => rw [hb] at h; simp at h
  | true =>
    rw [hb] at h
    simp only [cond_true] at h
    have ht : t < X.nt := hE.nt ▸ (Nat.le_of_ble_eq_true hb : t + 1 ≤ E.nt)
    have he : a.eval (.tmp t) = S.ph t := K.sl t ht
    split at h
    · rename_i vs hvs
      have hok : SvOk X.P S t (.tup vs) (S.ph t) := by have := K.at_ t; rwa [hg, hvs] at this
      obtain ⟨us, e1, hto⟩ := hok
      split at h
      · rename_i ag l hn
        rw [nth_eq] at hn
        split at h
        · rename_i s hs
          obtain ⟨u, ws, e2, e3, hl⟩ := hto.get j hn
          simp only [Nat.zero_add] at hl
          have hrun : (execOp a.eval o).run X.P S.w = .ok (.value u) S.w := by
            unfold execOp
            simp [ho, he, e1, Instr.extract, e2]
          cases hown : ownIn l with
          | false =>
            rw [hown] at h
            simp only [cond_false] at h
            have hso : SvOk X.P S d s u := ofParts_ok hs e3 (hl.relab hown)
            have K2 := K.put0 hd s u d (by rw [ofParts_own hs, hown]) hso
            refine ⟨_, h, goes_value (S := putS S (fun _ _ => none) d s u) hrun (by rw [hod]; exact K2) ?_⟩
            show upd S.g d _ = _
            rw [get_ups1, ← hg]
          | true =>
            rw [hown] at h
            simp only [cond_true] at h
            let f : List Nat → Option (List Nat) := fun p => match p with
              | [i, n] => if i = j then some [n] else none
              | _ => none
            have L1 := detP_later S t 0 f (.tup (vs.set j (false, [.dead])))
            obtain ⟨K1, h1, _⟩ := detachP K t 0 f (.tup (vs.set j (false, [.dead]))) (by simp) ⟨us, e1, by
              refine hto.gone j (fun n m x u hne hx => hx.later L1 (fun k hk => ⟨reP_stay hk (by simp [f, hne]), rfl⟩)) (Nat.zero_le _)⟩
            have L2 := putS_later (detP S t 0 f (.tup (vs.set j (false, [.dead])))) (partH d ag) d s u
            have hl2 : LfsOk X.P (putS (detP S t 0 f (.tup (vs.set j (false, [.dead])))) (partH d ag) d s u) (fun n => .pl d (if ag then [n] else [])) 0 l ws := by
              refine hl.imp (fun n x u hx => ?_)
              exact (h1 [j, n] [n] x u (by simp [f]) hx).later L2 (fun k hk => ⟨atO_tm hk (by simp [partH]), rfl⟩)
            have K2 := K1.put hd (partH d ag) (partH_pl d ag) s u (ofParts_ok hs e3 hl2)
            refine ⟨_, h, goes_value (S := putS (detP S t 0 f (.tup (vs.set j (false, [.dead])))) (partH d ag) d s u) hrun (by rw [hod]; exact K2) ?_⟩
            show upd (detP S t 0 f (.tup (vs.set j (false, [.dead])))).g d _ = _
            rw [show ∀ u1 u2, ups A [u1, u2] = ups (ups A [u1]) [u2] from fun _ _ => rfl, get_ups1, get_ups1, ← hg]
            rfl
        · cases h
      · cases h
    · cases h
end
end Go.Proofs.Ytehkignjdbkeiaa.Vf
