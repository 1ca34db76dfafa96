import Derived.Test.YtgocagaijgcnmaaGreatMac
import Derived.Laws.Slices
import Derived.Laws.BytesArg
import Derived.Laws.CopyRow
section
set_option linter.unusedVariables false
set_option linter.unusedSimpArgs false
namespace Go.Proofs.YtgocagaijgcnmaaGreat.Vf
open Go
def reP (O : Nat → Lab) (l i : Nat) (f : List Nat → Option (List Nat)) : Nat → Lab := fun k => match O k with
 | .pl l' p => if l' = l then (match f p with
  | some q => .tm i q
  | none => .pl l' p) else .pl l' p
 | o => o
section
variable {X : Cx} {S : Sit} {a : Act} {E : En} {A : Ab} {o : Oper} {R : Type} {Kc : List Up → Option R} {r : R}
theorem reP_other {O : Nat → Lab} {l i k : Nat} {f : List Nat → Option (List Nat)} (h : ∀ p, O k ≠ .pl l p) : reP O l i f k = O k := by
 unfold reP
 cases hk : O k <;> simp
 rename_i l' p
 intro e
 subst e
 exact absurd hk (h p)
theorem reP_own {O : Nat → Lab} {l i k : Nat} {f : List Nat → Option (List Nat)} {p q : List Nat} (h : O k = .pl l p) (hf : f p = some q) : reP O l i f k = .tm i q := by
 unfold reP; rw [h]; simp [hf]
theorem reP_stay {O : Nat → Lab} {l i k : Nat} {f : List Nat → Option (List Nat)} {p : List Nat} (h : O k = .pl l p) (hf : f p = none) : reP O l i f k = .pl l p := by
 unfold reP; rw [h]; simp [hf]
def detP (S : Sit) (l i : Nat) (f : List Nat → Option (List Nat)) (s : Sv) : Sit := { S with O := reP S.O l i f, g := upd S.g l ((S.g l).1 + 1, s) }
theorem detP_later (S : Sit) (l i : Nat) (f : List Nat → Option (List Nat)) (s : Sv) : Later S (detP S l i f s) where
 ver := fun p => by
  by_cases h : p = l
  ·subst h; simp [detP]
  ·simp [detP, upd_ne _ _ h]
 ph := fun _ _ => rfl
 own := fun p v e r xs' h hv => by
  by_cases hp : p = l
  ·subst hp
   simp only [detP, upd_same, Prod.mk.injEq] at h
   omega
  ·simp only [detP, upd_ne _ _ hp] at h
   exact ⟨xs', h, rfl⟩
 bb := fun _ _ => rfl
 fz := fun k h => ⟨(reP_other (by simp [h])).trans h, rfl⟩
 box := Later.box_of (fun b n hv hh => by
  have hb : H b ≠ l := fun e => by subst e; simp [detP] at hv
  exact (congrArg Prod.snd (upd_ne _ _ hb)).trans hh) (fun k b h => ⟨(reP_other (by simp [h])).trans h, rfl⟩)
 bor := fun p hv hd => by
  have hp : p ≠ l := fun e => by subst e; simp [detP] at hv
  have hg : (detP S l i f s).g p = S.g p := upd_ne _ _ hp
  rw [hg]
  exact ⟨hd, fun _ _ _ h => h, fun k hk => ⟨.inl ((reP_other (by simp [hk, hp])).trans hk), rfl⟩⟩
theorem detachP (K : Okay X S a) (l i : Nat) (f : List Nat → Option (List Nat)) (s : Sv) (hnh : ∀ n, s ≠ .one (.hd n)) (hs : SvOk X.P (detP S l i f s) l s (S.ph l)) :
  Okay X (detP S l i f s) a ∧ (∀ p q x u, f p = some q → LfOk X.P S (.pl l p) x u → LfOk X.P (detP S l i f s) (.tm i q) x u) ∧ (∀ n q x u, LfOk X.P S (.tm n q) x u → LfOk X.P (detP S l i f s) (.tm n q) x u) := by
 have L := detP_later S l i f s
 refine ⟨?_, fun p q x u hf h => h.later L (fun k hk => ⟨reP_own hk hf, rfl⟩), fun n q x u h => h.later L (fun k hk => ⟨(reP_other (by simp [hk])).trans hk, rfl⟩)⟩
 refine K.ghost _ _ (fun k h => (reP_other (by simp [h])).trans h) (fun k h => ?_) (fun k h => (reP_other (by simp [h])).trans h) (fun k b h => (reP_other (by simp [h])).trans h) (fun b n h => ?_) (fun l' => ?_)
 ·intro e
  exact h ((reP_other (by simp [e])).trans e)
 ·by_cases hb : H b = l
  ·subst hb
   simp at h
   exact absurd h (hnh n)
  ·rwa [upd_ne _ _ hb] at h
 ·by_cases hl : l' = l
  ·subst hl
   show SvOk X.P _ l' (upd S.g l' _ l').2 _
   simp only [upd_same]
   exact hs
  ·show SvOk X.P _ l' (upd S.g l _ l').2 _
   rw [upd_ne _ _ hl]
   exact (K.at_ l').later L (fun p k hk => ⟨(reP_other (by simp [hk, hl])).trans hk, rfl⟩)
theorem put_from (K : Okay X S a) (hg : S.g = get A) {p d : Nat} (hd : d < X.nt) {s : Sv} (hs : (get A p).2 = s) :
  ∃ S', Okay X S' (a.put (some d) (S.ph p)) ∧ S'.g = get (ups A [⟨p, false, .one .dead⟩, ⟨d, false, s⟩]) ∧ S'.w = S.w := by
 obtain ⟨K1, h1, _⟩ := detach K p 0
 let h : Nat → List Nat → Option Lab := fun n q => if n = 0 then some (.pl d q) else none
 have L := putS_later (detS S p 0) h d s (S.ph p)
 have hok : SvOk X.P S p s (S.ph p) := by have := K.at_ p; rwa [hg, hs] at this
 have hso : SvOk X.P (putS (detS S p 0) h d s (S.ph p)) d s (S.ph p) := by
  refine SvOk.imp (S := S) (l := p) (fun q x u hx => ?_) hok
  exact (h1 q x u hx).later L (fun k hk => ⟨atO_tm hk (by simp [h]), rfl⟩)
 refine ⟨_, K1.put hd h (by intro n q p hp; simp only [h] at hp; split at hp <;> first | (cases hp; exact ⟨q, rfl⟩) | cases hp) s _ hso, ?_, rfl⟩
 show upd (detS S p 0).g d _ = _
 rw [show ups A [⟨p, false, .one .dead⟩, ⟨d, false, s⟩] = ups (ups A [⟨p, false, .one .dead⟩]) [⟨d, false, s⟩] from rfl, get_ups1, get_ups1, ← hg]
 rfl
theorem get_keep (A : Ab) (l : Nat) (s : Sv) : get (ups A [⟨l, true, s⟩]) = upd (get A) l ((get A l).1, s) := get_up A ⟨l, true, s⟩
theorem st_assign (hE : EnOk X E) (K : Okay X S a) (hg : S.g = get A) {x : Operand} {d : Nat} (ho : o.op = .assign x) (hod : o.dst = some d) (hd : d < X.nt) (h : step E o A Kc = some r) : After X o a S.w A Kc r := by
 unfold step at h
 rw [ho, hod] at h
 simp only at h
 split at h
 ·rename_i p v hs
  obtain ⟨l, hl⟩ := opT_ex hE K hg hs
  split at h
  ·rename_i n e r' xs hp
   cases hb : Nat.beq n v with
   | false => rw [hb] at h; simp at h
   | true =>
    rw [hb] at h
    simp only [cond_true] at h
    have hnv : n = v := by simpa using hb
    subst hnv
    have he : a.eval x = S.ph p := hl.2 (by rw [hg, hp])
    cases hr : E.res d with
    | true =>
     rw [hr] at h
     simp only [cond_true] at h
     obtain ⟨S', K', hg', hw⟩ := put_from K hg (p := p) hd (s := .one (.own e r' xs)) (by rw [hp])
     exact ⟨_, h, goes_value (S := S') (v := S.ph p) (by rw [hw, run_move (.inr ho), he]) (by rw [hod]; exact K') hg'⟩
    | false =>
     rw [hr] at h
     simp only [cond_false] at h
     obtain ⟨K1, _, hf⟩ := freeze_ K (p := p) (e := e) (r := r') (xs := xs) (by rw [hg, hp])
     have K2 := K1.put0 hd (.one (.fz e r' xs)) (S.ph p) 0 rfl (LfOk.relab (lab' := .pl 0 []) rfl hf)
     refine ⟨_, h, goes_value (S := _) (v := S.ph p) ?_ (by rw [hod]; exact K2) ?_⟩
     ·show _ = Result.ok _ S.w
      rw [run_move (.inr ho), he]
     ·show upd (frS S p e r' xs).g d _ = _
      rw [show ups A [⟨p, true, .one (.fz e r' xs)⟩, ⟨d, false, .one (.fz e r' xs)⟩] = ups (ups A [⟨p, true, .one (.fz e r' xs)⟩]) [⟨d, false, .one (.fz e r' xs)⟩] from rfl, get_ups1, get_keep, ← hg]
      rfl
  ·rename_i n e r' xs hp
   cases hb : Nat.beq n v with
   | false => rw [hb] at h; simp at h
   | true =>
    rw [hb] at h
    simp only [cond_true] at h
    have hnv : n = v := by simpa using hb
    subst hnv
    have he : a.eval x = S.ph p := hl.2 (by rw [hg, hp])
    have hp' : SvOk X.P S p (.one (.fz e r' xs)) (S.ph p) := by have := K.at_ p; rwa [hg, hp] at this
    have K2 := K.put0 hd (.one (.fz e r' xs)) (S.ph p) p rfl hp'
    refine ⟨_, h, goes_value (S := _) (v := S.ph p) ?_ (by rw [hod]; exact K2) ?_⟩
    ·show _ = Result.ok _ S.w
     rw [run_move (.inr ho), he]
    ·show upd S.g d _ = _
     rw [get_ups1, ← hg]
  ·cases h
 ·rename_i s _ hs
  obtain ⟨S', K', hg', hw⟩ := put_any hE K hg hs hd
  exact ⟨_, h, goes_value (S := S') (by rw [hw]; exact run_move (.inr ho)) (by rw [hod]; exact K') hg'⟩
 ·cases h
theorem LfsOk.len {P : Program} {S : Sit} {f : Nat → Lab} : ∀ {j : Nat} {xs : List Lf} {us : List Value}, LfsOk P S f j xs us → us.length = xs.length
 | _, [], [], _ => rfl
 | _, _ :: _, _ :: _, h => by simp [h.2.len]
 | _, [], _ :: _, h => h.elim
 | _, _ :: _, [], h => h.elim
theorem LfsOk.shift {P : Program} {S : Sit} {f : Nat → Lab} : ∀ {j : Nat} {xs : List Lf} {us : List Value} (n : Nat), LfsOk P S f (j + n) xs us → LfsOk P S (fun i => f (i + n)) j xs us
 | _, [], [], _, _ => trivial
 | j, _ :: xs, _ :: us, n, h => ⟨h.1, LfsOk.shift (j := j + 1) n (by rw [show j + 1 + n = j + n + 1 by omega]; exact h.2)⟩
 | _, [], _ :: _, _, h => h.elim
 | _, _ :: _, [], _, h => h.elim
theorem LfsOk.drop {P : Program} {S : Sit} {f : Nat → Lab} : ∀ {j : Nat} {xs : List Lf} {us : List Value} (n : Nat), LfsOk P S f j xs us → LfsOk P S f (j + n) (xs.drop n) (us.drop n)
 | _, _, _, 0, h => h
 | _, [], [], _ + 1, _ => trivial
 | j, _ :: xs, _ :: us, n + 1, h => by
  rw [show j + (n + 1) = j + 1 + n by omega]
  exact LfsOk.drop n h.2
 | _, [], _ :: _, _, h => h.elim
 | _, _ :: _, [], _, h => h.elim
theorem LfsOk.take {P : Program} {S : Sit} {f : Nat → Lab} : ∀ {j : Nat} {xs : List Lf} {us : List Value} (n : Nat), LfsOk P S f j xs us → LfsOk P S f j (xs.take n) (us.take n)
 | _, _, _, 0, _ => trivial
 | _, [], [], _ + 1, _ => trivial
 | j, _ :: xs, _ :: us, n + 1, h => ⟨h.1, LfsOk.take n h.2⟩
 | _, [], _ :: _, _, h => h.elim
 | _, _ :: _, [], _, h => h.elim
theorem LfsOk.app {P : Program} {S : Sit} {f : Nat → Lab} : ∀ {j : Nat} {xs ys : List Lf} {us vs : List Value}, LfsOk P S f j xs us → LfsOk P S f (j + xs.length) ys vs → LfsOk P S f j (xs ++ ys) (us ++ vs)
 | _, [], _, [], _, _, h => h
 | j, _ :: xs, _, _ :: us, _, h, h' => ⟨h.1, LfsOk.app h.2 (by rw [show j + 1 + xs.length = j + (xs.length + 1) by omega]; exact h')⟩
 | _, [], _, _ :: _, _, h, _ => h.elim
 | _, _ :: _, _, [], _, h, _ => h.elim
theorem LfsOk.deads {P : Program} {S : Sit} {f : Nat → Lab} : ∀ {j : Nat} (us : List Value), LfsOk P S f j (List.replicate us.length .dead) us
 | _, [] => trivial
 | _, _ :: us => ⟨trivial, LfsOk.deads us⟩
theorem nth_eq {α : Type} : ∀ (l : List α) (n : Nat), nth l n = l[n]?
 | [], _ => by simp [nth]
 | _ :: _, 0 => by simp [nth]
 | _ :: l, n + 1 => by simp [nth, nth_eq l n]
theorem TupOk.get {P : Program} {S : Sit} {l : Nat} : ∀ {i : Nat} {vs : List (Bool × List Lf)} {us : List Value} (j : Nat) {v : Bool × List Lf}, TupOk P S l i vs us → vs[j]? = some v →
  ∃ u ws, us[j]? = some u ∧ (if v.1 then u = .agg ws.toArray else ws = [u]) ∧ LfsOk P S (fun n => .pl l [i + j, n]) 0 v.2 ws
 | _, [], _, j, v, _, h => by simp at h
 | i, v0 :: vs, u :: us, 0, v, ⟨⟨ws, h1, h2⟩, _⟩, h => by
  simp at h
  subst h
  exact ⟨u, ws, rfl, h1, h2⟩
 | i, _ :: vs, _ :: us, j + 1, v, ⟨_, h3⟩, h => by
  obtain ⟨u, ws, e1, e2, e3⟩ := h3.get j (by simpa using h)
  exact ⟨u, ws, by simpa using e1, e2, by rw [show i + (j + 1) = i + 1 + j by omega]; exact e3⟩
 | _, _ :: _, [], _, _, h, _ => h.elim
theorem TupOk.gone {P : Program} {S S' : Sit} {l : Nat} (j : Nat) : ∀ {i : Nat} {vs : List (Bool × List Lf)} {us : List Value}, (∀ n m x u, n ≠ j → LfOk P S (.pl l [n, m]) x u → LfOk P S' (.pl l [n, m]) x u) →
  TupOk P S l i vs us → i ≤ j → TupOk P S' l i (vs.set (j - i) (false, [.dead])) us
 | _, [], [], _, _, _ => by simp [TupOk]
 | i, v :: vs, u :: us, hi, ⟨⟨ws, h1, h2⟩, h3⟩, hij => by
  by_cases he : i = j
  ·subst he
   simp only [Nat.sub_self, List.set_cons_zero]
   refine ⟨⟨[u], by simp, trivial, trivial⟩, ?_⟩
   have : ∀ {n : Nat} {vs : List (Bool × List Lf)} {us : List Value}, i < n → TupOk P S l n vs us → TupOk P S' l n vs us := by
    intro n vs
    induction vs generalizing n with
    | nil => intro us _ h; cases us <;> first | trivial | exact h.elim
    | cons v vs ih =>
     intro us hn h
     cases us with
     | nil => exact h.elim
     | cons u us =>
      obtain ⟨⟨ws, h1, h2⟩, h3⟩ := h
      exact ⟨⟨ws, h1, h2.imp (fun m x u h => hi n m x u (by omega) h)⟩, ih (by omega) h3⟩
   exact this (by omega) h3
  ·rw [show j - i = (j - (i + 1)) + 1 by omega, List.set_cons_succ]
   exact ⟨⟨ws, h1, h2.imp (fun m x u h => hi i m x u he h)⟩, h3.gone j hi (by omega)⟩
 | _, [], _ :: _, _, h, _ => h.elim
 | _, _ :: _, [], _, h, _ => h.elim
theorem ofParts_ok {P : Program} {S : Sit} {ag : Bool} {l : List Lf} {s : Sv} {d : Nat} {u : Value} {ws : List Value} (h : ofParts ag l = some s) (hu : if ag then u = .agg ws.toArray else ws = [u])
  (hl : LfsOk P S (fun n => .pl d (if ag then [n] else [])) 0 l ws) : SvOk P S d s u := by
 unfold ofParts at h
 cases ag with
 | true =>
  simp at h
  subst h
  exact ⟨ws, by simpa using hu, by simpa using hl⟩
 | false =>
  simp only [cond_false] at h
  split at h
  ·cases h
   simp at hu
   subst hu
   exact hl.1
  ·cases h
theorem ofParts_own {ag : Bool} {l : List Lf} {s : Sv} (h : ofParts ag l = some s) : ownSv s = ownIn l := by
 unfold ofParts at h
 cases ag with
 | true => simp at h; subst h; rfl
 | false =>
  simp only [cond_false] at h
  split at h
  ·cases h; rfl
  ·cases h
def partH (d : Nat) (ag : Bool) : Nat → List Nat → Option Lab := fun n q => if n = 0 then some (.pl d (if ag then q else [])) else none
theorem partH_pl (d : Nat) (ag : Bool) : ∀ n q p, partH d ag n q = some p → ∃ p', p = .pl d p' := by
 intro n q p hp
 unfold partH at hp
 split at hp
 ·cases hp; exact ⟨_, rfl⟩
 ·cases hp
theorem st_extract (hE : EnOk X E) (K : Okay X S a) (hg : S.g = get A) {t j d : Nat} (ho : o.op = .extract (.tmp t) j) (hod : o.dst = some d) (hd : d < X.nt) (h : step E o A Kc = some r) : After X o a S.w A Kc r := by
 unfold step at h
 rw [ho, hod] at h
 simp only at h
 cases hb : Nat.blt t E.nt with
 | false => rw [hb] at h; simp at h
 | true =>
  rw [hb] at h
  simp only [cond_true] at h
  have ht : t < X.nt := hE.nt ▸ (Nat.le_of_ble_eq_true hb : t + 1 ≤ E.nt)
  have he : a.eval (.tmp t) = S.ph t := K.sl t ht
  split at h
  ·rename_i vs hvs
   have hok : SvOk X.P S t (.tup vs) (S.ph t) := by have := K.at_ t; rwa [hg, hvs] at this
   obtain ⟨us, e1, hto⟩ := hok
   split at h
   ·rename_i ag l hn
    rw [nth_eq] at hn
    split at h
    ·rename_i s hs
     obtain ⟨u, ws, e2, e3, hl⟩ := hto.get j hn
     simp only [Nat.zero_add] at hl
     have hrun : (execOp a.eval o).run X.P S.w = .ok (.value u) S.w := by
      unfold execOp
      simp [ho, he, e1, Instr.extract, e2]
     cases hown : ownIn l with
     | false =>
      rw [hown] at h
      simp only [cond_false] at h
      have hso : SvOk X.P S d s u := ofParts_ok hs e3 (hl.relab hown)
      have K2 := K.put0 hd s u d (by rw [ofParts_own hs, hown]) hso
      refine ⟨_, h, goes_value (S := putS S (fun _ _ => none) d s u) hrun (by rw [hod]; exact K2) ?_⟩
      show upd S.g d _ = _
      rw [get_ups1, ← hg]
     | true =>
      rw [hown] at h
      simp only [cond_true] at h
      let f : List Nat → Option (List Nat) := fun p => match p with
       | [i, n] => if i = j then some [n] else none
       | _ => none
      have L1 := detP_later S t 0 f (.tup (vs.set j (false, [.dead])))
      obtain ⟨K1, h1, _⟩ := detachP K t 0 f (.tup (vs.set j (false, [.dead]))) (by simp) ⟨us, e1, by
       refine hto.gone j (fun n m x u hne hx => hx.later L1 (fun k hk => ⟨reP_stay hk (by simp [f, hne]), rfl⟩)) (Nat.zero_le _)⟩
      have L2 := putS_later (detP S t 0 f (.tup (vs.set j (false, [.dead])))) (partH d ag) d s u
      have hl2 : LfsOk X.P (putS (detP S t 0 f (.tup (vs.set j (false, [.dead])))) (partH d ag) d s u) (fun n => .pl d (if ag then [n] else [])) 0 l ws := by
       refine hl.imp (fun n x u hx => ?_)
       exact (h1 [j, n] [n] x u (by simp [f]) hx).later L2 (fun k hk => ⟨atO_tm hk (by simp [partH]), rfl⟩)
      have K2 := K1.put hd (partH d ag) (partH_pl d ag) s u (ofParts_ok hs e3 hl2)
      refine ⟨_, h, goes_value (S := putS (detP S t 0 f (.tup (vs.set j (false, [.dead])))) (partH d ag) d s u) hrun (by rw [hod]; exact K2) ?_⟩
      show upd (detP S t 0 f (.tup (vs.set j (false, [.dead])))).g d _ = _
      rw [show ∀ u1 u2, ups A [u1, u2] = ups (ups A [u1]) [u2] from fun _ _ => rfl, get_ups1, get_ups1, ← hg]
      rfl
    ·cases h
   ·cases h
  ·cases h
end
end Go.Proofs.YtgocagaijgcnmaaGreat.Vf
end

section
set_option linter.unusedVariables false
set_option linter.unusedSimpArgs false
namespace Go.Proofs.YtgocagaijgcnmaaGreat.Vf
open Go
theorem add_none (k o n : Nat) : Addr.add ⟨k, o, none⟩ n = ⟨k, o + n, none⟩ := Addr.add_lit k o n
section
variable {P : Program} {w : World}
theorem info_size {t : TypeId} {n : Nat} (h : (P.info? t).map (fun i => i.size) = some n) : (sizeOf t).run P w = .ok n w := by
 cases hi : P.info? t with
 | none => simp [hi] at h
 | some i =>
  simp [hi] at h
  simp [sizeOf, typeInfo, hi, h]
theorem struct_of {T : TypeId} {t : TI} (h : TOk P T t) (ha : t.ag = true) : ∃ fs, P.underlying T = some (.struct fs) ∧ fieldsB P fs.toList t.fo = true := by
 have := h.desc
 unfold descB at this
 split at this <;> first | (simp_all; done) | skip
theorem fields_get : ∀ {fs : List Field} {os : List (Nat × Nat × Bool)} {j : Nat} {o : Nat × Nat × Bool}, fieldsB P fs os = true → nth os j = some o →
  ∃ f, fs[j]? = some f ∧ f.offset = o.1 ∧ (P.info? f.type).map (fun i => i.size) = some o.2.1 ∧ 0 < o.2.1 ∧ isAggD (P.underlying f.type) = o.2.2 ∧ ∃ d, P.underlying f.type = some d
 | [], [], j, o, _, h => by simp [nth] at h
 | [], _ :: _, _, _, h, _ => by simp [fieldsB] at h
 | _ :: _, [], _, _, h, _ => by simp [fieldsB] at h
 | f :: fs, o' :: os, j, o, h, hn => by
  simp only [fieldsB, Bool.and_eq_true] at h
  obtain ⟨⟨⟨⟨⟨h1, h2⟩, h3⟩, h4⟩, h6⟩, h5⟩ := h
  cases j with
  | zero =>
   simp [nth] at hn
   subst hn
   refine ⟨f, rfl, by simpa using h1, by simpa using h2, ?_, by simpa using h4, Option.isSome_iff_exists.mp h6⟩
   have : Nat.ble 1 o'.2.1 = true := h3
   exact Nat.le_of_ble_eq_true this
  | succ j => exact fields_get (fs := fs) h5 (by simpa [nth] using hn)
theorem isAgg_of {t : TypeId} {b : Bool} {d : TypeDesc} (hd : P.underlying t = some d) (h : isAggD (P.underlying t) = b) : (isAgg t).run P w = .ok b w := by
 rw [hd] at h
 unfold isAgg
 rw [Sem.run_bind, run_underlying hd]
 cases d <;> simp_all [isAggD]
end
section
variable {X : Cx} {S : Sit} {a : Act} {E : En} {A : Ab} {o : Oper} {R : Type} {Kc : List Up → Option R} {r : R}
theorem st_nilCheck (hE : EnOk X E) (K : Okay X S a) (hg : S.g = get A) {x : Operand} {d : Nat} (ho : o.op = .nilCheck x) (hod : o.dst = some d) (hd : d < X.nt) (h : step E o A Kc = some r) : After X o a S.w A Kc r := by
 unfold step at h
 rw [ho, hod] at h
 simp only at h
 split at h
 ·rename_i y hs
  obtain ⟨l, hl⟩ := opT_ex hE K hg hs
  have key : (∃ ad, a.eval x = .pointer (some ad)) → ownSv (.one y) = false → Kc [⟨d, false, .one y⟩] = some r → After X o a S.w A Kc r := by
   intro ⟨ad, he⟩ ho' hk
   have K2 := K.put0 hd (.one y) (a.eval x) l ho' hl
   refine ⟨_, hk, goes_value (S := putS S (fun _ _ => none) d (.one y) (a.eval x)) ?_ (by rw [hod]; exact K2) ?_⟩
   ·show _ = Result.ok _ S.w
    unfold execOp
    simp [ho, he]
   ·show upd S.g d _ = _
    rw [get_ups1, ← hg]
  cases hlv : liveP A y with
  | false => rw [hlv] at h; simp at h
  | true =>
   rw [hlv, cond_true] at h
   unfold liveP at hlv
   split at hlv
   ·rename_i b v n
    exact key ⟨_, hl.2 (by rw [hg]; simpa using hlv)⟩ rfl h
   ·rename_i p v i n
    split at hlv
    ·rename_i m e r' xs hp
     have : m = v := by simpa using hlv
     subst this
     obtain ⟨_, _, k, cap, _, e2⟩ := hl.2 e r' xs (by rw [hg, hp])
     exact key ⟨_, e2⟩ rfl h
    ·cases hlv
   ·obtain ⟨k, o', cs, e, _⟩ := hl
    exact key ⟨_, e⟩ rfl h
   ·obtain ⟨hd', h1, h2⟩ := hl
    obtain ⟨_, _, k, o', cap, _, e⟩ := h2 (by rw [hg]; simpa using hlv)
    exact key ⟨_, e⟩ rfl h
   ·cases hlv
 ·cases h
theorem run_fieldAddr {P : Program} {w : World} {T : TypeId} {x : Operand} {j : Nat} {t : TI} {f : Nat × Nat × Bool} (ht : TOk P T t) (ha : t.ag = true) (hf : nth t.fo j = some f) (ho : o.op = .fieldAddr T x j) {k off : Nat} (he : a.eval x = .pointer (some ⟨k, off, none⟩)) :
  (execOp a.eval o).run P w = .ok (.value (.pointer (some ⟨k, off + f.1, none⟩))) w := by
 obtain ⟨fs, hu, hfs⟩ := struct_of ht ha
 obtain ⟨fd, h1, h2, h3, h4, h5, _⟩ := fields_get hfs hf
 have h1' : fs[j]? = some fd := by simpa using h1
 unfold execOp
 simp only [ho, he, Sem.run_bind]
 unfold Instr.fieldAt
 rw [Sem.run_bind, run_underlying hu]
 simp only [Result.andThen_ok, h1', Instr.sureAddr, Sem.run_bind, Sem.run_pure, fieldPlace, info_size h3]
 rw [if_neg (by omega)]
 simp only [Sem.run_pure, Result.andThen_ok, add_none, h2]
theorem st_fieldAddr (hE : EnOk X E) (K : Okay X S a) (hg : S.g = get A) {T : TypeId} {x : Operand} {j d : Nat} (ho : o.op = .fieldAddr T x j) (hod : o.dst = some d) (hd : d < X.nt) (h : step E o A Kc = some r) : After X o a S.w A Kc r := by
 unfold step at h
 rw [ho, hod] at h
 simp only at h
 split at h
 ·rename_i ti y hti hs
  obtain ⟨l, hl⟩ := opT_ex hE K hg hs
  split at h
  ·rename_i f hf
   cases hq : (ti.ag && liveP A y) with
   | false => rw [hq] at h; simp at h
   | true =>
    rw [hq, cond_true] at h
    simp only [Bool.and_eq_true] at hq
    obtain ⟨ha, hlv⟩ := hq
    have key : ∀ (k off : Nat), a.eval x = .pointer (some ⟨k, off, none⟩) → ownSv (.one (addOff y f.1)) = false → SvOk X.P S l (.one (addOff y f.1)) (.pointer (some ⟨k, off + f.1, none⟩)) → After X o a S.w A Kc r := by
     intro k off he ho' hsv
     have K2 := K.put0 hd _ _ l ho' hsv
     refine ⟨_, h, goes_value (S := putS S (fun _ _ => none) d _ _) ?_ (by rw [hod]; exact K2) ?_⟩
     ·exact run_fieldAddr (hE.ti _ _ hti) ha hf ho he
     ·show upd S.g d _ = _
      rw [get_ups1, ← hg]
    unfold liveP at hlv
    split at hlv
    ·rename_i b v n
     refine key _ _ (hl.2 (by rw [hg]; simpa using hlv)) rfl ⟨hl.1, fun hv => ?_⟩
     rw [Nat.add_assoc]
    ·rename_i p v i n
     split at hlv
     ·rename_i m e r' xs hp
      have : m = v := by simpa using hlv
      subst this
      obtain ⟨_, _, k, cap, _, e2⟩ := hl.2 e r' xs (by rw [hg, hp])
      refine key _ _ e2 rfl ⟨hl.1, fun e1 r1 xs1 hv => ?_⟩
      obtain ⟨g1, g2, k', cap', g3, g4⟩ := hl.2 e1 r1 xs1 hv
      rw [e2] at g4
      simp only [Value.pointer.injEq, Option.some.injEq, Addr.mk.injEq, and_true] at g4
      obtain ⟨rfl, g5⟩ := g4
      refine ⟨g1, g2, _, cap', g3, ?_⟩
      congr 3
      omega
     ·cases hlv
    ·obtain ⟨k, o', cs, e, h1, h2, h3⟩ := hl
     refine key _ _ e rfl ⟨k, o', cs, ?_, h1, h2, h3⟩
     rw [Nat.add_assoc]
    ·obtain ⟨hd', h1, h2⟩ := hl
     obtain ⟨g1, g2, k, o', cap, g3, e⟩ := h2 (by rw [hg]; simpa using hlv)
     refine key _ _ e rfl ⟨hd', h1, fun _ => ⟨g1, g2, k, o', cap, g3, ?_⟩⟩
     congr 3
     omega
    ·cases hlv
  ·cases h
 ·cases h
theorem rows_at {α : Type} {R' : α → List Value → Prop} {n : Nat} (hn : ∀ x c, R' x c → c.length = n) {xs : List α} {cs : List Value} (h : Rows R' xs cs) {k o i : Nat} {x : α} (hx : xs[i]? = some x) (hc : CellsAt S.w k o cs) :
  ∃ c, R' x c ∧ CellsAt S.w k (o + i * n) c := by
 refine ⟨_, h.get hn i x hx, fun j u hu => ?_⟩
 rw [List.getElem?_take] at hu
 split at hu
 ·rw [List.getElem?_drop] at hu
  rw [Nat.add_assoc]
  exact hc _ _ hu
 ·cases hu
theorem run_indexAddr {P : Program} {w : World} {T e : TypeId} {x i : Operand} {k : IntKind} {n : Int} {b off len cap sz : Nat} (hu : P.underlying T = some (.slice e)) (hs : SzOk P e sz) (ho : o.op = .indexAddr T x i)
  (he : a.eval x = .slice (some ⟨b, off, none⟩) len cap) (hi : a.eval i = .int k n) (h0 : 0 ≤ n) (h1 : n < (len : Int)) :
  (execOp a.eval o).run P w = .ok (.value (.pointer (some ⟨b, off + n.toNat * sz, none⟩))) w := by
 unfold execOp
 simp only [ho, he, hi, Sem.run_bind]
 unfold Instr.indexAt
 simp [asIntOf, run_underlying hu, h0, h1, info_size hs, add_none]
theorem seen_own {y : Lf} {e : TypeId} {r' : Ty} {xs : List r'.den} (h : seen A y = .own e r' xs) (hn : ∀ p v, y = .al p v → False) : y = .own e r' xs := by
 cases y <;> first | exact h | skip
 exact (hn _ _ rfl).elim
theorem da_root {P : Program} {S : Sit} {p v : Nat} {e : TypeId} {r : Ty} {xs : List r.den} (hp : S.g p = (v, .one (.own e r xs))) (hno : noOw r = false) (hao : allOw r = true) (h : OwnOk P S.O S.w (.pl p []) e r xs (S.ph p)) : DaOk P S p v (some []) e r xs (S.ph p) := by
 obtain ⟨bs, ⟨v', cs, b2, ev, hs, ho, hd, eb⟩, hn, hk⟩ := h
 simp only [List.cons.injEq, and_true] at ev
 subst ev
 refine ⟨hao, by rw [hp]; exact Nat.le_refl _, fun _ => ⟨by rw [hp]; simp [deepS, deepL, hno], ⟨hs, ?_⟩, fun q hq E R XS hg => ?_⟩⟩
 ·rcases own_nil_or ho with ⟨e1, e2, rfl⟩ | ⟨k, cap, cur, e1, hc, h1, _, _, ht⟩
  ·refine ⟨none, 0, [], b2, by rw [e1, e2], by omega, hd, fun k hk' => .inl (hk k (by rw [eb]; exact List.mem_append_right _ hk')), fun hn => absurd (List.eq_nil_of_length_eq_zero e2) hn⟩
  ·refine ⟨_, cap, cs, b2, e1, h1, hd, fun k hk' => .inl (hk k (by rw [eb]; exact List.mem_append_right _ hk')), fun _ => ⟨k, 0, rfl, .inl (hk k (by rw [eb, e1]; simp [Value.ownBlock])), cells_of_row hc ht⟩⟩
 ·cases hq
  rw [hp] at hg
  cases hg
  exact ⟨rfl, rfl⟩
theorem st_indexAddr (hE : EnOk X E) (K : Okay X S a) (hg : S.g = get A) {T : TypeId} {x i : Operand} {d : Nat} (ho : o.op = .indexAddr T x i) (hod : o.dst = some d) (hd : d < X.nt) (hopn : E.opn d = false) (h : step E o A Kc = some r) : After X o a S.w A Kc r := by
 unfold step at h
 rw [ho, hod] at h
 simp only [hopn, cond_false] at h
 split at h
 ·rename_i y k n hs hn
  have ei := (opT_sc hE K hg hn).1
  obtain ⟨l, hl⟩ := opT_ex hE K hg hs
  have keyO : ∀ (p v e : Nat) (r' : Ty) (xs : List r'.den), S.g p = (v, .one (.own e r' xs)) → a.eval x = S.ph p →
    (bif isEl E T e && decide (0 ≤ n) then (bif decide (n < (xs.length : Int)) then (bif noOw r' then Kc [⟨d, false, .one (.ep p v n 0)⟩] else bif allOw r' then Kc [⟨d, false, .one (.dp p v (some []) e r' xs n 0)⟩] else none) else none) else none) = some r → After X o a S.w A Kc r := by
   intro p v e r' xs hp he hk
   cases hq : (isEl E T e && decide (0 ≤ n)) with
   | false => rw [hq] at hk; simp at hk
   | true =>
    rw [hq, cond_true] at hk
    simp only [Bool.and_eq_true, decide_eq_true_eq] at hq
    by_cases hlt : n < (xs.length : Int)
    ·simp only [hlt, decide_true, cond_true] at hk
     have hown : OwnOk X.P S.O S.w (.pl p []) e r' xs (S.ph p) := by have := K.at_ p; rw [hp] at this; exact this
     cases hno : noOw r' with
     | false =>
      rw [hno, cond_false] at hk
      cases hao : allOw r' with
      | false => rw [hao] at hk; simp at hk
      | true =>
       rw [hao, cond_true] at hk
       have hda := da_root (xs := xs) (P := X.P) (S := S) hp hno hao hown
       obtain ⟨k', cap, e1⟩ : ∃ k' cap, S.ph p = .slice (some ⟨k', 0, none⟩) xs.length cap := by
        obtain ⟨_, cs, hrow, _⟩ := hown.top
        rcases own_nil_or hrow with ⟨_, hm, _⟩ | ⟨k', cap, cur, e1, _⟩
        ·omega
        ·exact ⟨k', cap, e1⟩
       have hr := run_indexAddr (w := S.w) (desc_el hq.1 hE.ti) hown.top.1 ho (he.trans e1) ei hq.2 hlt
       have hsv : SvOk X.P S 0 (.one (.dp p v (some []) e r' xs n 0)) (.pointer (some ⟨k', 0 + n.toNat * r'.sz, none⟩)) :=
        ⟨S.ph p, hda, fun _ => ⟨hq.2, by omega, k', 0, cap, e1, by rw [Nat.add_zero]⟩⟩
       have K2 := K.put0 hd _ _ 0 rfl hsv
       refine ⟨_, hk, goes_value (S := putS S (fun _ _ => none) d _ _) hr (by rw [hod]; exact K2) ?_⟩
       show upd S.g d _ = _
       rw [get_ups1, ← hg]
     | true =>
     rw [hno, cond_true] at hk
     obtain ⟨hsz, cs, hrow, _⟩ := hown.top
     rcases own_nil_or hrow with ⟨_, hm, _⟩ | ⟨k', cap, cur, e1, _⟩
     ·omega
     ·have hr := run_indexAddr (w := S.w) (desc_el hq.1 hE.ti) hsz ho (he.trans e1) ei hq.2 hlt
      rw [Nat.zero_add] at hr
      have hsv : SvOk X.P S 0 (.one (.ep p v n 0)) (.pointer (some ⟨k', n.toNat * r'.sz, none⟩)) := by
       refine ⟨by rw [hp]; exact Nat.le_refl _, fun e2 r2 xs2 hp2 => ?_⟩
       rw [hp] at hp2
       cases hp2
       exact ⟨hq.2, by omega, k', cap, e1, by rw [Nat.add_zero]⟩
      have K2 := K.put0 hd _ _ 0 rfl hsv
      refine ⟨_, hk, goes_value (S := putS S (fun _ _ => none) d _ _) hr (by rw [hod]; exact K2) ?_⟩
      show upd S.g d _ = _
      rw [get_ups1, ← hg]
    ·simp [hlt] at hk
  have keyF : ∀ (e : Nat) (r' : Ty) (xs : List r'.den) (lab : Lab), LfOk X.P S lab (.fz e r' xs) (a.eval x) →
    (bif isEl E T e && decide (0 ≤ n) then (bif decide (n < (xs.length : Int)) then Kc [⟨d, false, .one (.fp r' (xs.getD n.toNat r'.dflt) 0)⟩] else none) else none) = some r → After X o a S.w A Kc r := by
   intro e r' xs lab hf hk
   cases hq : (isEl E T e && decide (0 ≤ n)) with
   | false => rw [hq] at hk; simp at hk
   | true =>
    rw [hq, cond_true] at hk
    simp only [Bool.and_eq_true, decide_eq_true_eq] at hq
    by_cases hlt : n < (xs.length : Int)
    ·simp only [hlt, decide_true, cond_true] at hk
     obtain ⟨v, e1, hsz, ad, cap, cs, e2, hc, hrows, hne⟩ := hf
     cases e1
     have hnn : xs ≠ [] := by intro e3; subst e3; simp at hlt; omega
     obtain ⟨k', o', rfl, hk', hcs⟩ := hne hnn
     have hr := run_indexAddr (w := S.w) (desc_el hq.1 hE.ti) hsz ho e2 ei hq.2 hlt
     have hi' : n.toNat < xs.length := by omega
     obtain ⟨c, hc1, hc2⟩ := rows_at (S := S) (Ty.rep_len r') hrows (i := n.toNat) (x := xs.getD n.toNat r'.dflt) (by rw [List.getD_eq_getElem?_getD, List.getElem?_eq_getElem hi']; rfl) hcs
     have hsv : SvOk X.P S 0 (.one (.fp r' (xs.getD n.toNat r'.dflt) 0)) (.pointer (some ⟨k', o' + n.toNat * r'.sz, none⟩)) := ⟨k', _, c, rfl, hk', hc1, hc2⟩
     have K2 := K.put0 hd _ _ 0 rfl hsv
     refine ⟨_, hk, goes_value (S := putS S (fun _ _ => none) d _ _) hr (by rw [hod]; exact K2) ?_⟩
     show upd S.g d _ = _
     rw [get_ups1, ← hg]
    ·simp [hlt] at hk
  have hl' : LfOk X.P S (.pl l []) y (a.eval x) := hl
  split at h
  rotate_left 2
  ·-- an opened place
   rename_i p v _
   split at h
   ·rename_i m e r0 xs0 i0 b vb hp
    cases hq : (Nat.beq m v && isEl E T e) with
    | false => rw [hq] at h; simp at h
    | true =>
     rw [hq, cond_true] at h
     simp only [Bool.and_eq_true] at hq
     by_cases hni : n = i0
     ·subst hni
      simp only [decide_true, cond_true] at h
      have hmv : m = v := Nat.eq_of_beq_eq_true hq.1
      subst hmv
      have he : a.eval x = S.ph p := hl'.2 (by rw [hg, hp])
      have hat : LfOk X.P S (.pl p []) (.opn e r0 xs0 n b vb) (S.ph p) := by have := K.at_ p; rw [hg, hp] at this; exact this
      obtain ⟨h1, ⟨hsz, h2, h3, k, cap, h4⟩, h5⟩ := hat
      have hr := run_indexAddr (w := S.w) (desc_el hq.2 hE.ti) hsz ho (he.trans h4) ei h2 (by omega)
      rw [Nat.zero_add] at hr
      have hsv : SvOk X.P S 0 (.one (.bp b vb 0)) (.pointer (some ⟨k, n.toNat * r0.sz, none⟩)) := by
       refine ⟨h1, fun hv => ?_⟩
       obtain ⟨k', cap', cur, b1, b2, e1, _, _, _, _, e2, _⟩ := h5 hv
       rw [h4] at e1
       cases e1
       rw [e2]
       rfl
      have K2 := K.put0 hd _ _ 0 rfl hsv
      refine ⟨_, h, goes_value (S := putS S (fun _ _ => none) d _ _) hr (by rw [hod]; exact K2) ?_⟩
      show upd S.g d _ = _
      rw [get_ups1, ← hg]
     ·simp [hni] at h
   ·cases h
  rotate_right 1
  ·rename_i p v pi e r' xs
   cases hq : (isEl E T e && Nat.beq (get A p).1 v && decide (0 ≤ n)) with
   | false => rw [hq] at h; simp at h
   | true =>
    rw [hq, cond_true] at h
    simp only [Bool.and_eq_true, decide_eq_true_eq] at hq
    by_cases hlt : n < (xs.length : Int)
    ·simp only [hlt, decide_true, cond_true] at h
     have hda : DaOk X.P S p v pi e r' xs (a.eval x) := hl'
     obtain ⟨_, ⟨hsz, ad, cap, cs, bs, e1, _, _, _, hne⟩, _⟩ := hda.2.2 (by rw [hg]; exact Nat.eq_of_beq_eq_true hq.1.2)
     obtain ⟨k', o', rfl, _⟩ := hne (by intro e0; subst e0; simp at hlt; omega)
     have hr := run_indexAddr (w := S.w) (desc_el hq.1.1 hE.ti) hsz ho e1 ei hq.2 hlt
     have hsv : SvOk X.P S 0 (.one (.dp p v pi e r' xs n 0)) (.pointer (some ⟨k', o' + n.toNat * r'.sz, none⟩)) :=
      ⟨a.eval x, hda, fun _ => ⟨hq.2, by omega, k', o', cap, e1, by rw [Nat.add_zero]⟩⟩
     have K2 := K.put0 hd _ _ 0 rfl hsv
     refine ⟨_, h, goes_value (S := putS S (fun _ _ => none) d _ _) hr (by rw [hod]; exact K2) ?_⟩
     show upd S.g d _ = _
     rw [get_ups1, ← hg]
    ·simp [hlt] at h
  rotate_right 1
  ·rename_i p v e r' xs hsn
   simp only [seen] at hsn
   split at hsn
   ·rename_i n' e' r'' xs' hp
    cases hb : Nat.beq n' v with
    | false => rw [hb] at hsn; simp at hsn
    | true =>
     rw [hb, cond_true] at hsn
     cases hsn
     have : n' = v := by simpa using hb
     subst this
     exact keyO p n' e r' xs (by rw [hg, hp]) (hl'.2 (by rw [hg, hp])) h
   ·rename_i n' e' r'' xs' hp
    cases hb : Nat.beq n' v <;> rw [hb] at hsn <;> simp at hsn
   ·cases hsn
  ·rename_i e r' xs _ hsn
   obtain ⟨lab', hl2⟩ := seen_ok K hg hl'
   rw [hsn] at hl2
   exact keyF e r' xs lab' hl2 h
  ·rename_i e r' xs hne _ hsn
   split at h
   ·rename_i t
    rcases opT_ok hE K hg hs with ⟨t', ht', htl, hst, het, _⟩ | ⟨hnt, _⟩
    ·cases ht'
     have hy := seen_own hsn hne
     rw [hy] at hst
     exact keyO t (get A t).1 e r' xs (by rw [← hg, hst]) het h
    ·exact absurd rfl (hnt t)
   ·cases h
  ·cases h
 ·cases h
end
end Go.Proofs.YtgocagaijgcnmaaGreat.Vf
end

section
set_option linter.unusedVariables false
set_option linter.unusedSimpArgs false
namespace Go.Proofs.YtgocagaijgcnmaaGreat.Vf
open Go
section
variable {X : Cx} {S : Sit} {a : Act} {E : En} {A : Ab} {o : Oper} {R : Type} {Kc : List Up → Option R} {r : R}
theorem LfsOk.impAt {P : Program} {S S' : Sit} {f f' : Nat → Lab} : ∀ {j : Nat} {xs : List Lf} {us : List Value}, (∀ n, j ≤ n → n < j + xs.length → ∀ x u, LfOk P S (f n) x u → LfOk P S' (f' n) x u) → LfsOk P S f j xs us → LfsOk P S' f' j xs us
 | _, [], [], _, _ => trivial
 | j, _ :: xs, _ :: _, hi, h => ⟨hi j (Nat.le_refl _) (by simp) _ _ h.1, h.2.impAt (fun n h1 h2 => hi n (by omega) (by simp only [List.length_cons]; omega))⟩
 | _, [], _ :: _, _, h => h.elim
 | _, _ :: _, [], _, h => h.elim
theorem LfsOk.setAll {P : Program} {S : Sit} {f : Nat → Lab} {l m : List Lf} {us ms : List Value} {off : Nat} (h1 : LfsOk P S f 0 (l.take off) (us.take off)) (h2 : LfsOk P S f off m ms) (h3 : LfsOk P S f (off + m.length) (l.drop (off + m.length)) (us.drop (off + m.length)))
  (hl : off + m.length ≤ l.length) : LfsOk P S f 0 (setAll l off m) (us.take off ++ ms ++ us.drop (off + m.length)) := by
 unfold Vf.setAll
 have e1 : (l.take off).length = off := by rw [List.length_take]; omega
 refine LfsOk.app (LfsOk.app h1 ?_) ?_
 ·rw [e1, Nat.zero_add]; exact h2
 ·rw [List.length_append, e1, Nat.zero_add]; exact h3
theorem run_field {P : Program} {w : World} {T : TypeId} {x : Operand} {j : Nat} {t : TI} {off z : Nat} {ag : Bool} (ht : TOk P T t) (ha : t.ag = true) (hf : nth t.fo j = some (off, z, ag)) (ho : o.op = .field T x j) {us : List Value} (he : a.eval x = .agg us.toArray) (hl : off + z ≤ us.length) :
  ∃ u ws, (if ag then u = .agg ws.toArray else (z = 1 → ws = [u])) ∧ ws = (us.drop off).take z ∧ (execOp a.eval o).run P w = .ok (.value u) w := by
 obtain ⟨fs, hu, hfs⟩ := struct_of ht ha
 obtain ⟨fd, h1, h2, h3, h4, h5, d, h6⟩ := fields_get hfs hf
 have h1' : fs[j]? = some fd := by simpa using h1
 cases ag with
 | true =>
  refine ⟨_, _, rfl, rfl, ?_⟩
  unfold execOp
  simp only [ho, he, Sem.run_bind]
  unfold Instr.field
  rw [Sem.run_bind, run_underlying hu]
  simp only [Result.andThen_ok, h1', asAgg, Sem.run_bind, Sem.run_pure, part, isAgg_of h6 h5, info_size h3, if_true]
  simp [h2, List.extract_eq_take_drop]
 | false =>
  have hlt : off < us.length := by simp only at h4; omega
  refine ⟨us[off], _, ?_, rfl, ?_⟩
  ·simp only [Bool.false_eq_true, if_false]
   intro hz
   subst hz
   show List.take 1 _ = _
   rw [List.drop_eq_getElem_cons hlt, List.take_succ_cons, List.take_zero]
  ·unfold execOp
   simp only [ho, he, Sem.run_bind]
   unfold Instr.field
   rw [Sem.run_bind, run_underlying hu]
   simp only [Result.andThen_ok, h1', asAgg, Sem.run_bind, Sem.run_pure, part, isAgg_of h6 h5, Bool.false_eq_true, if_false]
   simp [h2, hlt]
theorem st_field (hE : EnOk X E) (K : Okay X S a) (hg : S.g = get A) {T : TypeId} {t j d : Nat} (ho : o.op = .field T (.tmp t) j) (hod : o.dst = some d) (hd : d < X.nt) (h : step E o A Kc = some r) : After X o a S.w A Kc r := by
 unfold step at h
 rw [ho, hod] at h
 simp only at h
 split at h
 ·rename_i ti l hti hgt
  split at h
  ·rename_i off z ag hf
   split at h
   ·rename_i s hs
    cases hq : (ti.ag && Nat.blt t E.nt && Nat.ble (off + z) l.length) with
    | false => rw [hq] at h; simp at h
    | true =>
     rw [hq, cond_true] at h
     simp only [Bool.and_eq_true] at hq
     obtain ⟨⟨ha, hb⟩, hle⟩ := hq
     have hle : off + z ≤ l.length := Nat.le_of_ble_eq_true hle
     have ht : t < X.nt := hE.nt ▸ (Nat.le_of_ble_eq_true hb : t + 1 ≤ E.nt)
     have he : a.eval (.tmp t) = S.ph t := K.sl t ht
     have hok : SvOk X.P S t (.agg l) (S.ph t) := by have := K.at_ t; rwa [hg, hgt] at this
     obtain ⟨us, e1, hls⟩ := hok
     have hlen := hls.len
     obtain ⟨u, ws, e2, e3, hrun⟩ := run_field (w := S.w) (hE.ti _ _ hti) ha hf ho (he.trans e1) (by omega)
     have e4 : if ag then u = .agg ws.toArray else ws = [u] := by
      cases ag with
      | true => exact e2
      | false =>
       simp only [Bool.false_eq_true, if_false] at e2 ⊢
       unfold ofParts at hs
       simp only [cond_false] at hs
       split at hs
       ·rename_i x hx
        have : ((l.drop off).take z).length = 1 := by rw [hx]; rfl
        rw [List.length_take, List.length_drop] at this
        exact e2 (by omega)
       ·cases hs
     have hpart : LfsOk X.P S (fun n => .pl t [n]) off ((l.drop off).take z) ws := by
      have := (hls.drop off).take z
      rw [Nat.zero_add, ← e3] at this
      exact this
     cases hown : ownIn ((l.drop off).take z) with
     | false =>
      rw [hown, cond_false] at h
      have hso : SvOk X.P S d s u := ofParts_ok hs e4 (LfsOk.shift (j := 0) (f := fun n => .pl d (if ag then [n - off] else [])) off (by
       rw [Nat.zero_add]; exact hpart.relab hown) |>.imp (fun n x u hx => by simpa using hx))
      have K2 := K.put0 hd s u d (by rw [ofParts_own hs, hown]) hso
      refine ⟨_, h, goes_value (S := putS S (fun _ _ => none) d s u) hrun (by rw [hod]; exact K2) ?_⟩
      show upd S.g d _ = _
      rw [get_ups1, ← hg]
     | true =>
      rw [hown, cond_true] at h
      let f : List Nat → Option (List Nat) := fun p => match p with
       | [n] => if off ≤ n ∧ n < off + z then some [n - off] else none
       | _ => none
      let s0 : Sv := .agg (Vf.setAll l off (List.replicate z .dead))
      have L1 := detP_later S t 0 f s0
      have hst : ∀ n, ¬ (off ≤ n ∧ n < off + z) → ∀ x u, LfOk X.P S (.pl t [n]) x u → LfOk X.P (detP S t 0 f s0) (.pl t [n]) x u := fun n hn x u hx =>
       hx.later L1 (fun k hk => ⟨reP_stay hk (by simp only [f]; rw [if_neg hn]), rfl⟩)
      obtain ⟨K1, h1, _⟩ := detachP K t 0 f s0 (by simp [s0]) ⟨us, e1, by
       have hz : (List.replicate z Lf.dead).length = z := by simp
       have hws : ws.length = z := by rw [e3, List.length_take, List.length_drop]; omega
       have := LfsOk.setAll (P := X.P) (S := detP S t 0 f s0) (f := fun n => .pl t [n]) (l := l) (us := us) (m := List.replicate z .dead) (ms := ws) (off := off)
        ((hls.take off).impAt (fun n _ h2 => hst n (by rw [List.length_take] at h2; omega)))
        (by rw [← hws]; exact LfsOk.deads ws) (by
         rw [hz]
         refine LfsOk.impAt (fun n h1 _ => hst n (by omega)) ?_
         have := hls.drop (off + z)
         rwa [Nat.zero_add] at this) (by rw [hz]; exact hle)
       rw [hz, e3, ← List.drop_drop, List.append_assoc, List.take_append_drop, List.take_append_drop] at this
       exact this⟩
      have L2 := putS_later (detP S t 0 f s0) (partH d ag) d s u
      have hl2 : LfsOk X.P (putS (detP S t 0 f s0) (partH d ag) d s u) (fun n => .pl d (if ag then [n] else [])) 0 ((l.drop off).take z) ws := by
       have h5 : LfsOk X.P (putS (detP S t 0 f s0) (partH d ag) d s u) (fun n => .pl d (if ag then [n - off] else [])) off ((l.drop off).take z) ws := by
        refine LfsOk.impAt (fun n n1 n2 x u hx => ?_) hpart
        have n3 : n < off + z := by rw [List.length_take] at n2; omega
        exact (h1 [n] [n - off] x u (by simp [f, n1, n3]) hx).later L2 (fun k hk => ⟨atO_tm hk (by simp [partH]), rfl⟩)
       have := LfsOk.shift (j := 0) off (by rw [Nat.zero_add]; exact h5)
       exact this.imp (fun n x u hx => by simpa using hx)
      have K2 := K1.put hd (partH d ag) (partH_pl d ag) s u (ofParts_ok hs e4 hl2)
      refine ⟨_, h, goes_value (S := putS (detP S t 0 f s0) (partH d ag) d s u) hrun (by rw [hod]; exact K2) ?_⟩
      show upd (detP S t 0 f s0).g d _ = _
      rw [show ∀ u1 u2, ups A [u1, u2] = ups (ups A [u1]) [u2] from fun _ _ => rfl, get_ups1, get_ups1, ← hg]
      rfl
   ·cases h
  ·cases h
 ·cases h
theorem intOp_ok (hE : EnOk X E) (K : Okay X S a) (hg : S.g = get A) {x : Option Operand} {n : Option Int} (h : intOp E A x = some n) : x.map a.eval = n.map (Value.int .i64) := by
 unfold intOp at h
 split at h
 ·cases h; rfl
 ·rename_i x
  split at h
  ·rename_i n hn
   cases h
   simp [(opT_sc hE K hg hn).1]
  ·cases h
theorem bnds_ok {lo hi : Option Int} {n : Nat} {Kb : Unit → Option R} (h : bnds lo hi n Kb = some r) : Kb () = some r ∧ 0 ≤ lo.getD 0 ∧ lo.getD 0 ≤ hi.getD n ∧ hi.getD n ≤ n := by
 unfold bnds at h
 split at h
 ·exact ⟨h, by simp⟩
 ·rename_i l
  by_cases h1 : 0 ≤ l
  ·by_cases h2 : l ≤ (n : Int)
   ·simp only [h1, h2, decide_true, cond_true] at h
    exact ⟨h, by simpa using ⟨h1, h2⟩⟩
   ·simp [h1, h2] at h
  ·simp [h1] at h
 ·rename_i l
  by_cases h1 : 0 ≤ l
  ·by_cases h2 : l ≤ (n : Int)
   ·simp only [h1, h2, decide_true, cond_true] at h
    exact ⟨h, by simpa using ⟨h1, h2⟩⟩
   ·simp [h1, h2] at h
  ·simp [h1] at h
 ·rename_i l l2
  by_cases h1 : 0 ≤ l
  ·by_cases h2 : l ≤ l2
   ·by_cases h3 : l2 ≤ (n : Int)
    ·simp only [h1, h2, h3, decide_true, cond_true] at h
     exact ⟨h, by simpa using ⟨h1, h2, h3⟩⟩
    ·simp [h1, h2, h3] at h
   ·simp [h1, h2] at h
  ·simp [h1] at h
theorem run_bounds {P : Program} {w : World} (sl : Bool) {n cap : Nat} {lo hi : Option Int} (hc : n ≤ cap) (h0 : 0 ≤ lo.getD 0) (h1 : lo.getD 0 ≤ hi.getD n) (h2 : hi.getD n ≤ n) :
  (Instr.sliceBounds sl n cap (lo.map (Value.int .i64)) (hi.map (Value.int .i64)) none).run P w = .ok ((lo.getD 0).toNat, (hi.getD n).toNat, cap) w := by
 cases lo with
 | none =>
  cases hi with
  | none => simp [Instr.sliceBounds]
  | some b =>
   simp only [Option.getD_some, Option.getD_none] at h0 h1 h2
   simp [Instr.sliceBounds, run_sliceBound, (by omega : 0 ≤ b), (by omega : b ≤ (cap : Int))]
 | some l =>
  cases hi with
  | none =>
   simp only [Option.getD_some, Option.getD_none] at h0 h1 h2
   simp [Instr.sliceBounds, run_sliceBound, h0, h1]
  | some b =>
   simp only [Option.getD_some] at h0 h1 h2
   have eb : (b.toNat : Int) = b := Int.toNat_of_nonneg (by omega)
   simp [Instr.sliceBounds, run_sliceBound, (by omega : 0 ≤ b), (by omega : b ≤ (cap : Int)), h0, eb, h1]
theorem cutS_eq {α : Type} {xs : List α} {lo hi : Option Int} (h2 : hi.getD xs.length ≤ xs.length) : cutS xs lo hi = (xs.take (hi.getD xs.length).toNat).drop (lo.getD 0).toNat := by
 unfold cutS
 cases lo <;> cases hi <;> simp
theorem run_slice_str {P : Program} {w : World} {T : TypeId} {x : Operand} {lo hi : Option Operand} {s : ByteArray} {l h : Option Int} (hu : P.underlying T = some .string) (ho : o.op = .slice T x lo hi none) (he : a.eval x = .string s)
  (hl : lo.map a.eval = l.map (Value.int .i64)) (hh : hi.map a.eval = h.map (Value.int .i64)) (h0 : 0 ≤ l.getD 0) (h1 : l.getD 0 ≤ h.getD s.size) (h2 : h.getD s.size ≤ s.size) :
  (execOp a.eval o).run P w = .ok (.value (.string (s.extract (l.getD 0).toNat (h.getD s.size).toNat))) w := by
 have hb := run_bounds (P := P) (w := w) false (Nat.le_refl s.size) h0 h1 h2
 unfold execOp
 simp only [ho, he, hl, hh, Option.map_none, Sem.run_bind]
 unfold Instr.sliceAt
 rw [Sem.run_bind, run_underlying hu]
 simp only [Result.andThen_ok]
 unfold Instr.slice
 rw [Sem.run_bind, run_underlying hu]
 simp [hb]
theorem run_slice_sl {P : Program} {w : World} {T e : TypeId} {sz : Nat} {x : Operand} {lo hi : Option Operand} {ad : Option Addr} {n cap : Nat} {l h : Option Int} (hu : P.underlying T = some (.slice e)) (hs : SzOk P e sz) (ho : o.op = .slice T x lo hi none) (he : a.eval x = .slice ad n cap)
  (hl : lo.map a.eval = l.map (Value.int .i64)) (hh : hi.map a.eval = h.map (Value.int .i64)) (hc : n ≤ cap) (h0 : 0 ≤ l.getD 0) (h1 : l.getD 0 ≤ h.getD n) (h2 : h.getD n ≤ n) :
  (execOp a.eval o).run P w = .ok (.value (.slice (if cap = (l.getD 0).toNat then ad else ad.map (·.add ((l.getD 0).toNat * sz))) ((h.getD n).toNat - (l.getD 0).toNat) (cap - (l.getD 0).toNat))) w := by
 have hb := run_bounds (P := P) (w := w) true hc h0 h1 h2
 unfold execOp
 simp only [ho, he, hl, hh, Option.map_none, Sem.run_bind]
 unfold Instr.sliceAt
 rw [Sem.run_bind, run_underlying hu]
 simp only [Result.andThen_ok]
 unfold Instr.slice
 rw [Sem.run_bind, run_underlying hu]
 simp only [Result.andThen_ok, Sem.run_bind, hb, info_size hs, Sem.run_pure]
theorem SlRep.cut {α : Type} {G : Nat → Prop} {w : World} {R' : α → List Value → Prop} {sz : Nat} (hn : ∀ x c, R' x c → c.length = sz) {xs : List α} {ad : Option Addr} {n cap l h : Nat} (hr : SlRep G w R' xs (.slice ad n cap)) (h1 : l ≤ h) (h2 : h ≤ n) :
  n = xs.length ∧ n ≤ cap ∧ SlRep G w R' ((xs.take h).drop l) (.slice (if cap = l then ad else ad.map (·.add (l * sz))) (h - l) (cap - l)) := by
 obtain ⟨ad', cap', cs, e, hc, hrow, hne⟩ := hr
 cases e
 refine ⟨rfl, hc, if cap = l then ad else ad.map (·.add (l * sz)), cap - l, (cs.take (h * sz)).drop (l * sz), ?_, ?_, (hrow.take hn h).drop hn l, fun hx => ?_⟩
 ·rw [List.length_drop, List.length_take, Nat.min_eq_left h2]
 ·rw [List.length_drop, List.length_take]; omega
 ·have hlh : l < h := by
   rcases Nat.lt_or_ge l h with hlt | hge
   ·exact hlt
   ·exact absurd (List.drop_eq_nil_of_le (by rw [List.length_take]; omega)) hx
  obtain ⟨k, o', rfl, hk, hcs⟩ := hne (by intro e; subst e; simp at h2; omega)
  refine ⟨k, o' + l * sz, ?_, hk, fun j u hu => ?_⟩
  ·rw [if_neg (by omega)]
   simp [add_none]
  ·rw [List.getElem?_drop, List.getElem?_take] at hu
   split at hu
   ·rw [Nat.add_assoc]
    exact hcs _ _ hu
   ·cases hu
theorem OwnOk.take {P : Program} {O : Nat → Lab} {w : World} {lab : Lab} {e : TypeId} {r' : Ty} {xs : List r'.den} {u : Value} (h : OwnOk P O w lab e r' xs u) (n : Nat) (hn : n ≤ xs.length) :
  ∃ ad cap, u = .slice ad xs.length cap ∧ xs.length ≤ cap ∧ (∀ k, ad = some k → k.spot = none) ∧ OwnOk P O w lab e r' (xs.take n) (.slice ad n cap) := by
 obtain ⟨bs, ⟨v, cs, b2, ev, hs, ho, hd, eb⟩, hnd, hk⟩ := h
 simp only [List.cons.injEq, and_true] at ev
 subst ev
 have hlen : (xs.take n).length = n := by rw [List.length_take]; omega
 rcases own_nil_or ho with ⟨rfl, hm, rfl⟩ | ⟨k, cap, cur, rfl, hg, h1, h2, h3, h4⟩
 ·have hx : xs = [] := List.eq_nil_of_length_eq_zero hm
  subst hx
  have : n = 0 := by simpa using hn
  subst this
  exact ⟨none, 0, rfl, by simp, by simp, [], ⟨_, [], [], rfl, hs, World.ownsRow_nil _ _ _ _, by simp [DRows], rfl⟩, by simp, by simp⟩
 ·obtain ⟨b', h5, h6⟩ := hd.take (Ty.dep_len r') n
  have e1 : (Value.slice (some ⟨k, 0, none⟩) n cap).ownBlock.toList ++ b' = k :: b' := rfl
  have e2 : (Value.slice (some ⟨k, 0, none⟩) xs.length cap).ownBlock.toList ++ b2 = k :: b2 := rfl
  rw [e2] at eb
  subst eb
  have hsub : (k :: b').Sublist (k :: b2) := h6.cons_cons k
  refine ⟨_, cap, rfl, h1, by simp, k :: b', ⟨_, cs.take (n * r'.sz), b', rfl, hs, ⟨?_, .inr ⟨k, cap, cur, by rw [hlen], Nat.zero_le _, hg, by omega, h2, h3, ?_⟩⟩, h5, rfl⟩, hnd.sublist hsub, fun j hj => hk j (hsub.subset hj)⟩
  ·rw [List.length_take, ho.1, hlen]
   have := Nat.mul_le_mul_right r'.sz hn
   omega
  ·rw [hlen, ← h4, List.take_take]
   congr 1
   have := Nat.mul_le_mul_right r'.sz hn
   omega
theorem BorOk.cut {P : Program} {S : Sit} {p : Nat} {e : TypeId} {r' : Ty} {xs : List r'.den} {ad : Option Addr} {n cap l h : Nat} (hb : BorOk P S p e r' xs (.slice ad n cap)) (h1 : l ≤ h) (h2 : h ≤ n) :
  n = xs.length ∧ n ≤ cap ∧ BorOk P S p e r' ((xs.take h).drop l) (.slice (if cap = l then ad else ad.map (·.add (l * r'.sz))) (h - l) (cap - l)) := by
 obtain ⟨hs, ad', cap', cs, bs, e1, hc, hrow, hm, hne⟩ := hb
 cases e1
 obtain ⟨b1, d1, d2⟩ := hrow.take (Ty.dep_len r') h
 obtain ⟨b2, d3, d4⟩ := d1.drop (Ty.dep_len r') l
 refine ⟨rfl, hc, hs, if cap = l then ad else ad.map (·.add (l * r'.sz)), cap - l, (cs.take (h * r'.sz)).drop (l * r'.sz), b2, ?_, ?_, d3, fun k hk => hm k ((d4.trans d2).subset hk), fun hx => ?_⟩
 ·rw [List.length_drop, List.length_take, Nat.min_eq_left h2]
 ·rw [List.length_drop, List.length_take]; omega
 ·have hlh : l < h := by
   rcases Nat.lt_or_ge l h with hlt | hge
   ·exact hlt
   ·exact absurd (List.drop_eq_nil_of_le (by rw [List.length_take]; omega)) hx
  obtain ⟨k, o', rfl, hk, hcs⟩ := hne (by intro e; subst e; simp at h2; omega)
  refine ⟨k, o' + l * r'.sz, ?_, hk, fun j u hu => ?_⟩
  ·rw [if_neg (by omega)]
   simp [add_none]
  ·rw [List.getElem?_drop, List.getElem?_take] at hu
   split at hu
   ·rw [Nat.add_assoc]
    exact hcs _ _ hu
   ·cases hu
theorem goes_cut (hE : EnOk X E) (K : Okay X S a) (hg : S.g = get A) {T e : TypeId} {r' : Ty} {xs : List r'.den} {x : Operand} {lo hi : Option Operand} {l h : Option Int} {d : Nat} {u : Value} {w : World}
  (he : a.eval x = u) (hw : S.w = w) (ho : o.op = .slice T x lo hi none) (hod : o.dst = some d) (hd : d < X.nt) (hel : isEl E T e = true) (hl : lo.map a.eval = l.map (Value.int .i64)) (hh : hi.map a.eval = h.map (Value.int .i64))
  (h0 : 0 ≤ l.getD 0) (h1 : l.getD 0 ≤ h.getD xs.length) (h2 : h.getD xs.length ≤ xs.length) (hf : ∃ lab, LfOk X.P S lab (.fz e r' xs) u) : Goes X o a w (ups A [⟨d, false, .one (.fz e r' (cutS xs l h))⟩]) := by
 subst hw
 obtain ⟨lab, v, e1, hsz, hsl⟩ := hf
 cases e1
 obtain ⟨ad, cap, cs, e2, _⟩ := id hsl
 rw [e2] at hsl
 obtain ⟨_, hc, hcut⟩ := SlRep.cut (Ty.rep_len r') (l := (l.getD 0).toNat) (h := (h.getD xs.length).toNat) hsl (by omega) (by omega)
 rw [← cutS_eq h2] at hcut
 have hrun := run_slice_sl (w := S.w) (desc_el hel hE.ti) hsz ho (he.trans e2) hl hh hc h0 h1 h2
 have hsv : SvOk X.P S 0 (.one (.fz e r' (cutS xs l h))) _ := ⟨_, rfl, hsz, hcut⟩
 have K2 := K.put0 hd _ _ 0 rfl hsv
 refine goes_value (S := putS S (fun _ _ => none) d _ _) hrun (by rw [hod]; exact K2) ?_
 show upd S.g d _ = _
 rw [get_ups1, ← hg]
theorem seen_alias {y : Lf} {e : TypeId} {r' : Ty} {xs : List r'.den} (hsn : seen A y = .own e r' xs) (hne : ∀ e r (xs : List r.den), y = .own e r xs → False) : ∃ p v, y = .al p v ∧ get A p = (v, .one (.own e r' xs)) := by
 cases y <;> first | (simp only [seen] at hsn; cases hsn; done) | skip
 ·simp only [seen] at hsn
  exact (hne _ _ _ rfl).elim
 ·rename_i p v
  simp only [seen] at hsn
  split at hsn
  ·rename_i n e' r'' xs' hp
   cases hb : Nat.beq n v with
   | false => rw [hb] at hsn; simp at hsn
   | true =>
    rw [hb, cond_true] at hsn
    have : n = v := by simpa using hb
    subst this
    refine ⟨p, n, rfl, ?_⟩
    rw [hp, hsn]
  ·rename_i n e' r'' xs' hp
   cases hb : Nat.beq n v <;> rw [hb] at hsn <;> simp at hsn
  ·cases hsn
theorem goes_bor (hE : EnOk X E) (K : Okay X S a) (hg : S.g = get A) {T e : TypeId} {x : Operand} {lo hi : Option Operand} {d p v : Nat} {pi : Option (List (Int × Nat))} {r' : Ty} {xs : List r'.den} {l u : Option Int} (ho : o.op = .slice T x lo hi none) (hod : o.dst = some d) (hd : d < X.nt) (hq : isEl E T e = true)
  (hda : DaOk X.P S p v pi e r' xs (a.eval x)) (hv : (S.g p).1 = v) (hl : lo.map a.eval = l.map (Value.int .i64)) (hu : hi.map a.eval = u.map (Value.int .i64)) (h0 : 0 ≤ l.getD 0) (h1 : l.getD 0 ≤ u.getD xs.length) (h2 : u.getD xs.length ≤ xs.length) :
  Goes X o a S.w (ups A [⟨d, false, .one (.da p v none e r' (cutS xs l u))⟩]) := by
 obtain ⟨d1, d2, d3⟩ := hda
 obtain ⟨d4, d5, _⟩ := d3 hv
 obtain ⟨hs, ad, cap, cs, bs, e1, hc, rest⟩ := id d5
 rw [e1] at d5
 have hrun := run_slice_sl (w := S.w) (desc_el hq hE.ti) hs ho e1 hl hu hc h0 h1 h2
 obtain ⟨_, _, hcut⟩ := d5.cut (l := (l.getD 0).toNat) (h := (u.getD xs.length).toNat) (by omega) (by omega)
 have hsv : SvOk X.P S 0 (.one (.da p v none e r' (cutS xs l u))) (.slice (if cap = (l.getD 0).toNat then ad else ad.map (·.add ((l.getD 0).toNat * r'.sz))) ((u.getD xs.length).toNat - (l.getD 0).toNat) (cap - (l.getD 0).toNat)) := by
  refine ⟨d1, d2, fun _ => ⟨d4, ?_, fun q hq => by cases hq⟩⟩
  rw [cutS_eq h2]
  exact hcut
 have K2 := K.put0 hd _ _ 0 rfl hsv
 refine goes_value (S := putS S (fun _ _ => none) d _ _) hrun (by rw [hod]; exact K2) ?_
 show upd S.g d _ = _
 rw [get_ups1, ← hg]
theorem st_slice (hE : EnOk X E) (K : Okay X S a) (hg : S.g = get A) {T : TypeId} {x : Operand} {lo hi : Option Operand} {d : Nat} (ho : o.op = .slice T x lo hi none) (hod : o.dst = some d) (hd : d < X.nt) (h : step E o A Kc = some r) : After X o a S.w A Kc r := by
 unfold step at h
 rw [ho, hod] at h
 simp only at h
 split at h
 ·rename_i s l u hs hl hu
  cases hq : isStr E T with
  | false => rw [hq] at h; simp at h
  | true =>
   rw [hq, cond_true] at h
   obtain ⟨hk, h0, h1, h2⟩ := bnds_ok h
   have e1 := (opT_sc hE K hg hs).1
   have hr := run_slice_str (P := X.P) (w := S.w) (desc_str hq hE.ti) ho e1 (intOp_ok hE K hg hl) (intOp_ok hE K hg hu) h0 h1 h2
   refine st_sc K hg hod hd rfl hr ?_
   rw [← hk]
   cases l <;> cases u <;> simp
 ·rename_i y l u hy hs hl hu
  have hl := intOp_ok hE K hg hl
  have hu := intOp_ok hE K hg hu
  obtain ⟨pl, hsv⟩ := opT_ex hE K hg hs
  have hlf : LfOk X.P S (.pl pl []) y (a.eval x) := hsv
  split at h
  ·rename_i e r' xs e0 r0 xs0 hsn
   have this : Lf.own e r' xs = Lf.own e0 r0 xs0 := hsn
   injection this with i1 i2 i3
   subst i1 i2
   cases i3
   cases hq : isEl E T e with
   | false => rw [hq] at h; simp at h
   | true =>
    rw [hq, cond_true] at h
    have hown : OwnOk X.P S.O S.w (.pl pl []) e r' xs (a.eval x) := hlf
    split at h
    ·-- from its beginning
     obtain ⟨hk, h0, h1, h2⟩ := bnds_ok h
     refine ⟨_, hk, ?_⟩
     have hcut : cutS xs none u = xs.take (u.getD xs.length).toNat := by rw [cutS_eq h2]; simp
     rw [hcut]
     simp only [Option.getD_none] at h0 h1
     rcases opT_ok hE K hg hs with ⟨t, rfl, ht, hst, het, hok⟩ | ⟨hnt, y', ey, hy'⟩
     ·obtain ⟨K1, g1, _⟩ := detach K t 0
      have hown1 : OwnOk X.P (detS S t 0).O (detS S t 0).w (.tm 0 []) e r' xs (a.eval (.tmp t)) := g1 [] (.own e r' xs) _ hok
      obtain ⟨ad, cap, e1, hc, hspot, hown2⟩ := hown1.take (u.getD xs.length).toNat (by omega)
      have hrun := run_slice_sl (w := S.w) (desc_el hq hE.ti) hown.top.1 ho e1 hl hu hc (by simp) (by simpa using h1) h2
      have hval : (if cap = ((none : Option Int).getD 0).toNat then ad else ad.map (·.add (((none : Option Int).getD 0).toNat * r'.sz))) = ad := by
       split
       ·rfl
       ·cases ad <;> simp [Addr.add]
      rw [hval] at hrun
      simp only [Option.getD_none, Int.toNat_zero, Nat.sub_zero] at hrun
      let hf : Nat → List Nat → Option Lab := fun n q => if n = 0 then some (.pl d q) else none
      have L := putS_later (detS S t 0) hf d (.one (.own e r' (xs.take (u.getD xs.length).toNat))) (.slice ad (u.getD xs.length).toNat cap)
      have hso : SvOk X.P (putS (detS S t 0) hf d (.one (.own e r' (xs.take (u.getD xs.length).toNat))) (.slice ad (u.getD xs.length).toNat cap)) d (.one (.own e r' (xs.take (u.getD xs.length).toNat))) (.slice ad (u.getD xs.length).toNat cap) :=
       LfOk.later (P := X.P) (x := .own e r' (xs.take (u.getD xs.length).toNat)) (lab := .tm 0 []) (lab' := .pl d []) L hown2 (fun k hk => ⟨atO_tm hk (by simp [hf]), rfl⟩)
      have K2 := K1.put hd hf (by intro n q p hp; simp only [hf] at hp; split at hp <;> first | (cases hp; exact ⟨q, rfl⟩) | cases hp) _ _ hso
      refine goes_value (S := putS (detS S t 0) hf d _ _) hrun (by rw [hod]; exact K2) ?_
      show upd (detS S t 0).g d _ = _
      rw [show gone (.tmp t) (.one (.own e r' xs)) = [⟨t, false, .one .dead⟩] from rfl, List.singleton_append, show ∀ u1 u2, ups A [u1, u2] = ups (ups A [u1]) [u2] from fun _ _ => rfl, get_ups1, get_ups1, ← hg]
      rfl
     ·cases ey
      have hgo : gone x (.one (.own e r' xs)) = [] := by
       unfold gone
       split
       ·exact absurd rfl (hnt _)
       ·rfl
      rw [hgo, List.nil_append]
      obtain ⟨ad, cap, e1, hc, hspot, hown2⟩ := OwnOk.take (hy' (.pl d [])) (u.getD xs.length).toNat (by omega)
      have hrun := run_slice_sl (w := S.w) (desc_el hq hE.ti) hown.top.1 ho e1 hl hu hc (by simp) (by simpa using h1) h2
      have hval : (if cap = ((none : Option Int).getD 0).toNat then ad else ad.map (·.add (((none : Option Int).getD 0).toNat * r'.sz))) = ad := by
       split
       ·rfl
       ·cases ad <;> simp [Addr.add]
      rw [hval] at hrun
      simp only [Option.getD_none, Int.toNat_zero, Nat.sub_zero] at hrun
      have hso : SvOk X.P (putS S (fun _ _ => none) d (.one (.own e r' (xs.take (u.getD xs.length).toNat))) (.slice ad (u.getD xs.length).toNat cap)) d (.one (.own e r' (xs.take (u.getD xs.length).toNat))) (.slice ad (u.getD xs.length).toNat cap) :=
       LfOk.later (P := X.P) (x := .own e r' (xs.take (u.getD xs.length).toNat)) (lab := .pl d []) (lab' := .pl d []) (putS_later S (fun _ _ => none) d _ _) hown2 (fun k hk => ⟨atO_other (h := fun _ _ => none) (o := .pl d []) hk (by simp), rfl⟩)
      have K2 := K.put hd (fun _ _ => none) (by simp) _ _ hso
      refine goes_value (S := putS S (fun _ _ => none) d _ _) hrun (by rw [hod]; exact K2) ?_
      show upd S.g d _ = _
      rw [get_ups1, ← hg]
    ·obtain ⟨hk, h0, h1, h2⟩ := bnds_ok h
     refine ⟨_, hk, ?_⟩
     rcases opT_ok hE K hg hs with ⟨t, rfl, ht, hst, het, hok⟩ | ⟨hnt, y', ey, hy'⟩
     ·obtain ⟨K1, _, hf⟩ := freeze_ K (p := t) hst.symm
      obtain ⟨K2, g1, _⟩ := detach K1 t 0
      rw [ups_append]
      refine goes_cut (S := detS (frS S t e r' xs) t 0) hE K2 ?_ (u := a.eval (.tmp t)) rfl rfl ho hod hd hq hl hu h0 h1 h2 ⟨.no, ?_⟩
      ·show upd (upd S.g t _) t _ = _
       rw [show gone (.tmp t) (.one (.own e r' xs)) = [⟨t, false, .one .dead⟩] from rfl, get_ups1, ← hg]
       funext k
       unfold upd
       split <;> simp [frS]
      ·rw [het]
       exact (LfOk.relab (lab' := .tm 5 []) rfl hf).later (lab' := .tm 5 []) (detS_later _ t 0) (fun k hk => ⟨(reO_other (by simp [hk])).trans hk, rfl⟩) |>.relab rfl
     ·cases ey
      have hgo : gone x (.one (.own e r' xs)) = [] := by
       unfold gone
       split
       ·exact absurd rfl (hnt _)
       ·rfl
      rw [hgo, List.nil_append]
      refine goes_cut hE K hg rfl rfl ho hod hd hq hl hu h0 h1 h2 ⟨.no, ?_⟩
      have hown4 : OwnOk X.P S.O S.w .fz e r' xs (a.eval x) := hy' .fz
      exact hown4.reads (fun k hk => hk) (fun k hk => hk)
  ·rename_i p v e r' xs hsn
   cases hq : isEl E T e with
   | false => rw [hq] at h; simp at h
   | true =>
    rw [hq, cond_true] at h
    have hal := seen_alias hsn (fun e r xs hy => by cases hy)
    obtain ⟨p', v', e0, hp⟩ := hal
    cases e0
    have he : a.eval x = S.ph p := hlf.2 (by rw [hg, hp])
    cases hmv : E.mv d with
    | true =>
     rw [hmv, cond_true] at h
     split at h
     ·obtain ⟨hk, h0, h1, h2⟩ := bnds_ok h
      refine ⟨_, hk, ?_⟩
      have hcut : cutS xs none u = xs.take (u.getD xs.length).toNat := by rw [cutS_eq h2]; simp
      rw [hcut]
      simp only [Option.getD_none] at h0 h1
      obtain ⟨K1, g1, _⟩ := detach K p 0
      have hok : LfOk X.P S (.pl p []) (.own e r' xs) (S.ph p) := by have := K.at_ p; rwa [hg, hp] at this
      have hown1 : OwnOk X.P (detS S p 0).O (detS S p 0).w (.tm 0 []) e r' xs (a.eval x) := by rw [he]; exact g1 [] (.own e r' xs) _ hok
      obtain ⟨ad, cap, e1, hc, hspot, hown2⟩ := hown1.take (u.getD xs.length).toNat (by omega)
      have hrun := run_slice_sl (w := S.w) (desc_el hq hE.ti) hown1.top.1 ho e1 hl hu hc (by simp) (by simpa using h1) h2
      have hval : (if cap = ((none : Option Int).getD 0).toNat then ad else ad.map (·.add (((none : Option Int).getD 0).toNat * r'.sz))) = ad := by
       split
       ·rfl
       ·cases ad <;> simp [Addr.add]
      rw [hval] at hrun
      simp only [Option.getD_none, Int.toNat_zero, Nat.sub_zero] at hrun
      let hf : Nat → List Nat → Option Lab := fun n q => if n = 0 then some (.pl d q) else none
      have L := putS_later (detS S p 0) hf d (.one (.own e r' (xs.take (u.getD xs.length).toNat))) (.slice ad (u.getD xs.length).toNat cap)
      have hso : SvOk X.P (putS (detS S p 0) hf d (.one (.own e r' (xs.take (u.getD xs.length).toNat))) (.slice ad (u.getD xs.length).toNat cap)) d (.one (.own e r' (xs.take (u.getD xs.length).toNat))) (.slice ad (u.getD xs.length).toNat cap) :=
       LfOk.later (P := X.P) (x := .own e r' (xs.take (u.getD xs.length).toNat)) (lab := .tm 0 []) (lab' := .pl d []) L hown2 (fun k hk => ⟨atO_tm hk (by simp [hf]), rfl⟩)
      have K2 := K1.put hd hf (by intro n q p hp; simp only [hf] at hp; split at hp <;> first | (cases hp; exact ⟨q, rfl⟩) | cases hp) _ _ hso
      refine goes_value (S := putS (detS S p 0) hf d _ _) hrun (by rw [hod]; exact K2) ?_
      show upd (detS S p 0).g d _ = _
      rw [show ∀ u1 u2, ups A [u1, u2] = ups (ups A [u1]) [u2] from fun _ _ => rfl, get_ups1, get_ups1, ← hg]
      rfl
     ·cases h
    | false =>
     rw [hmv, cond_false] at h
     cases hno : noOw r' with
     | true =>
      rw [hno, cond_true] at h
      obtain ⟨hk, h0, h1, h2⟩ := bnds_ok h
      refine ⟨_, hk, ?_⟩
      have hco : cost A (.al p v) = [⟨p, true, .one (.fz e r' xs)⟩] := by simp [cost, hp]
      obtain ⟨K1, _, hf⟩ := freeze_ K (p := p) (e := e) (r := r') (xs := xs) (by rw [hg, hp])
      rw [hco, ups_append]
      refine goes_cut (S := frS S p e r' xs) hE K1 ?_ (u := S.ph p) he rfl ho hod hd hq hl hu h0 h1 h2 ⟨.no, hf⟩
      show upd S.g p _ = _
      rw [get_keep, ← hg]
     | false =>
      rw [hno, cond_false] at h
      cases hao : allOw r' with
      | false => rw [hao] at h; simp at h
      | true =>
       rw [hao, cond_true] at h
       obtain ⟨hk, h0, h1, h2⟩ := bnds_ok h
       refine ⟨_, hk, ?_⟩
       have hpg : S.g p = (v, .one (.own e r' xs)) := by rw [hg, hp]
       have hown : OwnOk X.P S.O S.w (.pl p []) e r' xs (S.ph p) := by have := K.at_ p; rw [hpg] at this; exact this
       have hda := da_root (P := X.P) (S := S) hpg hno hao hown
       exact goes_bor hE K hg ho hod hd hq (by rw [he]; exact hda) (by rw [hpg]) hl hu h0 h1 h2
  ·rename_i p v pi e r' xs
   cases hq : (isEl E T e && Nat.beq (get A p).1 v) with
   | false => rw [hq] at h; simp at h
   | true =>
    rw [hq, cond_true] at h
    simp only [Bool.and_eq_true] at hq
    obtain ⟨hk, h0, h1, h2⟩ := bnds_ok h
    exact ⟨_, hk, goes_bor hE K hg ho hod hd hq.1 hlf (by rw [hg]; exact Nat.eq_of_beq_eq_true hq.2) hl hu h0 h1 h2⟩
  ·rename_i e r' xs _ hsn
   cases hq : isEl E T e with
   | false => rw [hq] at h; simp at h
   | true =>
    rw [hq, cond_true] at h
    obtain ⟨hk, h0, h1, h2⟩ := bnds_ok h
    obtain ⟨lab', hl2⟩ := seen_ok K hg hlf
    rw [hsn] at hl2
    exact ⟨_, hk, goes_cut hE K hg rfl rfl ho hod hd hq hl hu h0 h1 h2 ⟨lab', hl2⟩⟩
  ·cases h
 ·cases h
end
end Go.Proofs.YtgocagaijgcnmaaGreat.Vf
end

section
set_option linter.unusedVariables false
set_option linter.unusedSimpArgs false
namespace Go.Proofs.YtgocagaijgcnmaaGreat.Vf
open Go
def pth : Sv → Nat → List Nat
 | .agg _, n => [n]
 | _, _ => []
def Shape (s : Sv) (u : Value) (us : List Value) : Prop := match s with
 | .agg _ => u = .agg us.toArray
 | _ => us = [u]
def Frz (g g' : Nat → Nat × Sv) : Prop := ∀ p, g' p = g p ∨ ∃ n e r, ∃ xs : List (Ty.den r), g p = (n, .one (.own e r xs)) ∧ g' p = (n, .one (.fz e r xs))
structure Eased (X : Cx) (S S' : Sit) : Prop where
 w : S'.w = S.w
 ph : S'.ph = S.ph
 bb : S'.bb = S.bb
 later : Later S S'
 tm : ∀ n q k, S.O k = .tm n q → S'.O k = .tm n q
 pl : ∀ l p k, S.O k = .pl l p → p ≠ [] → S'.O k = .pl l p
 bx : ∀ b k, S.O k = .bx b → S'.O k = .bx b
 no : ∀ k, S.O k = .no → S'.O k = .no
section
variable {X : Cx} {S S' S'' : Sit} {a : Act} {E : En} {A : Ab} {o : Oper} {R : Type} {Kc : List Up → Option R} {r : R}
theorem Later.refl (S : Sit) : Later S S := ⟨fun _ => Nat.le_refl _, fun _ _ => rfl, fun p v e r xs' h _ => ⟨xs', h, rfl⟩, fun _ _ => rfl, fun k h => ⟨h, rfl⟩, Later.box_of (fun _ _ _ h => h) (fun _ _ h => ⟨h, rfl⟩), fun p _ hd => ⟨hd, fun _ _ _ h => h, fun k hk => ⟨.inl hk, rfl⟩⟩⟩
theorem Later.trans (L : Later S S') (L' : Later S' S'') : Later S S'' where
 ver := fun p => Nat.le_trans (L.ver p) (L'.ver p)
 ph := fun p e => by
  have e1 : (S'.g p).1 = (S.g p).1 := Nat.le_antisymm (e ▸ L'.ver p) (L.ver p)
  rw [L'.ph p (e.trans e1.symm), L.ph p e1]
 own := fun p v e r xs' h hv => by
  have e1 : (S'.g p).1 = v := Nat.le_antisymm (by have := L'.ver p; rw [h] at this; exact this) (hv ▸ L.ver p)
  obtain ⟨ys, hy, hl⟩ := L'.own p v e r xs' h e1
  obtain ⟨zs, hz, hl'⟩ := L.own p v e r ys hy hv
  exact ⟨zs, hz, hl'.trans hl⟩
 bb := fun b e => by
  have e1 : (S'.g (H b)).1 = (S.g (H b)).1 := Nat.le_antisymm (e ▸ L'.ver _) (L.ver _)
  rw [L'.bb b (e.trans e1.symm), L.bb b e1]
 fz := fun k h => ⟨(L'.fz k (L.fz k h).1).1, (L'.fz k (L.fz k h).1).2.trans (L.fz k h).2⟩
 box := fun b n e hh hO => by
  have e1 : (S'.g (H b)).1 = (S.g (H b)).1 := Nat.le_antisymm (e ▸ L'.ver _) (L.ver _)
  obtain ⟨d1, d2, d3⟩ := L.box b n e1 hh hO
  rw [← L.bb b e1] at d2
  obtain ⟨d4, d5, d6⟩ := L'.box b n (e.trans e1.symm) d1 d2
  rw [L.bb b e1] at d5 d6
  refine ⟨d4, d5, fun c e' f hc => ?_⟩
  obtain ⟨c1, c2, c3, c4⟩ := d3 c e' f hc
  obtain ⟨c5, c6, c7, c8⟩ := d6 c1 e' f c2
  exact ⟨c5, c6, c7.trans c3, fun j hj => (c8 j hj).trans (c4 j hj)⟩
 bor := fun p e hd => by
  have e1 : (S'.g p).1 = (S.g p).1 := Nat.le_antisymm (e ▸ L'.ver p) (L.ver p)
  obtain ⟨d1, d2, d3⟩ := L.bor p e1 hd
  obtain ⟨d4, d5, d6⟩ := L'.bor p (e.trans e1.symm) d1
  refine ⟨d4, fun E R XS h => d2 E R XS (d5 E R XS h), fun k hk => ?_⟩
  obtain ⟨d7, d8⟩ := d3 k hk
  rcases d7 with d7 | d7
  ·exact ⟨(d6 k d7).1, (d6 k d7).2.trans d8⟩
  ·exact ⟨.inr (L'.fz k d7).1, (L'.fz k d7).2.trans d8⟩
theorem Eased.refl (S : Sit) : Eased X S S := ⟨rfl, rfl, rfl, .refl S, fun _ _ _ h => h, fun _ _ _ h _ => h, fun _ _ h => h, fun _ h => h⟩
theorem Eased.trans (h : Eased X S S') (h' : Eased X S' S'') : Eased X S S'' :=
 ⟨h'.w.trans h.w, h'.ph.trans h.ph, h'.bb.trans h.bb, h.later.trans h'.later, fun n q k e => h'.tm n q k (h.tm n q k e), fun l p k e hp => h'.pl l p k (h.pl l p k e hp) hp, fun b k e => h'.bx b k (h.bx b k e), fun k e => h'.no k (h.no k e)⟩
theorem frS_eased {p : Nat} {e : TypeId} {r' : Ty} {xs : List r'.den} (K : Okay X S a) (hp : (S.g p).2 = .one (.own e r' xs)) : Eased X S (frS S p e r' xs) := by
 have hown : OwnOk X.P S.O S.w (.pl p []) e r' xs (S.ph p) := by have := K.at_ p; rw [hp] at this; exact this
 have other : ∀ k o, S.O k = o → o ≠ .pl p [] → (frS S p e r' xs).O k = o := fun k o h ho => by
  show (if S.O k = .pl p [] then Lab.fz else S.O k) = o
  rw [if_neg (by rw [h]; exact ho), h]
 exact ⟨rfl, rfl, rfl, frS_later S p e r' xs hp, fun n q k h => other k _ h (by simp), fun l q k h hq => other k _ h (by simp [hq]), fun b k h => other k _ h (by simp), fun k h => other k _ h (by simp)⟩
theorem costs_ok : ∀ (l : List Lf) {S : Sit} {A' : Ab}, Okay X S a → S.g = get A' → Frz (get A) (get A') → ∃ S', Okay X S' a ∧ S'.g = get (ups A' (costs A l)) ∧ Eased X S S' ∧ Frz (get A) S'.g ∧
  ∀ p v, Lf.al p v ∈ l → ∀ n e r, ∀ xs : List (Ty.den r), get A p = (n, .one (.own e r xs)) → n = v → S'.g p = (n, .one (.fz e r xs))
 | [], S, A', K, hg, hf => ⟨S, K, hg, .refl S, by rw [hg]; exact hf, by simp⟩
 | x :: l, S, A', K, hg, hf => by
  have first : ∃ S1, Okay X S1 a ∧ S1.g = get (ups A' (cost A x)) ∧ Eased X S S1 ∧ Frz (get A) S1.g ∧ ∀ p v, x = Lf.al p v → ∀ n e r, ∀ xs : List (Ty.den r), get A p = (n, .one (.own e r xs)) → n = v → S1.g p = (n, .one (.fz e r xs)) := by
   cases x with
   | al p v =>
    by_cases hown : ∃ e r, ∃ xs : List (Ty.den r), get A p = (v, .one (.own e r xs))
    ·obtain ⟨e, r', xs, hp⟩ := hown
     have hc : cost A (.al p v) = [⟨p, true, .one (.fz e r' xs)⟩] := by simp [cost, hp]
     rw [hc]
     have hfix : ∀ S1 : Sit, S1.g = get (ups A' [⟨p, true, .one (.fz e r' xs)⟩]) → S1.g p = (v, .one (.fz e r' xs)) → ∀ p' v', Lf.al p v = Lf.al p' v' → ∀ n e r, ∀ xs : List (Ty.den r), get A p' = (n, .one (.own e r xs)) → n = v' → S1.g p' = (n, .one (.fz e r xs)) := by
      intro S1 _ h1 p' v' h2 n e2 r2 xs2 h3 h4
      cases h2
      rw [hp] at h3
      cases h3
      exact h1
     rcases hf p with h0 | ⟨n, e2, r2, xs2, h1, h2⟩
     ·have hSp : S.g p = (v, .one (.own e r' xs)) := by rw [hg, h0, hp]
      have hg1 : (frS S p e r' xs).g = get (ups A' [⟨p, true, .one (.fz e r' xs)⟩]) := by
       show upd S.g p _ = _
       rw [get_keep, ← hg]
      refine ⟨_, (freeze_ K (by rw [hSp])).1, hg1, frS_eased K (by rw [hSp]), fun q => ?_, hfix _ hg1 (by show upd S.g p _ p = _; rw [upd_same, hSp])⟩
      by_cases hq : q = p
      ·subst hq
       exact .inr ⟨v, e, r', xs, hp, by show upd S.g q _ q = _; rw [upd_same, hSp]⟩
      ·have : (frS S p e r' xs).g q = get A' q := by show upd S.g p _ q = _; rw [upd_ne _ _ hq, hg]
       rw [this]
       exact hf q
     ·rw [hp] at h1
      cases h1
      have hg1 : S.g = get (ups A' [⟨p, true, .one (.fz e r' xs)⟩]) := by
       rw [get_keep, hg]
       funext q
       by_cases hq : q = p
       ·subst hq; rw [upd_same, h2]
       ·rw [upd_ne _ _ hq]
      exact ⟨S, K, hg1, .refl S, by rw [hg]; exact hf, hfix S hg1 (by rw [hg, h2])⟩
    ·have hc : cost A (.al p v) = [] := by
      simp only [cost]
      split
      ·rename_i n e r' xs hp
       cases hb : Nat.beq n v with
       | false => rfl
       | true =>
        have : n = v := by simpa using hb
        subst this
        exact absurd ⟨e, r', xs, hp⟩ hown
      ·rfl
     rw [hc]
     refine ⟨S, K, hg, .refl S, by rw [hg]; exact hf, fun p' v' h1 n e r xs h2 h3 => ?_⟩
     cases h1
     subst h3
     exact absurd ⟨e, r, xs, h2⟩ hown
   | _ => exact ⟨S, K, hg, .refl S, by rw [hg]; exact hf, by simp⟩
  obtain ⟨S1, K1, hg1, E1, F1, P1⟩ := first
  obtain ⟨S2, K2, hg2, E2, F2, P2⟩ := costs_ok l K1 hg1 (by rw [← hg1]; exact F1)
  refine ⟨S2, K2, by rw [hg2, costs, ups_append], E1.trans E2, F2, fun p v hm n e r xs h1 h2 => ?_⟩
  rcases List.mem_cons.1 hm with hx | hl
  ·have h3 := P1 p v hx.symm n e r xs h1 h2
   rcases F2 p with h4 | ⟨n', e', r', xs', h4, h5⟩
   ·-- it was read by all already
    have hv := E2.later.ver p
    have hA := h4
    rw [h1] at hA
    obtain ⟨ys, hy, _⟩ := E2.later.own p n e r xs hA (by rw [h3])
    rw [h3] at hy
    simp at hy
   ·rw [h1] at h4
    cases h4
    exact h5
  ·exact P2 p v hl n e r xs h1 h2
theorem taken (hE : EnOk X E) (K : Okay X S a) (hg : S.g = get A) {T : TypeId} {y : Operand} {s : Sv} (hs : opT E T A y = some s) (hnt : ∀ vs, s ≠ .tup vs) (i : Nat) :
  ∃ S', Okay X S' a ∧ S'.g = get (ups A (costs A (parts s) ++ gone y s)) ∧ S'.w = S.w ∧ S'.bb = S.bb ∧ S'.ph = S.ph ∧ Later S S' ∧ (∀ b k, S.O k = .bx b → S'.O k = .bx b) ∧ (∀ b, (S'.g (H b)).1 = (S.g (H b)).1 ∧ ∀ n, (S.g (H b)).2 = .one (.hd n) → S'.g (H b) = S.g (H b)) ∧
   (∀ n q x u, LfOk X.P S (.tm n q) x u → LfOk X.P S' (.tm n q) x u) ∧
   ∃ us, Shape s (a.eval y) us ∧ LfsOk X.P S' (fun n => .tm i (pth s n)) 0 ((parts s).map (kept A)) us := by
 obtain ⟨S1, K1, hg1, E1, F1, P1⟩ := costs_ok (X := X) (a := a) (A := A) (parts s) K hg (fun p => .inl rfl)
 have keep : ∀ (f : Nat → Lab) (hf : ∀ n k, S.O k = f n → S1.O k = f n) (l : List Lf), (∀ x ∈ l, x ∈ parts s) → ∀ j us, LfsOk X.P S f j l us → LfsOk X.P S1 f j (l.map (kept A)) us := by
  intro f hf l
  induction l with
  | nil =>
   intro _ j us h
   cases us with
   | nil => trivial
   | cons => exact h.elim
  | cons x l ih =>
   intro hm j us h
   cases us with
   | nil => exact h.elim
   | cons u us =>
    refine ⟨?_, ih (fun z hz => hm z (List.mem_cons_of_mem _ hz)) _ _ h.2⟩
    have h1 : LfOk X.P S (f j) x u := h.1
    cases x with
    | al p v =>
     show LfOk X.P S1 (f j) (calm (seen A (.al p v))) u
     simp only [seen]
     split
     ·rename_i n e r' xs hp
      cases hb : Nat.beq n v with
      | false => exact trivial
      | true =>
       have hnv : n = v := by simpa using hb
       subst hnv
       rw [cond_true]
       show LfOk X.P S1 (f j) (.fz e r' xs) u
       have h2 := P1 p n (hm _ (by simp)) n e r' xs hp rfl
       have h3 := K1.at_ p
       rw [h2, E1.ph, ← h1.2 (by rw [hg, hp])] at h3
       exact LfOk.relab (lab := .pl p []) rfl h3
     ·rename_i n e r' xs hp
      cases hb : Nat.beq n v with
      | false => exact trivial
      | true =>
       have hnv : n = v := by simpa using hb
       subst hnv
       rw [cond_true]
       show LfOk X.P S1 (f j) (.fz e r' xs) u
       have h3 := K.at_ p
       rw [hg, hp, ← h1.2 (by rw [hg, hp])] at h3
       have h4 : LfOk X.P S (.pl p []) (.fz e r' xs) u := h3
       exact (LfOk.relab (lab' := f j) rfl h4).later E1.later (fun k hk => ⟨hf j k hk, by rw [E1.w]⟩)
     ·exact trivial
    | _ => exact h1.later E1.later (fun k hk => ⟨hf j k hk, by rw [E1.w]⟩)
 have base : ∀ n q x u, LfOk X.P S (.tm n q) x u → LfOk X.P S1 (.tm n q) x u := fun n q x u h => h.later E1.later (fun k hk => ⟨E1.tm n q k hk, by rw [E1.w]⟩)
 have heads : ∀ b, (S1.g (H b)).1 = (S.g (H b)).1 ∧ ∀ n, (S.g (H b)).2 = .one (.hd n) → S1.g (H b) = S.g (H b) := fun b => by
  rcases F1 (H b) with h1 | ⟨n', e, r', xs, h1, h2⟩
  ·exact ⟨by rw [h1, hg], fun n _ => by rw [h1, hg]⟩
  ·exact ⟨by rw [hg, h1, h2], fun n h => by rw [hg, h1] at h; cases h⟩
 have calmOwn : ∀ l : List Lf, ownIn l = false → ownIn (l.map (kept A)) = false := by
  intro l
  induction l with
  | nil => intro; rfl
  | cons x l ih =>
   intro h
   have hc : ∀ z : Lf, ownIn (calm z :: l.map (kept A)) = ownIn (l.map (kept A)) := by intro z; cases z <;> rfl
   cases x with
   | own e r xs => simp [ownIn] at h
   | opn e r xs i b v => simp [ownIn] at h
   | al p v => rw [List.map_cons]; exact (hc _).trans (ih (by simpa [ownIn] using h))
   | _ => exact ih (by simpa [ownIn] using h)
 have finish : ∀ (us : List Value), Shape s (a.eval y) us → (ownSv s = false → ∃ f, LfsOk X.P S1 f 0 ((parts s).map (kept A)) us) →
   (∀ t, y = .tmp t → ownSv s = true → LfsOk X.P S1 (fun n => .pl t (pth s n)) 0 ((parts s).map (kept A)) us) → ((∀ t, y ≠ .tmp t) → LfsOk X.P S1 (fun n => .tm i (pth s n)) 0 ((parts s).map (kept A)) us) →
   ∃ S', Okay X S' a ∧ S'.g = get (ups A (costs A (parts s) ++ gone y s)) ∧ S'.w = S.w ∧ S'.bb = S.bb ∧ S'.ph = S.ph ∧ Later S S' ∧ (∀ b k, S.O k = .bx b → S'.O k = .bx b) ∧ (∀ b, (S'.g (H b)).1 = (S.g (H b)).1 ∧ ∀ n, (S.g (H b)).2 = .one (.hd n) → S'.g (H b) = S.g (H b)) ∧
   (∀ n q x u, LfOk X.P S (.tm n q) x u → LfOk X.P S' (.tm n q) x u) ∧
   ∃ us, Shape s (a.eval y) us ∧ LfsOk X.P S' (fun n => .tm i (pth s n)) 0 ((parts s).map (kept A)) us := by
  intro us hus h1 h2 h3
  cases ho : ownSv s with
  | false =>
   obtain ⟨f, h4⟩ := h1 ho
   have hgo : gone y s = [] := by unfold gone; split <;> simp [ho]
   have hp : ownIn (parts s) = false := by
    cases s with
    | one x => exact ho
    | agg l => exact ho
    | tup vs => exact absurd rfl (hnt vs)
   exact ⟨S1, K1, by rw [hgo, List.append_nil]; exact hg1, E1.w, E1.bb, E1.ph, E1.later, E1.bx, heads, base, us, hus, h4.relab (calmOwn _ hp)⟩
  | true =>
   by_cases hy : ∃ t, y = .tmp t
   ·obtain ⟨t, rfl⟩ := hy
    obtain ⟨K2, g1, g2⟩ := detach K1 t i
    have hgo : gone (.tmp t) s = [⟨t, false, .one .dead⟩] := by simp [gone, ho]
    have htn : t < 1000 := by
     rcases opT_ok hE K hg hs with ⟨t', e, ht, _⟩ | ⟨hn, _⟩
     ·cases e; exact Nat.lt_of_lt_of_le ht K.nt
     ·exact absurd rfl (hn t)
    refine ⟨_, K2, ?_, E1.w, E1.bb, E1.ph, E1.later.trans (detS_later S1 t i), fun b k hk => (reO_other (by simp [E1.bx b k hk])).trans (E1.bx b k hk), fun b => ?_, fun n q x u h => g2 n q x u (base n q x u h), us, hus, (h2 t rfl ho).imp (fun n x u h => g1 _ x u h)⟩
    ·rw [hgo, ups_append, get_ups1, ← hg1]
     rfl
    ·have : (detS S1 t i).g (H b) = S1.g (H b) := upd_ne _ _ (fun e => by have h1 := H_ge b; rw [e] at h1; exact absurd htn (Nat.not_lt.2 h1))
     rw [this]
     exact heads b
   ·have hy' : ∀ t, y ≠ .tmp t := fun t e => hy ⟨t, e⟩
    have hgo : gone y s = [] := by
     unfold gone
     split
     ·exact absurd rfl (hy' _)
     ·rfl
    exact ⟨S1, K1, by rw [hgo, List.append_nil]; exact hg1, E1.w, E1.bb, E1.ph, E1.later, E1.bx, heads, base, us, hus, h3 hy'⟩
 rcases opT_ok hE K hg hs with ⟨t, rfl, ht, hst, het, hok⟩ | ⟨hnt', x, rfl, hx⟩
 ·cases s with
  | tup vs => exact absurd rfl (hnt vs)
  | one x =>
   have hok' : LfsOk X.P S (fun _ => .pl t []) 0 [x] [a.eval (.tmp t)] := ⟨hok, trivial⟩
   refine finish [a.eval (.tmp t)] rfl (fun ho => ?_) (fun t' e ho => ?_) (fun h => absurd rfl (h t))
   ·have := keep (fun _ => .tm 0 []) (fun n k hk => E1.tm _ _ k hk) [x] (by simp [parts]) 0 _ (hok'.relab ho)
    exact ⟨_, this⟩
   ·cases e
    have hx : costs A (parts (.one x)) = [] ∧ kept A x = x := by cases x <;> first | (simp [ownSv, ownIn] at ho; done) | exact ⟨rfl, rfl⟩
    have hS1 : S1.g t = (S.g t) := by
     have := hg1
     rw [hx.1] at this
     rw [this, hg]
     rfl
    have hnow := K1.at_ t
    rw [hS1, ← hst, E1.ph, ← het] at hnow
    refine ⟨?_, trivial⟩
    show LfOk X.P S1 _ (kept A x) _
    rw [hx.2]
    exact hnow
  | agg l =>
   obtain ⟨us, e1, hl⟩ := hok
   refine finish us e1 (fun ho => ?_) (fun t' e ho => ?_) (fun h => absurd rfl (h t))
   ·have := keep (fun _ => .tm 0 []) (fun n k hk => E1.tm _ _ k hk) l (by simp [parts]) 0 us (hl.relab ho)
    exact ⟨_, this⟩
   ·cases e
    exact keep (fun n => .pl t [n]) (fun n k hk => E1.pl t [n] k hk (by simp)) l (by simp [parts]) 0 us hl
 ·refine finish [a.eval y] rfl (fun ho => ?_) (fun t e => absurd e (hnt' t)) (fun _ => ?_)
  ·exact ⟨_, keep (fun _ => .tm i []) (fun n k hk => E1.tm _ _ k hk) [x] (by simp [parts]) 0 [a.eval y] ⟨hx _, trivial⟩⟩
  ·exact keep (fun _ => .tm i []) (fun n k hk => E1.tm _ _ k hk) [x] (by simp [parts]) 0 [a.eval y] ⟨hx _, trivial⟩
end
end Go.Proofs.YtgocagaijgcnmaaGreat.Vf
end

section
set_option linter.unusedVariables false
set_option linter.unusedSimpArgs false
namespace Go.Proofs.YtgocagaijgcnmaaGreat.Vf
open Go
def gput (g : Nat → Nat × Sv) (b j : Nat) (l : List Lf) : Nat → Nat × Sv := fun p => if C b j ≤ p ∧ p < C b j + l.length then ((g p).1 + 1, .one (l.getD (p - C b j) .dead)) else g p
def phput (ph : Nat → Value) (b j : Nat) (us : List Value) : Nat → Value := fun p => if C b j ≤ p ∧ p < C b j + us.length then us.getD (p - C b j) undef else ph p
theorem get_putCells (b : Nat) : ∀ (l : List Lf) (A : Ab) (j : Nat), get (ups A (putCells b j l)) = gput (get A) b j l
 | [], A, j => by
  funext p
  simp only [putCells, ups, gput, List.length_nil, Nat.add_zero]
  rw [if_neg (by omega)]
 | x :: l, A, j => by
  show get (ups (up A ⟨C b j, false, .one x⟩) (putCells b (j + 1) l)) = _
  rw [get_putCells b l _ (j + 1), get_up]
  have hc : C b (j + 1) = C b j + 1 := rfl
  funext p
  unfold gput
  rw [hc]
  simp only [List.length_cons]
  by_cases h1 : p = C b j
  ·subst h1
   rw [if_neg (by omega), if_pos (by omega), upd_same]
   simp
  ·rw [upd_ne _ _ h1]
   by_cases h2 : C b j + 1 ≤ p ∧ p < C b j + 1 + l.length
   ·rw [if_pos h2, if_pos (by omega)]
    rw [show p - C b j = (p - (C b j + 1)) + 1 by omega, List.getD_cons_succ]
   ·rw [if_neg h2, if_neg (by omega)]
def boxH (b off : Nat) : Nat → List Nat → Option Lab := fun n q => if n = 0 then (match q with
 | [] => some (.pl (C b off) [])
 | [j] => some (.pl (C b (off + j)) [])
 | _ => none) else none
section
variable {X : Cx} {S S' : Sit} {a : Act} {E : En} {A : Ab} {o : Oper} {R : Type} {Kc : List Up → Option R} {r : R}
theorem LfsOk.at {P : Program} {f : Nat → Lab} : ∀ {j : Nat} {xs : List Lf} {us : List Value} (i : Nat), LfsOk P S f j xs us → i < xs.length → ∃ x u, xs.getD i .dead = x ∧ us.getD i undef = u ∧ us[i]? = some u ∧ LfOk P S (f (j + i)) x u
 | _, [], _, i, _, hi => by simp at hi
 | j, x :: xs, u :: us, 0, h, _ => ⟨x, u, rfl, rfl, rfl, h.1⟩
 | j, x :: xs, u :: us, i + 1, h, hi => by
  obtain ⟨x', u', h1, h2, h3, h4⟩ := h.2.at i (by simpa using hi)
  exact ⟨x', u', by simpa using h1, by simpa using h2, by simpa using h3, by rw [show j + (i + 1) = j + 1 + i by omega]; exact h4⟩
 | _, _ :: _, [], _, h, _ => h.elim
theorem heads_apart {b b' off n : Nat} (h : off + n ≤ 999) : ¬ (C b off ≤ H b' ∧ H b' < C b off + n) := by unfold C H; omega
theorem cells_apart {b b' off n j : Nat} (h : off + n ≤ 999) (hj : j < 999) (hne : b' ≠ b) : ¬ (C b off ≤ C b' j ∧ C b' j < C b off + n) := by unfold C; omega
theorem slots_apart {b off n t : Nat} (ht : t < 1000) : ¬ (C b off ≤ t ∧ t < C b off + n) := by unfold C; omega
def cellS (S : Sit) (hb : Nat → List Nat → Option Lab) (b off : Nat) (m : List Lf) (us : List Value) (w : World) : Sit :=
 { S with O := atO S.O hb, g := gput S.g b off m, ph := phput S.ph b off us, w := w }
theorem Okay.cells (K : Okay X S a) {b n off : Nat} {m : List Lf} {us : List Value} {q : Nat → List Nat} {c : Array Value} {e : TypeId} (hh : (S.g (H b)).2 = .one (.hd n)) (hoff : off + m.length ≤ n)
  (hc : S.w.heap[(S.bb b).1]? = some (.cells c e (0, 0))) (hl : LfsOk X.P S (fun j => .tm 0 (q j)) 0 m us) (hq : ∀ j, j < m.length → boxH b off 0 (q j) = some (.pl (C b (off + j)) [])) (hnh : ∀ k, .hd k ∉ m) :
  Okay X (cellS S (boxH b off) b off m us (S.w.setRow (S.bb b).1 (c.toList.take ((S.bb b).2 + off) ++ us ++ c.toList.drop ((S.bb b).2 + off + us.length)).toArray)) a ∧
  Later S (cellS S (boxH b off) b off m us (S.w.setRow (S.bb b).1 (c.toList.take ((S.bb b).2 + off) ++ us ++ c.toList.drop ((S.bb b).2 + off + us.length)).toArray)) := by
 obtain ⟨hn, c0, e0, h1, h2, h3, h4⟩ := K.box b n hh
 rw [hc] at h1
 cases h1
 have hlen := hl.len
 generalize hw : S.w.setRow (S.bb b).1 (c.toList.take ((S.bb b).2 + off) ++ us ++ c.toList.drop ((S.bb b).2 + off + us.length)).toArray = w'
 have hnew : w'.heap[(S.bb b).1]? = some (.cells (c.toList.take ((S.bb b).2 + off) ++ us ++ c.toList.drop ((S.bb b).2 + off + us.length)).toArray e (0, 0)) := by rw [← hw]; exact setRow_heap _ _ _ _ _ _ hc
 have hold : ∀ k, S.O k ≠ .bx b → w'.heap[k]? = S.w.heap[k]? := fun k hk => by
  rw [← hw]
  exact setRow_other _ _ _ _ (fun e => hk (e ▸ h2))
 have hsz : (c.toList.take ((S.bb b).2 + off) ++ us ++ c.toList.drop ((S.bb b).2 + off + us.length)).toArray.size = c.size := by
  simp only [List.size_toArray, List.length_append, List.length_take, List.length_drop, Array.length_toList]
  omega
 have hcell : ∀ i, (i < (S.bb b).2 + off ∨ (S.bb b).2 + off + us.length ≤ i) → (c.toList.take ((S.bb b).2 + off) ++ us ++ c.toList.drop ((S.bb b).2 + off + us.length)).toArray[i]? = c[i]? := by
  intro i hi
  have ht : (c.toList.take ((S.bb b).2 + off)).length = (S.bb b).2 + off := by rw [List.length_take, Array.length_toList]; omega
  rw [List.getElem?_toArray, ← Array.getElem?_toList]
  rcases hi with hi | hi
  ·rw [List.append_assoc, List.getElem?_append_left (by omega), List.getElem?_take, if_pos hi]
  ·rw [List.getElem?_append_right (by rw [List.length_append, ht]; omega), List.length_append, ht, List.getElem?_drop]
   congr 1
   omega
 have hcell2 : ∀ i, i < us.length → (c.toList.take ((S.bb b).2 + off) ++ us ++ c.toList.drop ((S.bb b).2 + off + us.length)).toArray[(S.bb b).2 + off + i]? = us[i]? := by
  intro i hi
  have ht : (c.toList.take ((S.bb b).2 + off)).length = (S.bb b).2 + off := by rw [List.length_take, Array.length_toList]; omega
  rw [List.getElem?_toArray, List.getElem?_append_left (by rw [List.length_append, ht]; omega), List.getElem?_append_right (by omega), ht]
  congr 1
  omega
 have gout : ∀ p, ¬ (C b off ≤ p ∧ p < C b off + m.length) → gput S.g b off m p = S.g p ∧ phput S.ph b off us p = S.ph p := fun p hp => by
  unfold gput phput
  rw [if_neg hp, if_neg (by rw [hlen]; exact hp)]
  exact ⟨rfl, rfl⟩
 have L : Later S (cellS S (boxH b off) b off m us w') := by
  refine ⟨fun p => ?_, fun p hp => ?_, fun p v e r xs' hp hv => ?_, fun _ _ => rfl, fun k hk => ⟨atO_other hk (by simp), hold k (by simp [hk])⟩, fun b' m' hv hb' hO => ?_, fun p hp hd => ?_⟩
  ·show (S.g p).1 ≤ (gput S.g b off m p).1
   unfold gput
   split <;> simp
  ·show phput S.ph b off us p = S.ph p
   by_cases hin : C b off ≤ p ∧ p < C b off + m.length
   ·have : (gput S.g b off m p).1 = (S.g p).1 := hp
    unfold gput at this
    rw [if_pos hin] at this
    simp at this
   ·exact (gout p hin).2
  ·have hp' : gput S.g b off m p = (v, .one (.own e r xs')) := hp
   by_cases hin : C b off ≤ p ∧ p < C b off + m.length
   ·unfold gput at hp'
    rw [if_pos hin] at hp'
    simp only [Prod.mk.injEq] at hp'
    omega
   ·rw [(gout p hin).1] at hp'
    exact ⟨xs', hp', rfl⟩
  ·refine ⟨?_, atO_other hO (by simp), fun c1 e1 f1 hc1 => ?_⟩
   ·show (gput S.g b off m (H b')).2 = _
    rw [(gout _ (heads_apart (by omega))).1]; exact hb'
   ·by_cases hbb : b' = b
    ·subst hbb
     have hc1' : S.w.heap[(S.bb b').1]? = some (.cells c1 e1 f1) := hc1
     rw [hc] at hc1'
     cases hc1'
     rw [hh] at hb'
     cases hb'
     exact ⟨_, hnew, hsz, fun j hj => hcell j (by rw [hlen]; have hj' : j < (S.bb b').2 ∨ (S.bb b').2 + n ≤ j := hj; omega)⟩
    ·exact ⟨c1, (hold _ (by rw [hO]; simp [hbb])).trans hc1, rfl, fun _ _ => rfl⟩
  ·have hout : ¬ (C b off ≤ p ∧ p < C b off + m.length) := fun hin => by
    have : (gput S.g b off m p).1 = (S.g p).1 := hp
    unfold gput at this
    rw [if_pos hin] at this
    simp at this
   have hgp : (cellS S (boxH b off) b off m us w').g p = S.g p := (gout p hout).1
   rw [hgp]
   exact ⟨hd, fun _ _ _ h => h, fun k hk => ⟨.inl (atO_other hk (by simp)), hold k (by simp [hk])⟩⟩
 refine ⟨⟨K.nt, fun k hk => ?_, fun l => ?_, fun b' n' hb' => ?_, fun b' n' hb' => ?_, fun t ht => ?_, K.sz, K.df, ?_⟩, L⟩
 ·have : k < S.w.heap.size := K.lt k (fun e => hk (atO_other e (by simp)))
  show k < w'.heap.size
  rw [← hw]
  simpa [World.setRow] using this
 ·show SvOk X.P _ l (gput S.g b off m l).2 (phput S.ph b off us l)
  by_cases hin : C b off ≤ l ∧ l < C b off + m.length
  ·obtain ⟨x, u, e1, e2, e3, e4⟩ := hl.at (l - C b off) (by omega)
   unfold gput phput
   rw [if_pos hin, if_pos (by rw [hlen]; exact hin), e1, e2]
   refine LfOk.later L e4 (fun k hk => ⟨?_, hold k (by simp [hk])⟩)
   rw [Nat.zero_add] at hk
   have := atO_tm (h := boxH b off) hk (hq _ (by omega))
   rwa [show C b (off + (l - C b off)) = l by (have : C b (off + (l - C b off)) = C b off + (l - C b off) := by (unfold C; omega)); omega] at this
  ·rw [(gout l hin).1, (gout l hin).2]
   exact (K.at_ l).later L (fun p k hk => ⟨atO_other hk (by simp), hold k (by simp [hk])⟩)
 ·have e1 : (S.g (H b')).2 = .one (.hd n') := by
   have : (gput S.g b off m (H b')).2 = .one (.hd n') := hb'
   rwa [(gout _ (heads_apart (by omega))).1] at this
  obtain ⟨g1, c1, e2, g2, g3, g4, g5⟩ := K.box b' n' e1
  by_cases hbb : b' = b
  ·subst hbb
   rw [hc] at g2
   cases g2
   rw [hh] at e1
   cases e1
   refine ⟨g1, _, _, hnew, atO_other g3 (by simp), by rw [hsz]; exact g4, fun j hj => ?_⟩
   show (_ : Array Value)[(S.bb b').2 + j]? = some (phput S.ph b' off us (C b' j))
   by_cases hin : C b' off ≤ C b' j ∧ C b' j < C b' off + m.length
   ·have h5 : off ≤ j ∧ j < off + m.length := by unfold C at hin; omega
    have h6 : C b' j - C b' off = j - off := by unfold C; omega
    unfold phput
    rw [if_pos (by rw [hlen]; exact hin), h6, show (S.bb b').2 + j = (S.bb b').2 + off + (j - off) by omega, hcell2 _ (by omega)]
    rw [List.getD_eq_getElem?_getD, List.getElem?_eq_getElem (by omega)]
    rfl
   ·rw [(gout _ hin).2, ← g5 j hj]
    refine hcell _ ?_
    unfold C at hin
    omega
  ·have hne : S.O (S.bb b').1 ≠ .bx b := by rw [g3]; simp [hbb]
   refine ⟨g1, c1, e2, (hold _ hne).trans g2, atO_other g3 (by simp), g4, fun j hj => ?_⟩
   show _ = some (phput S.ph b off us (C b' j))
   rw [(gout _ (cells_apart (by omega) (by omega) hbb)).2]
   exact g5 j hj
 ·have e1 : (S.g (H b')).2 = .one (.hd n') := by
   have : (gput S.g b off m (H b')).2 = .one (.hd n') := hb'
   rwa [(gout _ (heads_apart (by omega))).1] at this
  exact K.rgn b' n' e1
 ·show a.tmps.getD t undef = phput S.ph b off us t
  rw [(gout _ (slots_apart (Nat.lt_of_lt_of_le ht K.nt))).2]
  exact K.sl t ht
 ·have F := K.fr
  refine ⟨?_, ?_, ?_, ?_, fun k hk h0 => ?_, fun k hk h0 => ?_, fun k b' hk h0 => ?_⟩
  ·rw [show (cellS S (boxH b off) b off m us w').w = w' from rfl, ← hw]; exact F.os
  ·rw [show (cellS S (boxH b off) b off m us w').w = w' from rfl, ← hw]; exact F.tape
  ·rw [show (cellS S (boxH b off) b off m us w').w = w' from rfl, ← hw]; exact F.out
  ·show _ ≤ w'.heap.size
   rw [← hw]
   simpa [World.setRow] using F.size
  ·obtain ⟨f1, f2⟩ := F.no k hk h0
   exact ⟨atO_other f1 (by simp), (hold k (by simp [f1])).trans f2⟩
  ·obtain ⟨f1, f2⟩ := F.fz k hk h0
   exact ⟨atO_other f1 (by simp), (hold k (by simp [f1])).trans f2⟩
  ·obtain ⟨f1, c1, c2, e1, f, f2, f3, f4, f5⟩ := F.bx k b' hk h0
   refine ⟨atO_other f1 (by simp), ?_⟩
   by_cases hbk : k = (S.bb b).1
   ·subst hbk
    rw [h2] at f1
    cases f1
    rw [hc] at f3
    cases f3
    obtain ⟨q1, _, q3⟩ := K.rgn b n hh
    have hb2 : b < 2000 := Nat.lt_of_not_le fun h => q3 h hk b h0
    obtain ⟨r1, r2, r3⟩ := q1 hb2 hk
    refine ⟨c1, _, _, _, f2, hnew, hsz.trans f4, fun i hi => ?_⟩
    rw [hcell i (by omega)]
    exact f5 i hi
   ·refine ⟨c1, c2, e1, f, f2, ?_, f4, f5⟩
    rw [← f3]
    show w'.heap[k]? = _
    rw [← hw]
    exact setRow_other _ _ _ _ hbk
end
end Go.Proofs.YtgocagaijgcnmaaGreat.Vf
end
