import Derived.Test.YtgocagaijgcnmaaGreatMag
section
set_option linter.unusedVariables false
set_option linter.unusedSimpArgs false
namespace Go.Proofs.YtgocagaijgcnmaaGreat.Vf
open Go
attribute [local irreducible] C H
section
variable {X : Cx} {S S' : Sit} {a : Act} {E : En} {A : Ab} {o : Oper} {R : Type} {Kc : List Up → Option R} {r : R}
theorem run_enter {P : Program} {w : World} {c : Call} {f : FuncId} {en : Ent} (ho : o.op = .call c) (hc : c.callee = .value (.func f)) (hf : CallOk P f en) : (execOp a.eval o).run P w = .ok (.enter f (c.args.toList.map a.eval).toArray) w := by
 obtain ⟨fn, h1, h2, h3⟩ := hf.fn
 have e1 : c.args.map a.eval = (c.args.toList.map a.eval).toArray := by
  apply Array.ext'
  simp
 unfold execOp
 simp only [ho, resolve, hc, Act.eval, Deferred.ofValue, Sem.run_bind, Sem.run_pure, Result.andThen_ok, invoke, callFunc, run_program, h1]
 rw [if_neg (by rw [h2]; simp), if_neg (by rw [h3]; simp)]
 simp only [Sem.run_pure, Array.append_empty, Array.empty_append]
 rw [e1]
theorem run_enterV {P : Program} {w : World} {c : Call} {f : FuncId} {en : Ent} {t : Nat} {us : List Value} (ho : o.op = .call c) (hc : c.callee = .value (.tmp t)) (hv : a.eval (.tmp t) = .func (.func f) #[] us.toArray) (hf : CallOk P f en) :
  (execOp a.eval o).run P w = .ok (.enter f (c.args.toList.map a.eval ++ us).toArray) w := by
 obtain ⟨fn, h1, h2, h3⟩ := hf.fn
 have e1 : #[] ++ (c.args.map a.eval ++ us.toArray) = (c.args.toList.map a.eval ++ us).toArray := by
  apply Array.ext'
  simp
 have e2 : #[] ++ c.args.map a.eval ++ us.toArray = (c.args.toList.map a.eval ++ us).toArray := by
  apply Array.ext'
  simp
 unfold execOp
 simp only [ho, resolve, hc, hv, Deferred.ofValue, Sem.run_bind, Sem.run_pure, Result.andThen_ok, invoke, callFunc, run_program, h1]
 rw [if_neg (by rw [h2]; simp), if_neg (by rw [h3]; simp)]
 simp only [Sem.run_pure]
 first | rw [e1] | rw [e2]
theorem goes_enter {f : FuncId} {args : Array Value} {w : World} {A' : Ab} (hr : (execOp a.eval o).run X.P w = .ok (.enter f args) w)
  (h : Calls X.P f args w (fun e w' => ∃ v, e = .returned v ∧ ∃ S', S'.w = w' ∧ Okay X S' (a.put o.dst v) ∧ S'.g = get A')) : Goes X o a w A' := by
 intro next Q hn
 unfold Oper.wp
 rw [hr, Oper.upon_enter]
 intro cs
 obtain ⟨e, w', fr, ⟨v, rfl, S', hw, K', hg'⟩, rest⟩ := h cs
 refine ⟨_, w', fr, ?_, rest⟩
 rw [← hw]
 exact hn S' _ K' hg'
theorem calls_mono {P : Program} {f : FuncId} {args : Array Value} {w : World} {R1 R2 : Ending → World → Prop} (h : Calls P f args w R1) (hi : ∀ e w', R1 e w' → R2 e w') : Calls P f args w R2 := by
 intro cs
 obtain ⟨e, w', fr, hr, rest⟩ := h cs
 exact ⟨e, w', fr, hi _ _ hr, rest⟩
theorem lends_outs : ∀ ps : List Par, lends ps = true → ptrOuts ps = []
 | [], _ => rfl
 | .val _ _ :: ps, h => by
  simp only [lends, Bool.and_eq_true] at h
  exact lends_outs ps h.2
 | .ptr _ _ :: _, h => by simp [lends] at h
 | .hid _ _ :: _, h => by simp [lends] at h
 | .rd _ :: _, h => by simp [lends] at h
 | .fn _ _ :: _, h => by simp [lends] at h
theorem news_all {ts : List Ty} {rs : List (RK × Ty)} (he : ts = rs.map Prod.snd) (x : Den ts) (h : news rs = true) : ∀ l ∈ leavesD ts x, ∀ y ∈ l, newLeaf y = true := by
 subst he
 exact news_leaves rs x h
theorem news_noPtr : ∀ rs : List (RK × Ty), news rs = true → anyPtr rs = false
 | [], _ => rfl
 | (k, t) :: rs, h => by
  cases k with
  | ptr => simp [news] at h
  | one => simp only [news, Bool.and_eq_true] at h; exact news_noPtr rs h.2
  | agg => simp only [news, Bool.and_eq_true] at h; exact news_noPtr rs h.2
theorem st_lend (hE : EnOk X E) (K : Okay X S a) (hg : S.g = get A) {xs : List Operand} {f : FuncId} {en : Ent} {ss : List Sv} (hrun : (execOp a.eval o).run X.P S.w = .ok (.enter f (xs.map a.eval).toArray) S.w) (hd : ∀ d, o.dst = some d → d < X.nt)
  (hco : CallOk X.P f en) (hnv : en.nv = xs.length) (hss : All2 (fun s x => ∃ T, opT E T A x = some s) ss xs) (hl : lends en.ps = true) (hn : news en.rs = true)
  (h : (match lentOf A en.ps ss with
  | none => none
  | some ls => match mkDen _ ls with
   | none => none
   | some x => (en.run x).bind fun r =>
    match resUp A en.rs (shL E o.dst (leavesD _ r)) o.dst with
    | none => none
    | some rs => Kc rs) = some r) : After X o a S.w A Kc r := by
 split at h
 ·cases h
 ·rename_i ls hls
  split at h
  ·cases h
  ·rename_i x hx
   cases hrun' : en.run x with
   | none => rw [hrun'] at h; simp at h
   | some y =>
    rw [hrun'] at h
    simp only [Option.bind_some] at h
    split at h
    ·cases h
    ·rename_i us hus
     obtain ⟨hargs, hlen⟩ := lent_args (i := 0) hE K hg (fun _ => (0, 0)) en.nv ((xs.map a.eval).drop en.nv) en.ps hss hls (mkDen_mk _ _ _ hx) hl
     have hs := hco.sound x y hrun' S.w (lendO S) (fun _ => (0, 0)) _ (fun k hk => K.lt k (fun e => hk (by simp [lendO, e]))) (fun k b hk => by unfold lendO at hk; split at hk <;> cases hk) hargs
     rw [List.take_of_length_le (by rw [List.length_map, hnv]; exact Nat.le_refl _)] at hs
     refine ⟨us, h, goes_enter hrun (calls_mono hs ?_)⟩
     rintro e w' ⟨v, O', rfl, hF, hlt, hres, _⟩
     refine ⟨v, rfl, ?_⟩
     have hsame : ∀ k, k < S.w.heap.size → w'.heap[k]? = S.w.heap[k]? ∧ (O' k = .no ∨ O' k = .fz) := fun k hk => by
      by_cases h0 : S.O k = .no
      ·have := hF.no k hk (by simp [lendO, h0])
       exact ⟨this.2, .inl this.1⟩
      ·have := hF.fz k hk (by simp [lendO, h0])
       exact ⟨this.2, .inr this.1⟩
     let O2 : Nat → Lab := fun k => if k < S.w.heap.size then S.O k else O' k
     obtain ⟨K1, L1⟩ := K.world (w' := w') (O' := O2) (fun k hk _ => ⟨if_pos hk, (hsame k hk).1⟩) hF.os hF.tape hF.out hF.size (fun k hk => by
      by_cases hkl : k < S.w.heap.size
      ·exact Nat.lt_of_lt_of_le hkl hF.size
      ·exact hlt k (by simpa [O2, hkl] using hk))
     have htm : ∀ k i q, O' k = .tm i q → O2 k = .tm i q := fun k i q hk => by
      have : ¬ k < S.w.heap.size := fun hkl => by
       rcases (hsame k hkl).2 with h | h <;> rw [h] at hk <;> cases hk
      simp [O2, this, hk]
     have hnews := news_all (by rw [lends_outs en.ps hl, List.append_nil]) y hn
     have hres1 : Results X.P (groS S w' O2) S.w.heap.size en.rs (leavesD _ y) v := Results.imp (S1 := bare O' w') (S2 := groS S w' O2) rfl (fun k i hk => htm k i [] hk) (fun l hl' z hz i q u hu => new_lf (S1 := bare O' w') (S2 := groS S w' O2) (hnews l hl' z hz) rfl (fun k hk => htm k i q hk) hu) hres
     obtain ⟨S2, K2, w2, g2⟩ := put_resS (E := E) K1 (A1 := A) hg (fun h => by rw [news_noPtr _ hn] at h; cases h) hd K.fr.size (leavesD_solid _ y) (fun d' _ h => by rw [news_noPtr _ hn] at h; cases h) hres1 hus
     exact ⟨S2, w2, K2, g2⟩
end
end Go.Proofs.YtgocagaijgcnmaaGreat.Vf
end

section
set_option linter.unusedVariables false
set_option linter.unusedSimpArgs false
namespace Go.Proofs.YtgocagaijgcnmaaGreat.Vf
open Go
attribute [local irreducible] C H
def Fits : List Ty → List Lf → Prop
 | .ow _ _ :: ts, _ :: l => Fits ts l
 | _ :: ts, x :: l => x.isOwn = false ∧ Fits ts l
 | [], [] => True
 | _, _ => False
theorem calm_isOwn (z : Lf) : (calm z).isOwn = false := by cases z <;> rfl
theorem xferLs_fits : ∀ (ts : List Ty) (l : List Lf) {A : Ab} {m : List Lf} {us : List Up}, xferLs A ts l = some (m, us) → Fits ts m
 | [], [], A, m, us, h => by
  simp only [xferLs, Option.some.injEq, Prod.mk.injEq] at h
  obtain ⟨rfl, _⟩ := h
  trivial
 | [], _ :: _, A, m, us, h => by simp [xferLs] at h
 | t :: ts, [], A, m, us, h => by cases t <;> simp [xferLs] at h
 | t :: ts, x :: l, A, m, us, h => by
  cases t with
  | ow e r =>
   simp only [xferLs] at h
   split at h
   ·split at h
    ·rename_i hr
     simp only [Option.some.injEq, Prod.mk.injEq] at h
     obtain ⟨rfl, _⟩ := h
     exact xferLs_fits ts l hr
    ·cases h
   ·cases h
  | _ =>
   simp only [xferLs] at h
   split at h
   ·rename_i hr
    simp only [Option.some.injEq, Prod.mk.injEq] at h
    obtain ⟨rfl, _⟩ := h
    exact ⟨calm_isOwn _, xferLs_fits ts l hr⟩
   ·cases h
theorem giveT_fits {A : Ab} {x : Operand} {s : Sv} {t : Ty} {m : List Lf} {us : List Up} (h : giveT A x s t = some (m, us)) : Fits (slots t) m := by
 unfold giveT giveL at h
 split at h
 ·rename_i m0 vs0 ht
  cases hst : storable m0 with
  | false => rw [hst] at h; simp at h
  | true =>
   rw [hst] at h
   simp only [cond_true, Option.some.injEq, Prod.mk.injEq] at h
   obtain ⟨rfl, rfl⟩ := h
   exact xferLs_fits _ _ ht
 ·cases h
theorem giveB_fits {A : Ab} {b v : Nat} {t t' : Ty} {m : List Lf} {us : List Up} (h : giveB A b v t t' = some (m, us)) : Fits (slots t) m := by
 unfold giveB at h
 split at h
 ·rename_i n hd hp
  cases hq : (Nat.beq n v && Nat.beq hd t.sz && Nat.beq hd t'.sz) with
  | false => rw [hq] at h; simp at h
  | true =>
   rw [hq, cond_true] at h
   split at h
   ·rename_i l us0 hx
    cases hst : storable l with
    | false => rw [hst] at h; simp at h
    | true =>
     rw [hst] at h
     simp only [cond_true, Option.some.injEq, Prod.mk.injEq] at h
     obtain ⟨rfl, rfl⟩ := h
     exact xferLs_fits _ _ hx
   ·cases h
 ·cases h
theorem mkT_lfsG {P : Program} {S : Sit} {f : Nat → Lab} : ∀ (t : Ty) (ts : List Ty) (l l' : List Lf) (x : t.den) (j : Nat) (us : List Value), Fits (slots t ++ ts) l → mkT t l = some (x, l') → LfsOk P S f j l us → LfsOk P S f j (leaves t x ++ l') us ∧ Fits ts l' := by
 intro t
 induction t with
 | pr p q ihp ihq =>
  intro ts l l' x j us h hm hl
  simp only [slots, List.append_assoc] at h
  simp only [mkT] at hm
  split at hm
  ·rename_i y l1 h1
   split at hm
   ·rename_i z l2 h2
    simp only [Option.some.injEq, Prod.mk.injEq] at hm
    obtain ⟨rfl, rfl⟩ := hm
    obtain ⟨h3, h4⟩ := ihp _ _ _ _ j us h h1 hl
    have key : ∀ (a : List Lf) (j : Nat) (us : List Value), LfsOk P S f j (a ++ l1) us → LfsOk P S f j (a ++ (leaves q z ++ l2)) us ∧ Fits ts l2 := by
     intro a
     induction a with
     | nil => intro j us h5; exact ihq _ _ _ _ j us h4 h2 h5
     | cons b a ih =>
      intro j us h5
      cases us with
      | nil => exact h5.elim
      | cons u us => exact ⟨⟨h5.1, (ih (j + 1) us h5.2).1⟩, (ih (j + 1) us h5.2).2⟩
    have h5 := key _ j us h3
    rw [← List.append_assoc] at h5
    exact h5
   ·cases hm
  ·cases hm
 | ow e r _ =>
  intro ts l l' x j us hf hm hl
  cases l with
  | nil => simp [mkT] at hm
  | cons z l =>
   cases us with
   | nil => exact hl.elim
   | cons u us =>
    cases z <;> first | (simp [mkT] at hm; done) | skip
    rename_i e' r' xs
    simp only [mkT] at hm
    cases hb : Nat.beq e e' with
    | false => rw [hb] at hm; simp at hm
    | true =>
     rw [hb, cond_true] at hm
     have he : e = e' := Nat.eq_of_beq_eq_true hb
     subst he
     split at hm
     ·rename_i ys hys
      simp only [Option.some.injEq, Prod.mk.injEq] at hm
      obtain ⟨rfl, rfl⟩ := hm
      exact ⟨⟨OwnOk.cast hys hl.1, hl.2⟩, hf⟩
     ·cases hm
 | sl e r _ =>
  intro ts l l' x j us hf hm hl
  cases l with
  | nil => simp [mkT] at hm
  | cons z l =>
   cases us with
   | nil => exact hl.elim
   | cons u us =>
    obtain ⟨hz, hf⟩ : z.isOwn = false ∧ Fits ts l := hf
    cases z <;> first | (simp [mkT] at hm; done) | (simp [Lf.isOwn] at hz; done) | skip
    rename_i e' r' xs
    simp only [mkT] at hm
    cases hb : Nat.beq e e' with
    | false => rw [hb] at hm; simp at hm
    | true =>
     rw [hb, cond_true] at hm
     have he : e = e' := Nat.eq_of_beq_eq_true hb
     subst he
     split at hm
     ·rename_i ys hys
      simp only [Option.some.injEq, Prod.mk.injEq] at hm
      obtain ⟨rfl, rfl⟩ := hm
      exact ⟨⟨castL_rep hys hl.1, hl.2⟩, hf⟩
     ·cases hm
 | i k =>
  intro ts l l' x j us hf hm hl
  cases l with
  | nil => simp [mkT] at hm
  | cons z l =>
   cases z <;> first | (simp [mkT] at hm; done) | skip
   rename_i v
   cases v <;> first | (simp [mkT] at hm; done) | skip
   rename_i k' n
   simp only [mkT] at hm
   by_cases hk : k = k'
   ·subst hk
    simp at hm
    obtain ⟨rfl, rfl⟩ := hm
    exact ⟨hl, hf.2⟩
   ·simp [hk] at hm
 | b =>
  intro ts l l' x j us hf hm hl
  cases l with
  | nil => simp [mkT] at hm
  | cons z l =>
   cases z <;> first | (simp [mkT] at hm; done) | skip
   rename_i v
   cases v <;> first | (simp [mkT] at hm; done) | skip
   simp [mkT] at hm
   obtain ⟨rfl, rfl⟩ := hm
   exact ⟨hl, hf.2⟩
 | s =>
  intro ts l l' x j us hf hm hl
  cases l with
  | nil => simp [mkT] at hm
  | cons z l =>
   cases z <;> first | (simp [mkT] at hm; done) | skip
   rename_i v
   cases v <;> first | (simp [mkT] at hm; done) | skip
   simp [mkT] at hm
   obtain ⟨rfl, rfl⟩ := hm
   exact ⟨hl, hf.2⟩
theorem mkW_lfsG {P : Program} {S : Sit} {f : Nat → Lab} {t : Ty} {l : List Lf} {x : t.den} {j : Nat} {us : List Value} (hf : Fits (slots t) l) (h : mkW t l = some x) (hl : LfsOk P S f j l us) : LfsOk P S f j (leaves t x) us := by
 unfold mkW at h
 split at h
 ·rename_i y hy
  cases h
  have := (mkT_lfsG t [] l [] _ j us (by rw [List.append_nil]; exact hf) hy hl).1
  rwa [List.append_nil] at this
 ·cases h
theorem mkT_qs {Q : Nat → Lf → Value → Prop} (hqo : ∀ j e r r' (xs : List (Ty.den r')) (ys : List (Ty.den r)) u, castO r r' xs = some ys → Q j (.own e r' xs) u → Q j (.own e r ys) u) (hqf : ∀ j e r r' (xs : List (Ty.den r')) (ys : List (Ty.den r)) u, castL r r' xs = some ys → Q j (.fz e r' xs) u → Q j (.fz e r ys) u) : ∀ (t : Ty) (ts : List Ty) (l l' : List Lf) (x : t.den) (j : Nat) (us : List Value), Fits (slots t ++ ts) l → mkT t l = some (x, l') → QsOk Q j l us → QsOk Q j (leaves t x ++ l') us ∧ Fits ts l' := by
 intro t
 induction t with
 | pr p q ihp ihq =>
  intro ts l l' x j us h hm hl
  simp only [slots, List.append_assoc] at h
  simp only [mkT] at hm
  split at hm
  ·rename_i y l1 h1
   split at hm
   ·rename_i z l2 h2
    simp only [Option.some.injEq, Prod.mk.injEq] at hm
    obtain ⟨rfl, rfl⟩ := hm
    obtain ⟨h3, h4⟩ := ihp _ _ _ _ j us h h1 hl
    have key : ∀ (a : List Lf) (j : Nat) (us : List Value), QsOk Q j (a ++ l1) us → QsOk Q j (a ++ (leaves q z ++ l2)) us ∧ Fits ts l2 := by
     intro a
     induction a with
     | nil => intro j us h5; exact ihq _ _ _ _ j us h4 h2 h5
     | cons b a ih =>
      intro j us h5
      cases us with
      | nil => exact h5.elim
      | cons u us => exact ⟨⟨h5.1, (ih (j + 1) us h5.2).1⟩, (ih (j + 1) us h5.2).2⟩
    have h5 := key _ j us h3
    rw [← List.append_assoc] at h5
    exact h5
   ·cases hm
  ·cases hm
 | ow e r _ =>
  intro ts l l' x j us hf hm hl
  cases l with
  | nil => simp [mkT] at hm
  | cons z l =>
   cases us with
   | nil => exact hl.elim
   | cons u us =>
    cases z <;> first | (simp [mkT] at hm; done) | skip
    rename_i e' r' xs
    simp only [mkT] at hm
    cases hb : Nat.beq e e' with
    | false => rw [hb] at hm; simp at hm
    | true =>
     rw [hb, cond_true] at hm
     have he : e = e' := Nat.eq_of_beq_eq_true hb
     subst he
     split at hm
     ·rename_i ys hys
      simp only [Option.some.injEq, Prod.mk.injEq] at hm
      obtain ⟨rfl, rfl⟩ := hm
      exact ⟨⟨hqo _ _ _ _ _ _ _ hys hl.1, hl.2⟩, hf⟩
     ·cases hm
 | sl e r _ =>
  intro ts l l' x j us hf hm hl
  cases l with
  | nil => simp [mkT] at hm
  | cons z l =>
   cases us with
   | nil => exact hl.elim
   | cons u us =>
    obtain ⟨hz, hf⟩ : z.isOwn = false ∧ Fits ts l := hf
    cases z <;> first | (simp [mkT] at hm; done) | (simp [Lf.isOwn] at hz; done) | skip
    rename_i e' r' xs
    simp only [mkT] at hm
    cases hb : Nat.beq e e' with
    | false => rw [hb] at hm; simp at hm
    | true =>
     rw [hb, cond_true] at hm
     have he : e = e' := Nat.eq_of_beq_eq_true hb
     subst he
     split at hm
     ·rename_i ys hys
      simp only [Option.some.injEq, Prod.mk.injEq] at hm
      obtain ⟨rfl, rfl⟩ := hm
      exact ⟨⟨hqf _ _ _ _ _ _ _ hys hl.1, hl.2⟩, hf⟩
     ·cases hm
 | i k =>
  intro ts l l' x j us hf hm hl
  cases l with
  | nil => simp [mkT] at hm
  | cons z l =>
   cases z <;> first | (simp [mkT] at hm; done) | skip
   rename_i v
   cases v <;> first | (simp [mkT] at hm; done) | skip
   rename_i k' n
   simp only [mkT] at hm
   by_cases hk : k = k'
   ·subst hk
    simp at hm
    obtain ⟨rfl, rfl⟩ := hm
    exact ⟨hl, hf.2⟩
   ·simp [hk] at hm
 | b =>
  intro ts l l' x j us hf hm hl
  cases l with
  | nil => simp [mkT] at hm
  | cons z l =>
   cases z <;> first | (simp [mkT] at hm; done) | skip
   rename_i v
   cases v <;> first | (simp [mkT] at hm; done) | skip
   simp [mkT] at hm
   obtain ⟨rfl, rfl⟩ := hm
   exact ⟨hl, hf.2⟩
 | s =>
  intro ts l l' x j us hf hm hl
  cases l with
  | nil => simp [mkT] at hm
  | cons z l =>
   cases z <;> first | (simp [mkT] at hm; done) | skip
   rename_i v
   cases v <;> first | (simp [mkT] at hm; done) | skip
   simp [mkT] at hm
   obtain ⟨rfl, rfl⟩ := hm
   exact ⟨hl, hf.2⟩
theorem mkW_qs {Q : Nat → Lf → Value → Prop} (hqo : ∀ j e r r' (xs : List (Ty.den r')) (ys : List (Ty.den r)) u, castO r r' xs = some ys → Q j (.own e r' xs) u → Q j (.own e r ys) u) (hqf : ∀ j e r r' (xs : List (Ty.den r')) (ys : List (Ty.den r)) u, castL r r' xs = some ys → Q j (.fz e r' xs) u → Q j (.fz e r ys) u) {t : Ty} {l : List Lf} {x : t.den} {j : Nat} {us : List Value} (hf : Fits (slots t) l) (h : mkW t l = some x) (hl : QsOk Q j l us) : QsOk Q j (leaves t x) us := by
 unfold mkW at h
 split at h
 ·rename_i y hy
  cases h
  have := (mkT_qs hqo hqf t [] l [] _ j us (by rw [List.append_nil]; exact hf) hy hl).1
  rwa [List.append_nil] at this
 ·cases h
theorem castL_self {r : Ty} (xs : List r.den) : castL r r xs = some xs := by
 unfold castL
 rw [dif_pos rfl]
 rfl
theorem castO_self {r : Ty} (xs : List r.den) : castO r r xs = some xs := by
 unfold castO
 rw [dif_pos rfl]
theorem mkT_leaves : ∀ (t : Ty) (x : t.den) (l : List Lf), mkT t (leaves t x ++ l) = some (x, l)
 | .i _, _, _ => by simp [leaves, mkT]
 | .b, _, _ => by simp [leaves, mkT]
 | .s, _, _ => by simp [leaves, mkT]
 | .sl _ _, _, _ => by simp [leaves, mkT, castL_self]
 | .ow _ _, _, _ => by simp [leaves, mkT, castO_self]
 | .pr x y, p, l => by
  show mkT (.pr x y) ((leaves x p.1 ++ leaves y p.2) ++ l) = _
  rw [List.append_assoc]
  simp only [mkT]
  rw [mkT_leaves x p.1]
  simp only
  rw [mkT_leaves y p.2]
theorem mkW_leaves (t : Ty) (x : t.den) : mkW t (leaves t x) = some x := by
 unfold mkW
 have := mkT_leaves t x []
 rw [List.append_nil] at this
 rw [this]
def ptrV (S : Sit) (b : Nat × Nat) : Value := .pointer (some ⟨(S.bb b.1).1, (S.bb b.1).2 + 0, none⟩)
def nmV (i : Nat) : Nat := 10 + 2 * i
def nmB (B : Nat) : Nat := 11 + 2 * B
def BoxP (P : Program) (S : Sit) (B : Nat) (t t' : Ty) (l : List Lf) (u : Value) (bs : List (Nat × Nat)) : Prop :=
 ∃ b, bs = [(b, B)] ∧ u = .pointer (some ⟨(S.bb b).1, (S.bb b).2, none⟩) ∧ (S.g (H b)).2 = .one (.hd t.sz) ∧ t'.sz = t.sz ∧ l.length = t.sz ∧ storable l = true ∧ Fits (slots t) l ∧
  LfsOk P S (fun j => .tm (nmB B) [j]) 0 l ((List.range t.sz).map fun j => S.ph (C b (0 + j)))
def ArgP (P : Program) (S : Sit) (cb hb : List (Nat × Nat)) (nv i : Nat) : Par → List Lf → Value → List (Nat × Nat) → Prop
 | .vw t h, l, u, bs => bs = [] ∧ nv ≤ h ∧ l.length = t.sz ∧ Fits (slots t) l ∧ ∃ c vs, nth hb (h - nv) = some c ∧ (S.g (H c.1)).2 = .one (.hd t.sz) ∧ u = .agg vs.toArray ∧ QsOk (VwLf P S (fun j => S.ph (C c.1 j))) 0 l vs
 | .val ag t, l, u, bs => bs = [] ∧ storable l = true ∧ Fits (slots t) l ∧ ∃ us, (if ag then u = .agg us.toArray else us = [u]) ∧ LfsOk P S (fun n => .tm (nmV i) (if ag then [n] else [])) 0 l us
 | .ptr t t', l, u, bs => BoxP P S (bid nv i) t t' l u bs
 | .hid t t', l, u, bs => BoxP P S (bid nv i) t t' l u bs
 | .rd t, l, u, bs => bs = [] ∧ ∃ r x k o cs, l = lvs r x ∧ shp r = shp t ∧ noOw t = true ∧ u = .pointer (some ⟨k, o, none⟩) ∧ S.O k = .fz ∧ r.rep P (fun k => S.O k = .fz) S.w x cs ∧ CellsAt S.w k o cs
 | .fn F m, _, u, bs => bs = [] ∧ m = cb.length ∧ u = .func (.func F) #[] (cb.map (ptrV S)).toArray
def ArgsP (P : Program) (S : Sit) (cb hb : List (Nat × Nat)) (nv : Nat) : Nat → List Par → List (List Lf) → List Value → List (Nat × Nat) → Prop
 | _, [], [], [], bs => bs = []
 | i, p :: ps, l :: ls, u :: us, bs => ∃ b1 b2, bs = b1 ++ b2 ∧ ArgP P S cb hb nv i p l u b1 ∧ ArgsP P S cb hb nv (i + 1) ps ls us b2
 | _, _, _, _, _ => False
theorem bid_inj {nv i j : Nat} (hn : nv ≤ 1000) (h : bid nv i = bid nv j) : i = j := by
 unfold bid at h
 cases h1 : Nat.blt i nv <;> cases h2 : Nat.blt j nv <;> rw [h1, h2] at h <;> simp only [cond_true, cond_false] at h
 ·have h3 : ¬ i < nv := fun h' => by rw [show Nat.blt i nv = true from Nat.ble_eq_true_of_le h'] at h1; cases h1
  have h4 : ¬ j < nv := fun h' => by rw [show Nat.blt j nv = true from Nat.ble_eq_true_of_le h'] at h2; cases h2
  omega
 ·have h4 : j < nv := Nat.le_of_ble_eq_true h2
  omega
 ·have h4 : i < nv := Nat.le_of_ble_eq_true h1
  omega
 ·exact h
section
variable {X : Cx} {S S1 S2 : Sit} {a : Act} {E : En} {A : Ab} {o : Oper} {R : Type} {Kc : List Up → Option R} {r : R}
def exA (nv i : Nat) : Nat → List Nat → Prop := fun n _ => ∃ j, i ≤ j ∧ (n = nmV j ∨ n = nmB (bid nv j))
theorem exA_not {nv i j : Nat} (hn : nv ≤ 1000) (h : j < i) (q : List Nat) : ¬ exA nv i (nmV j) q ∧ ¬ exA nv i (nmB (bid nv j)) q := by
 refine ⟨fun ⟨k, h1, h2⟩ => ?_, fun ⟨k, h1, h2⟩ => ?_⟩
 ·unfold nmV nmB at h2
  omega
 ·unfold nmV nmB at h2
  rcases h2 with h2 | h2
  ·omega
  ·have : bid nv j = bid nv k := by omega
   have := bid_inj hn this
   omega
theorem QsOk.imp {Q Q' : Nat → Lf → Value → Prop} (h : ∀ j x u, Q j x u → Q' j x u) : ∀ {l : List Lf} {j : Nat} {us : List Value}, QsOk Q j l us → QsOk Q' j l us
 | [], _, [], _ => trivial
 | [], _, _ :: _, h' => h'.elim
 | _ :: _, _, [], h' => h'.elim
 | _ :: _, j, _ :: _, h' => ⟨h _ _ _ h'.1, QsOk.imp h h'.2⟩
theorem VwLf.later {P : Program} {S S' : Sit} {w w' : Nat → Value} {j : Nat} {x : Lf} {u : Value} (hw : w' = w) (hl : ∀ x u, isSh x = true → LfOk P S .fz x u → LfOk P S' .fz x u) (h : VwLf P S w j x u) : VwLf P S' w' j x u := by
 subst hw
 cases x <;> first | exact h | exact ⟨h.1, hl _ _ h.1 h.2⟩
theorem ArgP.stay {cb hb : List (Nat × Nat)} {nv i j : Nat} {p : Par} {l : List Lf} {u : Value} {bs : List (Nat × Nat)} (hn : nv ≤ 1000) (h : GivenX X S S1 (exA nv i)) (hj : j < i) (hp : ArgP X.P S cb hb nv j p l u bs) : ArgP X.P S1 cb hb nv j p l u bs := by
 have hfz : ∀ k, S.O k = .fz → S1.O k = .fz := fun k hk => (h.later.fz k hk).1
 have box : ∀ {t t' : Ty}, BoxP X.P S (bid nv j) t t' l u bs → BoxP X.P S1 (bid nv j) t t' l u bs := by
  rintro t t' ⟨b, h1, h2, h3, h4, h5, h6, h7, h8⟩
  refine ⟨b, h1, by rw [h.bb]; exact h2, by rw [h.heads b _ h3]; exact h3, h4, h5, h6, h7, ?_⟩
  rw [h.ph]
  exact h8.imp (fun n x u hx => h.tms _ _ _ _ (exA_not hn hj _).2 hx)
 cases p with
 | vw t h0 =>
  obtain ⟨h1, h2, h3, h4, c, vs, h5, h6, h7, h8⟩ := hp
  refine ⟨h1, h2, h3, h4, c, vs, h5, by rw [h.heads c.1 _ h6]; exact h6, h7, h8.imp (fun j x u hx => hx.later (by rw [h.ph]) (fun x u hs hx => ?_))⟩
  exact LfOk.later h.later hx (fun k hk => ⟨hfz k hk, by rw [h.w]⟩)
 | val ag t =>
  obtain ⟨h1, h2, h3, us, h4, h5⟩ := hp
  exact ⟨h1, h2, h3, us, h4, h5.imp (fun n x u hx => h.tms _ _ _ _ (exA_not hn hj _).1 hx)⟩
 | ptr t t' => exact box hp
 | hid t t' => exact box hp
 | rd t =>
  obtain ⟨h1, r', x, k, o', cs, h2, h3, h4, h5, h6, h7, h8⟩ := hp
  exact ⟨h1, r', x, k, o', cs, h2, h3, h4, h5, hfz k h6, Ty.rep_mono hfz (fun k _ => by rw [h.w]) r' x cs h7, h8.mono (by rw [h.w])⟩
 | fn F m =>
  obtain ⟨h1, h2, h3⟩ := hp
  refine ⟨h1, h2, ?_⟩
  have : ptrV S1 = ptrV S := by funext b; unfold ptrV; rw [h.bb]
  rw [this]
  exact h3
theorem eqBs_eq : ∀ {l m : List (Nat × Nat)}, eqBs l m = true → l = m
 | [], [], _ => rfl
 | [], _ :: _, h => by simp [eqBs] at h
 | _ :: _, [], h => by simp [eqBs] at h
 | (a1, a2) :: l, (b1, b2) :: m, h => by
  simp only [eqBs, Bool.and_eq_true] at h
  have e1 : a1 = b1 := Nat.eq_of_beq_eq_true h.1.1
  have e2 : a2 = b2 := Nat.eq_of_beq_eq_true h.1.2
  rw [e1, e2, eqBs_eq h.2]
theorem fns_alive (hg : S.g = get A) : ∀ {bs : List (Nat × Nat)} {us : List Value}, FnsOk S bs us → aliveB A bs = true → us = bs.map (ptrV S)
 | [], us, h, _ => h
 | c :: bs, us, ⟨u, us', e, ⟨h1, h2⟩, h3⟩, ha => by
  simp only [aliveB, Bool.and_eq_true] at ha
  have e1 : (S.g (H c.1)).1 = c.2 := by rw [hg]; exact Nat.eq_of_beq_eq_true ha.1
  subst e
  rw [List.map_cons, fns_alive hg h3 ha.2, h2 e1]
  rfl
theorem form_of {ag : Bool} {s : Sv} (h : formOk ag s = true) : ∀ n, pth s n = if ag then [n] else [] := by
 intro n
 cases s with
 | tup vs => simp [formOk, form] at h
 | one z => cases ag <;> simp [formOk, form] at h ⊢; rfl
 | agg z => cases ag <;> simp [formOk, form] at h ⊢; rfl
theorem giveT_bp {x : Operand} {b v off : Nat} {t : Ty} {m : List Lf} {us : List Up} (h : giveT A x (.one (.bp b v off)) t = some (m, us)) : False := by
 unfold giveT giveL at h
 split at h
 ·rename_i m0 vs0 ht
  have hm : m0 = [.bp b v off] ∨ False := by
   have e1 : parts (.one (.bp b v off)) = [.bp b v off] := rfl
   rw [e1] at ht
   generalize slots t = ts at ht
   cases ts with
   | nil => simp [xferLs] at ht
   | cons t ts =>
    cases ts with
    | cons t2 ts =>
     obtain ⟨_, h2⟩ := xferLs_len _ _ ht
     simp at h2
    | nil =>
     cases t <;> first | (simp [xferLs, ownAs, seen] at ht; done) | skip
     all_goals
      simp [xferLs, cost, kept, calm] at ht
      exact .inl ht.1.symm
  rcases hm with rfl | h0
  ·simp [storable] at h
  ·exact h0
 ·cases h
theorem vwOf_ok {A : Ab} {S : Sit} {X : Cx} {a : Act} (K : Okay X S a) (hg : S.g = get A) {b l0 : Nat} : ∀ (ts : List Ty) {j : Nat} {l m : List Lf} {us : List Value}, vwOf A b j ts l = some m → LfsOk X.P S (fun n => .pl l0 [n]) j l us →
  Fits ts m ∧ m.length = ts.length ∧ QsOk (VwLf X.P S (fun j => S.ph (C b j))) j m us
 | [], j, [], m, us, h, hl => by
  simp only [vwOf, Option.some.injEq] at h
  subst h
  cases us with
  | nil => exact ⟨trivial, rfl, trivial⟩
  | cons => exact hl.elim
 | [], j, _ :: _, m, us, h, hl => by simp [vwOf] at h
 | t :: ts, j, [], m, us, h, hl => by cases t <;> simp [vwOf] at h
 | t :: ts, j, x :: l, m, us, h, hl => by
  cases us with
  | nil => exact hl.elim
  | cons u us =>
   have share : ∀ {m' : List Lf}, isSh (seen A x) = true → vwOf A b (j + 1) ts l = some m' → (∀ m'', Fits (t :: ts) (seen A x :: m'') ↔ ((seen A x).isOwn = false ∧ Fits ts m'')) → Fits (t :: ts) (seen A x :: m') ∧ (seen A x :: m').length = (t :: ts).length ∧ QsOk (VwLf X.P S (fun j => S.ph (C b j))) j (seen A x :: m') (u :: us) := by
    intro m' hs hr hf
    obtain ⟨h1, h2, h3⟩ := vwOf_ok K hg ts hr hl.2
    obtain ⟨lab', h4⟩ := seen_ok K hg hl.1
    refine ⟨(hf m').2 ⟨by cases hx : seen A x <;> rw [hx] at hs <;> first | rfl | simp [isSh] at hs, h1⟩, by simp [h2], ?_, h3⟩
    have h5 : LfOk X.P S .fz (seen A x) u := by
     cases hx : seen A x <;> rw [hx] at hs h4 <;> first | exact LfOk.relab (lab' := .fz) rfl h4 | simp [isSh] at hs
    cases hx : seen A x <;> rw [hx] at hs h5 <;> first | exact ⟨rfl, h5⟩ | simp [isSh] at hs
   cases t with
   | ow e r =>
    cases x <;> first | (simp [vwOf] at h; done) | skip
    rename_i p v
    simp only [vwOf] at h
    cases hq : (Nat.beq p (C b j) && Nat.beq (get A p).1 v) with
    | false => rw [hq] at h; simp at h
    | true =>
     rw [hq, cond_true] at h
     simp only [Bool.and_eq_true] at hq
     split at h
     ·rename_i y hy
      split at h
      ·rename_i m' hr
       simp only [Option.some.injEq] at h
       subst h
       obtain ⟨h1, h2, h3⟩ := vwOf_ok K hg ts hr hl.2
       have hal : LfOk X.P S (.pl l0 [j]) (.al p v) u := hl.1
       have hu := hal.2 (by rw [hg]; exact Nat.eq_of_beq_eq_true hq.2)
       have hyo : ∃ ys, y = .own e r ys := by
        unfold ownAs at hy
        split at hy
        ·generalize Nat.beq e _ = bb at hy
         cases bb with
         | false => simp at hy
         | true =>
          rw [cond_true] at hy
          split at hy
          ·simp only [Option.some.injEq] at hy
           exact ⟨_, hy.symm⟩
          ·cases hno : noOw r with
           | false => rw [hno] at hy; simp at hy
           | true =>
            rw [hno, cond_true] at hy
            split at hy
            ·simp only [Option.some.injEq] at hy
             exact ⟨_, hy.symm⟩
            ·cases hy
        ·cases hy
       obtain ⟨ys, rfl⟩ := hyo
       refine ⟨h1, by simp [h2], ?_, h3⟩
       show u = S.ph (C b j)
       rw [hu, Nat.eq_of_beq_eq_true hq.1]
      ·cases h
     ·cases h
   | _ =>
    simp only [vwOf] at h
    cases hs : isSh (seen A x) with
    | false => rw [hs] at h; simp at h
    | true =>
     rw [hs, cond_true] at h
     split at h
     ·rename_i m' hr
      simp only [Option.some.injEq] at h
      subst h
      exact share hs hr (fun m'' => Iff.rfl)
     ·cases h
theorem arg_step (hE : EnOk X E) (K : Okay X S a) (hg : S.g = get A) {cb hb : List (Nat × Nat)} {nv i : Nat} {x : Operand} {s : Sv} {v : Value} {p : Par} {l : List Lf} {us : List Up} {bs : List Nat} (hx : (∃ T, opT E T A x = some s ∧ v = a.eval x) ∨ (∃ h : Nat × Nat, s = .one (.bp h.1 h.2 0) ∧ v = ptrV S h)) (h : argOf A cb hb nv x p s = some (l, us, bs)) :
  ∃ S1 bp, Okay X S1 a ∧ S1.g = get (ups A us) ∧ GivenX X S S1 (exA nv i) ∧ bp.map Prod.fst = bs ∧ ArgP X.P S1 cb hb nv i p l v bp := by
 have box : ∀ {t t' : Ty} {b w : Nat}, s = .one (.bp b w 0) → (match giveB A b w t t' with | some (m, us) => some (m, us, [b]) | none => none) = some (l, us, bs) → ∃ S1 bp, Okay X S1 a ∧ S1.g = get (ups A us) ∧ GivenX X S S1 (exA nv i) ∧ bp.map Prod.fst = bs ∧ BoxP X.P S1 (bid nv i) t t' l v bp := by
  intro t t' b w hs h
  split at h
  ·rename_i m us' hgive
   cases h
   obtain ⟨g1, g2, g3, g4, g5, S1, K1, g6, G, hl⟩ := giveB_ok K hg hgive (nmB (bid nv i))
   refine ⟨S1, [(b, bid nv i)], K1, g6, GivenX.trans (fun n q h => h) (fun n q h => ⟨i, Nat.le_refl _, .inr h⟩) (GivenX.refl S (exA nv i)) G, rfl, b, rfl, ?_, by rw [G.heads b _ g2]; exact g2, g3, g5, g4, giveB_fits hgive, by rw [G.ph]; exact hl⟩
   rw [G.bb]
   rcases hx with ⟨T, h1, rfl⟩ | ⟨h', h1, rfl⟩
   ·obtain ⟨pl, h2⟩ := opT_ex hE K hg h1
    rw [hs] at h2
    have h3 : LfOk X.P S (.pl pl []) (.bp b w 0) (a.eval x) := h2
    exact h3.2 g1
   ·rw [hs] at h1
    simp only [Sv.one.injEq, Lf.bp.injEq] at h1
    unfold ptrV
    rw [← h1.1]
    rfl
  ·cases h
 unfold argOf at h
 split at h
 ·rename_i t h0 ys
  split at h
  ·rename_i c hc
   split at h
   ·rename_i n m hp
    cases hq : (Nat.ble nv h0 && Nat.beq n c.2 && Nat.beq m t.sz) with
    | false => rw [hq] at h; simp at h
    | true =>
     rw [hq, cond_true] at h
     simp only [Bool.and_eq_true] at hq
     split at h
     ·rename_i l0 hvw
      cases h
      rcases hx with ⟨T, h1, rfl⟩ | ⟨h', h1, _⟩
      ·obtain ⟨pl, h2⟩ := opT_ex hE K hg h1
       obtain ⟨vs, e1, e2⟩ : ∃ us : List Value, a.eval x = .agg us.toArray ∧ LfsOk X.P S (fun j => .pl pl [j]) 0 ys us := h2
       obtain ⟨f1, f2, f3⟩ := vwOf_ok K hg _ hvw e2
       exact ⟨S, [], K, hg, GivenX.refl S _, rfl, rfl, Nat.le_of_ble_eq_true hq.1.1, by rw [f2, slots_len], f1, c, vs, hc, by rw [hg, hp, Nat.eq_of_beq_eq_true hq.2], e1, f3⟩
      ·cases h1
     ·cases h
   ·cases h
  ·cases h
 ·rename_i ag t
  cases hq : formOk ag s with
  | false => rw [hq] at h; simp at h
  | true =>
   rw [hq, cond_true] at h
   split at h
   ·rename_i m us' hgive
    cases h
    rcases hx with ⟨T, h1, rfl⟩ | ⟨h', h1, _⟩
    ·obtain ⟨S1, K1, g1, G, h2, _, vs, hsh, hl⟩ := giveT_ok hE K hg (.inl h1) (form_nt hq) hgive (nmV i)
     have hp := form_of hq
     simp only [hp] at hl
     exact ⟨S1, [], K1, g1, GivenX.trans (fun n q h => h) (fun n q h => ⟨i, Nat.le_refl _, .inl h⟩) (GivenX.refl S (exA nv i)) G, rfl, rfl, h2, giveT_fits hgive, vs, form_shape hq hsh, hl⟩
    ·rw [h1] at hgive
     exact (giveT_bp hgive).elim
   ·cases h
 ·exact box rfl h
 ·exact box rfl h
 ·rename_i t r' y
  cases hq : (decide (shp r' = shp t) && noOw t) with
  | false => rw [hq] at h; simp at h
  | true =>
   rw [hq] at h
   simp only [cond_true, Option.some.injEq, Prod.mk.injEq] at h
   obtain ⟨rfl, rfl, rfl⟩ := h
   simp only [Bool.and_eq_true, decide_eq_true_eq] at hq
   rcases hx with ⟨T, h1, rfl⟩ | ⟨h', h1, _⟩
   ·obtain ⟨pl, h2⟩ := opT_ex hE K hg h1
    obtain ⟨k, o', cs, e1, e2, e3, e4⟩ : LfOk X.P S (.pl pl []) (.fp r' y 0) (a.eval x) := h2
    exact ⟨S, [], K, hg, GivenX.refl S _, rfl, rfl, r', y, k, o', cs, rfl, hq.1, hq.2, e1, e2, e3, e4⟩
   ·cases h1
 ·rename_i F m F' bs'
  cases hq : (Nat.beq F F' && Nat.beq m bs'.length && eqBs bs' cb && aliveB A bs') with
  | false => rw [hq] at h; simp at h
  | true =>
   rw [hq] at h
   simp only [cond_true, Option.some.injEq, Prod.mk.injEq] at h
   obtain ⟨rfl, rfl, rfl⟩ := h
   simp only [Bool.and_eq_true] at hq
   obtain ⟨⟨⟨q1, q2⟩, q3⟩, q4⟩ := hq
   have e1 : F = F' := Nat.eq_of_beq_eq_true q1
   have e2 : m = bs'.length := Nat.eq_of_beq_eq_true q2
   have e3 := eqBs_eq q3
   subst e1 e3
   rcases hx with ⟨T, h1, rfl⟩ | ⟨h', h1, _⟩
   ·obtain ⟨pl, h2⟩ := opT_ex hE K hg h1
    obtain ⟨us', e4, e5⟩ : LfOk X.P S (.pl pl []) (.fn F bs') (a.eval x) := h2
    have e6 := fns_alive hg e5 q4
    subst e6
    exact ⟨S, [], K, hg, GivenX.refl S _, rfl, rfl, e2, e4⟩
   ·cases h1
 ·cases h
theorem args_step (hE : EnOk X E) {cb hb : List (Nat × Nat)} {nv : Nat} (hn : nv ≤ 1000) : ∀ (ps : List Par) {xs : List (TypeId × Operand)} {hs : List (Nat × Nat)} {S : Sit} {A : Ab} {ls : List (List Lf)} {us : List Up} {bs : List Nat} (i : Nat), Okay X S a → S.g = get A → argsOf E cb hb nv A xs hs ps = some (ls, us, bs) →
  ∃ S1 bp, Okay X S1 a ∧ S1.g = get (ups A us) ∧ GivenX X S S1 (exA nv i) ∧ bp.map Prod.fst = bs ∧ ArgsP X.P S1 cb hb nv i ps ls (xs.map (fun x => a.eval x.2) ++ hs.map (ptrV S)) bp
 | [], xs, hs, S, A, ls, us, bs, i, K, hg, h => by
  cases xs with
  | cons => simp [argsOf] at h
  | nil =>
   cases hs with
   | cons => simp [argsOf] at h
   | nil =>
    simp only [argsOf, Option.some.injEq, Prod.mk.injEq] at h
    obtain ⟨rfl, rfl, rfl⟩ := h
    exact ⟨S, [], K, hg, GivenX.refl S _, rfl, rfl⟩
 | p :: ps, xs, hs, S, A, ls, us, bs, i, K, hg, h => by
  have go : ∀ {x : Operand} {s : Sv} {v : Value} {xs' : List (TypeId × Operand)} {hs' : List (Nat × Nat)} {l : List Lf} {u : List Up} {b : List Nat} {ls1 : List (List Lf)} {us1 : List Up} {bs1 : List Nat}, ((∃ T, opT E T A x = some s ∧ v = a.eval x) ∨ (∃ h : Nat × Nat, s = .one (.bp h.1 h.2 0) ∧ v = ptrV S h)) → argOf A cb hb nv x p s = some (l, u, b) → argsOf E cb hb nv (ups A u) xs' hs' ps = some (ls1, us1, bs1) →
    ∃ S1 bp, Okay X S1 a ∧ S1.g = get (ups A (u ++ us1)) ∧ GivenX X S S1 (exA nv i) ∧ bp.map Prod.fst = b ++ bs1 ∧ ArgsP X.P S1 cb hb nv i (p :: ps) (l :: ls1) (v :: (xs'.map (fun x => a.eval x.2) ++ hs'.map (ptrV S))) bp := by
   intro x s v xs' hs' l u b ls1 us1 bs1 hx h1 h2
   obtain ⟨S1, b1, K1, g1, G1, e1, p1⟩ := arg_step (nv := nv) (i := i) hE K hg hx h1
   obtain ⟨S2, b2, K2, g2, G2, e2, p2⟩ := args_step hE hn ps (i + 1) K1 g1 h2
   have hpv : ptrV S1 = ptrV S := by funext b; unfold ptrV; rw [G1.bb]
   rw [hpv] at p2
   exact ⟨S2, b1 ++ b2, K2, by rw [ups_append]; exact g2, GivenX.trans (fun _ _ h => h) (fun n q ⟨j, h1, h2⟩ => ⟨j, by omega, h2⟩) G1 G2, by rw [List.map_append, e1, e2], b1, b2, rfl, p1.stay hn G2 (by omega), p2⟩
  cases xs with
  | cons x xs =>
   simp only [argsOf] at h
   split at h
   ·rename_i s hs1
    split at h
    ·rename_i l u b hb
     split at h
     ·rename_i ls1 us1 bs1 hrec
      cases h
      exact go (.inl ⟨x.1, hs1, rfl⟩) hb hrec
     ·cases h
    ·cases h
   ·cases h
  | nil =>
   cases hs with
   | nil => simp [argsOf] at h
   | cons h0 hs =>
    simp only [argsOf] at h
    split at h
    ·rename_i l u b hb
     split at h
     ·rename_i ls1 us1 bs1 hrec
      cases h
      exact go (xs' := []) (.inr ⟨h0, rfl, rfl⟩) hb hrec
     ·cases h
    ·cases h
end
end Go.Proofs.YtgocagaijgcnmaaGreat.Vf
end

section
set_option linter.unusedVariables false
set_option linter.unusedSimpArgs false
namespace Go.Proofs.YtgocagaijgcnmaaGreat.Vf
open Go
attribute [local irreducible] C H
def lkF : List (Nat × Nat) → Nat → Option Nat
 | [], _ => none
 | c :: l, x => if c.1 = x then some c.2 else lkF l x
def lkS : List (Nat × Nat) → Nat → Option Nat
 | [], _ => none
 | c :: l, x => if c.2 = x then some c.1 else lkS l x
theorem lkF_mem : ∀ {l : List (Nat × Nat)} {b B : Nat}, lkF l b = some B → (b, B) ∈ l
 | [], _, _, h => by simp [lkF] at h
 | c :: l, b, B, h => by
  simp only [lkF] at h
  split at h
  ·rename_i e
   simp only [Option.some.injEq] at h
   rw [← e, ← h]
   exact List.mem_cons_self
  ·exact List.mem_cons_of_mem _ (lkF_mem h)
theorem lkF_of : ∀ {l : List (Nat × Nat)} {b B : Nat}, (l.map Prod.fst).Nodup → (b, B) ∈ l → lkF l b = some B
 | [], _, _, _, h => by simp at h
 | c :: l, b, B, hn, h => by
  rw [List.map_cons, List.nodup_cons] at hn
  simp only [lkF]
  rcases List.mem_cons.1 h with rfl | h
  ·rw [if_pos rfl]
  ·rw [if_neg (fun e => hn.1 (by rw [e]; exact List.mem_map_of_mem h))]
   exact lkF_of hn.2 h
theorem lkS_of : ∀ {l : List (Nat × Nat)} {b B : Nat}, (l.map Prod.snd).Nodup → (b, B) ∈ l → lkS l B = some b
 | [], _, _, _, h => by simp at h
 | c :: l, b, B, hn, h => by
  rw [List.map_cons, List.nodup_cons] at hn
  simp only [lkS]
  rcases List.mem_cons.1 h with rfl | h
  ·rw [if_pos rfl]
  ·rw [if_neg (fun e => hn.1 (by rw [e]; exact List.mem_map_of_mem h))]
   exact lkS_of hn.2 h
theorem snd_inj : ∀ {l : List (Nat × Nat)} {b b' B : Nat}, (l.map Prod.snd).Nodup → (b, B) ∈ l → (b', B) ∈ l → b = b' := fun hn h h' => by
 have e1 := lkS_of hn h
 rw [lkS_of hn h'] at e1
 simpa using e1.symm
theorem nodupN_ok : ∀ {l : List Nat}, nodupN l = true → l.Nodup
 | [], _ => by simp
 | b :: l, h => by
  simp only [nodupN, Bool.and_eq_true, Bool.not_eq_true', List.any_eq_false] at h
  rw [List.nodup_cons]
  exact ⟨fun hb => h.1 b hb (by rw [Nat.beq_refl]), nodupN_ok h.2⟩
def calO (S : Sit) (L : List (Nat × Nat)) : Nat → Lab := fun k => match S.O k with
 | .fz => .fz
 | .tm n q => if n < 10 then .no else if n % 2 = 0 then .pl ((n - 10) / 2) q else (match q with
  | [j] => .pl (C ((n - 11) / 2) j) []
  | _ => .no)
 | .bx b => (match lkF L b with
  | some B => if k = (S.bb b).1 then .bx B else .no
  | none => .no)
 | _ => .no
def calR (S : Sit) (L : List (Nat × Nat)) : Nat → Nat × Nat := fun B => match lkS L B with
 | some b => ((S.bb b).2, match (S.g (H b)).2 with | .one (.hd n) => n | _ => 0)
 | none => (0, 0)
def isTm : Lab → Bool
 | .tm _ _ => true
 | _ => false
def nmO : Lab → Lab
 | .fz => .fz
 | .tm n q => .tm n q
 | .no => .no
 | _ => .tm 99999 []
def aftO (S : Sit) (O' : Nat → Lab) : Nat → Lab := fun k => if k < S.w.heap.size ∧ isTm (S.O k) = false then S.O k else nmO (O' k)
section
variable {X : Cx} {S S1 S2 : Sit} {a : Act} {E : En} {A : Ab} {o : Oper} {R : Type} {Kc : List Up → Option R} {r : R}
theorem calO_fz {S : Sit} {L : List (Nat × Nat)} {k : Nat} (h : S.O k = .fz) : calO S L k = .fz := by simp [calO, h]
theorem calO_X {S : Sit} {L : List (Nat × Nat)} {k b B : Nat} (h : S.O k = .bx b) (hl : lkF L b = some B) (hk : k = (S.bb b).1) : calO S L k = .bx B := by
 unfold calO; rw [h]; simp [hl, ← hk]
theorem calO_V {S : Sit} {L : List (Nat × Nat)} {k i : Nat} {q : List Nat} (h : S.O k = .tm (nmV i) q) : calO S L k = .pl i q := by
 unfold calO nmV at *
 rw [h]
 simp only
 rw [if_neg (by omega), if_pos (by omega), show (10 + 2 * i - 10) / 2 = i by omega]
theorem calO_B {S : Sit} {L : List (Nat × Nat)} {k B j : Nat} (h : S.O k = .tm (nmB B) [j]) : calO S L k = .pl (C B j) [] := by
 unfold calO nmB at *
 rw [h]
 simp only
 rw [if_neg (by omega), if_neg (by omega), show (11 + 2 * B - 11) / 2 = B by omega]
theorem storable_solid : ∀ {m : List Lf}, storable m = true → ∀ y ∈ m, solid y = true
 | [], _ => by simp
 | x :: m, h => by
  intro y hy
  obtain ⟨h1, h2⟩ := storable_cons h
  rcases List.mem_cons.1 hy with rfl | hy
  ·rcases h2 with ⟨_, rfl⟩ | ⟨_, _, _, rfl⟩ | ⟨_, _, _, rfl⟩ <;> rfl
  ·exact storable_solid h1 y hy
theorem solid_storable : ∀ l : List Lf, (∀ y ∈ l, solid y = true) → storable l = true
 | [], _ => rfl
 | x :: l, h => by
  have h1 := h x (by simp)
  have h2 := solid_storable l (fun y hy => h y (List.mem_cons_of_mem _ hy))
  cases x <;> first | (simp [solid] at h1; done) | simpa [storable] using h2
theorem args_ids {P : Program} {S : Sit} {cb : List (Nat × Nat)} {nv : Nat} (hn : nv ≤ 1000) : ∀ (ps : List Par) {i : Nat} {ls : List (List Lf)} {us : List Value} {bp : List (Nat × Nat)}, ArgsP P S cb cb nv i ps ls us bp →
  (∀ c ∈ bp, ∃ j, i ≤ j ∧ j < i + ps.length ∧ c.2 = bid nv j) ∧ (bp.map Prod.snd).Nodup ∧ (∀ c ∈ bp, ∃ n, (S.g (H c.1)).2 = .one (.hd n)) ∧ us.length = ps.length
 | [], i, [], [], bp, h => by
  have : bp = [] := h
  subst this
  exact ⟨by simp, by simp, by simp, rfl⟩
 | [], i, _ :: _, _, _, h => h.elim
 | [], i, [], _ :: _, _, h => h.elim
 | p :: ps, i, [], _, _, h => h.elim
 | p :: ps, i, _ :: _, [], _, h => h.elim
 | p :: ps, i, l :: ls, u :: us, bp, h => by
  obtain ⟨b1, b2, rfl, h1, h2⟩ := h
  obtain ⟨i1, i2, i3, i4⟩ := args_ids hn ps h2
  have h3 : b1 = [] ∨ ∃ b, b1 = [(b, bid nv i)] ∧ ∃ n, (S.g (H b)).2 = .one (.hd n) := by
   cases p with
   | val ag t => exact .inl h1.1
   | vw t h0 => exact .inl h1.1
   | rd t => exact .inl h1.1
   | fn F m => exact .inl h1.1
   | ptr t t' => obtain ⟨b, e, _, h4, _⟩ := h1; exact .inr ⟨b, e, _, h4⟩
   | hid t t' => obtain ⟨b, e, _, h4, _⟩ := h1; exact .inr ⟨b, e, _, h4⟩
  have i1' : ∀ c ∈ b2, ∃ j, i ≤ j ∧ j < i + (p :: ps).length ∧ c.2 = bid nv j := fun c hc => by
   obtain ⟨j, j1, j2, j3⟩ := i1 c hc
   exact ⟨j, by omega, by simp only [List.length_cons]; omega, j3⟩
  rcases h3 with rfl | ⟨b, rfl, n, hb⟩
  ·exact ⟨i1', i2, i3, by simp [i4]⟩
  ·refine ⟨fun c hc => ?_, ?_, fun c hc => ?_, by simp [i4]⟩
   ·rcases List.mem_cons.1 hc with rfl | hc
    ·exact ⟨i, Nat.le_refl _, by simp only [List.length_cons]; omega, rfl⟩
    ·exact i1' c hc
   ·rw [List.singleton_append, List.map_cons, List.nodup_cons]
    refine ⟨fun hm => ?_, i2⟩
    obtain ⟨c, hc, e⟩ := List.mem_map.1 hm
    obtain ⟨j, j1, j2, j3⟩ := i1 c hc
    rw [j3] at e
    have := bid_inj hn e
    omega
   ·rcases List.mem_cons.1 hc with rfl | hc
    ·exact ⟨n, hb⟩
    ·exact i3 c hc
theorem args_ok (K : Okay X S a) {cb L : List (Nat × Nat)} {nv : Nat} (hn1 : (L.map Prod.fst).Nodup) (hn2 : (L.map Prod.snd).Nodup) : ∀ (ps : List Par) {i : Nat} {ls ls' : List (List Lf)} {us : List Value} {bp : List (Nat × Nat)}, ArgsP X.P S cb cb nv i ps ls us bp → Mk (ps.map Par.ty) ls ls' → (∀ c ∈ bp, c ∈ L) → parsOk nv i ps = true →
  ArgsOk X.P (bare (calO S L) S.w) (calR S L) nv (cb.map (ptrV S)) i ps ls' us
 | [], i, [], [], [], bp, _, _, _, _ => trivial
 | [], i, [], _ :: _, _, bp, _, hm, _, _ => hm.elim
 | [], i, _ :: _, _, _, bp, h, _, _, _ => h.elim
 | [], i, [], [], _ :: _, bp, h, _, _, _ => h.elim
 | p :: ps, i, [], _, _, bp, h, _, _, _ => h.elim
 | p :: ps, i, _ :: _, _, [], bp, h, _, _, _ => h.elim
 | p :: ps, i, l :: ls, [], _ :: _, bp, _, hm, _, _ => hm.elim
 | p :: ps, i, l :: ls, l' :: ls', u :: us, bp, h, hm, hb, hp => by
  obtain ⟨b1, b2, rfl, h1, h2⟩ := h
  obtain ⟨⟨y, hy, rfl⟩, hm2⟩ := hm
  have hp2 : parsOk nv (i + 1) ps = true := by cases p <;> simp only [parsOk, Bool.and_eq_true] at hp <;> exact hp.2
  refine ⟨?_, args_ok K hn1 hn2 ps h2 hm2 (fun b hb' => hb b (List.mem_append_right _ hb')) hp2⟩
  have box : ∀ {t t' : Ty} {y : t.den}, mkW t l = some y → BoxP X.P S (bid nv i) t t' l u b1 → BoxArg X.P (bare (calO S L) S.w) (calR S L) (bid nv i) t (leaves t y) u := by
   rintro t t' y hy ⟨b, e1, e2, e3, e4, e5, e6, e7, e8⟩
   have hL : (b, bid nv i) ∈ L := hb _ (by rw [e1]; simp)
   obtain ⟨g1, c, e, g2, g3, g4, g5⟩ := K.box b _ e3
   refine ⟨(S.bb b).1, (S.bb b).2, c, e, (List.range t.sz).map (fun j => S.ph (C b (0 + j))), e2, g2, ?_, ?_, g4, g1, leaves_len t y, fun j hj => ?_, ?_⟩
   ·exact calO_X g3 (lkF_of hn1 hL) rfl
   ·show calR S L _ = _
    unfold calR
    rw [lkS_of hn2 hL]
    simp only [e3]
   ·rw [g5 j hj]
    simp [hj]
   ·have h3 : LfsOk X.P (bare (calO S L) S.w) (fun j => .pl (C (bid nv i) j) []) 0 l ((List.range t.sz).map fun j => S.ph (C b (0 + j))) :=
     LfsOk.impS (S1 := S) (storable_solid e6) (fun n x u hx h => LfOk.bare (S1 := S) (S2 := bare (calO S L) S.w) (lab := .tm (nmB (bid nv i)) [n]) hx rfl (fun k hk => calO_fz hk) (fun k hk => calO_B hk) h) e8
    exact mkW_lfsG e7 hy h3
  cases p with
  | vw t h0 =>
   obtain ⟨_, e1, e2, e3, c, vs, e4, e5, e6, e7⟩ := h1
   obtain ⟨g1, cc, e, g2, g3, g4, g5⟩ := K.box c.1 _ e5
   refine ⟨e1, vs, (S.bb c.1).1, (S.bb c.1).2, cc, e, e6, ?_, g2, g1, leaves_len t y, ?_⟩
   ·rw [nth_eq] at e4
    rw [List.getElem?_map, e4]
    rfl
   ·have hcell : ∀ j, j < t.sz → cc.getD ((S.bb c.1).2 + j) undef = S.ph (C c.1 j) := fun j hj => by
     have := g5 j hj
     simp [Array.getD_eq_getD_getElem?, this]
    have h2 := mkW_qs (Q := fun j x u => j < t.sz → VwLf X.P S (fun j => S.ph (C c.1 j)) j x u) ?_ ?_ e3 hy (j := 0) (us := vs) (QsOk.imp (Q := VwLf X.P S (fun j => S.ph (C c.1 j))) (Q' := fun j x u => j < t.sz → VwLf X.P S (fun j => S.ph (C c.1 j)) j x u) (fun j x u h _ => h) e7)
    ·have key : ∀ (l : List Lf) (j : Nat) (us : List Value), j + l.length ≤ t.sz → QsOk (fun j x u => j < t.sz → VwLf X.P S (fun j => S.ph (C c.1 j)) j x u) j l us → QsOk (VwLf X.P (bare (calO S L) S.w) (fun j => cc.getD ((S.bb c.1).2 + j) undef)) j l us := by
      intro l
      induction l with
      | nil => intro j us _ h; cases us <;> first | trivial | exact h.elim
      | cons x l ih =>
       intro j us hj h
       simp only [List.length_cons] at hj
       cases us with
       | nil => exact h.elim
       | cons u us =>
        refine ⟨?_, ih (j + 1) us (by omega) h.2⟩
        have h3 := h.1 (by omega)
        cases x <;> first | (show u = cc.getD ((S.bb c.1).2 + j) undef; rw [hcell j (by omega)]; exact h3) | (refine ⟨h3.1, ?_⟩; have h4 := h3.1; simp [isSh] at h4; done) | skip
        ·exact ⟨rfl, LfOk.bare (S1 := S) (S2 := bare (calO S L) S.w) rfl rfl (fun k hk => calO_fz hk) (fun k hk => calO_fz hk) h3.2⟩
        ·exact ⟨rfl, LfOk.bare (S1 := S) (S2 := bare (calO S L) S.w) rfl rfl (fun k hk => calO_fz hk) (fun k hk => calO_fz hk) h3.2⟩
     exact key _ _ _ (by rw [leaves_len]; show 0 + t.sz ≤ t.sz; omega) h2
    ·intro j e r r' xs ys u _ h hj
     exact h hj
    ·intro j e r r' xs ys u hc h hj
     exact ⟨rfl, castL_rep hc (h hj).2⟩
  | val ag t =>
   obtain ⟨_, e2, e3, vs, e4, e5⟩ := h1
   refine ⟨vs, e4, mkW_lfsG e3 hy ?_⟩
   exact LfsOk.impS (S1 := S) (storable_solid e2) (fun n x u hx h => LfOk.bare (S1 := S) (S2 := bare (calO S L) S.w) hx rfl (fun k hk => calO_fz hk) (fun k hk => calO_V hk) h) e5
  | ptr t t' =>
   simp only [parsOk, Bool.and_eq_true] at hp
   exact ⟨Nat.le_of_ble_eq_true hp.1, box hy h1⟩
  | hid t t' =>
   simp only [parsOk, Bool.and_eq_true] at hp
   exact ⟨Nat.le_of_ble_eq_true hp.1, box hy h1⟩
  | rd t =>
   obtain ⟨_, r', x, k, o', cs, rfl, e3, e4, e5, e6, e7, e8⟩ := h1
   have h3 := mkW_rep hy (lvs_rep r' x cs e7)
   exact ⟨y, k, o', cs, mkW_leaves t y, e5, calO_fz e6, Ty.rep_mono (fun k hk => calO_fz hk) (fun _ _ => rfl) t y cs h3, e8⟩
  | fn F m =>
   obtain ⟨_, e2, e3⟩ := h1
   exact ⟨e3, by rw [List.length_map, e2]⟩
theorem cal_bx (K : Okay X S a) {cb L : List (Nat × Nat)} {nv : Nat} (hn : nv ≤ 1000) {ps : List Par} {ls : List (List Lf)} {us : List Value} (h : ArgsP X.P S cb cb nv 0 ps ls us L) :
  ∀ k b, calO S L k = .bx b → BoxNo nv ps.length b ∧ (∃ c e f, S.w.heap[k]? = some (.cells c e f)) ∧ ∀ k', calO S L k' = .bx b → k' = k := by
 obtain ⟨i1, i2, i3, _⟩ := args_ids hn ps h
 have key : ∀ k B, calO S L k = .bx B → ∃ b, (b, B) ∈ L ∧ k = (S.bb b).1 := by
  intro k B hk
  unfold calO at hk
  split at hk
  ·cases hk
  ·split at hk
   ·cases hk
   ·split at hk
    ·cases hk
    ·split at hk <;> cases hk
  ·split at hk
   ·rename_i b heq _ B' hl
    split at hk
    ·rename_i hkb
     cases hk
     exact ⟨b, lkF_mem hl, hkb⟩
    ·cases hk
   ·cases hk
  ·cases hk
 intro k B hk
 obtain ⟨b, hb, hkb⟩ := key k B hk
 obtain ⟨n, hh⟩ := i3 _ hb
 obtain ⟨_, c, e, g2, _⟩ := K.box b n hh
 obtain ⟨j, _, j2, j3⟩ := i1 _ hb
 refine ⟨⟨j, by omega, j3⟩, ⟨c, e, (0, 0), by rw [hkb]; exact g2⟩, fun k' hk' => ?_⟩
 obtain ⟨b', hb', hkb'⟩ := key k' B hk'
 rw [hkb, hkb', snd_inj i2 hb hb']
theorem after_call {S : Sit} {L : List (Nat × Nat)} {rg : Nat → Nat × Nat} {O' : Nat → Lab} {w' : World} (hF : Fr (calO S L) S.w rg O' w') :
  (∀ k, k < S.w.heap.size → isTm (S.O k) = false → aftO S O' k = S.O k ∧ ((∀ c ∈ L, k ≠ (S.bb c.1).1) → w'.heap[k]? = S.w.heap[k]?)) ∧
  (∀ k, O' k = .fz → aftO S O' k = .fz) ∧ (∀ k n q, O' k = .tm n q → aftO S O' k = .tm n q) := by
 have cases3 : ∀ k, k < S.w.heap.size → isTm (S.O k) = false → (O' k = .fz ∧ S.O k = .fz ∧ w'.heap[k]? = S.w.heap[k]?) ∨ (O' k = .no ∧ w'.heap[k]? = S.w.heap[k]?) ∨ (∃ c ∈ L, O' k = .bx c.2 ∧ k = (S.bb c.1).1) := by
  intro k hk ht
  have no : calO S L k = .no → (O' k = .no ∧ w'.heap[k]? = S.w.heap[k]?) := fun h => hF.no k hk h
  cases hO : S.O k with
  | fz =>
   have := hF.fz k hk (calO_fz hO)
   exact .inl ⟨this.1, rfl, this.2⟩
  | no => exact .inr (.inl (no (by simp [calO, hO])))
  | pl l p => exact .inr (.inl (no (by simp [calO, hO])))
  | tm n q => rw [hO] at ht; simp [isTm] at ht
  | bx b =>
   cases hl : lkF L b with
   | none => exact .inr (.inl (no (by simp [calO, hO, hl])))
   | some B =>
    by_cases hb : k = (S.bb b).1
    ·have h2 : calO S L k = .bx B := by
      unfold calO
      rw [hO]
      simp only
      rw [hl]
      exact if_pos hb
     exact .inr (.inr ⟨(b, B), lkF_mem hl, (hF.bx k B hk h2).1, hb⟩)
    ·refine .inr (.inl (no ?_))
     unfold calO
     rw [hO]
     simp only
     rw [hl]
     exact if_neg hb
 refine ⟨fun k hk ht => ⟨by unfold aftO; rw [if_pos ⟨hk, ht⟩], fun hnb => ?_⟩, fun k hk => ?_, fun k n q hk => ?_⟩
 ·rcases cases3 k hk ht with h | h | ⟨c, h1, _, h2⟩
  ·exact h.2.2
  ·exact h.2
  ·exact absurd h2 (hnb c h1)
 ·unfold aftO
  split
  ·rename_i hc
   rcases cases3 k hc.1 hc.2 with h | h | ⟨c, _, h, _⟩
   ·exact h.2.1
   ·rw [hk] at h; cases h.1
   ·rw [hk] at h; cases h
  ·rw [hk]; rfl
 ·unfold aftO
  split
  ·rename_i hc
   rcases cases3 k hc.1 hc.2 with h | h | ⟨c, _, h, _⟩
   ·rw [hk] at h; cases h.1
   ·rw [hk] at h; cases h.1
   ·rw [hk] at h; cases h
  ·rw [hk]; rfl
theorem reset (w w' : World) (hsz : w.heap.size ≤ w'.heap.size) : ∀ ks : List Nat, ∃ w1 : World, w1 = { w' with heap := w1.heap } ∧ w1.heap.size = w'.heap.size ∧ (∀ k ∈ ks, k < w.heap.size → w1.heap[k]? = w.heap[k]?) ∧ ∀ k, k ∉ ks → w1.heap[k]? = w'.heap[k]?
 | [] => ⟨w', rfl, rfl, by simp, fun _ _ => rfl⟩
 | k0 :: ks => by
  obtain ⟨w1, h1, h2, h3, h4⟩ := reset w w' hsz ks
  by_cases hk : k0 < w.heap.size
  ·refine ⟨{ w' with heap := w1.heap.setIfInBounds k0 w.heap[k0] }, rfl, by simp [h2], fun k hm hkl => ?_, fun k hm => ?_⟩
   ·show (w1.heap.setIfInBounds k0 w.heap[k0])[k]? = _
    by_cases e : k = k0
    ·subst e
     rw [Array.getElem?_setIfInBounds_self, if_pos (by omega), Array.getElem?_eq_getElem hk]
    ·rw [Array.getElem?_setIfInBounds_ne (Ne.symm e)]
     exact h3 k ((List.mem_cons.1 hm).resolve_left e) hkl
   ·show (w1.heap.setIfInBounds k0 w.heap[k0])[k]? = _
    rw [Array.getElem?_setIfInBounds_ne (fun e => hm (by rw [e]; exact List.mem_cons_self))]
    exact h4 k (fun h => hm (List.mem_cons_of_mem _ h))
  ·refine ⟨w1, h1, h2, fun k hm hkl => ?_, fun k hm => h4 k (fun h => hm (List.mem_cons_of_mem _ h))⟩
   rcases List.mem_cons.1 hm with rfl | hm
   ·exact absurd hkl hk
   ·exact h3 k hm hkl
structure Bk where
 b : Nat
 n : Nat
 l : List Lf
 us : List Value
def Bk.Ok (P : Program) (S : Sit) (w' : World) (d : Bk) : Prop :=
 ∃ c c' e, (S.g (H d.b)).2 = .one (.hd d.l.length) ∧ S.w.heap[(S.bb d.b).1]? = some (.cells c e (0, 0)) ∧ w'.heap[(S.bb d.b).1]? = some (.cells c' e (0, 0)) ∧ c'.size = c.size ∧
  (∀ i, (i < (S.bb d.b).2 ∨ (S.bb d.b).2 + d.l.length ≤ i) → c'[i]? = c[i]?) ∧ (∀ j, j < d.l.length → c'[(S.bb d.b).2 + j]? = d.us[j]?) ∧ storable d.l = true ∧ LfsOk P S (fun j => .tm d.n [j]) 0 d.l d.us
theorem boxes_ok {w' : World} : ∀ (D : List Bk) {S : Sit} {A : Ab}, Okay X S a → S.g = get A → (∀ d ∈ D, d.Ok X.P S w') → (D.map Bk.b).Nodup → (D.map Bk.n).Nodup → (∀ d ∈ D, 1001 ≤ d.n ∧ d.n < 5000) → (∀ k, (∀ d ∈ D, k ≠ (S.bb d.b).1) → w'.heap[k]? = S.w.heap[k]?) → S.w = { w' with heap := S.w.heap } →
  ∃ S', Okay X S' a ∧ S'.g = get (ups A (D.flatMap fun d => putCells d.b 0 d.l)) ∧ S'.w = w' ∧ (∀ k, S.O k = .fz → S'.O k = .fz) ∧ (∀ n q k, 0 < n → n < 1001 → S.O k = .tm n q → S'.O k = .tm n q) ∧ (∀ n q x u, 0 < n → n < 1001 → solid x = true → LfOk X.P S (.tm n q) x u → LfOk X.P S' (.tm n q) x u)
 | [], S, A, K, hg, _, _, _, _, hh, hw => by
  have e1 : w'.heap = S.w.heap := Array.ext_getElem? fun k => hh k (by simp)
  refine ⟨S, K, hg, ?_, fun _ h => h, fun _ _ _ _ _ h => h, fun _ _ _ _ _ _ _ h => h⟩
  rw [hw, ← e1]
 | d :: D, S, A, K, hg, hD, hb, hn, hr, hh, hw => by
  obtain ⟨c, c', e, d1, d2, d3, d4, d5, d6, d7, d8⟩ := hD d (by simp)
  rw [List.map_cons, List.nodup_cons] at hb hn
  obtain ⟨r1, r2⟩ := hr d (by simp)
  let hh0 : Nat → List Nat → Option Lab := fun n q => if n = d.n then some (.tm 0 q) else if n = 0 then some (.tm 99998 q) else none
  obtain ⟨K1, L1⟩ := K.names hh0 (by
   intro n q
   simp only [hh0]
   split
   ·simp
   ·split <;> simp)
  have keep1 : ∀ n q k, n ≠ d.n → n ≠ 0 → S.O k = .tm n q → atO S.O hh0 k = .tm n q := fun n q k h1 h2 hk => atO_keep hk (by simp [hh0, h1, h2])
  have hl0 : LfsOk X.P { S with O := atO S.O hh0 } (fun j => .tm 0 [j]) 0 d.l d.us := d8.imp (fun j x u hx => hx.later L1 (fun k hk => ⟨atO_tm hk (by simp [hh0]), rfl⟩))
  have hul := d8.len
  obtain ⟨hn9, c0, e0, b1, b2, b3, b4⟩ := K.box d.b d.l.length d1
  rw [d2] at b1
  cases b1
  obtain ⟨K2, L2⟩ := K1.cells (b := d.b) (n := d.l.length) (off := 0) (q := fun j => [j]) d1 (by omega) d2 hl0 (fun j hj => rfl) (storable_nohd d7)
  generalize hwS : ({ S with O := atO S.O hh0 } : Sit).w.setRow (({ S with O := atO S.O hh0 } : Sit).bb d.b).1 (c.toList.take ((({ S with O := atO S.O hh0 } : Sit).bb d.b).2 + 0) ++ d.us ++ c.toList.drop ((({ S with O := atO S.O hh0 } : Sit).bb d.b).2 + 0 + d.us.length)).toArray = w2 at K2 L2
  have hwS' : S.w.setRow (S.bb d.b).1 (c.toList.take ((S.bb d.b).2 + 0) ++ d.us ++ c.toList.drop ((S.bb d.b).2 + 0 + d.us.length)).toArray = w2 := hwS
  have harr : (c.toList.take ((S.bb d.b).2 + 0) ++ d.us ++ c.toList.drop ((S.bb d.b).2 + 0 + d.us.length)).toArray = c' := by
   refine Array.ext_getElem? fun j => ?_
   have hct : c.toList.length = c.size := Array.length_toList
   have ht : (c.toList.take ((S.bb d.b).2 + 0)).length = (S.bb d.b).2 := by rw [List.length_take, hct]; omega
   rw [List.getElem?_toArray]
   have hcj : ∀ i, c.toList[i]? = c[i]? := fun i => Array.getElem?_toList
   by_cases h1 : j < (S.bb d.b).2
   ·rw [List.append_assoc, List.getElem?_append_left (by omega), List.getElem?_take, if_pos (by omega), hcj]
    exact (d5 j (.inl h1)).symm
   ·by_cases h2 : j < (S.bb d.b).2 + d.l.length
    ·rw [List.getElem?_append_left (by rw [List.length_append, ht]; omega), List.getElem?_append_right (by omega), ht]
     have := d6 (j - (S.bb d.b).2) (by omega)
     rw [show (S.bb d.b).2 + (j - (S.bb d.b).2) = j by omega] at this
     exact this.symm
    ·rw [List.getElem?_append_right (by rw [List.length_append, ht]; omega), List.length_append, ht, List.getElem?_drop, hcj, hul]
     rw [show (S.bb d.b).2 + 0 + d.l.length + (j - ((S.bb d.b).2 + d.l.length)) = j by omega]
     exact (d5 j (.inr (by omega))).symm
  have hw2k : w2.heap[(S.bb d.b).1]? = w'.heap[(S.bb d.b).1]? := by
   rw [← hwS', setRow_heap _ _ _ _ _ _ d2, harr, d3]
  have hw2o : ∀ k, k ≠ (S.bb d.b).1 → w2.heap[k]? = S.w.heap[k]? := fun k hk => by rw [← hwS']; exact setRow_other _ _ _ _ hk
  have keep2 : ∀ n q k, n ≠ d.n → n ≠ 0 → S.O k = .tm n q → (cellS { S with O := atO S.O hh0 } (boxH d.b 0) d.b 0 d.l d.us w2).O k = .tm n q := fun n q k h1 h2 hk =>
   atO_keep (h := boxH d.b 0) (keep1 n q k h1 h2 hk) (by simp [boxH, h2])
  have hdist : ∀ d' ∈ D, d'.b ≠ d.b ∧ d'.n ≠ d.n := fun d' hd' => ⟨fun e => hb.1 (by rw [← e]; exact List.mem_map_of_mem hd'), fun e => hn.1 (by rw [← e]; exact List.mem_map_of_mem hd')⟩
  have hblk : ∀ d' ∈ D, (S.bb d'.b).1 ≠ (S.bb d.b).1 := fun d' hd' e1 => by
   obtain ⟨c1, c1', e2, x1, _⟩ := hD d' (List.mem_cons_of_mem _ hd')
   obtain ⟨_, _, _, _, y2, _⟩ := K.box d'.b _ x1
   rw [e1, b2] at y2
   simp only [Option.some.injEq, Lab.bx.injEq] at y2
   exact (hdist d' hd').1 y2.symm
  have hsame : ∀ n q x u, n ≠ d.n → n ≠ 0 → solid x = true → LfOk X.P S (.tm n q) x u → LfOk X.P (cellS { S with O := atO S.O hh0 } (boxH d.b 0) d.b 0 d.l d.us w2) (.tm n q) x u := fun n q x u h1 h2 _ hx =>
   (hx.later L1 (lab' := .tm n q) (fun k hk => ⟨keep1 n q k h1 h2 hk, rfl⟩)).later L2 (fun k hk => by
    have hk' : atO S.O hh0 k = .tm n q := hk
    refine ⟨atO_keep (h := boxH d.b 0) hk' (by simp [boxH, h2]), hw2o k (fun e1 => ?_)⟩
    rw [e1] at hk'
    rw [atO_other b2 (by simp)] at hk'
    cases hk')
  obtain ⟨S3, K3, g3, w3, o3, t3, s3⟩ := boxes_ok D (A := ups A (putCells d.b 0 d.l)) K2 (by
   show gput S.g d.b 0 d.l = _
   rw [get_putCells, ← hg]) (fun d' hd' => by
   obtain ⟨c1, c1', e2, x1, x2, x3, x4, x5, x6, x7, x8⟩ := hD d' (List.mem_cons_of_mem _ hd')
   obtain ⟨z1, z2⟩ := hr d' (List.mem_cons_of_mem _ hd')
   refine ⟨c1, c1', e2, ?_, (hw2o _ (hblk d' hd')).trans x2, x3, x4, x5, x6, x7, ?_⟩
   ·show (gput S.g d.b 0 d.l (H d'.b)).2 = _
    unfold gput
    rw [if_neg (heads_apart (by omega))]
    exact x1
   ·exact LfsOk.impS (storable_solid x7) (fun n x u hx h => hsame _ _ x u (hdist d' hd').2 (by omega) hx h) x8) hb.2 hn.2 (fun d' hd' => hr d' (List.mem_cons_of_mem _ hd')) (fun k hk => by
   by_cases h1 : k = (S.bb d.b).1
   ·rw [h1]; exact hw2k.symm
   ·show w'.heap[k]? = w2.heap[k]?
    rw [hw2o k h1]
    exact hh k (fun d' hd' => by
     rcases List.mem_cons.1 hd' with rfl | hd'
     ·exact h1
     ·exact hk d' hd')) (by
   have h5 : w2 = { S.w with heap := w2.heap } := by rw [← hwS']; rfl
   have h6 : ({ S.w with heap := w2.heap } : World) = { w' with heap := w2.heap } := by rw [hw]
   exact h5.trans h6)
  refine ⟨S3, K3, ?_, w3, fun k hk => o3 k (atO_other (h := boxH d.b 0) (atO_other hk (by simp)) (by simp)), fun n q k h1 h2 hk => t3 n q k h1 h2 (keep2 n q k (by omega) (by omega) hk), fun n q x u h1 h2 hx h => s3 n q x u h1 h2 hx (hsame n q x u (by omega) (by omega) hx h)⟩
  rw [g3, List.flatMap_cons, ups_append]
theorem mk_backs {P : Program} {S Sb : Sit} {cb : List (Nat × Nat)} {nv : Nat} : ∀ (ps : List Par) {i : Nat} {ls lb : List (List Lf)} {us : List Value} {bp : List (Nat × Nat)} {ws : List Up}, ArgsP P S cb cb nv i ps ls us bp → Backs P Sb i ps us lb → (∀ l ∈ lb, ∀ y ∈ l, solid y = true) → backs (bp.map Prod.fst) lb = some ws →
  ∃ D : List Bk, D.map Bk.b = bp.map Prod.fst ∧ ws = D.flatMap (fun d => putCells d.b 0 d.l) ∧ (D.map Bk.n).Nodup ∧
   ∀ d ∈ D, ∃ j B t c e, i ≤ j ∧ j < i + ps.length ∧ d.n = 1001 + j ∧ (d.b, B) ∈ bp ∧ (S.g (H d.b)).2 = .one (.hd t) ∧ d.l.length = t ∧ storable d.l = true ∧ Sb.w.heap[(S.bb d.b).1]? = some (.cells c e (0, 0)) ∧ (∀ j, j < t → c[(S.bb d.b).2 + j]? = d.us[j]?) ∧ LfsOk P Sb (fun j => .tm d.n [j]) 0 d.l d.us
 | [], i, [], lb, [], bp, ws, h, hb, _, hw => by
  have e1 : bp = [] := h
  have e2 : lb = [] := hb
  subst e1 e2
  simp only [List.map_nil, backs, Option.some.injEq] at hw
  subst hw
  exact ⟨[], rfl, rfl, by simp, by simp⟩
 | [], i, _ :: _, _, _, _, _, h, _, _, _ => h.elim
 | [], i, [], _, _ :: _, _, _, h, _, _, _ => h.elim
 | p :: ps, i, [], _, _, _, _, h, _, _, _ => h.elim
 | p :: ps, i, _ :: _, _, [], _, _, h, _, _, _ => h.elim
 | p :: ps, i, l :: ls, lb, u :: us, bp, ws, h, hb, hs, hw => by
  obtain ⟨b1, b2, rfl, h1, h2⟩ := h
  have skip : b1 = [] → Backs P Sb (i + 1) ps us lb → ∃ D : List Bk, D.map Bk.b = (b1 ++ b2).map Prod.fst ∧ ws = D.flatMap (fun d => putCells d.b 0 d.l) ∧ (D.map Bk.n).Nodup ∧
   ∀ d ∈ D, ∃ j B t c e, i ≤ j ∧ j < i + (p :: ps).length ∧ d.n = 1001 + j ∧ (d.b, B) ∈ b1 ++ b2 ∧ (S.g (H d.b)).2 = .one (.hd t) ∧ d.l.length = t ∧ storable d.l = true ∧ Sb.w.heap[(S.bb d.b).1]? = some (.cells c e (0, 0)) ∧ (∀ j, j < t → c[(S.bb d.b).2 + j]? = d.us[j]?) ∧ LfsOk P Sb (fun j => .tm d.n [j]) 0 d.l d.us := by
   intro e1 hb2
   subst e1
   rw [List.nil_append] at hw ⊢
   obtain ⟨D, h3, h4, h5, h6⟩ := mk_backs ps h2 hb2 hs hw
   exact ⟨D, h3, h4, h5, fun d hd => by
    obtain ⟨j, B, t, c, e, j1, j2, rest⟩ := h6 d hd
    exact ⟨j, B, t, c, e, by omega, by simp only [List.length_cons]; omega, rest⟩⟩
  have box : ∀ {t t' : Ty} {lb' : List (List Lf)} {l' : List Lf}, lb = l' :: lb' → BoxP P S (bid nv i) t t' l u b1 → BackOk P Sb i t' l' u → Backs P Sb (i + 1) ps us lb' → ∃ D : List Bk, D.map Bk.b = (b1 ++ b2).map Prod.fst ∧ ws = D.flatMap (fun d => putCells d.b 0 d.l) ∧ (D.map Bk.n).Nodup ∧
   ∀ d ∈ D, ∃ j B t c e, i ≤ j ∧ j < i + (p :: ps).length ∧ d.n = 1001 + j ∧ (d.b, B) ∈ b1 ++ b2 ∧ (S.g (H d.b)).2 = .one (.hd t) ∧ d.l.length = t ∧ storable d.l = true ∧ Sb.w.heap[(S.bb d.b).1]? = some (.cells c e (0, 0)) ∧ (∀ j, j < t → c[(S.bb d.b).2 + j]? = d.us[j]?) ∧ LfsOk P Sb (fun j => .tm d.n [j]) 0 d.l d.us := by
   rintro t t' lb' l' rfl ⟨b, e1, e2, e3, e4, _⟩ ⟨k, o', c, e, vs, f1, f2, f3, f4, f5⟩ hb2
   subst e1
   rw [e2] at f1
   cases f1
   simp only [List.singleton_append, List.map_cons, backs] at hw
   split at hw
   ·rename_i ws' hws'
    simp only [Option.some.injEq] at hw
    subst hw
    obtain ⟨D, h3, h4, h5, h6⟩ := mk_backs ps h2 hb2 (fun l hl => hs l (List.mem_cons_of_mem _ hl)) hws'
    refine ⟨⟨b, 1001 + i, l', vs⟩ :: D, by simp [h3], by rw [List.flatMap_cons, h4], ?_, fun d hd => ?_⟩
    ·rw [List.map_cons, List.nodup_cons]
     refine ⟨fun hm => ?_, h5⟩
     obtain ⟨d, hd, e5⟩ := List.mem_map.1 hm
     obtain ⟨j, _, _, _, _, j1, _, j3, _⟩ := h6 d hd
     have e6 : d.n = 1001 + i := e5
     omega
    ·rcases List.mem_cons.1 hd with rfl | hd
     ·exact ⟨i, bid nv i, t.sz, c, e, Nat.le_refl _, by simp only [List.length_cons]; omega, rfl, by simp, e3, by rw [f3, e4], solid_storable _ (hs l' (by simp)), f2, fun j hj => f4 j (by omega), f5⟩
     ·obtain ⟨j, B, t, c, e, j1, j2, j3, j4, rest⟩ := h6 d hd
      exact ⟨j, B, t, c, e, by omega, by simp only [List.length_cons]; omega, j3, List.mem_cons_of_mem _ j4, rest⟩
   ·cases hw
  cases p with
  | val ag t => exact skip h1.1 hb
  | vw t h0 => exact skip h1.1 hb
  | rd t => exact skip h1.1 hb
  | fn F m => exact skip h1.1 hb
  | ptr t t' =>
   cases lb with
   | nil => exact hb.elim
   | cons l' lb' => exact box rfl h1 hb.1 hb.2
  | hid t t' =>
   cases lb with
   | nil => exact hb.elim
   | cons l' lb' => exact box rfl h1 hb.1 hb.2
theorem st_give (hE : EnOk X E) (K : Okay X S a) (hg : S.g = get A) {xs : List (TypeId × Operand)} {cs cb : List (Nat × Nat)} {f : FuncId} {en : Ent} (hrun : (execOp a.eval o).run X.P S.w = .ok (.enter f (xs.map (fun x => a.eval x.2) ++ cs.map (ptrV S)).toArray) S.w) (hd : ∀ d, o.dst = some d → d < X.nt)
  (hco : CallOk X.P f en) (hnv : en.nv = xs.length + cs.length) (hp : okPtr E en.rs o.dst = true) (hn : en.nv ≤ 1000) (hps : parsOk en.nv 0 en.ps = true) (hlen : en.ps.length ≤ 2000) (hrl : en.rs.length ≤ 400)
  (h : (match argsOf E cb cb en.nv A xs (cs ++ cb) en.ps with
  | none => none
  | some (ls, us, bs) => bif nodupN bs then (match mkDen _ ls with
   | none => none
   | some x => (en.run x).bind fun r =>
    match backs bs ((leavesD _ r).drop en.rs.length) with
    | none => none
    | some ws => match resUp (ups (ups A us) ws) en.rs (shL E o.dst (leavesD _ r)) o.dst with
     | none => none
     | some rs => Kc (us ++ (ws ++ rs))) else none) = some r) : After X o a S.w A Kc r := by
 have hnp : ∀ d', o.dst = some d' → anyPtr en.rs = true → X.np ≤ d' := fun d' h1 h2 => by
  have := hp
  unfold okPtr at this
  rw [h1, h2] at this
  exact hE.np ▸ (Nat.le_of_ble_eq_true (by simpa using this))
 split at h
 ·cases h
 ·rename_i ls us bs hargs
  cases hnd : nodupN bs with
  | false => rw [hnd] at h; simp at h
  | true =>
   rw [hnd, cond_true] at h
   split at h
   ·cases h
   ·rename_i x hx
    cases hrun' : en.run x with
    | none => rw [hrun'] at h; simp at h
    | some y =>
     rw [hrun'] at h
     simp only [Option.bind_some] at h
     split at h
     ·cases h
     ·rename_i ws hws
      split at h
      ·cases h
      ·rename_i rs hrs
       obtain ⟨S1, L, K1, g1, G1, hLb, p1⟩ := args_step (X := X) (a := a) hE hn en.ps 0 K hg hargs
       have hpv : ptrV S1 = ptrV S := by funext b; unfold ptrV; rw [G1.bb]
       obtain ⟨i1, i2, i3, i4⟩ := args_ids hn en.ps p1
       have hn1 : (L.map Prod.fst).Nodup := by rw [hLb]; exact nodupN_ok hnd
       have hok := args_ok K1 hn1 i2 en.ps p1 (mkDen_mk _ _ _ hx) (fun _ h => h) hps
       have hdrop : (xs.map (fun x => a.eval x.2) ++ (cs ++ cb).map (ptrV S)).drop en.nv = cb.map (ptrV S1) := by
        rw [hpv, hnv, List.map_append, ← List.append_assoc, List.drop_left' (by simp)]
       have htake : (xs.map (fun x => a.eval x.2) ++ (cs ++ cb).map (ptrV S)).take en.nv = xs.map (fun x => a.eval x.2) ++ cs.map (ptrV S) := by
        rw [hnv, List.map_append, ← List.append_assoc, List.take_left' (by simp)]
       have hs := hco.sound x y hrun' S1.w (calO S1 L) (calR S1 L) _ (fun k hk => K1.lt k (fun e => hk (by simp [calO, e]))) (cal_bx K1 hn p1) (by rw [hdrop]; exact hok)
       rw [htake] at hs
       refine ⟨_, h, goes_enter hrun (calls_mono (by rw [← G1.w]; exact hs) ?_)⟩
       rintro e w' ⟨v, O', rfl, hF, hlt, hres, hback⟩
       refine ⟨v, rfl, ?_⟩
       obtain ⟨a1, a2, a3⟩ := after_call hF
       have hlt2 : ∀ k, aftO S1 O' k ≠ .no → k < w'.heap.size := fun k hk => by
        by_cases hkl : k < S1.w.heap.size
        ·exact Nat.lt_of_lt_of_le hkl hF.size
        ·refine hlt k (fun e => hk ?_)
         unfold aftO
         rw [if_neg (fun h => hkl h.1), e]
         rfl
       have hnt : ∀ k, (∀ n q, S1.O k ≠ .tm n q) → isTm (S1.O k) = false := fun k hk => by
        cases hO : S1.O k <;> first | rfl | exact absurd hO (hk _ _)
       have hsol := leavesD_solid (en.rs.map Prod.snd ++ ptrOuts en.ps) y
       rw [← hLb] at hws
       obtain ⟨D, D1, D2, D3, D4⟩ := mk_backs en.ps p1 hback (fun l hl => hsol l (List.mem_of_mem_drop hl)) hws
       obtain ⟨w1, r1, r2, r3, r4⟩ := reset S1.w w' hF.size (L.map fun c => (S1.bb c.1).1)
       have hblk : ∀ k, k < S1.w.heap.size → isTm (S1.O k) = false → w1.heap[k]? = S1.w.heap[k]? := fun k hk ht => by
        by_cases hm : k ∈ L.map fun c => (S1.bb c.1).1
        ·exact r3 k hm hk
        ·rw [r4 k hm]
         exact (a1 k hk ht).2 (fun c hc e => hm (by rw [e]; exact List.mem_map_of_mem (f := fun c : Nat × Nat => (S1.bb c.1).1) hc))
       have ros : w1.os = w'.os := by rw [r1]
       have rtape : w1.tape = w'.tape := by rw [r1]
       have rout : w1.output = w'.output := by rw [r1]
       obtain ⟨K2, L2⟩ := K1.world (w' := w1) (O' := aftO S1 O') (fun k hk ht => ⟨(a1 k hk (hnt k ht)).1, hblk k hk (hnt k ht)⟩) (ros.trans hF.os) (rtape.trans hF.tape) (rout.trans hF.out) (by rw [r2]; exact hF.size) (fun k hk => by rw [r2]; exact hlt2 k hk)
       have hbr : ∀ {n : Nat} {q : List Nat} {x : Lf} {u : Value}, solid x = true → LfOk X.P (bare O' w') (.tm n q) x u → LfOk X.P (groS S1 w1 (aftO S1 O')) (.tm n q) x u := by
        intro n q x u hx hu
        have hno : ∀ k, (O' k = .fz ∨ O' k = .tm n q) → w1.heap[k]? = w'.heap[k]? := fun k hk => by
         by_cases hm : k ∈ L.map fun c => (S1.bb c.1).1
         ·exfalso
          obtain ⟨c, hc, rfl⟩ := List.mem_map.1 hm
          obtain ⟨m, hm1⟩ := i3 c hc
          obtain ⟨_, cc, ee, g2, g3, _⟩ := K1.box c.1 m hm1
          have hcal : calO S1 L (S1.bb c.1).1 = .bx c.2 := calO_X g3 (lkF_of hn1 (show (c.1, c.2) ∈ L from hc)) rfl
          have := (hF.bx _ _ (K1.lt _ (by rw [g3]; simp)) hcal).1
          rcases hk with hk | hk <;> rw [this] at hk <;> cases hk
         ·exact r4 k hm
        cases x with
        | sc v => exact hu
        | fz e r xs => exact Ty.rep_mono (t := .sl e r) (fun k hk => a2 k hk) (fun k hk => hno k (.inl hk)) _ _ hu
        | own e r xs => exact OwnOk.later (O' := aftO S1 O') (w' := w1) hu (fun k hk => ⟨a2 k hk, hno k (.inl hk)⟩) (fun k hk => ⟨a3 k n q hk, hno k (.inr hk)⟩)
        | _ => simp [solid] at hx
       have hDok : ∀ d ∈ D, d.Ok X.P (groS S1 w1 (aftO S1 O')) w' := fun d hd' => by
        obtain ⟨j, B, t, c', e', j1, j2, j3, j4, j5, j6, j7, j8, j9, j10⟩ := D4 d hd'
        obtain ⟨g0, c0, e0, g2, g3, g4, g5⟩ := K1.box d.b _ j5
        have hcal : calO S1 L (S1.bb d.b).1 = .bx B := calO_X g3 (lkF_of hn1 j4) rfl
        have hkl := K1.lt _ (show S1.O (S1.bb d.b).1 ≠ .no by rw [g3]; simp)
        obtain ⟨_, c1, c2, e7, ff, x2, x3, x4, x5⟩ := hF.bx _ _ hkl hcal
        rw [g2] at x2
        cases x2
        have j8' : w'.heap[(S1.bb d.b).1]? = some (.cells c' e') := j8
        rw [x3] at j8'
        cases j8'
        have hrg : calR S1 L B = ((S1.bb d.b).2, t) := by
         unfold calR
         rw [lkS_of i2 j4]
         simp only [j5]
        rw [hrg] at x5
        refine ⟨c0, _, _, by rw [j6]; exact j5, ?_, x3, x4, fun i hi => x5 i (by rw [j6] at hi; exact hi), fun j hj => j9 j (by omega), j7, ?_⟩
        ·show w1.heap[(S1.bb d.b).1]? = _
         rw [hblk _ hkl (by rw [g3]; rfl)]
         exact g2
        ·exact LfsOk.impS (storable_solid j7) (fun n x u hx hu => hbr hx hu) j10
       obtain ⟨S2, K3, g3, w3, o3, t3, s3⟩ := boxes_ok (w' := w') D (A := ups A us) K2 g1 hDok (by rw [D1]; exact hn1) D3 (fun d hd' => by
        obtain ⟨j, _, _, _, _, _, j2, j3, _⟩ := D4 d hd'
        exact ⟨by omega, by omega⟩) (fun k hk => (r4 k (fun hm => by
        obtain ⟨c, hc, hce⟩ := List.mem_map.1 hm
        have : c.1 ∈ D.map Bk.b := by rw [D1]; exact List.mem_map_of_mem hc
        obtain ⟨d, hd', hde⟩ := List.mem_map.1 this
        refine hk d hd' ?_
        rw [← hce, ← hde]
        rfl)).symm) r1
       have hnames : ∀ (n : Nat) (q : List Nat) (x : Lf) (u : Value), 0 < n → n < 1001 → solid x = true → LfOk X.P (bare O' w') (.tm n q) x u → LfOk X.P S2 (.tm n q) x u := fun n q x u h1 h2 hx hu => s3 n q x u h1 h2 hx (hbr hx hu)
       have hlb : ∀ n q k, 0 < n → n < 1001 → O' k = .tm n q → S2.O k = .tm n q := fun n q k h1 h2 hk => t3 n q k h1 h2 (a3 k n q hk)
       have hres1 : Results X.P S2 S1.w.heap.size en.rs (leavesD _ y) v := by
        have one : ∀ {i : Nat} {k : RK} {l : List Lf} {u : Value}, 0 < i → i < 500 → (∀ z ∈ l, solid z = true) → ResOk X.P (bare O' w') S1.w.heap.size i k l u → ResOk X.P S2 S1.w.heap.size i k l u := by
         intro i k l u h1 h2 hz h
         cases k with
         | one => exact LfsOk.impM (fun x hx n u h => hnames _ _ x u h1 (by omega) (hz x hx) h) h
         | agg =>
          obtain ⟨us, e, h⟩ := h
          exact ⟨us, e, h.impM (fun x hx n u h => hnames _ _ x u h1 (by omega) (hz x hx) h)⟩
         | ptr =>
          obtain ⟨k, o', c, e, us, e1, e2, e3, e4, e5, e6, e7, h⟩ := h
          exact ⟨k, o', c, e, us, e1, by rw [w3]; exact e2, e3, hlb _ _ _ (by omega) (by omega) e4, e5, e6, e7, h.impM (fun x hx n u h => hnames _ _ x u h1 (by omega) (hz x hx) h)⟩
        have all : ∀ (rs : List (RK × Ty)) {i : Nat} {ls : List (List Lf)} {us : List Value}, 0 < i → i + rs.length < 500 → (∀ l ∈ ls, ∀ z ∈ l, solid z = true) → ResAll X.P (bare O' w') S1.w.heap.size i rs ls us → ResAll X.P S2 S1.w.heap.size i rs ls us := by
         intro rs
         induction rs with
         | nil => intro i ls us _ _ _ h; exact h
         | cons r rs ih =>
          intro i ls us h1 h2 hz h
          cases ls with
          | nil => exact h.elim
          | cons l ls =>
           cases us with
           | nil => exact h.elim
           | cons u us =>
            simp only [List.length_cons] at h2
            exact ⟨one h1 (by omega) (hz l (by simp)) h.1, ih (by omega) (by omega) (fun l hl => hz l (List.mem_cons_of_mem _ hl)) h.2⟩
        unfold Results at hres ⊢
        split at hres
        ·obtain ⟨l, ls', e1, h5⟩ := hres
         exact ⟨l, ls', e1, one (by omega) (by omega) (hsol l (by rw [e1]; simp)) h5⟩
        ·obtain ⟨us', e1, h5⟩ := hres
         exact ⟨us', e1, all en.rs (by omega) (by omega) hsol h5⟩
       obtain ⟨S3, K4, w4, g4⟩ := put_resS (E := E) K3 g3 (fun _ => hrl) hd K1.fr.size (leavesD_solid _ y) hnp hres1 (by rw [← D2]; exact hrs)
       refine ⟨S3, w4.trans w3, K4, ?_⟩
       rw [g4, ← D2, ups_append, ups_append]
theorem zip_snd {α β : Type} : ∀ {l : List α} {m : List β}, m.length ≤ l.length → (l.zip m).map Prod.snd = m
 | _, [], _ => by simp
 | [], _ :: _, h => by simp at h
 | _ :: l, _ :: m, h => by simp [zip_snd (l := l) (m := m) (by simpa using h)]
theorem opsT_len : ∀ {Ts : List TypeId} {xs : List Operand} {ss : List Sv}, opsT E Ts A xs = some ss → xs.length ≤ Ts.length
 | _, [], _, _ => Nat.zero_le _
 | [], _ :: _, _, h => by simp [opsT] at h
 | T :: Ts, x :: xs, ss, h => by
  simp only [opsT] at h
  split at h
  ·split at h
   ·rename_i hr
    simp only [List.length_cons]
    have := opsT_len hr
    omega
   ·cases h
  ·cases h
theorem st_callF (hE : EnOk X E) (K : Okay X S a) (hg : S.g = get A) {Ts : List TypeId} {xs : List Operand} {cs : List (Nat × Nat)} {f : FuncId} {en : Ent} {ss : List Sv} (hrun : (execOp a.eval o).run X.P S.w = .ok (.enter f (xs.map a.eval ++ cs.map (ptrV S)).toArray) S.w) (hd : ∀ d, o.dst = some d → d < X.nt)
  (hco : CallOk X.P f en) (hss : opsT E Ts A xs = some ss) (h : callF E A en (Ts.zip xs) cs ss o.dst Kc = some r) : After X o a S.w A Kc r := by
 unfold callF at h
 have hz := zip_snd (opsT_len hss)
 have hzl : (Ts.zip xs).length = xs.length := by
  rw [List.length_zip]
  have := opsT_len hss
  omega
 cases hnv : Nat.beq en.nv ((Ts.zip xs).length + cs.length) with
 | false => rw [hnv] at h; simp at h
 | true =>
  rw [hnv, cond_true] at h
  have hnv' : en.nv = xs.length + cs.length := by rw [← hzl]; exact Nat.eq_of_beq_eq_true hnv
  cases hl : (lends en.ps && news en.rs && cs.isEmpty) with
  | true =>
   rw [hl, cond_true] at h
   simp only [Bool.and_eq_true, List.isEmpty_iff] at hl
   obtain ⟨⟨l1, l2⟩, l3⟩ := hl
   subst l3
   simp only [List.map_nil, List.append_nil] at hrun
   exact st_lend hE K hg hrun hd hco (by simpa using hnv') (opsT_ok hE K hg hss) l1 l2 h
  | false =>
   rw [hl, cond_false] at h
   cases hp : (okPtr E en.rs o.dst && (Nat.ble en.nv 1000 && parsOk en.nv 0 en.ps && Nat.ble en.rs.length 400 && Nat.ble en.ps.length 2000)) with
   | false => rw [hp] at h; simp at h
   | true =>
    rw [hp, cond_true] at h
    simp only [Bool.and_eq_true] at hp
    obtain ⟨p1, ⟨⟨p2, p3⟩, p4⟩, p5⟩ := hp
    refine st_give (xs := Ts.zip xs) (cs := cs) (cb := capB ss ++ vwBs A en.ps ss) hE K hg ?_ hd hco (by rw [hzl]; exact hnv') p1 (Nat.le_of_ble_eq_true p2) p3 (Nat.le_of_ble_eq_true p5) (Nat.le_of_ble_eq_true p4) h
    have e1 : (Ts.zip xs).map (fun x => a.eval x.2) = xs.map a.eval := by
     rw [← hz, List.map_map]
     rw [hz]
     rfl
    rw [e1]
    exact hrun
theorem st_call (hE : EnOk X E) (hcall : ∀ f en, E.call f = some en → CallOk X.P f en) (K : Okay X S a) (hg : S.g = get A) {c : Call} {f : FuncId} (ho : o.op = .call c) (hc : c.callee = .value (.func f)) (hd : ∀ d, o.dst = some d → d < X.nt)
  (h : step E o A Kc = some r) : After X o a S.w A Kc r := by
 unfold step at h
 rw [ho] at h
 simp only [hc] at h
 split at h
 ·rename_i en ss he hss
  have hco := hcall f en he
  exact st_callF hE K hg (by simpa using run_enter (w := S.w) ho hc hco) hd hco hss h
 ·cases h
theorem st_callV (hE : EnOk X E) (hcall : ∀ f en, E.call f = some en → CallOk X.P f en) (K : Okay X S a) (hg : S.g = get A) {c : Call} {t : Nat} (ho : o.op = .call c) (hc : c.callee = .value (.tmp t)) (hd : ∀ d, o.dst = some d → d < X.nt)
  (h : step E o A Kc = some r) : After X o a S.w A Kc r := by
 unfold step at h
 rw [ho] at h
 simp only [hc] at h
 split at h
 ·rename_i f bs hs
  split at h
  ·rename_i en ss he hss
   cases hal : aliveB A bs with
   | false => rw [hal] at h; simp at h
   | true =>
    rw [hal, cond_true] at h
    have hco := hcall f en he
    obtain ⟨pl, h2⟩ := opT_ex hE K hg hs
    obtain ⟨us, e1, e2⟩ : LfOk X.P S (.pl pl []) (.fn f bs) (a.eval (.tmp t)) := h2
    have e3 := fns_alive hg e2 hal
    subst e3
    exact st_callF hE K hg (run_enterV (w := S.w) ho hc e1 hco) hd hco hss h
  ·cases h
 ·cases h
theorem capOf_ok (hE : EnOk X E) (K : Okay X S a) (hg : S.g = get A) : ∀ {xs : List Operand} {bs : List (Nat × Nat)}, capOf E A xs = some bs → FnsOk S bs (xs.map a.eval)
 | [], bs, h => by
  simp only [capOf, Option.some.injEq] at h
  subst h
  rfl
 | x :: l, bs, h => by
  simp only [capOf] at h
  split at h
  ·rename_i b v hx
   split at h
   ·rename_i bs' hr
    simp only [Option.some.injEq] at h
    subst h
    obtain ⟨pl, h2⟩ := opT_ex hE K hg hx
    exact ⟨_, _, rfl, h2, capOf_ok hE K hg hr⟩
   ·cases h
  ·cases h
theorem st_makeFunc (hE : EnOk X E) (K : Okay X S a) (hg : S.g = get A) {f : FuncId} {x y : Array Operand} {d : Nat} (ho : o.op = .makeFunc (.func f) x y) (hod : o.dst = some d) (hd : d < X.nt) (h : step E o A Kc = some r) : After X o a S.w A Kc r := by
 unfold step at h
 rw [ho, hod] at h
 simp only at h
 split at h
 ·rename_i bs hx hy
  have ex : x = #[] := by
   apply Array.ext'
   simpa using hx
  subst ex
  have hsv : SvOk X.P S 0 (.one (.fn f bs)) (.func (.func f) #[] (y.toList.map a.eval).toArray) := ⟨_, rfl, capOf_ok hE K hg hy⟩
  have K2 := K.put0 hd _ _ 0 rfl hsv
  refine ⟨_, h, goes_value (S := putS S (fun _ _ => none) d _ _) (v := .func (.func f) #[] (y.toList.map a.eval).toArray) ?_ (by rw [hod]; exact K2) ?_⟩
  ·show _ = Result.ok _ S.w
   have e1 : y.map a.eval = (y.toList.map a.eval).toArray := by
    apply Array.ext'
    simp
   unfold execOp
   simp [ho, Instr.makeFunc, e1]
  ·show upd S.g d _ = _
   rw [get_ups1, ← hg]
 ·cases h
end
end Go.Proofs.YtgocagaijgcnmaaGreat.Vf
end

section
set_option linter.unusedVariables false
set_option linter.unusedSimpArgs false
namespace Go.Proofs.YtgocagaijgcnmaaGreat.Vf
open Go
attribute [local irreducible] C H
structure EnvOk (X : Cx) (E : En) : Prop where
 en : EnOk X E
 call : ∀ f en, E.call f = some en → CallOk X.P f en
section
variable {X : Cx} {S S1 S2 : Sit} {a : Act} {E : En} {A : Ab} {o : Oper} {R : Type} {Kc : List Up → Option R} {r : R}
theorem step_ok (hV : EnvOk X E) (K : Okay X S a) (hg : S.g = get A) (hd : ∀ d, o.dst = some d → d < X.nt) (h : step E o A Kc = some r) : After X o a S.w A Kc r := by
 have hE := hV.en
 cases ho : o.op with
 | call c =>
  cases hc : c.callee with
  | builtin b =>
   cases b with
   | len => exact st_len hE K hg ho hc hd h
   | min => exact st_minMax hE K hg false ho hc hd h
   | max => exact st_minMax hE K hg true ho hc hd h
   | append => exact st_append hE K hg ho hc hd h
   | _ => unfold step at h; rw [ho] at h; simp only [hc] at h; cases h
  | value f =>
   cases f with
   | func f => exact st_call hE hV.call K hg ho hc hd h
   | tmp t => exact st_callV hE hV.call K hg ho hc hd h
   | _ => unfold step at h; rw [ho] at h; simp only [hc] at h; cases h
  | invoke x m => unfold step at h; rw [ho] at h; simp only [hc] at h; cases h
 | makeFunc fn x y => cases fn with
  | func f => cases hod : o.dst with
   | none => unfold step at h; rw [ho, hod] at h; cases h
   | some d => exact st_makeFunc hE K hg ho hod (hd d hod) h
  | _ => unfold step at h; rw [ho] at h; cases hod : o.dst <;> (rw [hod] at h; cases h)
 | store T x y =>
  cases hod : o.dst with
  | none => exact st_store hE K hg ho hod h
  | some d => unfold step at h; rw [ho, hod] at h; cases h
 | move x => cases hod : o.dst with
  | none => unfold step at h; rw [ho, hod] at h; cases h
  | some d => exact st_move hE K hg ho hod (hd d hod) h
 | assign x => cases hod : o.dst with
  | none => unfold step at h; rw [ho, hod] at h; cases h
  | some d => exact st_assign hE K hg ho hod (hd d hod) h
 | pick c x y => cases hod : o.dst with
  | none => unfold step at h; rw [ho, hod] at h; cases h
  | some d => exact st_pick hE K hg ho hod (hd d hod) h
 | binOp op T x y T' => cases hod : o.dst with
  | none => unfold step at h; rw [ho, hod] at h; cases h
  | some d => exact st_binOp hE K hg ho hod (hd d hod) h
 | unOp op T x => cases hod : o.dst with
  | none => unfold step at h; rw [ho, hod] at h; cases h
  | some d => exact st_unOp hE K hg ho hod (hd d hod) h
 | convert T T' x => cases hod : o.dst with
  | none => unfold step at h; rw [ho, hod] at h; cases h
  | some d => exact st_convert hE K hg ho hod (hd d hod) h
 | nilCheck x => cases hod : o.dst with
  | none => unfold step at h; rw [ho, hod] at h; cases h
  | some d => exact st_nilCheck hE K hg ho hod (hd d hod) h
 | extract x j => cases hod : o.dst with
  | none => unfold step at h; rw [ho, hod] at h; cases x <;> cases h
  | some d => cases x with
   | tmp t => exact st_extract hE K hg ho hod (hd d hod) h
   | _ => unfold step at h; rw [ho, hod] at h; cases h
 | field T x j => cases hod : o.dst with
  | none => unfold step at h; rw [ho, hod] at h; cases x <;> cases h
  | some d => cases x with
   | tmp t => exact st_field hE K hg ho hod (hd d hod) h
   | _ => unfold step at h; rw [ho, hod] at h; cases h
 | build T ps => cases hod : o.dst with
  | none => unfold step at h; rw [ho, hod] at h; cases h
  | some d => exact st_build hE K hg ho hod (hd d hod) h
 | alloc T => cases hod : o.dst with
  | none => unfold step at h; rw [ho, hod] at h; cases h
  | some d => exact st_alloc hE K hg ho hod (hd d hod) h
 | box T x => cases hod : o.dst with
  | none => unfold step at h; rw [ho, hod] at h; cases h
  | some d => exact st_box hE K hg ho hod (hd d hod) h
 | load T x => cases hod : o.dst with
  | none => unfold step at h; rw [ho, hod] at h; cases h
  | some d => exact st_load hE K hg ho hod (hd d hod) h
 | fieldAddr T x j => cases hod : o.dst with
  | none => unfold step at h; rw [ho, hod] at h; cases h
  | some d => exact st_fieldAddr hE K hg ho hod (hd d hod) h
 | indexAddr T x i => cases hod : o.dst with
  | none => unfold step at h; rw [ho, hod] at h; cases h
  | some d =>
   cases hop : E.opn d with
   | true => exact st_indexOpen hE K hg ho hod (hd d hod) hop h
   | false => exact st_indexAddr hE K hg ho hod (hd d hod) hop h
 | index T x i => cases hod : o.dst with
  | none => unfold step at h; rw [ho, hod] at h; cases h
  | some d => exact st_index hE K hg ho hod (hd d hod) h
 | slice T x lo hi mx => cases hod : o.dst with
  | none => unfold step at h; rw [ho, hod] at h; cases mx <;> cases h
  | some d => cases mx with
   | none => exact st_slice hE K hg ho hod (hd d hod) h
   | some m => unfold step at h; rw [ho, hod] at h; cases h
 | buildSlice T n ps => cases hod : o.dst with
  | none => unfold step at h; rw [ho, hod] at h; cases h
  | some d => exact st_buildSlice hE K hg ho hod (hd d hod) h
 | makeSlice T x y => cases hod : o.dst with
  | none => unfold step at h; rw [ho, hod] at h; cases h
  | some d => exact st_makeSlice hE K hg ho hod (hd d hod) h
 | _ => unfold step at h; rw [ho] at h; cases hod : o.dst <;> (rw [hod] at h; cases h)
theorem put_un (hE : EnOk X E) (K : Okay X S a) (hg : S.g = get A) (hd : dstIn E o = true) : ∃ S', Okay X S' (a.put o.dst undef) ∧ S'.g = get (skipO o A) ∧ S'.w = S.w := by
 unfold skipO
 unfold dstIn at hd
 cases hod : o.dst with
 | none => exact ⟨S, K, hg, rfl⟩
 | some d =>
  rw [hod] at hd
  have hdl : d < X.nt := hE.nt ▸ (Nat.le_of_ble_eq_true hd : d + 1 ≤ E.nt)
  refine ⟨_, K.put0 hdl (.one .un) undef 0 rfl rfl, ?_, rfl⟩
  show upd S.g d _ = _
  rw [get_up, ← hg]
  rfl
def Done (X : Cx) (Q : Exit → Act → World → Prop) (K : Ab → Option R) (r : R) : Prop := ∀ S a A, Okay X S a → S.g = get A → K A = some r → Q .normal a S.w
theorem get_lit {A : Ab} {d n : Nat} {v : Bool} (h : get A d = (n, .one (.sc (.bool v)))) : get (lit A d n v) = get A := by
 funext k
 unfold lit
 simp only [get]
 by_cases hk : k = d
 ·subst hk; simp [h]
 ·have : Nat.beq d k = false := by
   cases hb : Nat.beq d k with
   | false => rfl
   | true => exact absurd (Nat.eq_of_beq_eq_true hb).symm hk
  simp [this]
theorem evOps_ok (hV : EnvOk X E) {ops : Array Oper} {Q : Exit → Act → World → Prop} : ∀ (l : List Nat) {S : Sit} {a : Act} {A : Ab} {K : Ab → Option R} {r : R}, Okay X S a → S.g = get A → evOps E ops.toList l A K = some r → Done X Q K r → wpOps X.P ops Q l a S.w
 | [], S, a, A, K, r, hK, hg, h, hQ => hQ S a A hK hg h
 | i :: l, S, a, A, K, r, hK, hg, h, hQ => by
  rw [wpOps_cons]
  unfold evOps at h
  rw [nth_eq] at h
  unfold wpOp
  split at h
  ·cases h
  ·rename_i o ho
   have ho' : ops[i]? = some o := by simpa using ho
   rw [ho']
   simp only
   cases hd : dstIn E o with
   | false => rw [hd] at h; simp at h
   | true =>
    rw [hd, cond_true] at h
    have hdl : ∀ d, o.dst = some d → d < X.nt := fun d hod => by
     unfold dstIn at hd
     rw [hod] at hd
     exact hV.en.nt ▸ (Nat.le_of_ble_eq_true hd : d + 1 ≤ E.nt)
    have go : ∀ {A : Ab}, S.g = get A → step E o A (fun U => evOps E ops.toList l (ups A U) K) = some r → o.wp X.P a S.w (wpOps X.P ops Q l) Q := by
     intro A hg h
     obtain ⟨U, hU, hgo⟩ := step_ok hV hK hg hdl h
     exact hgo _ _ (fun S' a' K' g' => evOps_ok hV l K' g' hU hQ)
    have skip : ∀ {A : Ab}, S.g = get A → evOps E ops.toList l (skipO o A) K = some r → wpOps X.P ops Q l (a.put o.dst undef) S.w := by
     intro A hg h
     obtain ⟨S', K', g', w'⟩ := put_un hV.en hK hg hd
     rw [← w']
     exact evOps_ok hV l K' g' h hQ
    split at h
    ·rename_i hgd
     have hw : Region.wanted o (yielded ops a.tmps) = true := by unfold Region.wanted; rw [hgd]
     rw [if_pos hw]
     exact .inl (go hg h)
    ·rename_i j want hgd
     split at h
     ·cases h
     ·rename_i dj hdj
      have hdj' : (ops[j]?).bind (·.dst) = some dj := by
       unfold dstAt at hdj
       rw [nth_eq] at hdj
       have : ops.toList[j]? = ops[j]? := by simp
       rw [this] at hdj
       cases hj : ops[j]? with
       | none => rw [hj] at hdj; cases hdj
       | some oj => rw [hj] at hdj; simpa using hdj
      cases hb : Nat.blt dj E.nt with
      | false => rw [hb] at h; simp at h
      | true =>
       rw [hb, cond_true] at h
       have hjl : dj < X.nt := hV.en.nt ▸ (Nat.le_of_ble_eq_true hb : dj + 1 ≤ E.nt)
       have htm : a.tmps[dj]? = some (S.ph dj) := by
        have h1 := hK.sl dj hjl
        have h2 : dj < a.tmps.size := by rw [hK.sz]; exact hjl
        rw [← h1, Array.getD_eq_getD_getElem?, Array.getElem?_eq_getElem h2]
        rfl
       have hy : yielded ops a.tmps j = (match S.ph dj with | .bool b => some b | _ => none) := by
        unfold yielded
        rw [hdj', Option.bind_some, htm]
        cases S.ph dj <;> rfl
       have hwd : Region.wanted o (yielded ops a.tmps) = ((match S.ph dj with | .bool b => some b | _ => none) == some want) := by
        unfold Region.wanted
        rw [hgd]
        simp only
        rw [hy]
       split at h
       ·rename_i n b hgt
        have hph : S.ph dj = .bool b := by
         have := hK.at_ dj
         rw [hg, hgt] at this
         exact this.1
        rw [hph] at hwd
        have hgl : S.g = get (lit A dj n b) := by rw [get_lit hgt]; exact hg
        cases b with
        | true =>
         rw [cond_true] at h
         cases want with
         | true =>
          rw [cond_true] at h
          rw [if_pos (by rw [hwd]; rfl)]
          exact .inl (go hgl h)
         | false =>
          rw [cond_false] at h
          rw [if_neg (by rw [hwd]; decide)]
          exact skip hgl h
        | false =>
         rw [cond_false] at h
         cases want with
         | true =>
          rw [cond_true] at h
          rw [if_neg (by rw [hwd]; decide)]
          exact skip hgl h
         | false =>
          rw [cond_false] at h
          rw [if_pos (by rw [hwd]; rfl)]
          exact .inl (go hgl h)
       ·rename_i n hgt
        have hph : S.ph dj = undef := by
         have := hK.at_ dj
         rw [hg, hgt] at this
         exact this
        rw [hph] at hwd
        rw [if_neg (by rw [hwd]; simp [undef])]
        exact skip hg h
       ·cases h
end
end Go.Proofs.YtgocagaijgcnmaaGreat.Vf
end

section
set_option linter.unusedVariables false
set_option linter.unusedSimpArgs false
namespace Go.Proofs.YtgocagaijgcnmaaGreat.Vf
open Go
attribute [local irreducible] C H
def toExit : Ex → Exit
 | .normal => .normal
 | .exit i => .exit i
 | .ret => .ret
theorem least {J : Nat → Prop} : ∀ n, J n → ∃ m, J m ∧ (∀ k, J k → m ≤ k) := by
 intro n
 induction n using Nat.strongRecOn with
 | _ n ih =>
  intro hn
  by_cases h : ∃ m, m < n ∧ J m
  ·obtain ⟨m, hm, hj⟩ := h
   exact ih m hm hj
  ·exact ⟨n, hn, fun k hk => Nat.le_of_not_lt (fun hlt => h ⟨k, hlt, hk⟩)⟩
open Classical in
theorem wp_loop_ix {P : Program} {c : Code} {Q : Exit → Act → World → Prop} (J : Nat → Act → World → Prop) {n : Nat} {a : Act} {w : World} (h0 : J n a w)
  (round : ∀ n a w, J n a w → c.wp P (Exit.then (fun a' w' => ∃ m, m < n ∧ J m a' w') Q) a w) : (Code.loop c).wp P Q a w := by
 let μ : Act → World → Nat := fun a w => if h : ∃ m, J m a w ∧ (∀ k, J k a w → m ≤ k) then Classical.choose h else 0
 have hμ : ∀ a w n, J n a w → J (μ a w) a w ∧ (∀ k, J k a w → μ a w ≤ k) := by
  intro a w n hn
  have h := least (J := fun m => J m a w) n hn
  have e : μ a w = Classical.choose h := by simp only [μ]; rw [dif_pos h]
  rw [e]
  exact Classical.choose_spec h
 refine wp_loop (fun a w => ∃ n, J n a w) μ ⟨n, h0⟩ ?_
 rintro a w ⟨n, hn⟩
 obtain ⟨h1, h2⟩ := hμ a w n hn
 refine wp_mono (round (μ a w) a w h1) ?_
 intro e a' w' hq
 cases e <;> first | exact hq | skip
 obtain ⟨m, hm, hj⟩ := hq
 refine ⟨⟨m, hj⟩, Nat.lt_of_le_of_lt ((hμ a' w' m hj).2 m hj) hm⟩
section
variable {X : Cx} {S S1 S2 : Sit} {a : Act} {E : En} {A : Ab} {o : Oper} {R : Type} {Kc : List Up → Option R} {r : R}
def forgO (O : Nat → Lab) (vs : List (Nat × Ty)) : Nat → Lab := fun k => match O k with
 | .pl p [] => if keptOw vs p then .pl p [] else .fz
 | o => o
theorem forgO_other {O : Nat → Lab} {vs : List (Nat × Ty)} {k : Nat} {o : Lab} (h : O k = o) (ho : ∀ p, o ≠ .pl p []) : forgO O vs k = o := by
 unfold forgO
 rw [h]
 cases o <;> first | rfl | skip
 rename_i l p
 cases p <;> first | rfl | exact absurd rfl (ho _)
theorem mkW_one {P : Program} {S : Sit} {lab : Lab} {t : Ty} {z : Lf} {x : t.den} {y : Lf} {u : Value} (hw : mkW t [z] = some x) (hy : leaves t x = [y]) (hz : LfOk P S lab z u) (ho : isOw t = true ∨ z.isOwn = false) : LfOk P S lab y u := by
 cases t with
 | pr p q =>
  have h1 := leaves_len (.pr p q) x
  rw [hy] at h1
  have := sz_pos p
  have := sz_pos q
  have h2 : 1 = p.sz + q.sz := h1
  omega
 | ow e r =>
  have h1 : LfsOk P S (fun _ => lab) 0 (leaves (.ow e r) x) [u] := mkW_lfsG (by trivial) hw ⟨hz, trivial⟩
  rw [hy] at h1
  exact h1.1
 | i k =>
  cases z <;> first | (simp [mkW, mkT] at hw; done) | skip
  rename_i v
  cases v <;> first | (simp [mkW, mkT] at hw; done) | skip
  rename_i k' n
  unfold mkW at hw
  simp only [mkT] at hw
  by_cases hk : k = k'
  ·subst hk
   simp only [decide_true, cond_true, Option.some.injEq] at hw
   subst hw
   simp only [leaves, List.cons.injEq, and_true] at hy
   subst hy
   exact hz
  ·simp [hk] at hw
 | b =>
  cases z <;> first | (simp [mkW, mkT] at hw; done) | skip
  rename_i v
  cases v <;> first | (simp [mkW, mkT] at hw; done) | skip
  unfold mkW at hw
  simp only [mkT, Option.some.injEq] at hw
  subst hw
  simp only [leaves, List.cons.injEq, and_true] at hy
  subst hy
  exact hz
 | s =>
  cases z <;> first | (simp [mkW, mkT] at hw; done) | skip
  rename_i v
  cases v <;> first | (simp [mkW, mkT] at hw; done) | skip
  unfold mkW at hw
  simp only [mkT, Option.some.injEq] at hw
  subst hw
  simp only [leaves, List.cons.injEq, and_true] at hy
  subst hy
  exact hz
 | sl e r =>
  simp only [leaves, List.cons.injEq, and_true] at hy
  subst hy
  cases z <;> first | (simp [mkW, mkT] at hw; done) | skip
  ·rename_i e' r' xs
   unfold mkW at hw
   simp only [mkT] at hw
   cases hb : Nat.beq e e' with
   | false => rw [hb] at hw; simp at hw
   | true =>
    rw [hb, cond_true] at hw
    have he : e = e' := Nat.eq_of_beq_eq_true hb
    subst he
    cases hc : castL r r' xs with
    | none => rw [hc] at hw; simp at hw
    | some ys =>
     rw [hc] at hw
     simp only [Option.some.injEq] at hw
     subst hw
     exact castL_rep hc hz
  ·simp [isOw, Lf.isOwn] at ho
theorem keptOw_mem {vs : List (Nat × Ty)} {l : Nat} {t : Ty} (hm : (l, t) ∈ vs) (ht : isOw t = true) : keptOw vs l = true := by
 unfold keptOw
 rw [List.any_eq_true]
 refine ⟨(l, t), hm, ?_⟩
 cases t <;> first | (simp [isOw] at ht; done) | simp
theorem absV_ok (K : Okay X S a) (hg : S.g = get A) {all : List (Nat × Ty)} {l : Nat} {t : Ty} {x : t.den} (hm : (l, t) ∈ all) (h : absV A all l t = some x) :
  ∀ y, leaves t x = [y] → LfOk X.P { S with O := forgO S.O all } (.pl l []) y (S.ph l) := by
 intro y hy
 have hfz : ∀ k, S.O k = .fz → forgO S.O all k = .fz := fun k hk => forgO_other hk (by simp)
 have L : Later S { S with O := forgO S.O all } := ⟨fun _ => Nat.le_refl _, fun _ _ => rfl, fun p v e r xs' h _ => ⟨xs', h, rfl⟩, fun _ _ => rfl, fun k hk => ⟨hfz k hk, rfl⟩, Later.box_of (fun _ _ _ h => h) (fun k b h => ⟨forgO_other h (by simp), rfl⟩), fun p _ hd => ⟨hd, fun _ _ _ h => h, fun k hk => by
  refine ⟨?_, rfl⟩
  cases hkp : keptOw all p with
  | true => exact .inl (by show forgO S.O all k = _; unfold forgO; rw [hk]; simp [hkp])
  | false => exact .inr (by show forgO S.O all k = _; unfold forgO; rw [hk]; simp [hkp])⟩⟩
 have hat := K.at_ l
 rw [hg] at hat
 have frz : ∀ (p : Nat) (e : TypeId) (r : Ty) (xs : List r.den), keptOw all p = false → OwnOk X.P S.O S.w (.pl p []) e r xs (S.ph p) → LfOk X.P { S with O := forgO S.O all } .fz (.fz e r xs) (S.ph p) := by
  intro p e r xs hk ho
  exact ho.reads (O' := forgO S.O all) hfz (fun k hkk => by
   unfold forgO
   rw [hkk]
   simp [hk])
 unfold absV at h
 split at h
 ·rename_i p v hgl
  rw [hgl] at hat
  have hat' : LfOk X.P S (.pl l []) (.al p v) (S.ph l) := hat
  cases hk : keptOw all p with
  | true => rw [hk] at h; simp at h
  | false =>
   rw [hk, cond_false] at h
   have hz : LfOk X.P { S with O := forgO S.O all } .fz (calm (seen A (.al p v))) (S.ph l) := by
    simp only [seen]
    split
    ·rename_i n e r xs hp
     cases hb : Nat.beq n v with
     | false => exact trivial
     | true =>
      have hnv : n = v := by simpa using hb
      subst hnv
      rw [cond_true, hat'.2 (by rw [hg, hp])]
      have h3 := K.at_ p
      rw [hg, hp] at h3
      exact frz p e r xs hk h3
    ·rename_i n e r xs hp
     cases hb : Nat.beq n v with
     | false => exact trivial
     | true =>
      have hnv : n = v := by simpa using hb
      subst hnv
      rw [cond_true, hat'.2 (by rw [hg, hp])]
      have h3 := K.at_ p
      rw [hg, hp] at h3
      exact Ty.rep_mono (t := .sl e r) hfz (fun _ _ => rfl) _ _ h3
    ·exact trivial
   have hno : (calm (seen A (.al p v))).isOwn = false := by cases seen A (.al p v) <;> rfl
   have := mkW_one h hy hz (.inr hno)
   have hyo : y.isOwn = false := by
    cases t <;> first | (simp [leaves] at hy; subst hy; rfl) | skip
    ·cases hs : calm (seen A (.al p v)) with
     | own e r xs => rw [hs] at hno; simp [Lf.isOwn] at hno
     | _ => rw [hs] at h; simp [mkW, mkT] at h
    ·rename_i p q
     have h1 := leaves_len (.pr p q) x
     rw [hy] at h1
     have := sz_pos p
     have := sz_pos q
     have h2 : 1 = p.sz + q.sz := h1
     omega
   exact this.relab hyo
 ·rename_i e r xs hgl
  rw [hgl] at hat
  have hat' : OwnOk X.P S.O S.w (.pl l []) e r xs (S.ph l) := hat
  cases hot : isOw t with
  | true =>
   rw [hot, cond_true] at h
   have hkl := keptOw_mem hm hot
   have hz : LfOk X.P { S with O := forgO S.O all } (.pl l []) (.own e r xs) (S.ph l) := LfOk.later (x := .own e r xs) L hat (fun k hk => ⟨by show forgO S.O all k = _; unfold forgO; rw [hk]; simp [hkl], rfl⟩)
   exact mkW_one h hy hz (.inl hot)
  | false =>
   rw [hot, cond_false] at h
   cases hk : keptOw all l with
   | true => rw [hk] at h; simp at h
   | false =>
    rw [hk, cond_false] at h
    have := mkW_one h hy (LfOk.relab (lab' := .pl l []) rfl (frz l e r xs hk hat')) (.inr rfl)
    exact this
 ·rename_i z _ hno hgl
  rw [hgl] at hat
  have hat' : LfOk X.P S (.pl l []) z (S.ph l) := hat
  have hzo : z.isOwn = false := by
   cases z <;> first | rfl | exact (hno _ _ _ rfl).elim | skip
   exfalso
   cases t <;> first | (simp [mkW, mkT] at h; done) | skip
   rename_i p q
   have h1 := leaves_len (.pr p q) x
   rw [hy] at h1
   have := sz_pos p
   have := sz_pos q
   have h2 : 1 = p.sz + q.sz := h1
   omega
  have hz : LfOk X.P { S with O := forgO S.O all } (.pl l []) z (S.ph l) := (LfOk.relab (lab' := .fz) hzo hat').later (lab' := .fz) L (fun k hk => ⟨hfz k hk, rfl⟩) |>.relab hzo
  exact mkW_one h hy hz (.inr hzo)
 ·cases h
end
end Go.Proofs.YtgocagaijgcnmaaGreat.Vf
end
