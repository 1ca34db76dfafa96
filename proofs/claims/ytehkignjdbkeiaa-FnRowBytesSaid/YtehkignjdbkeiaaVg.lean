/- What a temporary gives away and another one gets; operations that only compute, as steps. -/
import Derived.Test.YtehkignjdbkeiaaVf
set_option linter.unusedVariables false
set_option linter.unusedSimpArgs false
namespace Go.Proofs.Ytehkignjdbkeiaa.Vf
open Go

section
variable {X : Cx} {S : Sit} {a : Act} {E : En} {A : Ab} {o : Oper} {R : Type} {Kc : List Up → Option R} {r : R}

/-- What holds behind a step. -/
def After (X : Cx) (o : Oper) (a : Act) (w : World) (A : Ab) (Kc : List Up → Option R) (r : R) : Prop := ∃ U, Kc U = some r ∧ Goes X o a w (ups A U)

theorem ups_append (A : Ab) : ∀ (U V : List Up), ups A (U ++ V) = ups (ups A U) V
  | [], _ => rfl
  | u :: U, V => ups_append (up A u) U V

theorem get_ups1 (A : Ab) (l : Nat) (s : Sv) : get (ups A [⟨l, false, s⟩]) = upd (get A) l ((get A l).1 + 1, s) := get_up A ⟨l, false, s⟩

/-- A content moves from one temporary to another (or a content that is nobody's is put). -/
theorem put_any (hE : EnOk X E) (K : Okay X S a) (hg : S.g = get A) {T : TypeId} {x : Operand} {s : Sv} (hx : opT E T A x = some s) {d : Nat} (hd : d < X.nt) :
    ∃ S', Okay X S' (a.put (some d) (a.eval x)) ∧ S'.g = get (ups A (gone x s ++ [⟨d, false, s⟩])) ∧ S'.w = S.w := by
  have noOwn : ∀ l, ownSv s = false → SvOk X.P S l s (a.eval x) → ∃ S', Okay X S' (a.put (some d) (a.eval x)) ∧ S'.g = get (ups A (gone x s ++ [⟨d, false, s⟩])) ∧ S'.w = S.w := by
    intro l ho hs
    refine ⟨_, K.put0 hd s _ l ho hs, ?_, rfl⟩
    have hgo : gone x s = [] := by
      unfold gone
      split
      · rw [ho]; rfl
      · rfl
    rw [hgo, List.nil_append, get_ups1, ← hg]
    rfl
  rcases opT_ok hE K hg hx with ⟨t, rfl, ht, hs, he, hok⟩ | ⟨hnt, y, rfl, hy⟩
  · cases ho : ownSv s with
    | false => exact noOwn t ho hok
    | true =>
      obtain ⟨K1, h1, _⟩ := detach K t 0
      have hgo : gone (.tmp t) s = [⟨t, false, .one .dead⟩] := by simp [gone, ho]
      let h : Nat → List Nat → Option Lab := fun n q => if n = 0 then some (.pl d q) else none
      have L := putS_later (detS S t 0) h d s (a.eval (.tmp t))
      have hso : SvOk X.P (putS (detS S t 0) h d s (a.eval (.tmp t))) d s (a.eval (.tmp t)) := by
        refine SvOk.imp (S := S) (l := t) (fun p x u hx => ?_) hok
        exact (h1 p x u hx).later L (fun k hk => ⟨atO_tm hk (by simp [h]), rfl⟩)
      refine ⟨_, K1.put hd h (by intro n q p hp; simp only [h] at hp; split at hp <;> first | (cases hp; exact ⟨q, rfl⟩) | cases hp) s _ hso, ?_, rfl⟩
      rw [hgo]
      show upd (detS S t 0).g d _ = _
      rw [List.singleton_append, show ups A [⟨t, false, .one .dead⟩, ⟨d, false, s⟩] = ups (ups A [⟨t, false, .one .dead⟩]) [⟨d, false, s⟩] from rfl, get_ups1, get_ups1, ← hg]
      rfl
  · cases ho : ownSv (.one y) with
    | false => exact noOwn 0 ho (hy _)
    | true =>
      have hgo : gone x (.one y) = [] := by
        unfold gone
        split
        · exact absurd rfl (hnt _)
        · rfl
      refine ⟨_, K.put hd (fun _ _ => none) (by simp) (.one y) _ ?_, ?_, rfl⟩
      · exact (hy (.pl d [])).later (putS_later S (fun _ _ => none) d (.one y) _) (fun k hk => ⟨atO_other (h := fun _ _ => none) (o := .pl d []) hk (by simp), rfl⟩)
      · rw [hgo, List.nil_append, get_ups1, ← hg]
        rfl

theorem run_move {x : Operand} {P : Program} {w : World} (ho : o.op = .move x ∨ o.op = .assign x) : (execOp a.eval o).run P w = .ok (.value (a.eval x)) w := by
  unfold execOp
  rcases ho with ho | ho <;> simp [ho]

/-- An alias of a place is put. -/
theorem put_al (K : Okay X S a) (hg : S.g = get A) {t d : Nat} (hd : d < X.nt) :
    ∃ S', Okay X S' (a.put (some d) (S.ph t)) ∧ S'.g = get (ups A [⟨d, false, .one (.al t (get A t).1)⟩]) ∧ S'.w = S.w := by
  refine ⟨_, K.put0 hd (.one (.al t (get A t).1)) (S.ph t) 0 rfl ⟨by rw [hg]; exact Nat.le_refl _, fun _ => rfl⟩, ?_, rfl⟩
  rw [get_ups1, ← hg]
  rfl

theorem st_move (hE : EnOk X E) (K : Okay X S a) (hg : S.g = get A) {x : Operand} {d : Nat} (ho : o.op = .move x) (hod : o.dst = some d) (hd : d < X.nt) (h : step E o A Kc = some r) : After X o a S.w A Kc r := by
  unfold step at h
  rw [ho, hod] at h
  simp only at h
  split at h
  · rename_i s hs
    have any : Kc (gone x s ++ [⟨d, false, s⟩]) = some r → After X o a S.w A Kc r := fun hk => by
      obtain ⟨S', K', hg', hw⟩ := put_any hE K hg hs hd
      exact ⟨_, hk, goes_value (S := S') (by rw [hw]; exact run_move (.inl ho)) (by rw [hod]; exact K') hg'⟩
    split at h
    · rename_i t e r' xs
      cases hn : E.nm t with
      | true =>
        rw [hn] at h
        simp only [cond_true] at h
        rcases opT_ok hE K hg hs with ⟨t', ht', htl, _, he, _⟩ | ⟨hnt, _⟩
        · cases ht'
          obtain ⟨S', K', hg', hw⟩ := put_al (t := t) K hg hd
          exact ⟨_, h, goes_value (S := S') (v := S.ph t) (by rw [hw, run_move (.inl ho), he]) (by rw [hod]; exact K') hg'⟩
        · exact absurd rfl (hnt t)
      | false =>
        rw [hn] at h
        simp only [cond_false] at h
        refine any ?_
        rw [← h]
        simp [gone, ownSv, ownIn]
    · exact any h
  · cases h

theorem st_sc {d : Nat} (K : Okay X S a) (hg : S.g = get A) (hod : o.dst = some d) (hd : d < X.nt) {v : Value} (hv : isSc v = true) (hr : (execOp a.eval o).run X.P S.w = .ok (.value v) S.w)
    (h : Kc [⟨d, false, .one (.sc v)⟩] = some r) : After X o a S.w A Kc r := ⟨_, h, goes_sc K hg hd hod hv hr⟩

theorem opT_ex (hE : EnOk X E) (K : Okay X S a) (hg : S.g = get A) {T : TypeId} {x : Operand} {s : Sv} (hx : opT E T A x = some s) : ∃ l, SvOk X.P S l s (a.eval x) := by
  rcases opT_ok hE K hg hx with ⟨t, _, _, _, _, h⟩ | ⟨_, y, rfl, hy⟩
  · exact ⟨t, h⟩
  · exact ⟨0, hy _⟩

theorem st_binOp (hE : EnOk X E) (K : Okay X S a) (hg : S.g = get A) {op : BinOp} {T T' : TypeId} {x y : Operand} {d : Nat} (ho : o.op = .binOp op T x y T') (hod : o.dst = some d) (hd : d < X.nt) (h : step E o A Kc = some r) : After X o a S.w A Kc r := by
  unfold step at h
  rw [ho, hod] at h
  simp only at h
  split at h
  · rename_i s s' hs hs'
    obtain ⟨v, h1, h2, h3⟩ := bop_ok hE (S := S) h (opT_ex hE K hg hs) (opT_ex hE K hg hs') ho
    exact st_sc K hg hod hd h2 h3 h1
  · cases h

theorem st_unOp (hE : EnOk X E) (K : Okay X S a) (hg : S.g = get A) {op : UnOp} {T : TypeId} {x : Operand} {d : Nat} (ho : o.op = .unOp op T x) (hod : o.dst = some d) (hd : d < X.nt) (h : step E o A Kc = some r) : After X o a S.w A Kc r := by
  unfold step at h
  rw [ho, hod] at h
  simp only at h
  split at h
  · rename_i s hs
    obtain ⟨l, hl⟩ := opT_ex hE K hg hs
    unfold uop at h
    split at h
    · rename_i k n
      have e : a.eval x = .int k n := hl.1
      exact st_sc K hg hod hd rfl (by unfold execOp; simp [ho, e, Op.unary, Op.intArith]) h
    · rename_i k n
      have e : a.eval x = .int k n := hl.1
      exact st_sc K hg hod hd rfl (by unfold execOp; simp [ho, e, Op.unary, Op.intBits]) h
    · rename_i b
      have e : a.eval x = .bool b := hl.1
      exact st_sc K hg hod hd rfl (by unfold execOp; simp [ho, e, Op.unary]) h
    · cases h
  · cases h

theorem st_pick (hE : EnOk X E) (K : Okay X S a) (hg : S.g = get A) {c x y : Operand} {d : Nat} (ho : o.op = .pick c x y) (hod : o.dst = some d) (hd : d < X.nt) (h : step E o A Kc = some r) : After X o a S.w A Kc r := by
  unfold step at h
  rw [ho, hod] at h
  simp only at h
  split at h
  · rename_i b hc
    have e := (opT_sc hE K hg hc).1
    cases b with
    | true =>
      simp only [cond_true] at h
      split at h
      · rename_i u hu
        obtain ⟨e1, e2⟩ := opT_sc hE K hg hu
        exact st_sc K hg hod hd e2 (by unfold execOp; simp [ho, e, asBool, e1]) h
      · cases h
    | false =>
      simp only [cond_false] at h
      split at h
      · rename_i u hu
        obtain ⟨e1, e2⟩ := opT_sc hE K hg hu
        exact st_sc K hg hod hd e2 (by unfold execOp; simp [ho, e, asBool, e1]) h
      · cases h
  · cases h

theorem desc_str {P : Program} {T : TypeId} (h : isStr E T = true) (hE : ∀ T t, E.ti T = some t → TOk P T t) : P.underlying T = some .string := by
  unfold isStr at h
  split at h
  · rename_i hT
    have := (hE _ _ hT).desc
    unfold descB at this
    split at this <;> simp_all
  · cases h

theorem desc_el {P : Program} {T e : TypeId} (h : isEl E T e = true) (hE : ∀ T t, E.ti T = some t → TOk P T t) : P.underlying T = some (.slice e) := by
  unfold isEl elT at h
  split at h
  · rename_i e' he
    split at he
    · rename_i e'' _ _ _ hT
      simp at he
      subst he
      have e1 : e'' = e := by simpa using h
      subst e1
      have := (hE _ _ hT).desc
      unfold descB at this
      split at this <;> simp_all
    · cases he
  · cases h

theorem st_index (hE : EnOk X E) (K : Okay X S a) (hg : S.g = get A) {T : TypeId} {x i : Operand} {d : Nat} (ho : o.op = .index T x i) (hod : o.dst = some d) (hd : d < X.nt) (h : step E o A Kc = some r) : After X o a S.w A Kc r := by
  unfold step at h
  rw [ho, hod] at h
  simp only at h
  split at h
  · rename_i s k n hs hn
    have e1 := (opT_sc hE K hg hs).1
    have e2 := (opT_sc hE K hg hn).1
    cases hq : (isStr E T && decide (0 ≤ n)) with
    | false => rw [hq] at h; simp at h
    | true =>
      rw [hq] at h
      simp only [cond_true] at h
      simp only [Bool.and_eq_true, decide_eq_true_eq] at hq
      have hu := desc_str hq.1 hE.ti
      by_cases hlt : n < (s.size : Int)
      · simp only [hlt, decide_true, cond_true] at h
        have hb : s[n.toNat]? = some s[n.toNat] := by
          rw [getElem?_pos]
        have hv : bt s n = (s[n.toNat].toNat : Int) := by
          unfold bt
          have hl : n.toNat < s.data.toList.length := by
            have : s.data.toList.length = s.size := rfl
            omega
          rw [List.getD_eq_getElem?_getD, List.getElem?_eq_getElem hl]
          rfl
        refine st_sc K hg hod hd rfl ?_ h
        unfold execOp
        simp [ho, e1, e2, Instr.index, asIntOf, underlying, hu, hq.2, hb, hv]
      · simp [hlt] at h
  · cases h

/-- An operand that is an alias, or another content: what stands there, and what it reads as. -/
theorem seen_ok {y : Lf} {u : Value} {lab : Lab} (K : Okay X S a) (hg : S.g = get A) (h : LfOk X.P S lab y u) : ∃ lab', LfOk X.P S lab' (seen A y) u := by
  unfold seen
  split
  · rename_i p v
    split
    · rename_i n e r xs hp
      cases hb : Nat.beq n v with
      | false => exact ⟨lab, trivial⟩
      | true =>
        have hnv : n = v := by simpa using hb
        subst hnv
        have e1 : u = S.ph p := h.2 (by rw [hg, hp])
        refine ⟨.pl p [], ?_⟩
        have := K.at_ p
        rw [hg, hp] at this
        rw [e1]
        exact this
    · rename_i n e r xs hp
      cases hb : Nat.beq n v with
      | false => exact ⟨lab, trivial⟩
      | true =>
        have hnv : n = v := by simpa using hb
        subst hnv
        have e1 : u = S.ph p := h.2 (by rw [hg, hp])
        refine ⟨.pl p [], ?_⟩
        have := K.at_ p
        rw [hg, hp] at this
        rw [e1]
        exact this
    · exact ⟨lab, trivial⟩
  · exact ⟨lab, h⟩

/-- A slice, whoever holds it: its length stands in its value. -/
theorem len_of_fz {e : TypeId} {r : Ty} {xs : List r.den} {u : Value} {lab : Lab} (h : LfOk X.P S lab (.fz e r xs) u) : ∃ ad cap, u = .slice ad xs.length cap := by
  obtain ⟨v, e1, _, ad, cap, _, e2, _⟩ := h
  cases e1
  exact ⟨ad, cap, e2⟩
theorem len_of_own {e : TypeId} {r : Ty} {xs : List r.den} {u : Value} {lab : Lab} (h : LfOk X.P S lab (.own e r xs) u) : ∃ ad cap, u = .slice ad xs.length cap := by
  obtain ⟨_, cs, ho, _⟩ := h
  rcases own_nil_or ho with ⟨e1, e2, _⟩ | ⟨k, cap, _, e1, _⟩
  · exact ⟨none, 0, by rw [e1, e2]⟩
  · exact ⟨_, cap, e1⟩

theorem run_len {P : Program} {w : World} {T : TypeId} {x : Operand} {c : Call} (ho : o.op = .call c) (hc : c.callee = .builtin .len) (hT : c.argTypes.toList = [T]) (hx : c.args.toList = [x]) {v : Value}
    (hr : (Builtin.len_ #[T] o.type #[a.eval x]).run P w = .ok v w) : (execOp a.eval o).run P w = .ok (.value v) w := by
  have e1 : c.args = #[x] := by rw [← hx]
  have e2 : c.argTypes = #[T] := by rw [← hT]
  unfold execOp
  simp [ho, resolve, hc, e1, e2, invoke, builtin, hr]

theorem st_len (hE : EnOk X E) (K : Okay X S a) (hg : S.g = get A) {c : Call} (ho : o.op = .call c) (hc : c.callee = .builtin .len) (hd : ∀ d, o.dst = some d → d < X.nt) (h : step E o A Kc = some r) : After X o a S.w A Kc r := by
  unfold step at h
  rw [ho] at h
  simp only [hc] at h
  split at h
  · rename_i T x d hT hx hod
    have hdl := hd d hod
    split at h
    · rename_i y hs
      obtain ⟨l, hl⟩ := opT_ex hE K hg hs
      obtain ⟨lab', hl'⟩ := seen_ok K hg (show LfOk X.P S (.pl l []) y (a.eval x) from hl)
      split at h
      · rename_i s hy
        rw [hy] at hl'
        cases hq : isStr E T with
        | false => rw [hq] at h; simp at h
        | true =>
          rw [hq] at h
          have hu := desc_str hq hE.ti
          have e1 : a.eval x = .string s := hl'.1
          exact st_sc K hg hod hdl rfl (run_len ho hc hT hx (by simp [Builtin.len_, underlying, hu, e1, goInt])) h
      · rename_i e r' xs hy
        rw [hy] at hl'
        cases hq : isEl E T e with
        | false => rw [hq] at h; simp at h
        | true =>
          rw [hq] at h
          have hu := desc_el hq hE.ti
          obtain ⟨ad, cap, e1⟩ := len_of_fz hl'
          exact st_sc K hg hod hdl rfl (run_len ho hc hT hx (by simp [Builtin.len_, underlying, hu, e1, goInt])) h
      · rename_i e r' xs hy
        rw [hy] at hl'
        cases hq : isEl E T e with
        | false => rw [hq] at h; simp at h
        | true =>
          rw [hq] at h
          have hu := desc_el hq hE.ti
          obtain ⟨ad, cap, e1⟩ := len_of_own hl'
          exact st_sc K hg hod hdl rfl (run_len ho hc hT hx (by simp [Builtin.len_, underlying, hu, e1, goInt])) h
      · cases h
    · cases h
  · cases h

theorem opsT_ok (hE : EnOk X E) (K : Okay X S a) (hg : S.g = get A) : ∀ {Ts : List TypeId} {xs : List Operand} {ss : List Sv}, opsT E Ts A xs = some ss → All2 (fun s x => ∃ T, opT E T A x = some s) ss xs
  | _, [], ss, h => by simp [opsT] at h; subst h; exact .nil
  | [], x :: xs, ss, h => by simp [opsT] at h
  | T :: Ts, x :: xs, ss, h => by
    simp only [opsT] at h
    split at h
    · rename_i s hs
      split at h
      · rename_i ss' hss
        simp at h
        subst h
        exact .cons ⟨T, hs⟩ (opsT_ok hE K hg hss)
      · cases h
    · cases h

theorem minMax_ok (hE : EnOk X E) (K : Okay X S a) (hg : S.g = get A) (mx : Bool) : ∀ {ss : List Sv} {xs : List Operand} {k : IntKind} {x : Int} {Kv : Value → Option R} {r : R}, All2 (fun s x => ∃ T, opT E T A x = some s) ss xs → minMax mx ss k x Kv = some r →
    ∃ n, Kv (.int k n) = some r ∧ ((xs.map a.eval).foldlM (if mx then Builtin.max2 else Builtin.min2) (.int k x)).run X.P S.w = .ok (.int k n) S.w
  | [], _, k, x, Kv, r, .nil, h => ⟨x, h, rfl⟩
  | s :: ss, _, k, x, Kv, r, .cons ⟨T, hs⟩ hss, h => by
    rename_i y ys
    unfold minMax at h
    split at h
    · rename_i heq; cases heq
    · rename_i k x Kv _ _ _ _ k' z l heq
      simp only [List.cons.injEq] at heq
      obtain ⟨rfl, rfl⟩ := heq
      have e := (opT_sc hE K hg hs).1
      by_cases hk : k = k'
      · rw [decide_eq_true hk, cond_true] at h
        rw [← hk] at e
        obtain ⟨n, h1, h2⟩ := minMax_ok hE K hg mx hss h
        refine ⟨n, h1, ?_⟩
        cases mx with
        | true =>
          simp only [List.map_cons, List.foldlM_cons, e, if_true, Sem.run_bind, Builtin.max2, Sem.run_pure, Result.andThen_ok]
          simpa using h2
        | false =>
          simp only [List.map_cons, List.foldlM_cons, e, Bool.false_eq_true, if_false, Sem.run_bind, Builtin.min2, Sem.run_pure, Result.andThen_ok]
          simpa using h2
      · simp [hk] at h
    · cases h

theorem st_minMax (hE : EnOk X E) (K : Okay X S a) (hg : S.g = get A) {c : Call} (mx : Bool) (ho : o.op = .call c) (hc : c.callee = .builtin (if mx then .max else .min)) (hd : ∀ d, o.dst = some d → d < X.nt) (h : step E o A Kc = some r) : After X o a S.w A Kc r := by
  have key : ∀ (k : IntKind) (x : Int) (l : List Sv) (d : Nat), opsT E c.argTypes.toList A c.args.toList = some (.one (.sc (.int k x)) :: l) → o.dst = some d →
      minMax mx l k x (fun u => Kc [⟨d, false, .one (.sc u)⟩]) = some r → After X o a S.w A Kc r := by
    intro k x l d hs hod hm
    have hall := opsT_ok hE K hg hs
    generalize hxs : c.args.toList = xs at hall
    cases hall with
    | @cons s y ss ys h0 hl =>
      obtain ⟨T, h0⟩ := h0
      have e := (opT_sc hE K hg h0).1
      obtain ⟨n, h1, h2⟩ := minMax_ok hE K hg mx hl hm
      refine st_sc K hg hod (hd d hod) rfl ?_ h1
      have hargs : (c.args.map a.eval).toList = .int k x :: ys.map a.eval := by rw [Array.toList_map, hxs, List.map_cons, e]
      unfold execOp
      cases mx with
      | true =>
        simp only [if_true] at hc h2
        simp only [ho, resolve, hc, Sem.run_bind, Sem.run_pure, Result.andThen_ok, invoke, builtin, Builtin.max_, hargs, h2]
      | false =>
        simp only [Bool.false_eq_true, if_false] at hc h2
        simp only [ho, resolve, hc, Sem.run_bind, Sem.run_pure, Result.andThen_ok, invoke, builtin, Builtin.min_, hargs, h2]
  unfold step at h
  rw [ho] at h
  cases mx with
  | true =>
    simp only [if_true] at hc
    simp only [hc] at h
    split at h
    · rename_i k x l d hs hod
      exact key k x l d hs hod h
    · cases h
  | false =>
    simp only [Bool.false_eq_true, if_false] at hc
    simp only [hc] at h
    split at h
    · rename_i k x l d hs hod
      exact key k x l d hs hod h
    · cases h
end
end Go.Proofs.Ytehkignjdbkeiaa.Vf
