/- Steps: field, slices, conversions. -/
import Derived.Test.YtehkignjdbkeiaaVi
set_option linter.unusedVariables false
set_option linter.unusedSimpArgs false
namespace Go.Proofs.Ytehkignjdbkeiaa.Vf
open Go

section
variable {X : Cx} {S : Sit} {a : Act} {E : En} {A : Ab} {o : Oper} {R : Type} {Kc : List Up → Option R} {r : R}

theorem LfsOk.impAt {P : Program} {S S' : Sit} {f f' : Nat → Lab} : ∀ {j : Nat} {xs : List Lf} {us : List Value}, (∀ n, j ≤ n → n < j + xs.length → ∀ x u, LfOk P S (f n) x u → LfOk P S' (f' n) x u) → LfsOk P S f j xs us → LfsOk P S' f' j xs us
  | _, [], [], _, _ => trivial
  | j, _ :: xs, _ :: _, hi, h => ⟨hi j (Nat.le_refl _) (by simp) _ _ h.1, h.2.impAt (fun n h1 h2 => hi n (by omega) (by simp only [List.length_cons]; omega))⟩
  | _, [], _ :: _, _, h => h.elim
  | _, _ :: _, [], _, h => h.elim

/-- A part of a struct gets another content. -/
theorem LfsOk.setAll {P : Program} {S : Sit} {f : Nat → Lab} {l m : List Lf} {us ms : List Value} {off : Nat} (h1 : LfsOk P S f 0 (l.take off) (us.take off)) (h2 : LfsOk P S f off m ms) (h3 : LfsOk P S f (off + m.length) (l.drop (off + m.length)) (us.drop (off + m.length)))
    (hl : off + m.length ≤ l.length) : LfsOk P S f 0 (setAll l off m) (us.take off ++ ms ++ us.drop (off + m.length)) := by
  unfold Vf.setAll
  have e1 : (l.take off).length = off := by rw [List.length_take]; omega
  refine LfsOk.app (LfsOk.app h1 ?_) ?_
  · rw [e1, Nat.zero_add]; exact h2
  · rw [List.length_append, e1, Nat.zero_add]; exact h3

theorem run_field {P : Program} {w : World} {T : TypeId} {x : Operand} {j : Nat} {t : TI} {off z : Nat} {ag : Bool} (ht : TOk P T t) (ha : t.ag = true) (hf : nth t.fo j = some (off, z, ag)) (ho : o.op = .field T x j) {us : List Value} (he : a.eval x = .agg us.toArray) (hl : off + z ≤ us.length) :
    ∃ u ws, (if ag then u = .agg ws.toArray else (z = 1 → ws = [u])) ∧ ws = (us.drop off).take z ∧ (execOp a.eval o).run P w = .ok (.value u) w := by
  obtain ⟨fs, hu, hfs⟩ := struct_of ht ha
  obtain ⟨fd, h1, h2, h3, h4, h5, d, h6⟩ := fields_get hfs hf
  have h1' : fs[j]? = some fd := by simpa using h1
  cases ag with
  | true =>
    refine ⟨_, _, rfl, rfl, ?_⟩
    unfold execOp
    simp only [ho, he, Sem.run_bind]
    unfold Instr.field
    rw [Sem.run_bind, run_underlying hu]
    simp only [Result.andThen_ok, h1', asAgg, Sem.run_bind, Sem.run_pure, part, isAgg_of h6 h5, info_size h3, if_true]
    simp [h2, List.extract_eq_take_drop]
  | false =>
    have hlt : off < us.length := by simp only at h4; omega
    refine ⟨us[off], _, ?_, rfl, ?_⟩
    · simp only [Bool.false_eq_true, if_false]
      intro hz
      subst hz
      show List.take 1 _ = _
      rw [List.drop_eq_getElem_cons hlt, List.take_succ_cons, List.take_zero]
    · unfold execOp
      simp only [ho, he, Sem.run_bind]
      unfold Instr.field
      rw [Sem.run_bind, run_underlying hu]
      simp only [Result.andThen_ok, h1', asAgg, Sem.run_bind, Sem.run_pure, part, isAgg_of h6 h5, Bool.false_eq_true, if_false]
      simp [h2, hlt]

theorem st_field (hE : EnOk X E) (K : Okay X S a) (hg : S.g = get A) {T : TypeId} {t j d : Nat} (ho : o.op = .field T (.tmp t) j) (hod : o.dst = some d) (hd : d < X.nt) (h : step E o A Kc = some r) : After X o a S.w A Kc r := by
  unfold step at h
  rw [ho, hod] at h
  simp only at h
  split at h
  · rename_i ti l hti hgt
    split at h
    · rename_i off z ag hf
      split at h
      · rename_i s hs
        cases hq : (ti.ag && Nat.blt t E.nt && Nat.ble (off + z) l.length) with
        | false => rw [hq] at h; simp at h
        | true =>
          rw [hq, cond_true] at h
          simp only [Bool.and_eq_true] at hq
          obtain ⟨⟨ha, hb⟩, hle⟩ := hq
          have hle : off + z ≤ l.length := Nat.le_of_ble_eq_true hle
          have ht : t < X.nt := hE.nt ▸ (Nat.le_of_ble_eq_true hb : t + 1 ≤ E.nt)
          have he : a.eval (.tmp t) = S.ph t := K.sl t ht
          have hok : SvOk X.P S t (.agg l) (S.ph t) := by have := K.at_ t; rwa [hg, hgt] at this
          obtain ⟨us, e1, hls⟩ := hok
          have hlen := hls.len
          obtain ⟨u, ws, e2, e3, hrun⟩ := run_field (w := S.w) (hE.ti _ _ hti) ha hf ho (he.trans e1) (by omega)
          have e4 : if ag then u = .agg ws.toArray else ws = [u] := by
            cases ag with
            | true => exact e2
            | false =>
              simp only [Bool.false_eq_true, if_false] at e2 ⊢
              unfold ofParts at hs
              simp only [cond_false] at hs
              split at hs
              · rename_i x hx
                have : ((l.drop off).take z).length = 1 := by rw [hx]; rfl
                rw [List.length_take, List.length_drop] at this
                exact e2 (by omega)
              · cases hs
          have hpart : LfsOk X.P S (fun n => .pl t [n]) off ((l.drop off).take z) ws := by
            have := (hls.drop off).take z
            rw [Nat.zero_add, ← e3] at this
            exact this
          cases hown : ownIn ((l.drop off).take z) with
          | false =>
            rw [hown, cond_false] at h
            have hso : SvOk X.P S d s u := ofParts_ok hs e4 (LfsOk.shift (j := 0) (f := fun n => .pl d (if ag then [n - off] else [])) off (by
              rw [Nat.zero_add]; exact hpart.relab hown) |>.imp (fun n x u hx => by simpa using hx))
            have K2 := K.put0 hd s u d (by rw [ofParts_own hs, hown]) hso
            refine ⟨_, h, goes_value (S := putS S (fun _ _ => none) d s u) hrun (by rw [hod]; exact K2) ?_⟩
            show upd S.g d _ = _
            rw [get_ups1, ← hg]
          | true =>
            rw [hown, cond_true] at h
            let f : List Nat → Option (List Nat) := fun p => match p with
              | [n] => if off ≤ n ∧ n < off + z then some [n - off] else none
              | _ => none
            let s0 : Sv := .agg (Vf.setAll l off (List.replicate z .dead))
            have L1 := detP_later S t 0 f s0
            have hst : ∀ n, ¬ (off ≤ n ∧ n < off + z) → ∀ x u, LfOk X.P S (.pl t [n]) x u → LfOk X.P (detP S t 0 f s0) (.pl t [n]) x u := fun n hn x u hx =>
              hx.later L1 (fun k hk => ⟨reP_stay hk (by simp only [f]; rw [if_neg hn]), rfl⟩)
            obtain ⟨K1, h1, _⟩ := detachP K t 0 f s0 (by simp [s0]) ⟨us, e1, by
              have hz : (List.replicate z Lf.dead).length = z := by simp
              have hws : ws.length = z := by rw [e3, List.length_take, List.length_drop]; omega
              have := LfsOk.setAll (P := X.P) (S := detP S t 0 f s0) (f := fun n => .pl t [n]) (l := l) (us := us) (m := List.replicate z .dead) (ms := ws) (off := off)
                ((hls.take off).impAt (fun n _ h2 => hst n (by rw [List.length_take] at h2; omega)))
                (by rw [← hws]; exact LfsOk.deads ws) (by
                  rw [hz]
                  refine LfsOk.impAt (fun n h1 _ => hst n (by omega)) ?_
                  have := hls.drop (off + z)
                  rwa [Nat.zero_add] at this) (by rw [hz]; exact hle)
              rw [hz, e3, ← List.drop_drop, List.append_assoc, List.take_append_drop, List.take_append_drop] at this
              exact this⟩
            have L2 := putS_later (detP S t 0 f s0) (partH d ag) d s u
            have hl2 : LfsOk X.P (putS (detP S t 0 f s0) (partH d ag) d s u) (fun n => .pl d (if ag then [n] else [])) 0 ((l.drop off).take z) ws := by
              have h5 : LfsOk X.P (putS (detP S t 0 f s0) (partH d ag) d s u) (fun n => .pl d (if ag then [n - off] else [])) off ((l.drop off).take z) ws := by
                refine LfsOk.impAt (fun n n1 n2 x u hx => ?_) hpart
                have n3 : n < off + z := by rw [List.length_take] at n2; omega
                exact (h1 [n] [n - off] x u (by simp [f, n1, n3]) hx).later L2 (fun k hk => ⟨atO_tm hk (by simp [partH]), rfl⟩)
              have := LfsOk.shift (j := 0) off (by rw [Nat.zero_add]; exact h5)
              exact this.imp (fun n x u hx => by simpa using hx)
            have K2 := K1.put hd (partH d ag) (partH_pl d ag) s u (ofParts_ok hs e4 hl2)
            refine ⟨_, h, goes_value (S := putS (detP S t 0 f s0) (partH d ag) d s u) hrun (by rw [hod]; exact K2) ?_⟩
            show upd (detP S t 0 f s0).g d _ = _
            rw [show ∀ u1 u2, ups A [u1, u2] = ups (ups A [u1]) [u2] from fun _ _ => rfl, get_ups1, get_ups1, ← hg]
            rfl
      · cases h
    · cases h
  · cases h

/-! ### Slices -/
theorem intOp_ok (hE : EnOk X E) (K : Okay X S a) (hg : S.g = get A) {x : Option Operand} {n : Option Int} (h : intOp E A x = some n) : x.map a.eval = n.map (Value.int .i64) := by
  unfold intOp at h
  split at h
  · cases h; rfl
  · rename_i x
    split at h
    · rename_i n hn
      cases h
      simp [(opT_sc hE K hg hn).1]
    · cases h

theorem bnds_ok {lo hi : Option Int} {n : Nat} {Kb : Unit → Option R} (h : bnds lo hi n Kb = some r) : Kb () = some r ∧ 0 ≤ lo.getD 0 ∧ lo.getD 0 ≤ hi.getD n ∧ hi.getD n ≤ n := by
  unfold bnds at h
  split at h
  · exact ⟨h, by simp⟩
  · rename_i l
    by_cases h1 : 0 ≤ l
    · by_cases h2 : l ≤ (n : Int)
      · simp only [h1, h2, decide_true, cond_true] at h
        exact ⟨h, by simpa using ⟨h1, h2⟩⟩
      · simp [h1, h2] at h
    · simp [h1] at h
  · rename_i l
    by_cases h1 : 0 ≤ l
    · by_cases h2 : l ≤ (n : Int)
      · simp only [h1, h2, decide_true, cond_true] at h
        exact ⟨h, by simpa using ⟨h1, h2⟩⟩
      · simp [h1, h2] at h
    · simp [h1] at h
  · rename_i l l2
    by_cases h1 : 0 ≤ l
    · by_cases h2 : l ≤ l2
      · by_cases h3 : l2 ≤ (n : Int)
        · simp only [h1, h2, h3, decide_true, cond_true] at h
          exact ⟨h, by simpa using ⟨h1, h2, h3⟩⟩
        · simp [h1, h2, h3] at h
      · simp [h1, h2] at h
    · simp [h1] at h

theorem run_bounds {P : Program} {w : World} (sl : Bool) {n cap : Nat} {lo hi : Option Int} (hc : n ≤ cap) (h0 : 0 ≤ lo.getD 0) (h1 : lo.getD 0 ≤ hi.getD n) (h2 : hi.getD n ≤ n) :
    (Instr.sliceBounds sl n cap (lo.map (Value.int .i64)) (hi.map (Value.int .i64)) none).run P w = .ok ((lo.getD 0).toNat, (hi.getD n).toNat, cap) w := by
  cases lo with
  | none =>
    cases hi with
    | none => simp [Instr.sliceBounds]
    | some b =>
      simp only [Option.getD_some, Option.getD_none] at h0 h1 h2
      simp [Instr.sliceBounds, run_sliceBound, (by omega : 0 ≤ b), (by omega : b ≤ (cap : Int))]
  | some l =>
    cases hi with
    | none =>
      simp only [Option.getD_some, Option.getD_none] at h0 h1 h2
      simp [Instr.sliceBounds, run_sliceBound, h0, h1]
    | some b =>
      simp only [Option.getD_some] at h0 h1 h2
      have eb : (b.toNat : Int) = b := Int.toNat_of_nonneg (by omega)
      simp [Instr.sliceBounds, run_sliceBound, (by omega : 0 ≤ b), (by omega : b ≤ (cap : Int)), h0, eb, h1]

theorem cutS_eq {α : Type} {xs : List α} {lo hi : Option Int} (h2 : hi.getD xs.length ≤ xs.length) : cutS xs lo hi = (xs.take (hi.getD xs.length).toNat).drop (lo.getD 0).toNat := by
  unfold cutS
  cases lo <;> cases hi <;> simp

theorem run_slice_str {P : Program} {w : World} {T : TypeId} {x : Operand} {lo hi : Option Operand} {s : ByteArray} {l h : Option Int} (hu : P.underlying T = some .string) (ho : o.op = .slice T x lo hi none) (he : a.eval x = .string s)
    (hl : lo.map a.eval = l.map (Value.int .i64)) (hh : hi.map a.eval = h.map (Value.int .i64)) (h0 : 0 ≤ l.getD 0) (h1 : l.getD 0 ≤ h.getD s.size) (h2 : h.getD s.size ≤ s.size) :
    (execOp a.eval o).run P w = .ok (.value (.string (s.extract (l.getD 0).toNat (h.getD s.size).toNat))) w := by
  have hb := run_bounds (P := P) (w := w) false (Nat.le_refl s.size) h0 h1 h2
  unfold execOp
  simp only [ho, he, hl, hh, Option.map_none, Sem.run_bind]
  unfold Instr.sliceAt
  rw [Sem.run_bind, run_underlying hu]
  simp only [Result.andThen_ok]
  unfold Instr.slice
  rw [Sem.run_bind, run_underlying hu]
  simp [hb]

theorem run_slice_sl {P : Program} {w : World} {T e : TypeId} {sz : Nat} {x : Operand} {lo hi : Option Operand} {ad : Option Addr} {n cap : Nat} {l h : Option Int} (hu : P.underlying T = some (.slice e)) (hs : SzOk P e sz) (ho : o.op = .slice T x lo hi none) (he : a.eval x = .slice ad n cap)
    (hl : lo.map a.eval = l.map (Value.int .i64)) (hh : hi.map a.eval = h.map (Value.int .i64)) (hc : n ≤ cap) (h0 : 0 ≤ l.getD 0) (h1 : l.getD 0 ≤ h.getD n) (h2 : h.getD n ≤ n) :
    (execOp a.eval o).run P w = .ok (.value (.slice (if cap = (l.getD 0).toNat then ad else ad.map (·.add ((l.getD 0).toNat * sz))) ((h.getD n).toNat - (l.getD 0).toNat) (cap - (l.getD 0).toNat))) w := by
  have hb := run_bounds (P := P) (w := w) true hc h0 h1 h2
  unfold execOp
  simp only [ho, he, hl, hh, Option.map_none, Sem.run_bind]
  unfold Instr.sliceAt
  rw [Sem.run_bind, run_underlying hu]
  simp only [Result.andThen_ok]
  unfold Instr.slice
  rw [Sem.run_bind, run_underlying hu]
  simp only [Result.andThen_ok, Sem.run_bind, hb, info_size hs, Sem.run_pure]

/-- A part of what all may read. -/
theorem SlRep.cut {α : Type} {G : Nat → Prop} {w : World} {R' : α → List Value → Prop} {sz : Nat} (hn : ∀ x c, R' x c → c.length = sz) {xs : List α} {ad : Option Addr} {n cap l h : Nat} (hr : SlRep G w R' xs (.slice ad n cap)) (h1 : l ≤ h) (h2 : h ≤ n) :
    n = xs.length ∧ n ≤ cap ∧ SlRep G w R' ((xs.take h).drop l) (.slice (if cap = l then ad else ad.map (·.add (l * sz))) (h - l) (cap - l)) := by
  obtain ⟨ad', cap', cs, e, hc, hrow, hne⟩ := hr
  cases e
  refine ⟨rfl, hc, if cap = l then ad else ad.map (·.add (l * sz)), cap - l, (cs.take (h * sz)).drop (l * sz), ?_, ?_, (hrow.take hn h).drop hn l, fun hx => ?_⟩
  · rw [List.length_drop, List.length_take, Nat.min_eq_left h2]
  · rw [List.length_drop, List.length_take]; omega
  · have hlh : l < h := by
      rcases Nat.lt_or_ge l h with hlt | hge
      · exact hlt
      · exact absurd (List.drop_eq_nil_of_le (by rw [List.length_take]; omega)) hx
    obtain ⟨k, o', rfl, hk, hcs⟩ := hne (by intro e; subst e; simp at h2; omega)
    refine ⟨k, o' + l * sz, ?_, hk, fun j u hu => ?_⟩
    · rw [if_neg (by omega)]
      simp [add_none]
    · rw [List.getElem?_drop, List.getElem?_take] at hu
      split at hu
      · rw [Nat.add_assoc]
        exact hcs _ _ hu
      · cases hu

/-- The beginning of what is owned. -/
theorem OwnOk.take {P : Program} {O : Nat → Lab} {w : World} {lab : Lab} {e : TypeId} {r' : Ty} {xs : List r'.den} {u : Value} (h : OwnOk P O w lab e r' xs u) (n : Nat) (hn : n ≤ xs.length) :
    ∃ ad cap, u = .slice ad xs.length cap ∧ xs.length ≤ cap ∧ (∀ k, ad = some k → k.spot = none) ∧ OwnOk P O w lab e r' (xs.take n) (.slice ad n cap) := by
  obtain ⟨hs, cs, ho, hr, hk⟩ := h
  have hlen : (xs.take n).length = n := by rw [List.length_take]; omega
  rcases own_nil_or ho with ⟨rfl, hm, rfl⟩ | ⟨k, cap, cur, rfl, hg, h1, h2, h3, h4⟩
  · have : n = 0 := by omega
    subst this
    refine ⟨none, 0, by rw [hm], by omega, by simp, hs, [], ?_, by simp [Rows], by simp [Value.ownBlock]⟩
    rw [hlen]
    exact World.ownsRow_nil _ _ _ _
  · refine ⟨_, cap, rfl, h1, by simp, hs, cs.take (n * r'.sz), ⟨?_, .inr ⟨k, cap, cur, by rw [hlen], Nat.zero_le _, hg, by omega, h2, h3, ?_⟩⟩, hr.take (Ty.rep_len r') n, hk⟩
    · rw [List.length_take, ho.1, hlen]
      have := Nat.mul_le_mul_right r'.sz hn
      omega
    · rw [hlen, ← h4, List.take_take]
      congr 1
      have := Nat.mul_le_mul_right r'.sz hn
      omega

/-- A part of what is read by all is put. -/
theorem goes_cut (hE : EnOk X E) (K : Okay X S a) (hg : S.g = get A) {T e : TypeId} {r' : Ty} {xs : List r'.den} {x : Operand} {lo hi : Option Operand} {l h : Option Int} {d : Nat} {u : Value} {w : World}
    (he : a.eval x = u) (hw : S.w = w) (ho : o.op = .slice T x lo hi none) (hod : o.dst = some d) (hd : d < X.nt) (hel : isEl E T e = true) (hl : lo.map a.eval = l.map (Value.int .i64)) (hh : hi.map a.eval = h.map (Value.int .i64))
    (h0 : 0 ≤ l.getD 0) (h1 : l.getD 0 ≤ h.getD xs.length) (h2 : h.getD xs.length ≤ xs.length) (hf : ∃ lab, LfOk X.P S lab (.fz e r' xs) u) : Goes X o a w (ups A [⟨d, false, .one (.fz e r' (cutS xs l h))⟩]) := by
  subst hw
  obtain ⟨lab, v, e1, hsz, hsl⟩ := hf
  cases e1
  obtain ⟨ad, cap, cs, e2, _⟩ := id hsl
  rw [e2] at hsl
  obtain ⟨_, hc, hcut⟩ := SlRep.cut (Ty.rep_len r') (l := (l.getD 0).toNat) (h := (h.getD xs.length).toNat) hsl (by omega) (by omega)
  rw [← cutS_eq h2] at hcut
  have hrun := run_slice_sl (w := S.w) (desc_el hel hE.ti) hsz ho (he.trans e2) hl hh hc h0 h1 h2
  have hsv : SvOk X.P S 0 (.one (.fz e r' (cutS xs l h))) _ := ⟨_, rfl, hsz, hcut⟩
  have K2 := K.put0 hd _ _ 0 rfl hsv
  refine goes_value (S := putS S (fun _ _ => none) d _ _) hrun (by rw [hod]; exact K2) ?_
  show upd S.g d _ = _
  rw [get_ups1, ← hg]

theorem seen_alias {y : Lf} {e : TypeId} {r' : Ty} {xs : List r'.den} (hsn : seen A y = .own e r' xs) (hne : ∀ e r (xs : List r.den), y = .own e r xs → False) : ∃ p v, y = .al p v ∧ get A p = (v, .one (.own e r' xs)) := by
  cases y <;> first | (simp only [seen] at hsn; cases hsn; done) | skip
  · simp only [seen] at hsn
    exact (hne _ _ _ rfl).elim
  · rename_i p v
    simp only [seen] at hsn
    split at hsn
    · rename_i n e' r'' xs' hp
      cases hb : Nat.beq n v with
      | false => rw [hb] at hsn; simp at hsn
      | true =>
        rw [hb, cond_true] at hsn
        have : n = v := by simpa using hb
        subst this
        refine ⟨p, n, rfl, ?_⟩
        rw [hp, hsn]
    · rename_i n e' r'' xs' hp
      cases hb : Nat.beq n v <;> rw [hb] at hsn <;> simp at hsn
    · cases hsn

theorem st_slice (hE : EnOk X E) (K : Okay X S a) (hg : S.g = get A) {T : TypeId} {x : Operand} {lo hi : Option Operand} {d : Nat} (ho : o.op = .slice T x lo hi none) (hod : o.dst = some d) (hd : d < X.nt) (h : step E o A Kc = some r) : After X o a S.w A Kc r := by
  unfold step at h
  rw [ho, hod] at h
  simp only at h
  split at h
  · rename_i s l u hs hl hu
    cases hq : isStr E T with
    | false => rw [hq] at h; simp at h
    | true =>
      rw [hq, cond_true] at h
      obtain ⟨hk, h0, h1, h2⟩ := bnds_ok h
      have e1 := (opT_sc hE K hg hs).1
      have hr := run_slice_str (P := X.P) (w := S.w) (desc_str hq hE.ti) ho e1 (intOp_ok hE K hg hl) (intOp_ok hE K hg hu) h0 h1 h2
      refine st_sc K hg hod hd rfl hr ?_
      rw [← hk]
      cases l <;> cases u <;> simp
  · rename_i y l u hy hs hl hu
    have hl := intOp_ok hE K hg hl
    have hu := intOp_ok hE K hg hu
    obtain ⟨pl, hsv⟩ := opT_ex hE K hg hs
    have hlf : LfOk X.P S (.pl pl []) y (a.eval x) := hsv
    split at h
    · rename_i e r' xs e0 r0 xs0 hsn
      have this : Lf.own e r' xs = Lf.own e0 r0 xs0 := hsn
      injection this with i1 i2 i3
      subst i1 i2
      cases i3

      cases hq : isEl E T e with
      | false => rw [hq] at h; simp at h
      | true =>
        rw [hq, cond_true] at h
        have hown : OwnOk X.P S.O S.w (.pl pl []) e r' xs (a.eval x) := hlf
        split at h
        · -- from its beginning
          obtain ⟨hk, h0, h1, h2⟩ := bnds_ok h
          refine ⟨_, hk, ?_⟩
          have hcut : cutS xs none u = xs.take (u.getD xs.length).toNat := by rw [cutS_eq h2]; simp
          rw [hcut]
          simp only [Option.getD_none] at h0 h1
          rcases opT_ok hE K hg hs with ⟨t, rfl, ht, hst, het, hok⟩ | ⟨hnt, y', ey, hy'⟩
          · obtain ⟨K1, g1, _⟩ := detach K t 0
            have hown1 : OwnOk X.P (detS S t 0).O (detS S t 0).w (.tm 0 []) e r' xs (a.eval (.tmp t)) := g1 [] (.own e r' xs) _ hok
            obtain ⟨ad, cap, e1, hc, hspot, hown2⟩ := hown1.take (u.getD xs.length).toNat (by omega)
            have hrun := run_slice_sl (w := S.w) (desc_el hq hE.ti) hown.1 ho e1 hl hu hc (by simp) (by simpa using h1) h2
            have hval : (if cap = ((none : Option Int).getD 0).toNat then ad else ad.map (·.add (((none : Option Int).getD 0).toNat * r'.sz))) = ad := by
              split
              · rfl
              · cases ad <;> simp [Addr.add]
            rw [hval] at hrun
            simp only [Option.getD_none, Int.toNat_zero, Nat.sub_zero] at hrun
            let hf : Nat → List Nat → Option Lab := fun n q => if n = 0 then some (.pl d q) else none
            have L := putS_later (detS S t 0) hf d (.one (.own e r' (xs.take (u.getD xs.length).toNat))) (.slice ad (u.getD xs.length).toNat cap)
            have hso : SvOk X.P (putS (detS S t 0) hf d (.one (.own e r' (xs.take (u.getD xs.length).toNat))) (.slice ad (u.getD xs.length).toNat cap)) d (.one (.own e r' (xs.take (u.getD xs.length).toNat))) (.slice ad (u.getD xs.length).toNat cap) :=
              LfOk.later (P := X.P) (x := .own e r' (xs.take (u.getD xs.length).toNat)) (lab := .tm 0 []) (lab' := .pl d []) L hown2 (fun k hk => ⟨atO_tm hk (by simp [hf]), rfl⟩)
            have K2 := K1.put hd hf (by intro n q p hp; simp only [hf] at hp; split at hp <;> first | (cases hp; exact ⟨q, rfl⟩) | cases hp) _ _ hso
            refine goes_value (S := putS (detS S t 0) hf d _ _) hrun (by rw [hod]; exact K2) ?_
            show upd (detS S t 0).g d _ = _
            rw [show gone (.tmp t) (.one (.own e r' xs)) = [⟨t, false, .one .dead⟩] from rfl, List.singleton_append, show ∀ u1 u2, ups A [u1, u2] = ups (ups A [u1]) [u2] from fun _ _ => rfl, get_ups1, get_ups1, ← hg]
            rfl
          · cases ey
            have hgo : gone x (.one (.own e r' xs)) = [] := by
              unfold gone
              split
              · exact absurd rfl (hnt _)
              · rfl
            rw [hgo, List.nil_append]
            obtain ⟨ad, cap, e1, hc, hspot, hown2⟩ := OwnOk.take (hy' (.pl d [])) (u.getD xs.length).toNat (by omega)
            have hrun := run_slice_sl (w := S.w) (desc_el hq hE.ti) hown.1 ho e1 hl hu hc (by simp) (by simpa using h1) h2
            have hval : (if cap = ((none : Option Int).getD 0).toNat then ad else ad.map (·.add (((none : Option Int).getD 0).toNat * r'.sz))) = ad := by
              split
              · rfl
              · cases ad <;> simp [Addr.add]
            rw [hval] at hrun
            simp only [Option.getD_none, Int.toNat_zero, Nat.sub_zero] at hrun
            have hso : SvOk X.P (putS S (fun _ _ => none) d (.one (.own e r' (xs.take (u.getD xs.length).toNat))) (.slice ad (u.getD xs.length).toNat cap)) d (.one (.own e r' (xs.take (u.getD xs.length).toNat))) (.slice ad (u.getD xs.length).toNat cap) :=
              LfOk.later (P := X.P) (x := .own e r' (xs.take (u.getD xs.length).toNat)) (lab := .pl d []) (lab' := .pl d []) (putS_later S (fun _ _ => none) d _ _) hown2 (fun k hk => ⟨atO_other (h := fun _ _ => none) (o := .pl d []) hk (by simp), rfl⟩)
            have K2 := K.put hd (fun _ _ => none) (by simp) _ _ hso
            refine goes_value (S := putS S (fun _ _ => none) d _ _) hrun (by rw [hod]; exact K2) ?_
            show upd S.g d _ = _
            rw [get_ups1, ← hg]
        · obtain ⟨hk, h0, h1, h2⟩ := bnds_ok h
          refine ⟨_, hk, ?_⟩
          rcases opT_ok hE K hg hs with ⟨t, rfl, ht, hst, het, hok⟩ | ⟨hnt, y', ey, hy'⟩
          · obtain ⟨K1, _, hf⟩ := freeze_ K (p := t) hst.symm
            obtain ⟨K2, g1, _⟩ := detach K1 t 0
            rw [ups_append]
            refine goes_cut (S := detS (frS S t e r' xs) t 0) hE K2 ?_ (u := a.eval (.tmp t)) rfl rfl ho hod hd hq hl hu h0 h1 h2 ⟨.no, ?_⟩
            · show upd (upd S.g t _) t _ = _
              rw [show gone (.tmp t) (.one (.own e r' xs)) = [⟨t, false, .one .dead⟩] from rfl, get_ups1, ← hg]
              funext k
              unfold upd
              split <;> simp [frS]
            · rw [het]
              exact (LfOk.relab (lab' := .tm 5 []) rfl hf).later (lab' := .tm 5 []) (detS_later _ t 0) (fun k hk => ⟨(reO_other (by simp [hk])).trans hk, rfl⟩) |>.relab rfl
          · cases ey
            have hgo : gone x (.one (.own e r' xs)) = [] := by
              unfold gone
              split
              · exact absurd rfl (hnt _)
              · rfl
            rw [hgo, List.nil_append]
            refine goes_cut hE K hg rfl rfl ho hod hd hq hl hu h0 h1 h2 ⟨.no, ?_⟩
            have hown3 : OwnOk X.P S.O S.w .no e r' xs (a.eval x) := hy' .no
            have hown4 : OwnOk X.P S.O S.w .fz e r' xs (a.eval x) := hy' .fz
            exact own_reads hown3 (fun k hk => hk) (hown4.2.choose_spec.2.2)
    · rename_i e r' xs hne hsn
      cases hq : isEl E T e with
      | false => rw [hq] at h; simp at h
      | true =>
        rw [hq, cond_true] at h
        obtain ⟨hk, h0, h1, h2⟩ := bnds_ok h
        refine ⟨_, hk, ?_⟩
        -- what is seen is an alias' place
        have hal := seen_alias hsn (fun e r xs hy => hne e r xs hy)
        obtain ⟨p, v, rfl, hp⟩ := hal
        have he : a.eval x = S.ph p := hlf.2 (by rw [hg, hp])
        have hco : cost A (.al p v) = [⟨p, true, .one (.fz e r' xs)⟩] := by simp [cost, hp]
        obtain ⟨K1, _, hf⟩ := freeze_ K (p := p) (e := e) (r := r') (xs := xs) (by rw [hg, hp])
        rw [hco, ups_append]
        refine goes_cut (S := frS S p e r' xs) hE K1 ?_ (u := S.ph p) he rfl ho hod hd hq hl hu h0 h1 h2 ⟨.no, hf⟩
        show upd S.g p _ = _
        rw [get_keep, ← hg]
    · rename_i e r' xs hsn
      cases hq : isEl E T e with
      | false => rw [hq] at h; simp at h
      | true =>
        rw [hq, cond_true] at h
        obtain ⟨hk, h0, h1, h2⟩ := bnds_ok h
        obtain ⟨lab', hl2⟩ := seen_ok K hg hlf
        rw [hsn] at hl2
        exact ⟨_, hk, goes_cut hE K hg rfl rfl ho hod hd hq hl hu h0 h1 h2 ⟨lab', hl2⟩⟩
    · cases h
  · cases h
end
end Go.Proofs.Ytehkignjdbkeiaa.Vf
