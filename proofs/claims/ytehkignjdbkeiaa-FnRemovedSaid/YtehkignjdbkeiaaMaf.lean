import Derived.Test.YtehkignjdbkeiaaMae
import Derived.Lib.AppendStr
section
/- append; conversions. -/
set_option linter.unusedVariables false
set_option linter.unusedSimpArgs false
namespace Go.Proofs.Ytehkignjdbkeiaa.Vf
open Go
attribute [local irreducible] C H

section
variable {X : Cx} {S S' : Sit} {a : Act} {E : En} {A : Ab} {o : Oper} {R : Type} {Kc : List Up → Option R} {r : R}

/-- What is appended to stays in its block, or goes to a new one. -/
theorem app_new {P : Program} {w : World} {t ty e : TypeId} {i : TypeInfo} {z : Value} {size : Nat} (ht : P.underlying t = some (.slice e)) (hi : P.info? e = some i) (hz : i.zero = some z)
    (hsize : i.size = size) {v : Value} {n : Nat} {xs : List Value} (hown : w.ownsRow 0 e size v n xs)
    {ad : Addr} {m c : Nat} {news : List Value} (hl : news.length = m * size) (hnews : ∀ j u, news[j]? = some u → w.cell? (ad.add j) = some u) (h1 : ∀ u ∈ news, u.oneCell' = true)
    (h63 : n + m ≤ maxLen) (hbytes : (n + m) * i.bytes ≤ 140737488355328) {v' : Value} {w' : World} (hr : (Builtin.append_ #[t, t] ty #[v, .slice (some ad) m c]).run P w = .ok v' w')
    (hnil : v' = .slice none 0 0 ↔ v = .slice none 0 0 ∧ m = 0) : ∀ k, v'.ownBlock = some k → v.ownBlock = some k ∨ w.heap.size ≤ k := by
  subst hsize
  have hsmall : n + m ≤ 9223372036854775807 := by simp only [maxLen] at h63; omega
  intro k hk
  rcases own_nil_or hown with ⟨rfl, hn, rfl⟩ | ⟨k0, cap, cur, rfl, hg, hc1, hc2, hc3, hc4⟩
  · by_cases hm : m = 0
    · rw [hnil.2 ⟨rfl, hm⟩] at hk
      simp [Value.ownBlock] at hk
    · subst hn
      have h2 := run_append_nil (P := P) w t ty e i z ht hi hz ad m c news hl hnews (by omega) (by omega) (by have hb := hbytes; simp only [Nat.zero_add] at hb; omega)
      rw [h2] at hr
      cases hr
      simp only [Value.ownBlock, Option.some.injEq] at hk
      exact .inr (Nat.le_of_eq hk)
  · by_cases hroom : n + m ≤ cap
    · have hfit : n * i.size + news.length ≤ cur.size := by rw [hl, hc3, ← Nat.add_mul]; exact Nat.mul_le_mul_right _ hroom
      have h2 := run_append_room (P := P) w t ty e i ht hi k0 n cap cur hg ad m c news hl hnews h1 hroom hfit
      rw [h2] at hr
      cases hr
      exact .inl hk
    · have holds : ∀ j u, xs[j]? = some u → w.cell? ((⟨k0, 0, none⟩ : Addr).add j) = some u := hown.cells (g := k0) rfl
      have h2 := run_append_grow (P := P) w t ty e i z ht hi hz ⟨k0, 0, none⟩ n cap xs hown.1 holds ad m c news hl hnews (by omega) (by omega) (growslice_fits (by omega) hbytes)
      rw [h2] at hr
      cases hr
      simp only [Value.ownBlock, Option.some.injEq] at hk
      exact .inr (Nat.le_of_eq hk)

theorem app_new_str {P : Program} {w : World} {t u ty e : TypeId} {i : TypeInfo} (ht : P.underlying t = some (.slice e)) (hu : P.underlying u = some .string) (hi : P.info? e = some i) (hz : i.zero = some (.int .u8 0))
    (hsize : i.size = 1) (hby : i.bytes = 1) {v : Value} {n : Nat} {xs : List Value} (hown : w.ownsRow 0 e 1 v n xs) {s : ByteArray}
    (h63 : n + s.size ≤ maxLen) (hbytes : n + s.size ≤ 140737488355328) {v' : Value} {w' : World} (hr : (Builtin.append_ #[t, u] ty #[v, .string s]).run P w = .ok v' w')
    (hnil : v' = .slice none 0 0 ↔ v = .slice none 0 0 ∧ s.size = 0) : ∀ k, v'.ownBlock = some k → v.ownBlock = some k ∨ w.heap.size ≤ k := by
  have hsmall : n + s.size ≤ 9223372036854775807 := by simp only [maxLen] at h63; omega
  intro k hk
  rcases own_nil_or hown with ⟨rfl, hn, rfl⟩ | ⟨k0, cap, cur, rfl, hg, hc1, hc2, hc3, hc4⟩
  · by_cases hm : s.size = 0
    · rw [hnil.2 ⟨rfl, hm⟩] at hk
      simp [Value.ownBlock] at hk
    · subst hn
      have h2 := run_append_nil_string (P := P) w t u ty e i _ ht hu hi hz s (by omega) (by omega) (by rw [hby]; omega)
      rw [h2] at hr
      cases hr
      simp only [Value.ownBlock, Option.some.injEq] at hk
      exact .inr (Nat.le_of_eq hk)
  · by_cases hroom : n + s.size ≤ cap
    · have h2 := Go.Lib.run_append_room_string (P := P) w t u ty e i ht hu hi hsize k0 n cap cur hg s hroom (by rw [hc3]; omega)
      rw [h2] at hr
      cases hr
      exact .inl hk
    · have holds : ∀ j u, xs[j]? = some u → w.cell? ((⟨k0, 0, none⟩ : Addr).add j) = some u := hown.cells (g := k0) rfl
      have h2 := Go.Lib.run_append_grow_string (P := P) w t u ty e i _ ht hu hi hz ⟨k0, 0, none⟩ n cap xs (by rw [hsize]; exact hown.1) holds s (by omega) (by omega) (growslice_fits (by omega) (by rw [hby]; omega))
      rw [h2] at hr
      cases hr
      simp only [Value.ownBlock, Option.some.injEq] at hk
      exact .inr (Nat.le_of_eq hk)

theorem run_append_call {P : Program} {w w' : World} {T T' : TypeId} {x y : Operand} {c : Call} (ho : o.op = .call c) (hc : c.callee = .builtin .append) (hT : c.argTypes.toList = [T, T']) (hx : c.args.toList = [x, y]) {v : Value}
    (hr : (Builtin.append_ #[T, T'] o.type #[a.eval x, a.eval y]).run P w = .ok v w') : (execOp a.eval o).run P w = .ok (.value v) w' := by
  have e1 : c.args = #[x, y] := by rw [← hx]
  have e2 : c.argTypes = #[T, T'] := by rw [← hT]
  unfold execOp
  simp [ho, resolve, hc, e1, e2, invoke, builtin, hr]

/-- What is appended to, given up. -/
theorem app_take (hE : EnOk X E) (K : Okay X S a) (hg : S.g = get A) {T : TypeId} {x : Operand} {u : Lf} {e : TypeId} {r' : Ty} {xs : List r'.den} (hs : opT E T A x = some (.one u)) (hu : seen A u = .own e r' xs) :
    ∃ S1, Okay X S1 a ∧ S1.g = get (ups A (took u x)) ∧ S1.w = S.w ∧ Later S S1 ∧ OwnOk X.P S1.O S1.w (.tm 0 []) e r' xs (a.eval x) ∧ (∀ n q z v, LfOk X.P S (.tm n q) z v → LfOk X.P S1 (.tm n q) z v) ∧ S1.bb = S.bb ∧ S1.ph = S.ph ∧ (∀ b n, (S.g (H b)).2 = .one (.hd n) → S1.g (H b) = S.g (H b)) := by
  obtain ⟨l, hl⟩ := opT_ex hE K hg hs
  have hlf : LfOk X.P S (.pl l []) u (a.eval x) := hl
  by_cases hal : ∃ p v, u = .al p v
  · obtain ⟨p, v, rfl⟩ := hal
    obtain ⟨p', v', e1, hp⟩ := seen_alias hu (by intro e r xs h; cases h)
    cases e1
    obtain ⟨K1, g1, g2⟩ := detach K p 0
    have he : a.eval x = S.ph p := hlf.2 (by rw [hg, hp])
    refine ⟨_, K1, ?_, rfl, detS_later S p 0, ?_, g2, rfl, rfl, fun b n hn => upd_ne _ _ (fun e1 => by rw [e1, hg, hp] at hn; cases hn)⟩
    · show upd S.g p _ = _
      rw [show took (.al p v) x = [⟨p, false, .one .dead⟩] from rfl, get_ups1, ← hg]
    · have := K.at_ p
      rw [hg, hp] at this
      rw [he]
      exact g1 [] (.own e r' xs) _ this
  · have hne : ∀ p v, u = .al p v → False := fun p v h => hal ⟨p, v, h⟩
    have hu' := seen_own hu hne
    subst hu'
    rcases opT_ok hE K hg hs with ⟨t, rfl, ht, hst, het, hok⟩ | ⟨hnt, y', ey, hy'⟩
    · obtain ⟨K1, g1, g2⟩ := detach K t 0
      refine ⟨_, K1, ?_, rfl, detS_later S t 0, g1 [] (.own e r' xs) _ hok, g2, rfl, rfl, fun b n hn => upd_ne _ _ (fun e1 => by rw [e1, ← hst] at hn; cases hn)⟩
      show upd S.g t _ = _
      rw [show took (.own e r' xs) (.tmp t) = [⟨t, false, .one .dead⟩] from rfl, get_ups1, ← hg]
    · cases ey
      refine ⟨S, K, ?_, rfl, .refl S, hy' (.tm 0 []), fun _ _ _ _ h => h, rfl, rfl, fun _ _ _ => rfl⟩
      cases x <;> first | exact hg | exact absurd rfl (hnt _)

/-- What is appended: its cells. -/
theorem src_fz {lab : Lab} {e' : TypeId} {r' : Ty} {ys : List r'.den} {u : Value} (h : LfOk X.P S lab (.fz e' r' ys) u) :
    ∃ ad cap cs, u = .slice ad ys.length cap ∧ Rows (fun x c => r'.rep X.P (fun k => S.O k = .fz) S.w x c) ys cs ∧ (ys ≠ [] → ∃ k o, ad = some ⟨k, o, none⟩ ∧ CellsAt S.w k o cs) := by
  obtain ⟨v, e1, _, ad, cap, cs, e2, _, hrows, hne⟩ := h
  cases e1
  refine ⟨ad, cap, cs, e2, hrows, fun hn => ?_⟩
  obtain ⟨k, o', e3, _, e4⟩ := hne hn
  exact ⟨k, o', e3, e4⟩

theorem src_own {lab : Lab} {e' : TypeId} {r' : Ty} {ys : List r'.den} {u : Value} (hno : noOw r' = true) (h : OwnOk X.P S.O S.w lab e' r' ys u) :
    ∃ ad cap cs, u = .slice ad ys.length cap ∧ Rows (fun x c => r'.rep X.P (fun k => S.O k = .fz) S.w x c) ys cs ∧ (ys ≠ [] → ∃ k o, ad = some ⟨k, o, none⟩ ∧ CellsAt S.w k o cs) := by
  obtain ⟨_, cs, hrow, hrows, _⟩ := (OwnOk.flat hno).1 h
  rcases own_nil_or hrow with ⟨e1, e2, rfl⟩ | ⟨k, cap, cur, e1, hc, _, _, _, ht⟩
  · refine ⟨none, 0, [], by rw [e1, e2], hrows, fun hn => absurd (List.eq_nil_of_length_eq_zero e2) hn⟩
  · exact ⟨_, cap, cs, e1, hrows, fun _ => ⟨k, 0, rfl, cells_of_row hc ht⟩⟩

theorem src_da {p v : Nat} {pi : Option (List (Int × Nat))} {e' : TypeId} {r' : Ty} {ys : List r'.den} {u : Value} (hno : noOw r' = true) (hv : (S.g p).1 = v) (h : DaOk X.P S p v pi e' r' ys u) :
    ∃ ad cap cs, u = .slice ad ys.length cap ∧ Rows (fun x c => r'.rep X.P (fun k => S.O k = .fz) S.w x c) ys cs ∧ (ys ≠ [] → ∃ k o, ad = some ⟨k, o, none⟩ ∧ CellsAt S.w k o cs) := by
  obtain ⟨_, _, h2⟩ := h
  obtain ⟨_, ⟨_, ad, cap, cs, bs, e1, _, hrows, _, hne⟩, _⟩ := h2 hv
  refine ⟨ad, cap, cs, e1, ((DRows.flat (fun x c b => Ty.dep_flat r' x c b hno)).1 hrows).1, fun hn => ?_⟩
  obtain ⟨k, o', e3, _, e4⟩ := hne hn
  exact ⟨k, o', e3, e4⟩

theorem src_ok (K : Okay X S a) (hg : S.g = get A) {lab : Lab} {x : Lf} {e' : TypeId} {r' : Ty} {ys : List r'.den} {u : Value} (h : LfOk X.P S lab x u) (hs : srcOf A x = some ⟨e', r', ys⟩) :
    ∃ ad cap cs, u = .slice ad ys.length cap ∧ Rows (fun x c => r'.rep X.P (fun k => S.O k = .fz) S.w x c) ys cs ∧ (ys ≠ [] → ∃ k o, ad = some ⟨k, o, none⟩ ∧ CellsAt S.w k o cs) := by
  unfold srcOf at hs
  split at hs
  · rename_i p v pi e r xs
    cases hq : (Nat.beq (get A p).1 v && noOw r) with
    | false => rw [hq] at hs; simp at hs
    | true =>
      rw [hq] at hs
      simp only [cond_true, Option.some.injEq, Sl.mk.injEq] at hs
      obtain ⟨rfl, rfl, h3⟩ := hs
      cases h3
      simp only [Bool.and_eq_true] at hq
      exact src_da hq.2 (by rw [hg]; exact Nat.eq_of_beq_eq_true hq.1) h
  · obtain ⟨lab', h'⟩ := seen_ok K hg h
    split at hs
    · rename_i e r xs hsn
      rw [hsn] at h'
      simp only [Option.some.injEq, Sl.mk.injEq] at hs
      obtain ⟨rfl, rfl, h3⟩ := hs
      cases h3
      exact src_fz h'
    · rename_i e r xs hsn
      rw [hsn] at h'
      cases hq : noOw r with
      | false => rw [hq] at hs; simp at hs
      | true =>
        rw [hq] at hs
        simp only [cond_true, Option.some.injEq, Sl.mk.injEq] at hs
        obtain ⟨rfl, rfl, h3⟩ := hs
        cases h3
        exact src_own hq h'
    · cases hs

theorem tok_full {P : Program} {T : TypeId} {t : TI} (w : World) (h : TOk P T t) : ∃ i z, P.info? T = some i ∧ i.zero = some z ∧ i.size = t.ty.sz ∧ i.bytes = t.by_ ∧ z.cells = (zcells t.ty).toArray ∧ (t.ag = false → zcells t.ty = [z]) := by
  obtain ⟨i, i1, i2, i3, i4, i5⟩ := h.info
  obtain ⟨z, z1, z2, z3⟩ := tok_zero (w := w) h
  have iz : i.zero = some z := by
    simp only [zeroValue, typeInfo, Sem.run_bind, run_program, Result.andThen_ok, i1, Sem.run_pure] at z1
    rw [i4] at z1 ⊢
    simp only [Sem.run_pure, Result.ok.injEq, and_true] at z1
    rw [z1]
  exact ⟨i, z, i1, iz, i2, i3, z2, fun ha => by rw [ha] at z3; simpa using z3⟩

theorem rows_bytes {P : Program} {G : Nat → Prop} {w : World} : ∀ l : List UInt8, Rows (fun x c => Ty.rep P G w (.i .u8) x c) (l.map fun b => (b.toNat : Int)) (l.map fun b => Value.int .u8 b.toNat)
  | [] => rfl
  | b :: l => ⟨[_], _, rfl, rfl, rows_bytes l⟩

/-- The run of an append. -/
theorem app_run {P : Program} {w : World} {T ty e : TypeId} {te : TI} {sz : Nat} (hu : P.underlying T = some (.slice e)) (hek : TOk P e te) (hsz : SzOk P e sz) {v u : Value} {n m cap : Nat} {cs ds : List Value} {ad : Option Addr} (hrow : w.ownsRow 0 e sz v n cs) (ev : u = .slice ad m cap)
    (hdl : ds.length = m * sz) (hdone : ∀ u ∈ ds, u.oneCell' = true) (hne : m ≠ 0 → ∃ k o, ad = some ⟨k, o, none⟩ ∧ CellsAt w k o ds) (hle : (n + m) * te.by_ ≤ 140737488355328) (hpos : 0 < sz) :
    ∃ v' w', (Builtin.append_ #[T, T] ty #[v, u]).run P w = .ok v' w' ∧ w'.ownsRow 0 e sz v' (n + m) (cs ++ ds) ∧ w.grownBy w' v.ownBlock ∧ ∀ k, v'.ownBlock = some k → v.ownBlock = some k ∨ w.heap.size ≤ k := by
  obtain ⟨i, z, i1, iz, i2, i3, z2, _⟩ := tok_full w hek
  have hsize : i.size = sz := by
    have := hsz
    unfold SzOk at this
    rw [i1] at this
    simpa using this
  have h63 : n + m ≤ maxLen := by
    have h1 := hek.by0
    have h2 : (n + m) * 1 ≤ (n + m) * te.by_ := Nat.mul_le_mul_left _ h1
    simp only [maxLen]; omega
  subst ev
  cases ad with
  | none =>
    have hm0 : m = 0 := by
      by_cases hm : m = 0
      · exact hm
      · obtain ⟨k, o', e1, _⟩ := hne hm
        cases e1
    subst hm0
    have hd0 : ds = [] := List.eq_nil_of_length_eq_zero (by simpa using hdl)
    subst hd0
    have hcap : (Builtin.append_ #[T, T] ty #[v, .slice none 0 cap]).run P w = .ok v w := by
      rcases own_nil_or hrow with ⟨e1, _⟩ | ⟨k, cap', cur, e1, _, hle', _⟩
      · rw [e1]; simp [Builtin.append_, run_underlying hu, sizeOf, typeInfo, i1, Builtin.lenOf, Builtin.firstCells]
      · rw [e1]; simp [Builtin.append_, run_underlying hu, sizeOf, typeInfo, i1, Builtin.lenOf, Builtin.firstCells, hle', storeCells]
    refine ⟨_, _, hcap, by simpa using hrow, ⟨rfl, rfl, rfl, Nat.le_refl _, fun _ _ _ => rfl⟩, fun k hk => .inl hk⟩
  | some ad =>
    have hnews : ∀ j u, ds[j]? = some u → w.cell? (ad.add j) = some u := by
      intro j u hj
      have hm : m ≠ 0 := by
        intro e1
        subst e1
        have : ds = [] := List.eq_nil_of_length_eq_zero (by simpa using hdl)
        subst this
        simp at hj
      obtain ⟨k, o', e1, e2⟩ := hne hm
      cases e1
      rw [add_none]
      exact e2 j u hj
    obtain ⟨v', w', hr, ho', hgr, hnil⟩ := run_append_own (P := P) w 0 T ty e i z sz te.by_ hu i1 iz hsize i3 (by rw [z2, List.size_toArray, zcells_len, ← i2, hsize]) hpos v n cs hrow ad m cap ds hdl hnews hdone h63 hle (Nat.zero_le _)
    exact ⟨v', w', hr, ho', hgr, app_new hu i1 iz hsize hrow hdl hnews hdone h63 (by rw [i3]; exact hle) hr hnil⟩

theorem dep_one {P : Program} {G : Nat → Prop} {w : World} (t : Ty) (x : t.den) (c : List Value) (b : List Nat) (h : t.dep P G w x c b) : ∀ u ∈ c, u.oneCell' = true :=
  rep_one (G := fun k => G k ∨ k ∈ b) t x c (Ty.dep_rep (fun _ h => .inl h) t x c b (fun _ h => .inr h) h)

theorem st_append (hE : EnOk X E) (K : Okay X S a) (hg : S.g = get A) {c : Call} (ho : o.op = .call c) (hc : c.callee = .builtin .append) (hd : ∀ d, o.dst = some d → d < X.nt) (h : step E o A Kc = some r) : After X o a S.w A Kc r := by
  unfold step at h
  rw [ho] at h
  simp only [hc] at h
  split at h
  · rename_i T T' x y d hT hx hod
    have hdl := hd d hod
    split at h
    · rename_i u w hsu hsw
      split at h
      · rename_i e r' xs hsu'
        obtain ⟨S1, K1, g1, w1, L1, hown, tms, _⟩ := app_take hE K hg hsu hsu'
        split at h
        · -- all that is in it is owned
          rename_i r2 _
          split at h
          · rename_i w2 hsw2
            split at h
            · rename_i e' r3 ys xs2 te hsn hcx hte
              split at h
              · rename_i ys2 hcy
                cases hq : (allOw r2 && Nat.beq e e' && isEl E T e && Nat.beq T T') with
                | false => rw [hq] at h; simp at h
                | true =>
                  rw [hq, cond_true] at h
                  cases hq2 : Nat.ble ((xs2.length + ys2.length) * te.by_) 140737488355328 with
                  | false => rw [hq2] at h; simp at h
                  | true =>
                    rw [hq2, cond_true] at h
                    simp only [Bool.and_eq_true] at hq
                    obtain ⟨⟨⟨q0, q1⟩, q2⟩, q3⟩ := hq
                    have he : e = e' := Nat.eq_of_beq_eq_true q1
                    have hTT : T = T' := Nat.eq_of_beq_eq_true q3
                    subst he hTT
                    have hle : (xs2.length + ys2.length) * te.by_ ≤ 140737488355328 := Nat.le_of_ble_eq_true hq2
                    -- the one that is appended to has the name 1, what is appended the name 0
                    obtain ⟨K2, L2⟩ := K1.names (fun n _ => if n = 0 then some (.tm 1 []) else none) (by intro n q; split <;> simp)
                    have hown2 : LfOk X.P { S1 with O := atO S1.O (fun n _ => if n = 0 then some (.tm 1 []) else none) } (.tm 1 []) (.own e r' xs) (a.eval x) :=
                      LfOk.later (P := X.P) (x := .own e r' xs) (lab := .tm 0 []) (lab' := .tm 1 []) L2 hown (fun k hk => ⟨atO_tm hk (by simp), rfl⟩)
                    obtain ⟨S3, K3, g3, w3, L3, hsrc, tms3, _⟩ := app_take hE K2 (by show S1.g = _; exact g1) hsw2 hsn
                    have hown3 : OwnOk X.P S3.O S3.w (.tm 1 []) e r' xs (a.eval x) := tms3 1 [] (.own e r' xs) _ hown2
                    have hown4 := hown3.cast hcx
                    have hsrc2 := hsrc.cast hcy
                    obtain ⟨bx, ⟨vx, cx, b1, ex, hszx, hrowx, hrowsx, ebx⟩, hnx, hbx⟩ := hown4
                    obtain ⟨by_, ⟨vy, cy, b2, ey, hszy, hrowy, hrowsy, eby⟩, hny, hby⟩ := hsrc2
                    simp only [List.cons.injEq, and_true] at ex ey
                    subst ex ey ebx eby
                    have hu := desc_el q2 hE.ti
                    have hek := hE.ti _ _ hte
                    have hshape : ∃ ad cap, a.eval y = .slice ad ys2.length cap ∧ (ys2.length ≠ 0 → ∃ k o, ad = some ⟨k, o, none⟩ ∧ CellsAt S3.w k o cy) := by
                      rcases own_nil_or hrowy with ⟨e1, e2, _⟩ | ⟨k, cap, cur, e1, hc, _, _, _, ht⟩
                      · exact ⟨none, 0, by rw [e1, e2], fun h => absurd e2 h⟩
                      · exact ⟨_, cap, e1, fun _ => ⟨k, 0, rfl, cells_of_row hc ht⟩⟩
                    obtain ⟨ad, cap, ev, hne⟩ := hshape
                    have hdone : ∀ u ∈ cy, u.oneCell' = true := (hrowsy.rows (R' := fun _ c => ∀ u ∈ c, u.oneCell' = true) (fun x c b _ h => dep_one r2 x c b h)).all (fun _ _ h => h)
                    obtain ⟨v', w', hr, ho', hgr, hnew⟩ := app_run (ty := o.type) hu hek hszx hrowx ev (hrowsy.len (Ty.dep_len r2)) hdone hne hle (sz_pos r2)
                    rw [← List.length_append] at ho'
                    -- all names are one
                    obtain ⟨K4, L4⟩ := K3.names (fun n _ => if n = 1 then some (.tm 0 [1]) else none) (by intro n q; split <;> simp)
                    have h1 : ∀ k ∈ (a.eval x).ownBlock.toList ++ b1, atO S3.O (fun n _ => if n = 1 then some (.tm 0 [1]) else none) k = .tm 0 [1] := fun k hk => atO_tm (hbx k hk) (by simp)
                    have h0 : ∀ k ∈ (a.eval y).ownBlock.toList ++ b2, atO S3.O (fun n _ => if n = 1 then some (.tm 0 [1]) else none) k = .tm 0 [] := fun k hk => atO_keep (hby k hk) (by simp)
                    have hvx : ∀ k, (a.eval x).ownBlock = some k → k ∈ (a.eval x).ownBlock.toList ++ b1 := fun k hk => by rw [hk]; simp
                    rw [List.nodup_append] at hnx hny
                    have hnb : (b1 ++ b2).Nodup := by
                      rw [List.nodup_append]
                      refine ⟨hnx.2.1, hny.2.1, fun k hk k' hk' e9 => ?_⟩
                      subst e9
                      have e5 := h1 k (List.mem_append_right _ hk)
                      rw [h0 k (List.mem_append_right _ hk')] at e5
                      cases e5
                    obtain ⟨S', K', ew, g'⟩ := put_newD K4 (A1 := ups (ups A (took u x)) (took w2 y)) (by show S3.g = _; exact g3) hdl (w' := w') (row := (a.eval x).ownBlock) (e := e) (r' := r2) (xs := xs2 ++ ys2) (v := v') (cs := cx ++ cy) (b2 := b1 ++ b2) hgr
                      (fun k hk => ⟨0, [1], h1 k (hvx k hk)⟩) hszx ho' ((hrowsx.append hrowsy).mono (fun x c b _ h => Ty.dep_mono (fun k hk => (L4.fz k hk).1) (fun _ _ => rfl) r2 x c b (fun _ _ => rfl) h)) hnb
                      (fun k hk => by
                        rcases List.mem_append.1 hk with hk | hk
                        · exact ⟨_, h1 k (List.mem_append_right _ hk)⟩
                        · exact ⟨_, h0 k (List.mem_append_right _ hk)⟩)
                      (fun k hk => by
                        have hnr : (a.eval x).ownBlock ≠ some k := fun e9 => by
                          rcases List.mem_append.1 hk with hk | hk
                          · exact hnx.2.2 k (by rw [e9]; simp) k hk rfl
                          · have e5 := h1 k (hvx k e9)
                            rw [h0 k (List.mem_append_right _ hk)] at e5
                            cases e5
                        refine ⟨hnr, fun e9 => ?_⟩
                        rcases hnew k e9 with h9 | h9
                        · exact hnr h9
                        · have hlt : k < S3.w.heap.size := K4.lt k (by
                            rcases List.mem_append.1 hk with hk | hk
                            · show atO S3.O _ k ≠ _
                              rw [h1 k (List.mem_append_right _ hk)]; simp
                            · show atO S3.O _ k ≠ _
                              rw [h0 k (List.mem_append_right _ hk)]; simp)
                          omega) hnew
                    rw [← ups_append, ← ups_append] at g'
                    have hw3 : S3.w = S.w := w3.trans w1
                    exact ⟨_, h, goes_value (S := S') (v := v') (by rw [ew, ← hw3]; exact run_append_call ho hc hT hx hr) (by rw [hod]; exact K') g'⟩
              · cases h
            · cases h
          · cases h
        · cases hno : noOw r' with
          | false => rw [hno] at h; simp at h
          | true =>
          rw [hno, cond_true] at h
          obtain ⟨hsz, cs, hrow, hrows, hlab⟩ := (OwnOk.flat hno).1 hown
          obtain ⟨lw, hlw⟩ := opT_ex hE K hg hsw
          have hlw' : LfOk X.P S (.pl lw []) w (a.eval y) := hlw
          split at h
          · rename_i e' r'' ys hasl
            split at h
            · rename_i ys' te hcast hte
              cases hq : (Nat.beq e e' && isEl E T e && Nat.beq T T') with
              | false => rw [hq] at h; simp at h
              | true =>
                rw [hq, cond_true] at h
                cases hq2 : Nat.ble ((xs.length + ys'.length) * te.by_) 140737488355328 with
                | false => rw [hq2] at h; simp at h
                | true =>
                  rw [hq2, cond_true] at h
                  simp only [Bool.and_eq_true] at hq
                  obtain ⟨⟨q1, q2⟩, q3⟩ := hq
                  have he : e = e' := Nat.eq_of_beq_eq_true q1
                  have hTT : T = T' := Nat.eq_of_beq_eq_true q3
                  subst he hTT
                  have hle : (xs.length + ys'.length) * te.by_ ≤ 140737488355328 := Nat.le_of_ble_eq_true hq2
                  have hu := desc_el q2 hE.ti
                  have hek := hE.ti _ _ hte
                  obtain ⟨ad, cap, ds, ev, hdrows0, hne0⟩ := src_ok K hg hlw' hasl
                  obtain ⟨hdrows, hylen⟩ := castL_rows hcast hdrows0
                  have hdl2 := hdrows.len (Ty.rep_len r')
                  have hdone : ∀ u ∈ ds, u.oneCell' = true := hdrows.all (rep_one r')
                  have hdrows1 : Rows (fun x c => r'.rep X.P (fun k => S1.O k = .fz) S1.w x c) ys' ds := hdrows.mono (fun x c => Ty.rep_mono (fun k hk => (L1.fz k hk).1) (fun k hk => (L1.fz k hk).2) r' x c)
                  obtain ⟨v', w', hr, ho', hgr, hnew⟩ := app_run (ty := o.type) (w := S1.w) (u := a.eval y) (ad := ad) (cap := cap) hu hek hsz hrow (by rw [ev, hylen]) hdl2 hdone (fun hm => by
                    obtain ⟨k, o', e1, e2⟩ := hne0 (fun e3 => hm (by rw [hylen, e3, List.length_nil]))
                    exact ⟨k, o', e1, by rw [w1]; exact e2⟩) hle (sz_pos r')
                  rw [← List.length_append] at ho'
                  obtain ⟨S', K', ew, g'⟩ := put_new K1 g1 hdl hno hgr (fun k hk => ⟨0, [], hlab k hk⟩) hsz ho' (hrows.append hdrows1) hnew
                  rw [← ups_append] at g'
                  exact ⟨_, h, goes_value (S := S') (v := v') (by rw [ew, ← w1]; exact run_append_call ho hc hT hx hr) (by rw [hod]; exact K') g'⟩
            · cases h
          · split at h
            · rename_i s _
              split at h
              · rename_i ys fo hcast hte
                cases hq : (isEl E T e && isStr E T' && Nat.ble ((xs.length + s.size) * 1) 140737488355328) with
                | false => rw [hq] at h; simp at h
                | true =>
                  rw [hq, cond_true] at h
                  simp only [Bool.and_eq_true] at hq
                  obtain ⟨⟨q2, q3⟩, q4⟩ := hq
                  have hle : (xs.length + s.size) * 1 ≤ 140737488355328 := Nat.le_of_ble_eq_true q4
                  rw [Nat.mul_one] at hle
                  have hu := desc_el q2 hE.ti
                  have hus := desc_str q3 hE.ti
                  have hek := hE.ti _ _ hte
                  have ev : a.eval y = .string s := hlw'.1
                  obtain ⟨i, z, i1, iz, i2, i3, _, z3⟩ := tok_full S.w hek
                  have hz : z = .int .u8 0 := by
                    have := z3 rfl
                    simp only [zcells, List.cons.injEq, and_true] at this
                    exact this.symm
                  subst hz
                  have h63 : xs.length + s.size ≤ maxLen := by simp only [maxLen]; omega
                  have hsz1 : r'.sz = 1 := by
                    have := hsz
                    unfold SzOk at this
                    rw [i1] at this
                    simp only [Option.map_some, Option.some.injEq] at this
                    rw [← this]
                    exact i2
                  rw [hsz1] at hrow
                  obtain ⟨v', w', hr, ho', hgr, hnil⟩ := Go.Lib.run_append_own_string (P := X.P) S1.w 0 T T' o.type e i hu hus i1 iz i2 i3 (a.eval x) xs.length cs hrow s h63 hle (Nat.zero_le _)
                  have hbl : (bytesOf s).length = s.size := by simp [bytesOf]
                  have hnew := app_new_str hu hus i1 iz i2 i3 hrow h63 hle hr hnil
                  obtain ⟨hrows2, hl2⟩ := castL_rows (P := X.P) (G := fun k => S1.O k = .fz) (w := S1.w) hcast (rows_bytes s.data.toList)
                  have hlen2 : xs.length + s.size = (xs ++ ys).length := by rw [List.length_append, hl2, hbl]
                  rw [hlen2, ← hsz1] at ho'
                  obtain ⟨S', K', ew, g'⟩ := put_new K1 g1 hdl hno hgr (fun k hk => ⟨0, [], hlab k hk⟩) hsz ho' (hrows.append hrows2) hnew
                  rw [← ups_append] at g'
                  exact ⟨_, h, goes_value (S := S') (v := v') (by rw [ew, ← w1]; exact run_append_call ho hc hT hx (by rw [ev]; exact hr)) (by rw [hod]; exact K') g'⟩
              · cases h
            · cases h
      · cases h
    · cases h
  · cases h

/-! ### Conversions -/
theorem run_convert {P : Program} {w w' : World} {T T' : TypeId} {x : Operand} {u v : Value} (ho : o.op = .convert T T' x) (he : a.eval x = u) (hr : (convert T T' u).run P w = .ok v w') : (execOp a.eval o).run P w = .ok (.value v) w' := by
  unfold execOp
  simp [ho, he, hr]

theorem desc_int {P : Program} {T : TypeId} {k : IntKind} {by_ : Nat} {fo : List (Nat × Nat × Bool)} (h : TOk P T ⟨.i k, false, by_, fo⟩) : P.underlying T = some (.int k) := by
  have := h.desc
  unfold descB at this
  split at this <;> simp_all
theorem desc_str' {P : Program} {T : TypeId} {by_ : Nat} {fo : List (Nat × Nat × Bool)} (h : TOk P T ⟨.s, false, by_, fo⟩) : P.underlying T = some .string := by
  have := h.desc
  unfold descB at this
  split at this <;> simp_all
theorem desc_bytes {P : Program} {T e : TypeId} {by_ : Nat} {fo : List (Nat × Nat × Bool)} (h : TOk P T ⟨.sl e (.i .u8), false, by_, fo⟩) : P.underlying T = some (.slice e) ∧ P.underlying e = some (.int .u8) := by
  have hu : P.underlying T = some (.slice e) := by
    have := h.desc
    unfold descB at this
    split at this <;> simp_all
  refine ⟨hu, ?_⟩
  have := h.desc
  rw [hu] at this
  simp only [descB, elemB, Bool.and_eq_true] at this
  obtain ⟨_, h2⟩ := this
  split at h2
  · rename_i k' hk
    simp at h2
    rw [hk, ← h2]
  · cases h2

theorem rows_ints {P : Program} {G : Nat → Prop} {w : World} : ∀ (xs : List Int) (cs : List Value), Rows (fun x c => Ty.rep P G w (.i .u8) x c) xs cs → cs = xs.map (Value.int .u8)
  | [], _, h => h
  | x :: xs, _, ⟨c, d, e, h1, h2⟩ => by
    have h1' : c = [.int .u8 x] := h1
    rw [e, h1', rows_ints xs d h2]
    rfl

theorem run_bytes_str {P : Program} {w : World} {T T' e : TypeId} {xs : List Int} {ad : Option Addr} {cap : Nat} {cs : List Value} (hT : P.underlying T = some (.slice e)) (he : P.underlying e = some (.int .u8)) (hT' : P.underlying T' = some .string)
    (hcs : cs = xs.map (Value.int .u8)) (hne : xs ≠ [] → ∃ k o, ad = some ⟨k, o, none⟩ ∧ CellsAt w k o cs) : (convert T T' (.slice ad xs.length cap)).run P w = .ok (.string (strOf xs)) w := by
  rw [run_convert_bytes_string w T T' e ad xs.length cap hT he hT']
  cases ad with
  | none =>
    have : xs = [] := by
      by_cases hx : xs = []
      · exact hx
      · obtain ⟨k, o', e1, _⟩ := hne hx
        cases e1
    subst this
    simp [Conv.bytesToString, strOf]
    rfl
  | some ad =>
    have hl : (loadCells ad xs.length).run P w = .ok (xs.map (Value.int .u8)).toArray w := by
      by_cases hx : xs = []
      · subst hx
        rfl
      · obtain ⟨k, o', e1, e2⟩ := hne hx
        cases e1
        have := run_loadCells_list (P := P) w ⟨k, o', none⟩ cs (fun j v hj => by rw [add_none]; exact e2 j v hj)
        rw [hcs] at this
        simpa using this
    rw [run_bytesToString w _ xs.length cap xs hl, foldl_push_bytes]
    simp [strOf, ByteArray.empty, ByteArray.emptyWithCapacity]
    rfl

/-- What a leaf reads as. -/
theorem view_ok (K : Okay X S a) (hg : S.g = get A) {lab : Lab} {y : Lf} {u : Value} (h : LfOk X.P S lab y u) :
    (∃ lab', LfOk X.P S lab' (view A y) u) ∨ ∃ p v pi e r, ∃ xs : List (Ty.den r), y = .da p v pi e r xs ∧ (S.g p).1 = v ∧ view A y = .fz e r xs := by
  unfold view
  split
  · rename_i p v pi e r xs
    cases hq : Nat.beq (get A p).1 v with
    | false => exact .inl ⟨lab, trivial⟩
    | true => exact .inr ⟨p, v, pi, e, r, xs, rfl, by rw [hg]; exact Nat.eq_of_beq_eq_true hq, rfl⟩
  · exact .inl (seen_ok K hg h)

theorem st_convert (hE : EnOk X E) (K : Okay X S a) (hg : S.g = get A) {T T' : TypeId} {x : Operand} {d : Nat} (ho : o.op = .convert T T' x) (hod : o.dst = some d) (hd : d < X.nt) (h : step E o A Kc = some r) : After X o a S.w A Kc r := by
  unfold step at h
  rw [ho, hod] at h
  simp only at h
  split at h
  · rename_i y hs
    obtain ⟨l, hl⟩ := opT_ex hE K hg hs
    rcases view_ok K hg (show LfOk X.P S (.pl l []) y (a.eval x) from hl) with ⟨lab', hl'⟩ | ⟨p, v, pi, e, r0, xs, rfl, hv, hvw⟩
    rotate_left 1
    · rw [hvw] at h
      unfold conv at h
      split at h
      · rename_i hy; simp at hy
      · rename_i hy; simp at hy
      · rename_i e0 b0 f0 b f e' xs' hT hT' hy
        cases hq : Nat.beq e0 e' with
        | false => rw [hq] at h; simp at h
        | true =>
          rw [hq, cond_true] at h
          simp only [Sv.one.injEq] at hy
          cases hy
          obtain ⟨ad, cap, cs, e1, hrows, hne⟩ := src_da rfl hv hl
          obtain ⟨u1, u2⟩ := desc_bytes (hE.ti _ _ hT)
          exact st_sc K hg hod hd rfl (run_convert ho e1 (run_bytes_str u1 u2 (desc_str' (hE.ti _ _ hT')) (rows_ints _ _ hrows) hne)) h
      · rename_i hy; simp at hy
      · rename_i hy; simp at hy
      · cases h
    unfold conv at h
    split at h
    · rename_i k0 b0 f0 k b f k1 n hT hT' hy
      simp only [Sv.one.injEq] at hy
      rw [hy] at hl'
      have e1 : a.eval x = .int k1 n := hl'.1
      refine st_sc K hg hod hd rfl (run_convert ho e1 ?_) h
      simp [convert, run_underlying (desc_int (hE.ti _ _ hT)), run_underlying (desc_int (hE.ti _ _ hT')), Conv.intToInt]
    · rename_i b0 f0 b f s hT hT' hy
      simp only [Sv.one.injEq] at hy
      rw [hy] at hl'
      have e1 : a.eval x = .string s := hl'.1
      refine st_sc K hg hod hd rfl (run_convert ho e1 ?_) h
      simp [convert, run_underlying (desc_str' (hE.ti _ _ hT)), run_underlying (desc_str' (hE.ti _ _ hT'))]
    · rename_i e b0 f0 b f e' xs hT hT' hy
      cases hq : Nat.beq e e' with
      | false => rw [hq] at h; simp at h
      | true =>
        rw [hq, cond_true] at h
        simp only [Sv.one.injEq] at hy
        rw [hy] at hl'
        obtain ⟨ad, cap, cs, e1, hrows, hne⟩ := src_fz hl'
        obtain ⟨u1, u2⟩ := desc_bytes (hE.ti _ _ hT)
        exact st_sc K hg hod hd rfl (run_convert ho e1 (run_bytes_str u1 u2 (desc_str' (hE.ti _ _ hT')) (rows_ints _ _ hrows) hne)) h
    · rename_i e b0 f0 b f e' xs hT hT' hy
      cases hq : Nat.beq e e' with
      | false => rw [hq] at h; simp at h
      | true =>
        rw [hq, cond_true] at h
        simp only [Sv.one.injEq] at hy
        rw [hy] at hl'
        obtain ⟨ad, cap, cs, e1, hrows, hne⟩ := src_own rfl hl'
        obtain ⟨u1, u2⟩ := desc_bytes (hE.ti _ _ hT)
        exact st_sc K hg hod hd rfl (run_convert ho e1 (run_bytes_str u1 u2 (desc_str' (hE.ti _ _ hT')) (rows_ints _ _ hrows) hne)) h
    · rename_i b0 f0 e b f s hT hT' hy
      cases hq : Nat.ble s.size 140737488355328 with
      | false => rw [hq] at h; simp at h
      | true =>
        rw [hq, cond_true] at h
        simp only [Sv.one.injEq] at hy
        rw [hy] at hl'
        have e1 : a.eval x = .string s := hl'.1
        obtain ⟨u1, u2⟩ := desc_bytes (hE.ti _ _ hT')
        have hr := run_bytes_of_string (P := X.P) S.w T T' e s (desc_str' (hE.ti _ _ hT)) u1 u2
        have hszs := (hE.ti _ _ hT').sz
        simp only [szB, Bool.and_eq_true, beq_iff_eq] at hszs
        generalize hob : Obj.cells (bytesRow s (grownCap S.w s.size 0 e)) e ((bytesRow s (grownCap S.w s.size 0 e)).size, (bytesRow s (grownCap S.w s.size 0 e)).size + 1) = ob at hr
        obtain ⟨K1, L1⟩ := K.grow (w' := S.w.drew.alloc ob) (row := none) (O' := fun k => if k = S.w.heap.size then .fz else S.O k) ⟨rfl, rfl, rfl, by simp, fun k hk _ => heap_alloc_old S.w.drew ob k hk⟩ (by simp)
          (fun k hk _ => by show (if k = S.w.heap.size then _ else _) = _; rw [if_neg (by omega)])
          (fun k hk => by
            show k < (S.w.heap.push _).size
            rw [Array.size_push]
            by_cases h : k = S.w.heap.size
            · omega
            · simp only [h, if_false] at hk
              have := K.lt k hk
              omega)
        have hcell : CellsAt (S.w.drew.alloc ob) S.w.heap.size 0 (s.data.toList.map fun b => Value.int .u8 b.toNat) := by
          intro j u hj
          have hb : (S.w.drew.alloc ob).heap[S.w.heap.size]? = some ob := heap_alloc_new S.w.drew ob
          subst hob
          have hjl : j < s.data.toList.length := by
            rcases Nat.lt_or_ge j s.data.toList.length with h | h
            · exact h
            · rw [List.getElem?_eq_none (by simpa using h)] at hj; cases hj
          simp only [World.cell?, hb, Nat.zero_add]
          simp only [bytesRow]
          rw [Array.getElem?_append_left (by simpa using hjl)]
          simpa using hj
        have hbl : (bytesOf s).length = s.size := by simp [bytesOf]
        have hsv : SvOk X.P (groS S (S.w.drew.alloc ob) (fun k => if k = S.w.heap.size then .fz else S.O k)) 0 (.one (.fz e (.i .u8) (bytesOf s))) (.slice (some ⟨S.w.heap.size, 0, none⟩) s.size (grownCap S.w s.size 0 e)) := by
          refine ⟨_, rfl, hszs.1, _, grownCap S.w s.size 0 e, _, by rw [hbl], by rw [hbl]; exact grownCap_ge _ _ _ _, rows_bytes s.data.toList, fun _ => ⟨_, 0, rfl, ?_, hcell⟩⟩
          show (if _ then _ else _) = _
          rw [if_pos rfl]
        have K2 := K1.put0 hd _ _ 0 rfl hsv
        refine ⟨_, h, goes_value (S := putS (groS S (S.w.drew.alloc ob) (fun k => if k = S.w.heap.size then .fz else S.O k)) (fun _ _ => none) d (.one (.fz e (.i .u8) (bytesOf s))) (.slice (some ⟨S.w.heap.size, 0, none⟩) s.size (grownCap S.w s.size 0 e))) (run_convert ho e1 hr) (by rw [hod]; exact K2) ?_⟩
        show upd S.g d _ = _
        rw [get_ups1, ← hg]
        rfl
    · cases h
  · cases h
end
end Go.Proofs.Ytehkignjdbkeiaa.Vf
end

section
/- What a called function promises; the world behind a call. -/
set_option linter.unusedVariables false
set_option linter.unusedSimpArgs false
namespace Go.Proofs.Ytehkignjdbkeiaa.Vf
open Go
attribute [local irreducible] C H

/-- Blocks and a world, and no places. -/
def bare (O : Nat → Lab) (w : World) : Sit := ⟨O, fun _ => (0, 0), fun _ => (0, .one .dead), fun _ => undef, w⟩

def ArgOk (P : Program) (S : Sit) (rg : Nat → Nat × Nat) (i : Nat) : Par → List Lf → Value → Prop
  | .val ag _, l, u => ∃ us, (if ag then u = .agg us.toArray else us = [u]) ∧ LfsOk P S (fun j => .pl i (if ag then [j] else [])) 0 l us
  | .ptr t _, l, u => ∃ k o c e us, u = .pointer (some ⟨k, o, none⟩) ∧ S.w.heap[k]? = some (.cells c e (0, 0)) ∧ S.O k = .bx i ∧ rg i = (o, t.sz) ∧ o + t.sz ≤ c.size ∧ t.sz < 999 ∧ l.length = t.sz ∧ (∀ j, j < t.sz → c[o + j]? = us[j]?) ∧
      LfsOk P S (fun j => .pl (C i j) []) 0 l us

def ArgsOk (P : Program) (S : Sit) (rg : Nat → Nat × Nat) : Nat → List Par → List (List Lf) → List Value → Prop
  | _, [], [], [] => True
  | i, p :: ps, l :: ls, u :: us => ArgOk P S rg i p l u ∧ ArgsOk P S rg (i + 1) ps ls us
  | _, _, _, _ => False

def ResOk (P : Program) (S : Sit) (n0 : Nat) (i : Nat) : RK → List Lf → Value → Prop
  | .one, l, u => LfsOk P S (fun _ => .tm i []) 0 l [u]
  | .agg, l, u => ∃ us, u = .agg us.toArray ∧ LfsOk P S (fun j => .tm i [j]) 0 l us
  | .ptr, l, u => ∃ k o c e us, u = .pointer (some ⟨k, o, none⟩) ∧ S.w.heap[k]? = some (.cells c e (0, 0)) ∧ n0 ≤ k ∧ S.O k = .tm (i + 500) [] ∧ o + l.length ≤ c.size ∧ l.length < 999 ∧ (∀ j, j < l.length → c[o + j]? = us[j]?) ∧
      LfsOk P S (fun j => .tm i [j]) 0 l us

def ResAll (P : Program) (S : Sit) (n0 : Nat) : Nat → List (RK × Ty) → List (List Lf) → List Value → Prop
  | _, [], _, us => us = []
  | i, k :: ks, l :: ls, u :: us => ResOk P S n0 i k.1 l u ∧ ResAll P S n0 (i + 1) ks ls us
  | _, _, _, _ => False

def Results (P : Program) (S : Sit) (n0 : Nat) (rs : List (RK × Ty)) (ls : List (List Lf)) (v : Value) : Prop :=
  match rs with
  | [r] => ∃ l ls', ls = l :: ls' ∧ ResOk P S n0 0 r.1 l v
  | rs => ∃ us, v = .tuple us.toArray ∧ ResAll P S n0 0 rs ls us

def BackOk (P : Program) (S : Sit) (i : Nat) (t' : Ty) (l : List Lf) (u : Value) : Prop :=
  ∃ k o c e us, u = .pointer (some ⟨k, o, none⟩) ∧ S.w.heap[k]? = some (.cells c e (0, 0)) ∧ l.length = t'.sz ∧ (∀ j, j < t'.sz → c[o + j]? = us[j]?) ∧ LfsOk P S (fun j => .pl (C i j) []) 0 l us

def Backs (P : Program) (S : Sit) : Nat → List Par → List Value → List (List Lf) → Prop
  | _, [], _, _ => True
  | i, .val _ _ :: ps, _ :: us, ls => Backs P S (i + 1) ps us ls
  | i, .ptr _ t' :: ps, u :: us, l :: ls => BackOk P S i t' l u ∧ Backs P S (i + 1) ps us ls
  | _, _, _, _ => False

def Sound (P : Program) (f : FuncId) (en : Ent) : Prop :=
  ∀ x r, en.run x = some r → ∀ (w : World) (O : Nat → Lab) (rg : Nat → Nat × Nat) (us : List Value), (∀ k, O k ≠ .no → k < w.heap.size) → (∀ k b, O k = .bx b → b < en.ps.length ∧ (∃ c e f, w.heap[k]? = some (.cells c e f)) ∧ ∀ k', O k' = .bx b → k' = k) → ArgsOk P (bare O w) rg 0 en.ps (leavesD _ x) us →
    Calls P f us.toArray w (fun e w' => ∃ v O', e = .returned v ∧ Fr O w rg O' w' ∧ (∀ k, O' k ≠ .no → k < w'.heap.size) ∧ Results P (bare O' w') w.heap.size en.rs (leavesD _ r) v ∧ Backs P (bare O' w') 0 en.ps us ((leavesD _ r).drop en.rs.length))

structure CallOk (P : Program) (f : FuncId) (en : Ent) : Prop where
  fn : ∃ fn, P.funcs[f]? = some fn ∧ (fn.name == "runtime.NumGoroutine") = false ∧ fn.body.isNone = false
  sound : Sound P f en

section
variable {X : Cx} {S S' : Sit} {a : Act} {E : En} {A : Ab} {o : Oper} {R : Type} {Kc : List Up → Option R} {r : R}

/-- A leaf that tells of no place. -/
def solid : Lf → Bool
  | .sc _ | .fz _ _ _ | .own _ _ _ => true
  | _ => false

theorem LfOk.bare {P : Program} {x : Lf} {u : Value} {lab lab' : Lab} (hx : solid x = true) {S1 S2 : Sit} (hw : S2.w = S1.w) (hf : ∀ k, S1.O k = .fz → S2.O k = .fz) (hl : ∀ k, S1.O k = lab → S2.O k = lab') (h : LfOk P S1 lab x u) : LfOk P S2 lab' x u := by
  cases x with
  | sc v => exact h
  | fz e r xs => exact Ty.rep_mono (t := .sl e r) hf (fun k _ => by rw [hw]) _ _ h
  | own e r xs => exact OwnOk.later (O' := S2.O) (w' := S2.w) h (fun k hk => ⟨hf k hk, by rw [hw]⟩) (fun k hk => ⟨hl k hk, by rw [hw]⟩)
  | _ => simp [solid] at hx

theorem leaves_solid : ∀ (t : Ty) (x : t.den), ∀ y ∈ leaves t x, solid y = true
  | .i _, _ => by simp [leaves, solid]
  | .b, _ => by simp [leaves, solid]
  | .s, _ => by simp [leaves, solid]
  | .sl _ _, _ => by simp [leaves, solid]
  | .ow _ _, _ => by simp [leaves, solid]
  | .pr x y, p => by
    intro z hz
    rcases List.mem_append.1 (show z ∈ leaves x p.1 ++ leaves y p.2 from hz) with h | h
    · exact leaves_solid x p.1 z h
    · exact leaves_solid y p.2 z h

theorem leaves_len : ∀ (t : Ty) (x : t.den), (leaves t x).length = t.sz
  | .i _, _ => rfl
  | .b, _ => rfl
  | .s, _ => rfl
  | .sl _ _, _ => rfl
  | .ow _ _, _ => rfl
  | .pr x y, p => by
    show (leaves x p.1 ++ leaves y p.2).length = x.sz + y.sz
    rw [List.length_append, leaves_len x p.1, leaves_len y p.2]

theorem LfsOk.impS {P : Program} {S1 S2 : Sit} {f f' : Nat → Lab} : ∀ {l : List Lf} {j : Nat} {us : List Value}, (∀ y ∈ l, solid y = true) → (∀ n x u, solid x = true → LfOk P S1 (f n) x u → LfOk P S2 (f' n) x u) → LfsOk P S1 f j l us → LfsOk P S2 f' j l us
  | [], _, [], _, _, _ => trivial
  | [], _, _ :: _, _, _, h => h.elim
  | _ :: _, _, [], _, _, h => h.elim
  | y :: l, j, u :: us, hs, hi, h => ⟨hi j y u (hs y (by simp)) h.1, LfsOk.impS (fun z hz => hs z (List.mem_cons_of_mem _ hz)) hi h.2⟩

/-- The world goes on; what is held by name may be rewritten. -/
theorem Okay.world (K : Okay X S a) {w' : World} {O' : Nat → Lab} (h1 : ∀ k, k < S.w.heap.size → (∀ n q, S.O k ≠ .tm n q) → O' k = S.O k ∧ w'.heap[k]? = S.w.heap[k]?)
    (hos : w'.os = S.w.os) (ht : w'.tape = S.w.tape) (hout : w'.output = S.w.output) (hsz : S.w.heap.size ≤ w'.heap.size) (hlt : ∀ k, O' k ≠ .no → k < w'.heap.size) :
    Okay X (groS S w' O') a ∧ Later S (groS S w' O') := by
  have keep : ∀ k o, S.O k = o → k < S.w.heap.size → (∀ n q, o ≠ .tm n q) → O' k = o ∧ w'.heap[k]? = S.w.heap[k]? := by
    intro k o' h hk ho
    obtain ⟨h2, h3⟩ := h1 k hk (by rw [h]; exact ho)
    exact ⟨h2.trans h, h3⟩
  have keep' : ∀ k o, S.O k = o → o ≠ .no → (∀ n q, o ≠ .tm n q) → O' k = o ∧ w'.heap[k]? = S.w.heap[k]? := fun k o' h hn ho => keep k o' h (K.lt k (by rw [h]; exact hn)) ho
  have L : Later S (groS S w' O') := ⟨fun _ => Nat.le_refl _, fun _ _ => rfl, fun p v e r xs' h _ => ⟨xs', h, rfl⟩, fun _ _ => rfl, fun k h => keep' k _ h (by simp) (by simp), fun p _ hd => ⟨hd, fun _ _ _ h => h, fun k hk => by
    obtain ⟨h1, h2⟩ := keep' k _ hk (by simp) (by simp)
    exact ⟨.inl h1, h2⟩⟩⟩
  have F := K.fr
  refine ⟨⟨K.nt, hlt, fun l => (K.at_ l).later L (fun p k h => keep' k _ h (by simp) (by simp)), fun b n h => ?_, K.rgn, K.sl, K.sz, K.df, ⟨hos.trans F.os, ht.trans F.tape, hout.trans F.out, Nat.le_trans F.size hsz, fun k hk h0 => ?_, fun k hk h0 => ?_, fun k b hk h0 => ?_⟩⟩, L⟩
  · obtain ⟨hn, c, e, e1, e2, e3, e4⟩ := K.box b n h
    obtain ⟨h5, h6⟩ := keep' _ _ e2 (by simp) (by simp)
    exact ⟨hn, c, e, h6.trans e1, h5, e3, e4⟩
  · obtain ⟨f1, f2⟩ := F.no k hk h0
    obtain ⟨h5, h6⟩ := keep k _ f1 (Nat.lt_of_lt_of_le hk F.size) (by simp)
    exact ⟨h5, h6.trans f2⟩
  · obtain ⟨f1, f2⟩ := F.fz k hk h0
    obtain ⟨h5, h6⟩ := keep k _ f1 (Nat.lt_of_lt_of_le hk F.size) (by simp)
    exact ⟨h5, h6.trans f2⟩
  · obtain ⟨f1, c, c', e, f, f2, f3, f4, f5⟩ := F.bx k b hk h0
    obtain ⟨h5, h6⟩ := keep k _ f1 (Nat.lt_of_lt_of_le hk F.size) (by simp)
    exact ⟨h5, c, c', e, f, f2, h6.trans f3, f4, f5⟩

def cellW (S : Sit) (b : Nat) (m : List Lf) (us : List Value) (w : World) (O : Nat → Lab) : Sit := { S with O := O, g := gput S.g b 0 m, ph := phput S.ph b 0 us, w := w }

/-- The same, and a box's cells (all of them) are what they are now. -/
theorem Okay.worldBox (K : Okay X S a) {w' : World} {O' : Nat → Lab} {b : Nat} {m : List Lf} {us : List Value} {c c' : Array Value} {e : TypeId} (hh : (S.g (H b)).2 = .one (.hd m.length))
    (hc : S.w.heap[(S.bb b).1]? = some (.cells c e (0, 0))) (hc' : w'.heap[(S.bb b).1]? = some (.cells c' e (0, 0))) (hcs : c'.size = c.size) (hout' : ∀ i, (i < (S.bb b).2 ∨ (S.bb b).2 + m.length ≤ i) → c'[i]? = c[i]?)
    (hin : ∀ j, j < m.length → c'[(S.bb b).2 + j]? = us[j]?) (hul : us.length = m.length) (hsol : ∀ y ∈ m, solid y = true)
    (hl : ∀ f, LfsOk X.P (bare O' w') f 0 m us)
    (h1 : ∀ k, k < S.w.heap.size → (∀ n q, S.O k ≠ .tm n q) → O' k = S.O k ∧ (k ≠ (S.bb b).1 → w'.heap[k]? = S.w.heap[k]?))
    (hos : w'.os = S.w.os) (ht : w'.tape = S.w.tape) (hout : w'.output = S.w.output) (hsz : S.w.heap.size ≤ w'.heap.size) (hlt : ∀ k, O' k ≠ .no → k < w'.heap.size) :
    Okay X (cellW S b m us w' O') a ∧ Later S (cellW S b m us w' O') := by
  obtain ⟨hn, c0, e0, b1, b2, b3, b4⟩ := K.box b m.length hh
  rw [hc] at b1
  cases b1
  have keep : ∀ k o, S.O k = o → k < S.w.heap.size → (∀ n q, o ≠ .tm n q) → O' k = o ∧ (o ≠ .bx b → w'.heap[k]? = S.w.heap[k]?) := by
    intro k o' h hk ho
    obtain ⟨h2, h3⟩ := h1 k hk (by rw [h]; exact ho)
    exact ⟨h2.trans h, fun hne => h3 (fun e1 => hne (by rw [← h, e1, b2]))⟩
  have keep' : ∀ k o, S.O k = o → o ≠ .no → (∀ n q, o ≠ .tm n q) → O' k = o ∧ (o ≠ .bx b → w'.heap[k]? = S.w.heap[k]?) := fun k o' h hn' ho => keep k o' h (K.lt k (by rw [h]; exact hn')) ho
  have gout : ∀ p, ¬ (C b 0 ≤ p ∧ p < C b 0 + m.length) → gput S.g b 0 m p = S.g p ∧ phput S.ph b 0 us p = S.ph p := fun p hp => by
    unfold gput phput
    rw [if_neg hp, if_neg (by rw [hul]; exact hp)]
    exact ⟨rfl, rfl⟩
  have L : Later S (cellW S b m us w' O') := by
    refine ⟨fun p => ?_, fun p hp => ?_, fun p v e r xs' hp hv => ?_, fun _ _ => rfl, fun k hk => ?_, fun p hp hd => ?_⟩
    · show (S.g p).1 ≤ (gput S.g b 0 m p).1
      unfold gput
      split <;> simp
    · show phput S.ph b 0 us p = S.ph p
      by_cases hi : C b 0 ≤ p ∧ p < C b 0 + m.length
      · have : (gput S.g b 0 m p).1 = (S.g p).1 := hp
        unfold gput at this
        rw [if_pos hi] at this
        simp at this
      · exact (gout p hi).2
    · have hp' : gput S.g b 0 m p = (v, .one (.own e r xs')) := hp
      by_cases hi : C b 0 ≤ p ∧ p < C b 0 + m.length
      · unfold gput at hp'
        rw [if_pos hi] at hp'
        simp only [Prod.mk.injEq] at hp'
        omega
      · rw [(gout p hi).1] at hp'
        exact ⟨xs', hp', rfl⟩
    · obtain ⟨k1, k2⟩ := keep' k _ hk (by simp) (by simp)
      exact ⟨k1, k2 (by simp)⟩
    · have hp' : (gput S.g b 0 m p).1 = (S.g p).1 := hp
      have hout : ¬ (C b 0 ≤ p ∧ p < C b 0 + m.length) := fun hi => by
        unfold gput at hp'
        rw [if_pos hi] at hp'
        simp at hp'
      have hgp : (cellW S b m us w' O').g p = S.g p := (gout p hout).1
      rw [hgp]
      refine ⟨hd, fun _ _ _ h => h, fun k hk => ?_⟩
      obtain ⟨k1, k2⟩ := keep' k _ hk (by simp) (by simp)
      exact ⟨.inl k1, k2 (by simp)⟩
  have F := K.fr
  refine ⟨⟨K.nt, hlt, fun l => ?_, fun b' n' hb' => ?_, fun b' n' hb' => ?_, fun t ht => ?_, K.sz, K.df, ⟨hos.trans F.os, ht.trans F.tape, hout.trans F.out, Nat.le_trans F.size hsz, fun k hk h0 => ?_, fun k hk h0 => ?_, fun k b' hk h0 => ?_⟩⟩, L⟩
  · show SvOk X.P _ l (gput S.g b 0 m l).2 (phput S.ph b 0 us l)
    by_cases hi : C b 0 ≤ l ∧ l < C b 0 + m.length
    · obtain ⟨x, u, e1, e2, e3, e4⟩ := (hl (fun _ => .pl l [])).at (l - C b 0) (by omega)
      have hx : solid x = true := hsol x (by
        rw [← e1, List.getD_eq_getElem?_getD, List.getElem?_eq_getElem (by omega)]
        exact List.getElem_mem _)
      unfold gput phput
      rw [if_pos hi, if_pos (by rw [hul]; exact hi), e1, e2]
      exact LfOk.bare (S1 := bare O' w') hx rfl (fun k hk => hk) (fun k hk => hk) e4
    · rw [(gout l hi).1, (gout l hi).2]
      exact (K.at_ l).later L (fun p k hk => by
        obtain ⟨k1, k2⟩ := keep' k _ hk (by simp) (by simp)
        exact ⟨k1, k2 (by simp)⟩)
  · have e1 : (S.g (H b')).2 = .one (.hd n') := by
      have : (gput S.g b 0 m (H b')).2 = .one (.hd n') := hb'
      rwa [(gout _ (heads_apart (by omega))).1] at this
    obtain ⟨g1, c1, e2, g2, g3, g4, g5⟩ := K.box b' n' e1
    obtain ⟨k1, k2⟩ := keep' _ _ g3 (by simp) (by simp)
    by_cases hbb : b' = b
    · subst hbb
      rw [hc] at g2
      cases g2
      rw [hh] at e1
      cases e1
      refine ⟨g1, c', _, hc', k1, by rw [hcs]; exact g4, fun j hj => ?_⟩
      show c'[(S.bb b').2 + j]? = some (phput S.ph b' 0 us (C b' j))
      have h2 : C b' 0 ≤ C b' j ∧ C b' j < C b' 0 + us.length := by unfold C; omega
      unfold phput
      rw [if_pos h2, hin j hj, show C b' j - C b' 0 = j by unfold C; omega, List.getD_eq_getElem?_getD, List.getElem?_eq_getElem (by omega)]
      rfl
    · refine ⟨g1, c1, e2, (k2 (by simp [hbb])).trans g2, k1, g4, fun j hj => ?_⟩
      show _ = some (phput S.ph b 0 us (C b' j))
      rw [(gout _ (cells_apart (by omega) (by omega) hbb)).2]
      exact g5 j hj
  · have e1 : (S.g (H b')).2 = .one (.hd n') := by
      have : (gput S.g b 0 m (H b')).2 = .one (.hd n') := hb'
      rwa [(gout _ (heads_apart (by omega))).1] at this
    exact K.rgn b' n' e1
  · show a.tmps.getD t undef = phput S.ph b 0 us t
    rw [(gout _ (slots_apart (Nat.lt_of_lt_of_le ht K.nt))).2]
    exact K.sl t ht
  · obtain ⟨f1, f2⟩ := F.no k hk h0
    obtain ⟨h5, h6⟩ := keep k _ f1 (Nat.lt_of_lt_of_le hk F.size) (by simp)
    exact ⟨h5, (h6 (by simp)).trans f2⟩
  · obtain ⟨f1, f2⟩ := F.fz k hk h0
    obtain ⟨h5, h6⟩ := keep k _ f1 (Nat.lt_of_lt_of_le hk F.size) (by simp)
    exact ⟨h5, (h6 (by simp)).trans f2⟩
  · obtain ⟨f1, c1, c2, e1, f, f2, f3, f4, f5⟩ := F.bx k b' hk h0
    obtain ⟨h5, h6⟩ := keep k _ f1 (Nat.lt_of_lt_of_le hk F.size) (by simp)
    by_cases hbb : b' = b
    · subst hbb
      refine ⟨h5, ?_⟩
      by_cases hkb : k = (S.bb b').1
      · subst hkb
        rw [hc] at f3
        cases f3
        obtain ⟨r1, r2, r3⟩ := (K.rgn b' _ hh).1 hk
        refine ⟨c1, c', _, _, f2, hc', hcs.trans f4, fun i hi => ?_⟩
        rw [hout' i (by omega)]
        exact f5 i hi
      · exact ⟨c1, c2, e1, f, f2, ((h1 k (Nat.lt_of_lt_of_le hk F.size) (by rw [f1]; simp)).2 hkb).trans f3, f4, f5⟩
    · exact ⟨h5, c1, c2, e1, f, f2, (h6 (by simp [hbb])).trans f3, f4, f5⟩
end
end Go.Proofs.Ytehkignjdbkeiaa.Vf
end

section
/- Calls. -/
set_option linter.unusedVariables false
set_option linter.unusedSimpArgs false
namespace Go.Proofs.Ytehkignjdbkeiaa.Vf
open Go
attribute [local irreducible] C H

section
variable {X : Cx} {S S' : Sit} {a : Act} {E : En} {A : Ab} {o : Oper} {R : Type} {Kc : List Up → Option R} {r : R}

theorem LfsOk.impM {P : Program} {S1 S2 : Sit} {f f' : Nat → Lab} : ∀ {l : List Lf} {j : Nat} {us : List Value}, (∀ x ∈ l, ∀ n u, LfOk P S1 (f n) x u → LfOk P S2 (f' n) x u) → LfsOk P S1 f j l us → LfsOk P S2 f' j l us
  | [], _, [], _, _ => trivial
  | [], _, _ :: _, _, h => h.elim
  | _ :: _, _, [], _, h => h.elim
  | y :: l, j, u :: us, hi, h => ⟨hi y (by simp) j u h.1, LfsOk.impM (fun z hz => hi z (List.mem_cons_of_mem _ hz)) h.2⟩

theorem ResOk.imp {P : Program} {S1 S2 : Sit} {n0 i : Nat} {k : RK} {l : List Lf} {u : Value} (hw : S2.w = S1.w) (hO : ∀ k i, S1.O k = .tm i [] → S2.O k = .tm i []) (hi : ∀ y ∈ l, ∀ i q u, LfOk P S1 (.tm i q) y u → LfOk P S2 (.tm i q) y u) (h : ResOk P S1 n0 i k l u) : ResOk P S2 n0 i k l u := by
  cases k with
  | one => exact LfsOk.impM (fun x hx n u h => hi x hx _ _ u h) h
  | agg =>
    obtain ⟨us, e, h⟩ := h
    exact ⟨us, e, h.impM (fun x hx n u h => hi x hx _ _ u h)⟩
  | ptr =>
    obtain ⟨k, o, c, e, us, e1, e2, e3, e4, e5, e6, e7, h⟩ := h
    exact ⟨k, o, c, e, us, e1, by rw [hw]; exact e2, e3, hO _ _ e4, e5, e6, e7, h.impM (fun x hx n u h => hi x hx _ _ u h)⟩

theorem ResAll.imp {P : Program} {S1 S2 : Sit} {n0 : Nat} (hw : S2.w = S1.w) (hO : ∀ k i, S1.O k = .tm i [] → S2.O k = .tm i []) : ∀ {rs : List (RK × Ty)} {i : Nat} {ls : List (List Lf)} {us : List Value},
    (∀ l ∈ ls, ∀ y ∈ l, ∀ i q u, LfOk P S1 (.tm i q) y u → LfOk P S2 (.tm i q) y u) → ResAll P S1 n0 i rs ls us → ResAll P S2 n0 i rs ls us
  | [], _, _, _, _, h => h
  | k :: ks, i, l :: ls, u :: us, hi, h => ⟨h.1.imp hw hO (hi l (by simp)), ResAll.imp hw hO (fun l' hl' => hi l' (List.mem_cons_of_mem _ hl')) h.2⟩
  | _ :: _, _, [], _, _, h => h.elim
  | _ :: _, _, _ :: _, [], _, h => h.elim

theorem Results.imp {P : Program} {S1 S2 : Sit} {n0 : Nat} {rs : List (RK × Ty)} {ls : List (List Lf)} {v : Value} (hw : S2.w = S1.w) (hO : ∀ k i, S1.O k = .tm i [] → S2.O k = .tm i [])
    (hi : ∀ l ∈ ls, ∀ y ∈ l, ∀ i q u, LfOk P S1 (.tm i q) y u → LfOk P S2 (.tm i q) y u) (h : Results P S1 n0 rs ls v) : Results P S2 n0 rs ls v := by
  unfold Results at h ⊢
  split at h
  · obtain ⟨l, ls', rfl, h⟩ := h
    exact ⟨l, ls', rfl, h.imp hw hO (hi l (by simp))⟩
  · obtain ⟨us, e, h⟩ := h
    exact ⟨us, e, h.imp hw hO hi⟩

/-- A block that is held by name becomes a box, and its pointer is put. -/
theorem boxput (K : Okay X S a) {A1 : Ab} (hg : S.g = get A1) {d k o n0 : Nat} {l0 : List Nat} {m : List Lf} {us : List Value} {q : Nat → List Nat} {c : Array Value} {e : TypeId} (hd : d < X.nt) (hk : S.O k = .tm n0 l0) (hn0 : n0 ≠ 0) (hk0 : X.w0.heap.size ≤ k)
    (hc : S.w.heap[k]? = some (.cells c e (0, 0))) (ho : o + m.length ≤ c.size) (hcs : ∀ j, j < m.length → c[o + j]? = us[j]?) (hl : LfsOk X.P S (fun j => .tm 0 (q j)) 0 m us)
    (hq : ∀ j, j < m.length → boxH d 0 0 (q j) = some (.pl (C d (0 + j)) [])) (hm : m.length < 999) (hst : ∀ k, .hd k ∉ m) (hnp : X.np ≤ d) :
    ∃ S', Okay X S' (a.put (some d) (.pointer (some ⟨k, o, none⟩))) ∧ S'.w = S.w ∧ S'.g = get (ups A1 (⟨H d, false, .one (.hd m.length)⟩ :: putCells d 0 m ++ [⟨d, false, .one (.bp d ((get A1 (H d)).1 + 1) 0)⟩])) := by
  obtain ⟨K2, L2⟩ := K.newbox (d := d) (k := k) (o := o) hk hn0 hk0 hc ho hcs hl hq hm hst hnp
  have hv : ((boxS S d k o m us).g (H d)).1 = (S.g (H d)).1 + 1 := by
    show (gput (upd S.g (H d) _) d 0 m (H d)).1 = _
    unfold gput
    rw [if_neg (heads_apart (by omega)), upd_same]
  have K3 := K2.put0 hd (.one (.bp d ((S.g (H d)).1 + 1) 0)) (.pointer (some ⟨k, o, none⟩)) 0 rfl ⟨by rw [hv]; exact Nat.le_refl _, fun _ => by
    show Value.pointer _ = .pointer (some ⟨(upd S.bb d (k, o) d).1, (upd S.bb d (k, o) d).2 + 0, none⟩)
    rw [upd_same]
    rfl⟩
  have e1 : (boxS S d k o m us).g = get (ups A1 (⟨H d, false, .one (.hd m.length)⟩ :: putCells d 0 m)) := by
    show gput (upd S.g (H d) ((S.g (H d)).1 + 1, .one (.hd m.length))) d 0 m = get (ups (up A1 ⟨H d, false, .one (.hd m.length)⟩) (putCells d 0 m))
    rw [get_putCells, get_up, ← hg]
    rfl
  refine ⟨_, K3, rfl, ?_⟩
  show upd (boxS S d k o m us).g d _ = _
  rw [ups_append, get_ups1, ← e1, ← hg]

/-- The names of results, at a temporary. -/
def resH (d : Nat) (many : Bool) : Nat → List Nat → Option Lab := fun n q => if many then (match q with
  | [] => some (.pl d [n, 0])
  | [j] => some (.pl d [n, j])
  | _ => none) else (if n = 0 then some (.pl d q) else none)

theorem resH_pl (d : Nat) (many : Bool) : ∀ n q p, resH d many n q = some p → ∃ p', p = .pl d p' := by
  intro n q p hp
  unfold resH at hp
  split at hp
  · split at hp <;> first | (cases hp; exact ⟨_, rfl⟩) | cases hp
  · split at hp <;> first | (cases hp; exact ⟨_, rfl⟩) | cases hp

theorem put_res (K : Okay X S a) {A1 : Ab} (hg : S.g = get A1) {rs : List (RK × Ty)} {ls : List (List Lf)} {d : Option Nat} {us : List Up} {v : Value} {n0 : Nat} (hd : ∀ d', d = some d' → d' < X.nt) (hn0 : X.w0.heap.size ≤ n0) (hls : ∀ l ∈ ls, ∀ y ∈ l, solid y = true) (hnp : ∀ d', d = some d' → anyPtr rs = true → X.np ≤ d')
    (hr : Results X.P S n0 rs ls v) (h : resUp A1 rs ls d = some us) : ∃ S', Okay X S' (a.put d v) ∧ S'.w = S.w ∧ S'.g = get (ups A1 us) := by
  cases d with
  | none =>
    have : us = [] := by unfold resUp at h; cases rs <;> simpa using h.symm
    subst this
    exact ⟨S, K, rfl, hg⟩
  | some d =>
    cases rs with
    | nil =>
      have : us = [⟨d, false, .tup []⟩] := by unfold resUp at h; simpa using h.symm
      subst this
      obtain ⟨vs, rfl, h2⟩ := hr
      have : vs = [] := by cases ls <;> exact h2
      subst this
      have K2 := K.put0 (hd d rfl) (.tup []) (.tuple #[]) 0 rfl ⟨[], rfl, trivial⟩
      exact ⟨_, K2, rfl, by show upd S.g d _ = _; rw [get_ups1, ← hg]⟩
    | cons r1 rs =>
      cases rs with
      | nil =>
        obtain ⟨l, ls', e1, h2⟩ := hr
        subst e1
        obtain ⟨k, t⟩ := r1
        cases k with
        | one =>
          have h2' : LfsOk X.P S (fun _ => .tm 0 []) 0 l [v] := h2
          cases l with
          | nil => exact h2'.elim
          | cons x l =>
            cases l with
            | cons y l => exact h2'.2.elim
            | nil =>
              have : us = [⟨d, false, .one x⟩] := by unfold resUp at h; simpa using h.symm
              subst this
              have h3 : LfOk X.P S (.tm 0 []) x v := h2'.1
              have L := putS_later S (resH d false) d (.one x) v
              have hsv : SvOk X.P (putS S (resH d false) d (.one x) v) d (.one x) v := LfOk.later (lab := .tm 0 []) (lab' := .pl d []) L h3 (fun k hk => ⟨atO_tm hk rfl, rfl⟩)
              have K2 := K.put (hd d rfl) (resH d false) (resH_pl d false) (.one x) v hsv
              exact ⟨_, K2, rfl, by show upd S.g d _ = _; rw [get_ups1, ← hg]⟩
        | agg =>
          have : us = [⟨d, false, .agg l⟩] := by unfold resUp at h; simpa using h.symm
          subst this
          obtain ⟨vs, rfl, h3⟩ := h2
          have L := putS_later S (resH d false) d (.agg l) (.agg vs.toArray)
          have hsv : SvOk X.P (putS S (resH d false) d (.agg l) (.agg vs.toArray)) d (.agg l) (.agg vs.toArray) := ⟨vs, rfl, h3.imp (fun j x u hx => hx.later L (fun k hk => ⟨atO_tm hk rfl, rfl⟩))⟩
          have K2 := K.put (hd d rfl) (resH d false) (resH_pl d false) (.agg l) _ hsv
          exact ⟨_, K2, rfl, by show upd S.g d _ = _; rw [get_ups1, ← hg]⟩
        | ptr =>
          have : us = ptrRes A1 d l := by unfold resUp at h; simpa using h.symm
          subst this
          obtain ⟨k, o, c, e, vs, rfl, e2, e3, e4, e5, e6, e7, h3⟩ := h2
          obtain ⟨S', K', w', g'⟩ := boxput K hg (hd d rfl) e4 (by decide) (Nat.le_trans hn0 e3) e2 e5 e7 h3 (fun j hj => rfl) e6 (by
            intro k hk
            have := hls l (by simp) _ hk
            simp [solid] at this) (hnp d rfl rfl)
          exact ⟨S', K', w', by rw [g']; rfl⟩
      | cons r2 rs =>
        have h' : (bif anyPtr (r1 :: r2 :: rs) then none else some [(⟨d, false, .tup (tupOf (r1 :: r2 :: rs) ls)⟩ : Up)]) = some us := by
          unfold resUp at h
          obtain ⟨k1, t1⟩ := r1
          cases k1 <;> exact h
        cases hp : anyPtr (r1 :: r2 :: rs) with
        | true => rw [hp] at h'; simp at h'
        | false =>
          rw [hp] at h'
          simp only [cond_false, Option.some.injEq] at h'
          subst h'
          obtain ⟨vs, rfl, h2⟩ := hr
          generalize hR : (r1 :: r2 :: rs) = R2 at hp h2
          have key : ∀ (s : Sv) (rs : List (RK × Ty)) (i : Nat) (ls : List (List Lf)) (us : List Value), anyPtr rs = false → ResAll X.P S n0 i rs ls us → TupOk X.P (putS S (resH d true) d s (.tuple vs.toArray)) d i (tupOf rs ls) us := by
            intro s rs
            induction rs with
            | nil =>
              intro i ls us _ h
              have : us = [] := by cases ls <;> exact h
              subst this
              simp [tupOf, TupOk]
            | cons r rs ih =>
              intro i ls us hp h
              cases ls with
              | nil => exact h.elim
              | cons l ls =>
                cases us with
                | nil => exact h.elim
                | cons u us =>
                  obtain ⟨k, t⟩ := r
                  have L := putS_later S (resH d true) d s (.tuple vs.toArray)
                  have hp2 : anyPtr rs = false := by cases k <;> first | (simp [anyPtr] at hp; done) | simpa [anyPtr] using hp
                  refine ⟨?_, ih (i + 1) ls us hp2 h.2⟩
                  cases k with
                  | ptr => simp [anyPtr] at hp
                  | one =>
                    have h2' : LfsOk X.P S (fun _ => .tm i []) 0 l [u] := h.1
                    refine ⟨[u], rfl, ?_⟩
                    cases l with
                    | nil => exact h2'.elim
                    | cons x l =>
                      cases l with
                      | cons y l => exact h2'.2.elim
                      | nil => exact ⟨LfOk.later (lab := .tm i []) (lab' := .pl d [i, 0]) L h2'.1 (fun k hk => ⟨atO_tm hk rfl, rfl⟩), trivial⟩
                  | agg =>
                    obtain ⟨ws, e1, h3⟩ := h.1
                    exact ⟨ws, e1, h3.imp (fun j x u hx => hx.later L (fun k hk => ⟨atO_tm hk rfl, rfl⟩))⟩
          have hsv : SvOk X.P (putS S (resH d true) d (.tup (tupOf R2 ls)) (.tuple vs.toArray)) d (.tup (tupOf R2 ls)) (.tuple vs.toArray) := ⟨vs, rfl, key _ _ 0 ls vs hp h2⟩
          have K2 := K.put (hd d rfl) (resH d true) (resH_pl d true) (.tup (tupOf R2 ls)) _ hsv
          exact ⟨_, K2, rfl, by show upd S.g d _ = _; rw [get_ups1, ← hg]⟩
end
end Go.Proofs.Ytehkignjdbkeiaa.Vf
end

section
/- Calls: the arguments. -/
set_option linter.unusedVariables false
set_option linter.unusedSimpArgs false
namespace Go.Proofs.Ytehkignjdbkeiaa.Vf
open Go
attribute [local irreducible] C H

def Mk : List Ty → List (List Lf) → List (List Lf) → Prop
  | [], [], [] => True
  | t :: ts, l :: ls, l' :: ls' => (∃ y, mkW t l = some y ∧ l' = leaves t y) ∧ Mk ts ls ls'
  | _, _, _ => False

theorem mkDen_mk : ∀ (ts : List Ty) (ls : List (List Lf)) (x : Den ts), mkDen ts ls = some x → Mk ts ls (leavesD ts x)
  | [], [], _, _ => trivial
  | [], _ :: _, _, h => by simp [mkDen] at h
  | [t], [], _, h => by simp [mkDen] at h
  | [t], [l], x, h => ⟨⟨x, h, rfl⟩, trivial⟩
  | [t], _ :: _ :: _, _, h => by simp [mkDen] at h
  | _ :: _ :: _, [], _, h => by simp [mkDen] at h
  | t :: u :: ts, l :: ls, x, h => by
    simp only [mkDen] at h
    split at h
    · rename_i y hy
      split at h
      · rename_i z hz
        cases h
        exact ⟨⟨y, hy, rfl⟩, mkDen_mk (u :: ts) ls z hz⟩
      · cases h
    · cases h

theorem leavesD_solid : ∀ (ts : List Ty) (x : Den ts), ∀ l ∈ leavesD ts x, ∀ y ∈ l, solid y = true
  | [], _ => by simp [leavesD]
  | [t], x => by
    intro l hl
    simp [leavesD] at hl
    subst hl
    exact leaves_solid t x
  | t :: u :: ts, x => by
    intro l hl
    rcases List.mem_cons.1 (show l ∈ leaves t x.1 :: leavesD (u :: ts) x.2 from hl) with rfl | h
    · exact leaves_solid t x.1
    · exact leavesD_solid (u :: ts) x.2 l h

theorem noOw_leaves : ∀ (t : Ty) (x : t.den), noOw t = true → leaves t x = lvs t x
  | .i _, _, _ => rfl
  | .b, _, _ => rfl
  | .s, _, _ => rfl
  | .sl _ _, _, _ => rfl
  | .ow _ _, _, h => by simp [noOw] at h
  | .pr x y, p, h => by
    simp only [noOw, Bool.and_eq_true] at h
    show leaves x p.1 ++ leaves y p.2 = lvs x p.1 ++ lvs y p.2
    rw [noOw_leaves x p.1 h.1, noOw_leaves y p.2 h.2]

section
variable {X : Cx} {S S' : Sit} {a : Act} {E : En} {A : Ab} {o : Oper} {R : Type} {Kc : List Up → Option R} {r : R}

/-- The cells of an operand. -/
theorem parts_lf (hE : EnOk X E) (K : Okay X S a) (hg : S.g = get A) {T : TypeId} {x : Operand} {s : Sv} {ag : Bool} (hx : opT E T A x = some s) (hf : formOk ag s = true) :
    ∃ us, ∃ f : Nat → Lab, (if ag then a.eval x = .agg us.toArray else us = [a.eval x]) ∧ LfsOk X.P S f 0 (parts s) us ∧ ∀ n, f n ≠ .no := by
  rcases opT_ok hE K hg hx with ⟨t, rfl, ht, hst, het, hok⟩ | ⟨hnt, y, rfl, hy⟩
  · cases s with
    | tup vs => simp [formOk, form] at hf
    | one y =>
      have : ag = false := by cases ag <;> simp [formOk, form] at hf ⊢
      subst this
      exact ⟨[a.eval (.tmp t)], fun _ => .pl t [], rfl, ⟨hok, trivial⟩, by simp⟩
    | agg l =>
      have : ag = true := by cases ag <;> simp [formOk, form] at hf ⊢
      subst this
      obtain ⟨us, e1, hl⟩ := hok
      exact ⟨us, fun n => .pl t [n], e1, hl, by simp⟩
  · have : ag = false := by cases ag <;> simp [formOk, form] at hf ⊢
    subst this
    exact ⟨[a.eval x], fun _ => .fz, rfl, ⟨hy _, trivial⟩, by simp⟩

theorem form_nt {ag : Bool} {s : Sv} (hf : formOk ag s = true) : ∀ vs, s ≠ .tup vs := by
  intro vs e
  subst e
  simp [formOk, form] at hf

theorem form_shape {ag : Bool} {s : Sv} {u : Value} {us : List Value} (hf : formOk ag s = true) (h : Shape s u us) : if ag then u = .agg us.toArray else us = [u] := by
  cases s with
  | tup vs => simp [formOk, form] at hf
  | one y =>
    have : ag = false := by cases ag <;> simp [formOk, form] at hf ⊢
    subst this
    exact h
  | agg l =>
    have : ag = true := by cases ag <;> simp [formOk, form] at hf ⊢
    subst this
    exact h

/-- Of shared leaves: the reading of the parameter. -/
theorem shared_arg {P : Program} {S : Sit} {G : Nat → Prop} {t : Ty} {l : List Lf} {y : t.den} {us : List Value} (hG : ∀ k, G k → S.O k = .fz) (hm : mkW t l = some y) (hn : noOw t = true) (h : All2 (LfRep P G S.w) l us) (f : Nat → Lab) (j : Nat) : LfsOk P S f j (leaves t y) us := by
  have h1 := mkW_rep hm h
  have h2 := lvs_rep (P := P) (G := fun k => S.O k = .fz) (w := S.w) t y us (Ty.rep_mono hG (fun _ _ => rfl) t y us h1)
  rw [noOw_leaves t y hn]
  exact LfsOk.ofRep h2 f j

/-! ### Arguments that are only read -/
def lendO (S : Sit) : Nat → Lab := fun k => if S.O k = .no then .no else .fz

theorem seen_lab {y : Lf} {u : Value} {lab : Lab} (K : Okay X S a) (hg : S.g = get A) (h : LfOk X.P S lab y u) : ∃ lab', (lab' = lab ∨ ∃ p, lab' = .pl p []) ∧ LfOk X.P S lab' (seen A y) u := by
  unfold seen
  split
  · rename_i p v
    split
    · rename_i n e r xs hp
      cases hb : Nat.beq n v with
      | false => exact ⟨lab, .inl rfl, trivial⟩
      | true =>
        have hnv : n = v := by simpa using hb
        subst hnv
        have e1 : u = S.ph p := h.2 (by rw [hg, hp])
        refine ⟨.pl p [], .inr ⟨p, rfl⟩, ?_⟩
        have := K.at_ p
        rw [hg, hp] at this
        rw [e1]
        exact this
    · rename_i n e r xs hp
      cases hb : Nat.beq n v with
      | false => exact ⟨lab, .inl rfl, trivial⟩
      | true =>
        have hnv : n = v := by simpa using hb
        subst hnv
        have e1 : u = S.ph p := h.2 (by rw [hg, hp])
        refine ⟨.pl p [], .inr ⟨p, rfl⟩, ?_⟩
        have := K.at_ p
        rw [hg, hp] at this
        rw [e1]
        exact this
    · exact ⟨lab, .inl rfl, trivial⟩
  · exact ⟨lab, .inl rfl, h⟩

theorem lent_rep (K : Okay X S a) (hg : S.g = get A) {f : Nat → Lab} (hf : ∀ n, f n ≠ .no) : ∀ {l : List Lf} {j : Nat} {us : List Value}, LfsOk X.P S f j l us → storable (l.map fun y => calm (view A y)) = true →
    All2 (LfRep X.P (fun k => lendO S k = .fz) S.w) (l.map fun y => calm (view A y)) us
  | [], _, [], _, _ => .nil
  | [], _, _ :: _, h, _ => h.elim
  | _ :: _, _, [], h, _ => h.elim
  | y :: l, j, u :: us, h, hst => by
    have hfz : ∀ k, S.O k = .fz → lendO S k = .fz := fun k hk => by simp [lendO, hk]
    rw [List.map_cons] at hst ⊢
    have hrest : storable (l.map fun y => calm (view A y)) = true := by
      generalize calm (view A y) = z at hst
      cases z <;> first | (simp [storable] at hst; done) | simpa [storable] using hst
    refine .cons ?_ (lent_rep K hg hf h.2 hrest)
    have hv : (∃ lab', lab' ≠ .no ∧ LfOk X.P S lab' (view A y) u) ∨ ∃ p e r, ∃ xs : List (Ty.den r), view A y = .fz e r xs ∧ BorOk X.P S p e r xs u := by
      unfold view
      split
      · rename_i p v pi e r xs
        cases hq : Nat.beq (get A p).1 v with
        | false => exact .inl ⟨f j, hf j, trivial⟩
        | true =>
          obtain ⟨_, _, h2⟩ := h.1
          exact .inr ⟨p, e, r, xs, rfl, (h2 (by rw [hg]; exact Nat.eq_of_beq_eq_true hq)).2.1⟩
      · obtain ⟨lab', hlab, h1⟩ := seen_lab K hg h.1
        refine .inl ⟨lab', ?_, h1⟩
        rcases hlab with rfl | ⟨p, rfl⟩
        · exact hf j
        · simp
    rcases hv with ⟨lab', hno, h1⟩ | ⟨p, e, r, xs, e1, h1⟩
    rotate_left 1
    · rw [e1]
      exact h1.reads (fun k hk => by
        rcases hk with hk | hk <;> simp [lendO, hk])
    generalize view A y = z at h1 hst
    cases z with
    | sc v => exact h1
    | fz e r xs => exact Ty.rep_mono (t := .sl e r) hfz (fun _ _ => rfl) _ _ h1
    | own e r xs =>
      have h2 : OwnOk X.P S.O S.w lab' e r xs u := h1
      exact h2.reads (O' := lendO S) hfz (fun k hk => by simp [lendO, hk, hno])
    | _ => simp [calm, storable] at hst

theorem lent_args (hE : EnOk X E) (K : Okay X S a) (hg : S.g = get A) (rg : Nat → Nat × Nat) : ∀ (ps : List Par) {xs : List Operand} {ss : List Sv} {ls ls' : List (List Lf)} {i : Nat}, All2 (fun s x => ∃ T, opT E T A x = some s) ss xs → lentOf A ps ss = some ls → Mk (ps.map Par.ty) ls ls' →
    lends ps = true → ArgsOk X.P (bare (lendO S) S.w) rg i ps ls' (xs.map a.eval)
  | [], _, _, ls, ls', i, .nil, h, hm, _ => by
    simp only [lentOf, Option.some.injEq] at h
    subst h
    cases ls' with
    | nil => trivial
    | cons => exact hm.elim
  | [], _, _, ls, ls', i, .cons _ _, h, hm, _ => by simp [lentOf] at h
  | .ptr _ _ :: _, _, _, _, _, _, _, _, _, hl => by simp [lends] at hl
  | .val ag t :: ps, _, _, ls, ls', i, .nil, h, _, _ => by simp [lentOf] at h
  | .val ag t :: ps, _, _, ls, ls', i, .cons (x := s) (y := x) (xs := ss) (ys := xs) hs hss, h, hm, hl => by
    simp only [lends, Bool.and_eq_true] at hl
    simp only [lentOf] at h
    cases hq : (formOk ag s && storable ((parts s).map (fun y => calm (view A y)))) with
    | false => rw [hq] at h; simp at h
    | true =>
      rw [hq, cond_true] at h
      simp only [Bool.and_eq_true] at hq
      split at h
      · rename_i ls1 hls1
        cases h
        cases ls' with
        | nil => exact hm.elim
        | cons l' ls' =>
          obtain ⟨⟨y, hy, rfl⟩, hm2⟩ := hm
          obtain ⟨T, hx⟩ := hs
          obtain ⟨us, f, hsh, hlf, hf⟩ := parts_lf hE K hg hx hq.1
          exact ⟨⟨us, hsh, shared_arg (S := bare (lendO S) S.w) (fun k hk => hk) hy hl.1 (lent_rep K hg hf hlf hq.2) _ _⟩, lent_args hE K hg rg ps hss hls1 hm2 hl.2⟩
      · cases h

/-- What shares nothing. -/
def newLeaf : Lf → Bool
  | .sc _ => true
  | .own _ r _ => allOw r
  | _ => false

theorem fresh_leaves : ∀ (t : Ty) (x : t.den), allOw t = true → ∀ y ∈ leaves t x, newLeaf y = true
  | .i _, _, _ => by simp [leaves, newLeaf]
  | .b, _, _ => by simp [leaves, newLeaf]
  | .s, _, _ => by simp [leaves, newLeaf]
  | .sl _ _, _, h => by simp [allOw] at h
  | .ow _ r, _, h => by simpa [leaves, newLeaf, allOw] using h
  | .pr x y, p, h => by
    simp only [allOw, Bool.and_eq_true] at h
    intro z hz
    rcases List.mem_append.1 (show z ∈ leaves x p.1 ++ leaves y p.2 from hz) with h' | h'
    · exact fresh_leaves x p.1 h.1 z h'
    · exact fresh_leaves y p.2 h.2 z h'

theorem new_lf {P : Program} {S1 S2 : Sit} {lab lab' : Lab} {y : Lf} {u : Value} (hy : newLeaf y = true) (hw : S2.w = S1.w) (hl : ∀ k, S1.O k = lab → S2.O k = lab') (h : LfOk P S1 lab y u) : LfOk P S2 lab' y u := by
  cases y with
  | sc v => exact h
  | own e r xs =>
    obtain ⟨bs, h1, h2, h3⟩ := h
    exact ⟨bs, Ty.dep_all (.ow e r) xs [u] bs hy (fun k _ => by rw [hw]) h1, h2, fun k hk => hl k (h3 k hk)⟩
  | _ => simp [newLeaf] at hy

theorem news_leaves : ∀ (rs : List (RK × Ty)) (x : Den (rs.map Prod.snd)), news rs = true → ∀ l ∈ leavesD (rs.map Prod.snd) x, ∀ y ∈ l, newLeaf y = true
  | [], _, _ => fun l hl => by cases (show l ∈ ([] : List (List Lf)) from hl)
  | [(k, t)], x, h => by
    intro l hl
    have hl' : l ∈ [leaves t x] := hl
    simp at hl'
    subst hl'
    have : allOw t = true := by cases k <;> simp [news] at h <;> exact h
    exact fresh_leaves t x this
  | (k, t) :: r2 :: rs, x, h => by
    intro l hl
    have h2 : allOw t = true ∧ news (r2 :: rs) = true := by
      cases k <;> simp only [news, Bool.and_eq_true] at h <;> first | exact h | cases h
    rcases List.mem_cons.1 (show l ∈ leaves t x.1 :: leavesD ((r2 :: rs).map Prod.snd) x.2 from hl) with rfl | h'
    · exact fresh_leaves t x.1 h2.1
    · exact news_leaves (r2 :: rs) x.2 h2.2 l h'
end
end Go.Proofs.Ytehkignjdbkeiaa.Vf
end

section
/- Calls. -/
set_option linter.unusedVariables false
set_option linter.unusedSimpArgs false
namespace Go.Proofs.Ytehkignjdbkeiaa.Vf
open Go
attribute [local irreducible] C H

section
variable {X : Cx} {S S' : Sit} {a : Act} {E : En} {A : Ab} {o : Oper} {R : Type} {Kc : List Up → Option R} {r : R}

theorem run_enter {P : Program} {w : World} {c : Call} {f : FuncId} {en : Ent} (ho : o.op = .call c) (hc : c.callee = .value (.func f)) (hf : CallOk P f en) : (execOp a.eval o).run P w = .ok (.enter f (c.args.toList.map a.eval).toArray) w := by
  obtain ⟨fn, h1, h2, h3⟩ := hf.fn
  have e1 : c.args.map a.eval = (c.args.toList.map a.eval).toArray := by
    apply Array.ext'
    simp
  unfold execOp
  simp only [ho, resolve, hc, Act.eval, Deferred.ofValue, Sem.run_bind, Sem.run_pure, Result.andThen_ok, invoke, callFunc, run_program, h1]
  rw [if_neg (by rw [h2]; simp), if_neg (by rw [h3]; simp)]
  simp only [Sem.run_pure, Array.append_empty, Array.empty_append]
  rw [e1]

theorem goes_enter {f : FuncId} {args : Array Value} {w : World} {A' : Ab} (hr : (execOp a.eval o).run X.P w = .ok (.enter f args) w)
    (h : Calls X.P f args w (fun e w' => ∃ v, e = .returned v ∧ ∃ S', S'.w = w' ∧ Okay X S' (a.put o.dst v) ∧ S'.g = get A')) : Goes X o a w A' := by
  intro next Q hn
  unfold Oper.wp
  rw [hr, Oper.upon_enter]
  intro cs
  obtain ⟨e, w', fr, ⟨v, rfl, S', hw, K', hg'⟩, rest⟩ := h cs
  refine ⟨_, w', fr, ?_, rest⟩
  rw [← hw]
  exact hn S' _ K' hg'

theorem calls_mono {P : Program} {f : FuncId} {args : Array Value} {w : World} {R1 R2 : Ending → World → Prop} (h : Calls P f args w R1) (hi : ∀ e w', R1 e w' → R2 e w') : Calls P f args w R2 := by
  intro cs
  obtain ⟨e, w', fr, hr, rest⟩ := h cs
  exact ⟨e, w', fr, hi _ _ hr, rest⟩

theorem lends_outs : ∀ ps : List Par, lends ps = true → ptrOuts ps = []
  | [], _ => rfl
  | .val _ _ :: ps, h => by
    simp only [lends, Bool.and_eq_true] at h
    exact lends_outs ps h.2
  | .ptr _ _ :: _, h => by simp [lends] at h

theorem news_all {ts : List Ty} {rs : List (RK × Ty)} (he : ts = rs.map Prod.snd) (x : Den ts) (h : news rs = true) : ∀ l ∈ leavesD ts x, ∀ y ∈ l, newLeaf y = true := by
  subst he
  exact news_leaves rs x h

theorem news_noPtr : ∀ rs : List (RK × Ty), news rs = true → anyPtr rs = false
  | [], _ => rfl
  | (k, t) :: rs, h => by
    cases k with
    | ptr => simp [news] at h
    | one => simp only [news, Bool.and_eq_true] at h; exact news_noPtr rs h.2
    | agg => simp only [news, Bool.and_eq_true] at h; exact news_noPtr rs h.2

/-- A call that only reads what it is given. -/
theorem st_lend (hE : EnOk X E) (hcall : ∀ f en, E.call f = some en → CallOk X.P f en) (K : Okay X S a) (hg : S.g = get A) {c : Call} {f : FuncId} {en : Ent} {ss : List Sv} (ho : o.op = .call c) (hc : c.callee = .value (.func f)) (hd : ∀ d, o.dst = some d → d < X.nt)
    (he : E.call f = some en) (hss : opsT E c.argTypes.toList A c.args.toList = some ss) (hl : lends en.ps = true) (hn : news en.rs = true)
    (h : (match lentOf A en.ps ss with
    | none => none
    | some ls => match mkDen _ ls with
      | none => none
      | some x => (en.run x).bind fun r =>
        match resUp A en.rs (leavesD _ r) o.dst with
        | none => none
        | some rs => Kc rs) = some r) : After X o a S.w A Kc r := by
  split at h
  · cases h
  · rename_i ls hls
    split at h
    · cases h
    · rename_i x hx
      cases hrun : en.run x with
      | none => rw [hrun] at h; simp at h
      | some y =>
        rw [hrun] at h
        simp only [Option.bind_some] at h
        split at h
        · cases h
        · rename_i us hus
          have hco := hcall f en he
          have hargs := lent_args (i := 0) hE K hg (fun _ => (0, 0)) en.ps (opsT_ok hE K hg hss) hls (mkDen_mk _ _ _ hx) hl
          have hs := hco.sound x y hrun S.w (lendO S) (fun _ => (0, 0)) _ (fun k hk => K.lt k (fun e => hk (by simp [lendO, e]))) (fun k b hk => by unfold lendO at hk; split at hk <;> cases hk) hargs
          refine ⟨us, h, goes_enter (run_enter ho hc hco) (calls_mono hs ?_)⟩
          rintro e w' ⟨v, O', rfl, hF, hlt, hres, _⟩
          refine ⟨v, rfl, ?_⟩
          -- nothing that was there has changed
          have hsame : ∀ k, k < S.w.heap.size → w'.heap[k]? = S.w.heap[k]? ∧ (O' k = .no ∨ O' k = .fz) := fun k hk => by
            by_cases h0 : S.O k = .no
            · have := hF.no k hk (by simp [lendO, h0])
              exact ⟨this.2, .inl this.1⟩
            · have := hF.fz k hk (by simp [lendO, h0])
              exact ⟨this.2, .inr this.1⟩
          let O2 : Nat → Lab := fun k => if k < S.w.heap.size then S.O k else O' k
          obtain ⟨K1, L1⟩ := K.world (w' := w') (O' := O2) (fun k hk _ => ⟨if_pos hk, (hsame k hk).1⟩) hF.os hF.tape hF.out hF.size (fun k hk => by
            by_cases hkl : k < S.w.heap.size
            · exact Nat.lt_of_lt_of_le hkl hF.size
            · exact hlt k (by simpa [O2, hkl] using hk))
          have htm : ∀ k i q, O' k = .tm i q → O2 k = .tm i q := fun k i q hk => by
            have : ¬ k < S.w.heap.size := fun hkl => by
              rcases (hsame k hkl).2 with h | h <;> rw [h] at hk <;> cases hk
            simp [O2, this, hk]
          have hnews := news_all (by rw [lends_outs en.ps hl, List.append_nil]) y hn
          have hres1 : Results X.P (groS S w' O2) S.w.heap.size en.rs (leavesD _ y) v := Results.imp (S1 := bare O' w') (S2 := groS S w' O2) rfl (fun k i hk => htm k i [] hk) (fun l hl' z hz i q u hu => new_lf (S1 := bare O' w') (S2 := groS S w' O2) (hnews l hl' z hz) rfl (fun k hk => htm k i q hk) hu) hres
          obtain ⟨S2, K2, w2, g2⟩ := put_res K1 (A1 := A) hg hd K.fr.size (leavesD_solid _ y) (fun d' _ h => by rw [news_noPtr _ hn] at h; cases h) hres1 hus
          exact ⟨S2, w2, K2, g2⟩
end
end Go.Proofs.Ytehkignjdbkeiaa.Vf
end

section
/- Calls: arguments that are shared, given away, or pointers to a box. -/
set_option linter.unusedVariables false
set_option linter.unusedSimpArgs false
namespace Go.Proofs.Ytehkignjdbkeiaa.Vf
open Go
attribute [local irreducible] C H

def ArgP (P : Program) (S : Sit) (i : Nat) : Par → List Lf → Value → List Nat → Prop
  | .val ag t, l, u, bs => bs = [] ∧ ((noOw t = true ∧ ∃ us, (if ag then u = .agg us.toArray else us = [u]) ∧ All2 (LfRep P (fun k => S.O k = .fz) S.w) l us) ∨
      (ag = false ∧ ∃ e r e' r', ∃ xs : List (Ty.den r'), t = .ow e r ∧ l = [.own e' r' xs] ∧ LfOk P S (.tm (10 + i) []) (.own e' r' xs) u) ∨
      (ag = true ∧ noSl t = true ∧ owned l = true ∧ ∃ us, u = .agg us.toArray ∧ LfsOk P S (fun n => .tm (10 + i) [n]) 0 l us))
  | .ptr t t', l, u, bs => ∃ b, bs = [b] ∧ u = .pointer (some ⟨(S.bb b).1, (S.bb b).2, none⟩) ∧ (S.g (H b)).2 = .one (.hd t.sz) ∧ noOw t = true ∧ noOw t' = true ∧ t'.sz = t.sz ∧ l.length = t.sz ∧
      All2 (LfRep P (fun k => S.O k = .fz) S.w) l ((List.range t.sz).map fun j => S.ph (C b (0 + j)))

def ArgsP (P : Program) (S : Sit) : Nat → List Par → List (List Lf) → List Value → List Nat → Prop
  | _, [], [], [], bs => bs = []
  | i, p :: ps, l :: ls, u :: us, bs => ∃ b1 b2, bs = b1 ++ b2 ∧ ArgP P S i p l u b1 ∧ ArgsP P S (i + 1) ps ls us b2
  | _, _, _, _, _ => False

structure Stays (P : Program) (S S1 : Sit) (i : Nat) : Prop where
  w : S1.w = S.w
  bb : S1.bb = S.bb
  ph : S1.ph = S.ph
  later : Later S S1
  heads : ∀ b n, (S.g (H b)).2 = .one (.hd n) → S1.g (H b) = S.g (H b)
  tms : ∀ n q x u, 10 ≤ n → n < 10 + i → LfOk P S (.tm n q) x u → LfOk P S1 (.tm n q) x u

section
variable {X : Cx} {S S1 S2 : Sit} {a : Act} {E : En} {A : Ab} {o : Oper} {R : Type} {Kc : List Up → Option R} {r : R}

theorem Stays.trans {P : Program} {i : Nat} (h : Stays P S S1 i) (h' : Stays P S1 S2 (i + 1)) : Stays P S S2 i :=
  ⟨h'.w.trans h.w, h'.bb.trans h.bb, h'.ph.trans h.ph, h.later.trans h'.later, fun b n hn => by
    have e1 := h.heads b n hn
    exact (h'.heads b n (by rw [e1]; exact hn)).trans e1, fun n q x u h1 h2 hx => h'.tms n q x u h1 (by omega) (h.tms n q x u h1 h2 hx)⟩

theorem ArgP.stay {P : Program} {i j : Nat} {p : Par} {l : List Lf} {u : Value} {bs : List Nat} (h : Stays P S S1 i) (hj : j < i) (hp : ArgP P S j p l u bs) : ArgP P S1 j p l u bs := by
  have hfz : ∀ k, S.O k = .fz → S1.O k = .fz := fun k hk => (h.later.fz k hk).1
  cases p with
  | val ag t =>
    obtain ⟨h1, h2⟩ := hp
    refine ⟨h1, ?_⟩
    rcases h2 with ⟨h2, us, h3, h4⟩ | ⟨h2, e, r', e', r'', xs, h3, h4, h5⟩ | ⟨h2, h3, h4, us, h5, h6⟩
    · exact .inl ⟨h2, us, h3, h4.imp (fun x y hx => hx.mono hfz (fun k _ => by rw [h.w]))⟩
    · exact .inr (.inl ⟨h2, e, r', e', r'', xs, h3, h4, h.tms _ _ _ _ (by omega) (by omega) h5⟩)
    · exact .inr (.inr ⟨h2, h3, h4, us, h5, h6.imp (fun n x u hx => h.tms _ _ _ _ (by omega) (by omega) hx)⟩)
  | ptr t t' =>
    obtain ⟨b, h1, h2, h3, h4, h5, h6, h7, h8⟩ := hp
    refine ⟨b, h1, by rw [h.bb]; exact h2, by rw [h.heads b _ h3]; exact h3, h4, h5, h6, h7, ?_⟩
    rw [h.ph]
    exact h8.imp (fun x y hx => hx.mono hfz (fun k _ => by rw [h.w]))

theorem kept_ok {l0 : List Lf} (K : Okay X S a) (hg : S.g = get A) (K1 : Okay X S1 a) (E1 : Eased X S S1) (P1 : ∀ p v, Lf.al p v ∈ l0 → ∀ n e r, ∀ xs : List (Ty.den r), get A p = (n, .one (.own e r xs)) → n = v → S1.g p = (n, .one (.fz e r xs)))
    (f : Nat → Lab) (hf : ∀ n k, S.O k = f n → S1.O k = f n) : ∀ (l : List Lf), (∀ x ∈ l, x ∈ l0) → ∀ j us, LfsOk X.P S f j l us → LfsOk X.P S1 f j (l.map (kept A)) us
  | [], _, _, [], _ => trivial
  | [], _, _, _ :: _, h => h.elim
  | _ :: _, _, _, [], h => h.elim
  | x :: l, hm, j, u :: us, h => by
    refine ⟨?_, kept_ok K hg K1 E1 P1 f hf l (fun z hz => hm z (List.mem_cons_of_mem _ hz)) (j + 1) us h.2⟩
    have h1 : LfOk X.P S (f j) x u := h.1
    cases x with
    | al p v =>
      show LfOk X.P S1 (f j) (calm (seen A (.al p v))) u
      simp only [seen]
      split
      · rename_i n e r' xs hp
        cases hb : Nat.beq n v with
        | false => exact trivial
        | true =>
          have hnv : n = v := by simpa using hb
          subst hnv
          rw [cond_true]
          show LfOk X.P S1 (f j) (.fz e r' xs) u
          have h2 := P1 p n (hm _ (by simp)) n e r' xs hp rfl
          have h3 := K1.at_ p
          rw [h2, E1.ph, ← h1.2 (by rw [hg, hp])] at h3
          exact LfOk.relab (lab := .pl p []) rfl h3
      · rename_i n e r' xs hp
        cases hb : Nat.beq n v with
        | false => exact trivial
        | true =>
          have hnv : n = v := by simpa using hb
          subst hnv
          rw [cond_true]
          show LfOk X.P S1 (f j) (.fz e r' xs) u
          have h3 := K.at_ p
          rw [hg, hp, ← h1.2 (by rw [hg, hp])] at h3
          have h4 : LfOk X.P S (.pl p []) (.fz e r' xs) u := h3
          exact (LfOk.relab (lab' := f j) rfl h4).later E1.later (fun k hk => ⟨hf j k hk, by rw [E1.w]⟩)
      · exact trivial
    | _ => exact h1.later E1.later (fun k hk => ⟨hf j k hk, by rw [E1.w]⟩)

theorem kept_noOwn : ∀ l : List Lf, ownIn l = false → ownIn (l.map (kept A)) = false
  | [], _ => rfl
  | x :: l, h => by
    have hc : ∀ z : Lf, ownIn (calm z :: l.map (kept A)) = ownIn (l.map (kept A)) := by intro z; cases z <;> rfl
    cases x with
    | own e r xs => simp [ownIn] at h
    | al p v => rw [List.map_cons]; exact (hc _).trans (kept_noOwn l (by simpa [ownIn] using h))
    | _ => exact kept_noOwn l (by simpa [ownIn] using h)

theorem rep_of_noOwn {P : Program} {S : Sit} {f : Nat → Lab} : ∀ {l : List Lf} {j : Nat} {us : List Value}, storable l = true → ownIn l = false → LfsOk P S f j l us → All2 (LfRep P (fun k => S.O k = .fz) S.w) l us
  | [], _, [], _, _, _ => .nil
  | [], _, _ :: _, _, _, h => h.elim
  | _ :: _, _, [], _, _, h => h.elim
  | x :: l, j, u :: us, hs, ho, h => by
    cases x with
    | sc v => exact .cons h.1 (rep_of_noOwn (by simpa [storable] using hs) (by simpa [ownIn] using ho) h.2)
    | fz e r xs => exact .cons h.1 (rep_of_noOwn (by simpa [storable] using hs) (by simpa [ownIn] using ho) h.2)
    | own e r xs => simp [ownIn] at ho
    | _ => simp [storable] at hs

theorem arg_step (hE : EnOk X E) (K : Okay X S a) (hg : S.g = get A) {T : TypeId} {x : Operand} {s : Sv} {p : Par} {l : List Lf} {us : List Up} {bs : List Nat} (i : Nat) (hx : opT E T A x = some s) (h : argOf A x p s = some (l, us, bs)) :
    ∃ S1, Okay X S1 a ∧ S1.g = get (ups A us) ∧ Stays X.P S S1 i ∧ ArgP X.P S1 i p l (a.eval x) bs := by
  unfold argOf at h
  split at h
  · rename_i e0 r0 y
    split at h
    · rename_i e r' xs hsn
      simp only [Option.some.injEq, Prod.mk.injEq] at h
      obtain ⟨rfl, rfl, rfl⟩ := h
      obtain ⟨S1, K1, g1, w1, L1, hown, t1, b1, p1, hd1⟩ := app_take hE K hg hx hsn
      let hh : Nat → List Nat → Option Lab := fun n q => if n = 0 then (match q with | [] => some (.tm (10 + i) []) | _ => none) else none
      obtain ⟨K2, L2⟩ := K1.names hh (by
        intro n q
        simp only [hh]
        split
        · split <;> simp
        · simp)
      refine ⟨_, K2, g1, ⟨w1, b1, p1, L1.trans L2, hd1, fun n q z v n1 n2 hz => (t1 n q z v hz).later L2 (fun k hk => ⟨atO_keep hk (by simp only [hh]; rw [if_neg (by omega)]), rfl⟩)⟩, rfl, .inr (.inl ⟨rfl, e0, r0, e, r', xs, rfl, rfl, ?_⟩)⟩
      exact LfOk.later (x := .own e r' xs) (lab := .tm 0 []) (lab' := .tm (10 + i) []) L2 hown (fun k hk => ⟨atO_tm hk (by simp [hh]), rfl⟩)
    · cases h
  · rename_i ag t _
    cases q1 : noOw t with
    | false =>
      rw [q1, cond_false] at h
      cases hq : (ag && noSl t && formOk true s) with
      | false => rw [hq] at h; simp at h
      | true =>
        rw [hq, cond_true] at h
        simp only [Bool.and_eq_true] at hq
        obtain ⟨⟨rfl, q2⟩, q3⟩ := hq
        split at h
        · rename_i m vs hgive
          cases q4 : owned m with
          | false => rw [q4] at h; simp at h
          | true =>
            rw [q4] at h
            simp only [cond_true, Option.some.injEq, Prod.mk.injEq] at h
            obtain ⟨rfl, rfl, rfl⟩ := h
            obtain ⟨S1, K1, g1, G1, us, hsh, hl⟩ := give_ok hE K hg hx (form_nt q3) hgive (10 + i)
            have hshape := form_shape q3 hsh
            have hpth : ∀ n, pth s n = [n] := fun n => by
              cases s with
              | agg l => rfl
              | one y => simp [formOk, form] at q3
              | tup vs => simp [formOk, form] at q3
            simp only [hpth] at hl
            exact ⟨S1, K1, g1, ⟨G1.w, G1.bb, G1.ph, G1.later, G1.heads, fun n q z v _ _ hz => G1.tms n q z v hz⟩, rfl, .inr (.inr ⟨rfl, q2, q4, us, hshape, hl⟩)⟩
        · cases h
    | true =>
    rw [q1, cond_true] at h
    cases hq : (formOk ag s && storable ((parts s).map (kept A))) with
    | false => rw [hq] at h; simp at h
    | true =>
      rw [hq] at h
      simp only [cond_true, Option.some.injEq, Prod.mk.injEq] at h
      obtain ⟨rfl, rfl, rfl⟩ := h
      simp only [Bool.and_eq_true] at hq
      obtain ⟨q2, q3⟩ := hq
      obtain ⟨S1, K1, g1, w1, b1, p1, L1, x1, heads, tms, us, hsh, hls⟩ := taken hE K hg hx (form_nt q2) (10 + i)
      obtain ⟨K2, L2⟩ := K1.names (frzH (10 + i)) (by intro n q; unfold frzH; split <;> simp)
      refine ⟨_, K2, g1, ⟨w1, b1, p1, L1.trans L2, fun b n hn => (heads b).2 n hn, fun n q z v n1 n2 hz => (tms n q z v hz).later L2 (fun k hk => ⟨atO_keep hk (by unfold frzH; rw [if_neg (by omega)]), rfl⟩)⟩, rfl, .inl ⟨q1, us, form_shape q2 hsh, calm_rep q3 hls⟩⟩
  · rename_i t t' b v
    split at h
    · rename_i n m hp
      cases hq : (noOw t && noOw t' && Nat.beq n v && Nat.beq m t.sz && Nat.beq m t'.sz && storable ((cellsOf A b 0 m).map (kept A))) with
      | false => rw [hq] at h; simp at h
      | true =>
        rw [hq] at h
        simp only [cond_true, Option.some.injEq, Prod.mk.injEq] at h
        obtain ⟨rfl, rfl, rfl⟩ := h
        simp only [Bool.and_eq_true] at hq
        obtain ⟨⟨⟨⟨⟨q1, q2⟩, q3⟩, q4⟩, q5⟩, q6⟩ := hq
        have hnv : n = v := by simpa using q3
        have hm : m = t.sz := Nat.eq_of_beq_eq_true q4
        have hm' : m = t'.sz := Nat.eq_of_beq_eq_true q5
        subst hnv
        obtain ⟨pl, hl⟩ := opT_ex hE K hg hx
        have hlf : LfOk X.P S (.pl pl []) (.bp b n 0) (a.eval x) := hl
        have hu := hlf.2 (by rw [hg, hp])
        obtain ⟨S1, K1, g1, E1, F1, P1⟩ := costs_ok (X := X) (a := a) (A := A) (cellsOf A b 0 m) K hg (fun p => .inl rfl)
        obtain ⟨c1, c2, c3⟩ := cellsOf_ok K hg b m 0
        have hkept := kept_ok K hg K1 E1 P1 (fun _ => .fz) (fun n k hk => (E1.later.fz k hk).1) (cellsOf A b 0 m) (fun _ h => h) 0 _ (c3 (fun _ => .fz) 0)
        have hrep := rep_of_noOwn q6 (kept_noOwn _ c2) hkept
        have heads : ∀ b n, (S.g (H b)).2 = .one (.hd n) → S1.g (H b) = S.g (H b) := fun b n hn => by
          rcases F1 (H b) with h1 | ⟨n', e, r', xs, h1, h2⟩
          · rw [h1, hg]
          · rw [hg, h1] at hn; cases hn
        have hh : (S.g (H b)).2 = .one (.hd m) := by rw [hg, hp]
        refine ⟨S1, K1, g1, ⟨E1.w, E1.bb, E1.ph, E1.later, heads, fun n q z v _ _ hz => hz.later E1.later (fun k hk => ⟨E1.tm n q k hk, by rw [E1.w]⟩)⟩, b, rfl, ?_, ?_, q1, q2, by omega, by rw [List.length_map, c1, hm], ?_⟩
        · rw [E1.bb]; exact hu
        · rw [heads b m hh, hh, hm]
        · rw [E1.ph, ← hm]; exact hrep
    · cases h
  · cases h

theorem args_step (hE : EnOk X E) : ∀ (ps : List Par) {Ts : List TypeId} {xs : List Operand} {S : Sit} {A : Ab} {ls : List (List Lf)} {us : List Up} {bs : List Nat} (i : Nat), Okay X S a → S.g = get A → argsOf E Ts A xs ps = some (ls, us, bs) →
    ∃ S1, Okay X S1 a ∧ S1.g = get (ups A us) ∧ Stays X.P S S1 i ∧ ArgsP X.P S1 i ps ls (xs.map a.eval) bs
  | [], Ts, xs, S, A, ls, us, bs, i, K, hg, h => by
    cases xs with
    | cons => unfold argsOf at h; cases Ts <;> cases h
    | nil =>
      have : (([], [], []) : List (List Lf) × List Up × List Nat) = (ls, us, bs) := by unfold argsOf at h; cases Ts <;> simpa using h
      cases this
      exact ⟨S, K, hg, ⟨rfl, rfl, rfl, .refl S, fun _ _ _ => rfl, fun _ _ _ _ _ _ h => h⟩, rfl⟩
  | p :: ps, Ts, xs, S, A, ls, us, bs, i, K, hg, h => by
    cases Ts with
    | nil => unfold argsOf at h; cases xs <;> cases h
    | cons T Ts =>
      cases xs with
      | nil => unfold argsOf at h; cases h
      | cons x xs =>
        unfold argsOf at h
        split at h
        · rename_i s hs
          split at h
          · rename_i l u b hb
            split at h
            · rename_i ls1 us1 bs1 hrec
              cases h
              obtain ⟨S1, K1, g1, st1, p1⟩ := arg_step hE K hg i hs hb
              obtain ⟨S2, K2, g2, st2, p2⟩ := args_step hE ps (i + 1) K1 g1 hrec
              exact ⟨S2, K2, by rw [ups_append]; exact g2, st1.trans st2, b, bs1, rfl, p1.stay st2 (by omega), p2⟩
            · cases h
          · cases h
        · cases h
end
end Go.Proofs.Ytehkignjdbkeiaa.Vf
end
