/- append; conversions. -/
import Derived.Test.YtehkignjdbkeiaaVp
import Derived.Lib.AppendStr
set_option linter.unusedVariables false
set_option linter.unusedSimpArgs false
namespace Go.Proofs.Ytehkignjdbkeiaa.Vf
open Go
attribute [local irreducible] C H

section
variable {X : Cx} {S S' : Sit} {a : Act} {E : En} {A : Ab} {o : Oper} {R : Type} {Kc : List Up → Option R} {r : R}

/-- What is appended to stays in its block, or goes to a new one. -/
theorem app_new {P : Program} {w : World} {t ty e : TypeId} {i : TypeInfo} {z : Value} {size : Nat} (ht : P.underlying t = some (.slice e)) (hi : P.info? e = some i) (hz : i.zero = some z)
    (hsize : i.size = size) {v : Value} {n : Nat} {xs : List Value} (hown : w.ownsRow 0 e size v n xs)
    {ad : Addr} {m c : Nat} {news : List Value} (hl : news.length = m * size) (hnews : ∀ j u, news[j]? = some u → w.cell? (ad.add j) = some u) (h1 : ∀ u ∈ news, u.oneCell' = true)
    (h63 : n + m ≤ maxLen) (hbytes : (n + m) * i.bytes ≤ 140737488355328) {v' : Value} {w' : World} (hr : (Builtin.append_ #[t, t] ty #[v, .slice (some ad) m c]).run P w = .ok v' w')
    (hnil : v' = .slice none 0 0 ↔ v = .slice none 0 0 ∧ m = 0) : ∀ k, v'.ownBlock = some k → v.ownBlock = some k ∨ w.heap.size ≤ k := by
  subst hsize
  have hsmall : n + m ≤ 9223372036854775807 := by simp only [maxLen] at h63; omega
  intro k hk
  rcases own_nil_or hown with ⟨rfl, hn, rfl⟩ | ⟨k0, cap, cur, rfl, hg, hc1, hc2, hc3, hc4⟩
  · by_cases hm : m = 0
    · rw [hnil.2 ⟨rfl, hm⟩] at hk
      simp [Value.ownBlock] at hk
    · subst hn
      have h2 := run_append_nil (P := P) w t ty e i z ht hi hz ad m c news hl hnews (by omega) (by omega) (by have hb := hbytes; simp only [Nat.zero_add] at hb; omega)
      rw [h2] at hr
      cases hr
      simp only [Value.ownBlock, Option.some.injEq] at hk
      exact .inr (Nat.le_of_eq hk)
  · by_cases hroom : n + m ≤ cap
    · have hfit : n * i.size + news.length ≤ cur.size := by rw [hl, hc3, ← Nat.add_mul]; exact Nat.mul_le_mul_right _ hroom
      have h2 := run_append_room (P := P) w t ty e i ht hi k0 n cap cur hg ad m c news hl hnews h1 hroom hfit
      rw [h2] at hr
      cases hr
      exact .inl hk
    · have holds : ∀ j u, xs[j]? = some u → w.cell? ((⟨k0, 0, none⟩ : Addr).add j) = some u := hown.cells (g := k0) rfl
      have h2 := run_append_grow (P := P) w t ty e i z ht hi hz ⟨k0, 0, none⟩ n cap xs hown.1 holds ad m c news hl hnews (by omega) (by omega) (growslice_fits (by omega) hbytes)
      rw [h2] at hr
      cases hr
      simp only [Value.ownBlock, Option.some.injEq] at hk
      exact .inr (Nat.le_of_eq hk)

theorem app_new_str {P : Program} {w : World} {t u ty e : TypeId} {i : TypeInfo} (ht : P.underlying t = some (.slice e)) (hu : P.underlying u = some .string) (hi : P.info? e = some i) (hz : i.zero = some (.int .u8 0))
    (hsize : i.size = 1) (hby : i.bytes = 1) {v : Value} {n : Nat} {xs : List Value} (hown : w.ownsRow 0 e 1 v n xs) {s : ByteArray}
    (h63 : n + s.size ≤ maxLen) (hbytes : n + s.size ≤ 140737488355328) {v' : Value} {w' : World} (hr : (Builtin.append_ #[t, u] ty #[v, .string s]).run P w = .ok v' w')
    (hnil : v' = .slice none 0 0 ↔ v = .slice none 0 0 ∧ s.size = 0) : ∀ k, v'.ownBlock = some k → v.ownBlock = some k ∨ w.heap.size ≤ k := by
  have hsmall : n + s.size ≤ 9223372036854775807 := by simp only [maxLen] at h63; omega
  intro k hk
  rcases own_nil_or hown with ⟨rfl, hn, rfl⟩ | ⟨k0, cap, cur, rfl, hg, hc1, hc2, hc3, hc4⟩
  · by_cases hm : s.size = 0
    · rw [hnil.2 ⟨rfl, hm⟩] at hk
      simp [Value.ownBlock] at hk
    · subst hn
      have h2 := run_append_nil_string (P := P) w t u ty e i _ ht hu hi hz s (by omega) (by omega) (by rw [hby]; omega)
      rw [h2] at hr
      cases hr
      simp only [Value.ownBlock, Option.some.injEq] at hk
      exact .inr (Nat.le_of_eq hk)
  · by_cases hroom : n + s.size ≤ cap
    · have h2 := Go.Lib.run_append_room_string (P := P) w t u ty e i ht hu hi hsize k0 n cap cur hg s hroom (by rw [hc3]; omega)
      rw [h2] at hr
      cases hr
      exact .inl hk
    · have holds : ∀ j u, xs[j]? = some u → w.cell? ((⟨k0, 0, none⟩ : Addr).add j) = some u := hown.cells (g := k0) rfl
      have h2 := Go.Lib.run_append_grow_string (P := P) w t u ty e i _ ht hu hi hz ⟨k0, 0, none⟩ n cap xs (by rw [hsize]; exact hown.1) holds s (by omega) (by omega) (growslice_fits (by omega) (by rw [hby]; omega))
      rw [h2] at hr
      cases hr
      simp only [Value.ownBlock, Option.some.injEq] at hk
      exact .inr (Nat.le_of_eq hk)

theorem run_append_call {P : Program} {w w' : World} {T T' : TypeId} {x y : Operand} {c : Call} (ho : o.op = .call c) (hc : c.callee = .builtin .append) (hT : c.argTypes.toList = [T, T']) (hx : c.args.toList = [x, y]) {v : Value}
    (hr : (Builtin.append_ #[T, T'] o.type #[a.eval x, a.eval y]).run P w = .ok v w') : (execOp a.eval o).run P w = .ok (.value v) w' := by
  have e1 : c.args = #[x, y] := by rw [← hx]
  have e2 : c.argTypes = #[T, T'] := by rw [← hT]
  unfold execOp
  simp [ho, resolve, hc, e1, e2, invoke, builtin, hr]

/-- What is appended to, given up. -/
theorem app_take (hE : EnOk X E) (K : Okay X S a) (hg : S.g = get A) {T : TypeId} {x : Operand} {u : Lf} {e : TypeId} {r' : Ty} {xs : List r'.den} (hs : opT E T A x = some (.one u)) (hu : seen A u = .own e r' xs) :
    ∃ S1, Okay X S1 a ∧ S1.g = get (ups A (took u x)) ∧ S1.w = S.w ∧ Later S S1 ∧ OwnOk X.P S1.O S1.w (.tm 0 []) e r' xs (a.eval x) ∧ (∀ n q z v, LfOk X.P S (.tm n q) z v → LfOk X.P S1 (.tm n q) z v) ∧ S1.bb = S.bb ∧ S1.ph = S.ph ∧ (∀ b n, (S.g (H b)).2 = .one (.hd n) → S1.g (H b) = S.g (H b)) := by
  obtain ⟨l, hl⟩ := opT_ex hE K hg hs
  have hlf : LfOk X.P S (.pl l []) u (a.eval x) := hl
  by_cases hal : ∃ p v, u = .al p v
  · obtain ⟨p, v, rfl⟩ := hal
    obtain ⟨p', v', e1, hp⟩ := seen_alias hu (by intro e r xs h; cases h)
    cases e1
    obtain ⟨K1, g1, g2⟩ := detach K p 0
    have he : a.eval x = S.ph p := hlf.2 (by rw [hg, hp])
    refine ⟨_, K1, ?_, rfl, detS_later S p 0, ?_, g2, rfl, rfl, fun b n hn => upd_ne _ _ (fun e1 => by rw [e1, hg, hp] at hn; cases hn)⟩
    · show upd S.g p _ = _
      rw [show took (.al p v) x = [⟨p, false, .one .dead⟩] from rfl, get_ups1, ← hg]
    · have := K.at_ p
      rw [hg, hp] at this
      rw [he]
      exact g1 [] (.own e r' xs) _ this
  · have hne : ∀ p v, u = .al p v → False := fun p v h => hal ⟨p, v, h⟩
    have hu' := seen_own hu hne
    subst hu'
    rcases opT_ok hE K hg hs with ⟨t, rfl, ht, hst, het, hok⟩ | ⟨hnt, y', ey, hy'⟩
    · obtain ⟨K1, g1, g2⟩ := detach K t 0
      refine ⟨_, K1, ?_, rfl, detS_later S t 0, g1 [] (.own e r' xs) _ hok, g2, rfl, rfl, fun b n hn => upd_ne _ _ (fun e1 => by rw [e1, ← hst] at hn; cases hn)⟩
      show upd S.g t _ = _
      rw [show took (.own e r' xs) (.tmp t) = [⟨t, false, .one .dead⟩] from rfl, get_ups1, ← hg]
    · cases ey
      refine ⟨S, K, ?_, rfl, .refl S, hy' (.tm 0 []), fun _ _ _ _ h => h, rfl, rfl, fun _ _ _ => rfl⟩
      cases x <;> first | exact hg | exact absurd rfl (hnt _)

/-- What is appended: its cells. -/
theorem app_src {lab : Lab} {w' : Lf} {e' : TypeId} {r' : Ty} {ys : List r'.den} {u : Value} (h : LfOk X.P S lab w' u) (hs : asSl w' = some ⟨e', r', ys⟩) :
    ∃ ad cap cs, u = .slice ad ys.length cap ∧ Rows (fun x c => r'.rep X.P (fun k => S.O k = .fz) S.w x c) ys cs ∧ (ys ≠ [] → ∃ k o, ad = some ⟨k, o, none⟩ ∧ CellsAt S.w k o cs) := by
  cases w' with
  | fz e r xs =>
    simp only [asSl, Option.some.injEq, Sl.mk.injEq] at hs
    obtain ⟨rfl, rfl, h3⟩ := hs
    cases h3
    obtain ⟨v, e1, _, ad, cap, cs, e2, _, hrows, hne⟩ := h
    cases e1
    refine ⟨ad, cap, cs, e2, hrows, fun hn => ?_⟩
    obtain ⟨k, o', e3, _, e4⟩ := hne hn
    exact ⟨k, o', e3, e4⟩
  | own e r xs =>
    simp only [asSl, Option.some.injEq, Sl.mk.injEq] at hs
    obtain ⟨rfl, rfl, h3⟩ := hs
    cases h3
    obtain ⟨_, cs, hrow, hrows, _⟩ := h
    rcases own_nil_or hrow with ⟨e1, e2, rfl⟩ | ⟨k, cap, cur, e1, hc, _, _, _, ht⟩
    · refine ⟨none, 0, [], by rw [e1, e2], hrows, fun hn => absurd (List.eq_nil_of_length_eq_zero e2) hn⟩
    · exact ⟨_, cap, cs, e1, hrows, fun _ => ⟨k, 0, rfl, cells_of_row hc ht⟩⟩
  | _ => simp [asSl] at hs

theorem tok_full {P : Program} {T : TypeId} {t : TI} (w : World) (h : TOk P T t) : ∃ i z, P.info? T = some i ∧ i.zero = some z ∧ i.size = t.ty.sz ∧ i.bytes = t.by_ ∧ z.cells = (zcells t.ty).toArray ∧ (t.ag = false → zcells t.ty = [z]) := by
  obtain ⟨i, i1, i2, i3, i4, i5⟩ := h.info
  obtain ⟨z, z1, z2, z3⟩ := tok_zero (w := w) h
  have iz : i.zero = some z := by
    simp only [zeroValue, typeInfo, Sem.run_bind, run_program, Result.andThen_ok, i1, Sem.run_pure] at z1
    rw [i4] at z1 ⊢
    simp only [Sem.run_pure, Result.ok.injEq, and_true] at z1
    rw [z1]
  exact ⟨i, z, i1, iz, i2, i3, z2, fun ha => by rw [ha] at z3; simpa using z3⟩

theorem rows_bytes {P : Program} {G : Nat → Prop} {w : World} : ∀ l : List UInt8, Rows (fun x c => Ty.rep P G w (.i .u8) x c) (l.map fun b => (b.toNat : Int)) (l.map fun b => Value.int .u8 b.toNat)
  | [] => rfl
  | b :: l => ⟨[_], _, rfl, rfl, rows_bytes l⟩

theorem st_append (hE : EnOk X E) (K : Okay X S a) (hg : S.g = get A) {c : Call} (ho : o.op = .call c) (hc : c.callee = .builtin .append) (hd : ∀ d, o.dst = some d → d < X.nt) (h : step E o A Kc = some r) : After X o a S.w A Kc r := by
  unfold step at h
  rw [ho] at h
  simp only [hc] at h
  split at h
  · rename_i T T' x y d hT hx hod
    have hdl := hd d hod
    split at h
    · rename_i u w hsu hsw
      split at h
      · rename_i e r' xs hsu'
        obtain ⟨S1, K1, g1, w1, L1, hown, _⟩ := app_take hE K hg hsu hsu'
        obtain ⟨hsz, cs, hrow, hrows, hlab⟩ := id hown
        obtain ⟨lw, hlw⟩ := opT_ex hE K hg hsw
        obtain ⟨lab', hlw'⟩ := seen_ok K hg (show LfOk X.P S (.pl lw []) w (a.eval y) from hlw)
        split at h
        · rename_i e' r'' ys hasl
          split at h
          · rename_i ys' te hcast hte
            cases hq : (Nat.beq e e' && isEl E T e && Nat.beq T T') with
            | false => rw [hq] at h; simp at h
            | true =>
              rw [hq, cond_true] at h
              cases hq2 : Nat.ble ((xs.length + ys'.length) * te.by_) 140737488355328 with
              | false => rw [hq2] at h; simp at h
              | true =>
                rw [hq2, cond_true] at h
                simp only [Bool.and_eq_true] at hq
                obtain ⟨⟨q1, q2⟩, q3⟩ := hq
                have he : e = e' := Nat.eq_of_beq_eq_true q1
                have hTT : T = T' := Nat.eq_of_beq_eq_true q3
                subst he hTT
                have hle : (xs.length + ys'.length) * te.by_ ≤ 140737488355328 := Nat.le_of_ble_eq_true hq2
                obtain ⟨ee, ey⟩ := castL_eq hcast
                subst ee
                have ey' : ys' = ys := ey
                subst ey'
                have hu := desc_el q2 hE.ti
                have hek := hE.ti _ _ hte
                obtain ⟨i, z, i1, iz, i2, i3, z2, _⟩ := tok_full S.w hek
                have hsize : i.size = r''.sz := by
                  have := hsz
                  unfold SzOk at this
                  rw [i1] at this
                  simpa using this
                have h63 : xs.length + ys'.length ≤ maxLen := by
                  have h1 := hek.by0
                  have h2 : (xs.length + ys'.length) * 1 ≤ (xs.length + ys'.length) * te.by_ := Nat.mul_le_mul_left _ h1
                  simp only [maxLen]; omega
                obtain ⟨ad, cap, ds, ev, hdrows, hne⟩ := app_src hlw' hasl
                have hdl2 := hdrows.len (Ty.rep_len r'')
                have hdone : ∀ u ∈ ds, u.oneCell' = true := hdrows.all (rep_one r'')
                have hdrows1 : Rows (fun x c => r''.rep X.P (fun k => S1.O k = .fz) S1.w x c) ys' ds := hdrows.mono (fun x c => Ty.rep_mono (fun k hk => (L1.fz k hk).1) (fun k hk => (L1.fz k hk).2) r'' x c)
                -- the run
                have key : ∃ v' w', (Builtin.append_ #[T, T] o.type #[a.eval x, a.eval y]).run X.P S1.w = .ok v' w' ∧ w'.ownsRow 0 e r''.sz v' (xs ++ ys').length (cs ++ ds) ∧ S1.w.grownBy w' (a.eval x).ownBlock ∧ ∀ k, v'.ownBlock = some k → (a.eval x).ownBlock = some k ∨ S1.w.heap.size ≤ k := by
                  rw [ev, List.length_append]
                  cases ad with
                  | none =>
                    have hy0 : ys' = [] := by
                      by_cases hy : ys' = []
                      · exact hy
                      · obtain ⟨k, o', e1, _⟩ := hne hy
                        cases e1
                    subst hy0
                    have hd0 : ds = [] := List.eq_nil_of_length_eq_zero (by simpa using hdl2)
                    subst hd0
                    have hcap : (Builtin.append_ #[T, T] o.type #[a.eval x, .slice none 0 cap]).run X.P S1.w = .ok (a.eval x) S1.w := by
                      rcases own_nil_or hrow with ⟨e1, _⟩ | ⟨k, cap', cur, e1, _, hle', _⟩
                      · rw [e1]; simp [Builtin.append_, run_underlying hu, sizeOf, typeInfo, i1, Builtin.lenOf, Builtin.firstCells]
                      · rw [e1]; simp [Builtin.append_, run_underlying hu, sizeOf, typeInfo, i1, Builtin.lenOf, Builtin.firstCells, hle', storeCells]
                    refine ⟨_, _, by simpa using hcap, by simpa using hrow, ⟨rfl, rfl, rfl, Nat.le_refl _, fun _ _ _ => rfl⟩, fun k hk => .inl hk⟩
                  | some ad =>
                    have hnews : ∀ j u, ds[j]? = some u → S1.w.cell? (ad.add j) = some u := by
                      intro j u hj
                      have hy : ys' ≠ [] := by
                        intro e1
                        subst e1
                        have : ds = [] := List.eq_nil_of_length_eq_zero (by simpa using hdl2)
                        subst this
                        simp at hj
                      obtain ⟨k, o', e1, e2⟩ := hne hy
                      cases e1
                      rw [add_none, w1]
                      exact e2 j u hj
                    obtain ⟨v', w', hr, ho', hgr, hnil⟩ := run_append_own (P := X.P) S1.w 0 T o.type e i z r''.sz te.by_ hu i1 iz hsize i3 (by rw [z2, List.size_toArray, zcells_len, ← i2, hsize]) (sz_pos r'') (a.eval x) xs.length cs hrow ad ys'.length cap ds hdl2 hnews hdone h63 hle (Nat.zero_le _)
                    exact ⟨v', w', hr, ho', hgr, app_new hu i1 iz hsize hrow hdl2 hnews hdone h63 (by rw [i3]; exact hle) hr hnil⟩
                obtain ⟨v', w', hr, ho', hgr, hnew⟩ := key
                obtain ⟨S', K', ew, g'⟩ := put_new K1 g1 hdl hgr (fun k hk => ⟨0, [], hlab k hk⟩) hsz ho' (hrows.append hdrows1) hnew
                rw [← ups_append] at g'
                exact ⟨_, h, goes_value (S := S') (v := v') (by rw [ew, ← w1]; exact run_append_call ho hc hT hx hr) (by rw [hod]; exact K') g'⟩
          · cases h
        · split at h
          · rename_i s hsn
            split at h
            · rename_i ys fo hcast hte
              cases hq : (isEl E T e && isStr E T' && Nat.ble ((xs.length + s.size) * 1) 140737488355328) with
              | false => rw [hq] at h; simp at h
              | true =>
                rw [hq, cond_true] at h
                simp only [Bool.and_eq_true] at hq
                obtain ⟨⟨q2, q3⟩, q4⟩ := hq
                have hle : (xs.length + s.size) * 1 ≤ 140737488355328 := Nat.le_of_ble_eq_true q4
                rw [Nat.mul_one] at hle
                obtain ⟨ee, ey⟩ := castL_eq hcast
                subst ee
                have ey' : ys = bytesOf s := ey
                subst ey'
                have hu := desc_el q2 hE.ti
                have hus := desc_str q3 hE.ti
                have hek := hE.ti _ _ hte
                rw [hsn] at hlw'
                have ev : a.eval y = .string s := hlw'.1
                obtain ⟨i, z, i1, iz, i2, i3, _, z3⟩ := tok_full S.w hek
                have hz : z = .int .u8 0 := by
                  have := z3 rfl
                  simp only [zcells, List.cons.injEq, and_true] at this
                  exact this.symm
                subst hz
                have h63 : xs.length + s.size ≤ maxLen := by simp only [maxLen]; omega
                obtain ⟨v', w', hr, ho', hgr, hnil⟩ := Go.Lib.run_append_own_string (P := X.P) S1.w 0 T T' o.type e i hu hus i1 iz i2 i3 (a.eval x) xs.length cs hrow s h63 hle (Nat.zero_le _)
                have hbl : (bytesOf s).length = s.size := by simp [bytesOf]
                have hnew := app_new_str hu hus i1 iz i2 i3 hrow h63 hle hr hnil
                have hlen2 : xs.length + s.size = (xs ++ bytesOf s).length := by rw [List.length_append, hbl]
                rw [hlen2] at ho'
                obtain ⟨S', K', ew, g'⟩ := put_new K1 g1 hdl hgr (fun k hk => ⟨0, [], hlab k hk⟩) hsz ho' (hrows.append (rows_bytes s.data.toList)) hnew
                rw [← ups_append] at g'
                exact ⟨_, h, goes_value (S := S') (v := v') (by rw [ew, ← w1]; exact run_append_call ho hc hT hx (by rw [ev]; exact hr)) (by rw [hod]; exact K') g'⟩
            · cases h
          · cases h
      · cases h
    · cases h
  · cases h

/-! ### Conversions -/
theorem run_convert {P : Program} {w w' : World} {T T' : TypeId} {x : Operand} {u v : Value} (ho : o.op = .convert T T' x) (he : a.eval x = u) (hr : (convert T T' u).run P w = .ok v w') : (execOp a.eval o).run P w = .ok (.value v) w' := by
  unfold execOp
  simp [ho, he, hr]

theorem desc_int {P : Program} {T : TypeId} {k : IntKind} {by_ : Nat} {fo : List (Nat × Nat × Bool)} (h : TOk P T ⟨.i k, false, by_, fo⟩) : P.underlying T = some (.int k) := by
  have := h.desc
  unfold descB at this
  split at this <;> simp_all
theorem desc_str' {P : Program} {T : TypeId} {by_ : Nat} {fo : List (Nat × Nat × Bool)} (h : TOk P T ⟨.s, false, by_, fo⟩) : P.underlying T = some .string := by
  have := h.desc
  unfold descB at this
  split at this <;> simp_all
theorem desc_bytes {P : Program} {T e : TypeId} {by_ : Nat} {fo : List (Nat × Nat × Bool)} (h : TOk P T ⟨.sl e (.i .u8), false, by_, fo⟩) : P.underlying T = some (.slice e) ∧ P.underlying e = some (.int .u8) := by
  have hu : P.underlying T = some (.slice e) := by
    have := h.desc
    unfold descB at this
    split at this <;> simp_all
  refine ⟨hu, ?_⟩
  have := h.desc
  rw [hu] at this
  simp only [descB, elemB, Bool.and_eq_true] at this
  obtain ⟨_, h2⟩ := this
  split at h2
  · rename_i k' hk
    simp at h2
    rw [hk, ← h2]
  · cases h2

theorem rows_ints {P : Program} {G : Nat → Prop} {w : World} : ∀ (xs : List Int) (cs : List Value), Rows (fun x c => Ty.rep P G w (.i .u8) x c) xs cs → cs = xs.map (Value.int .u8)
  | [], _, h => h
  | x :: xs, _, ⟨c, d, e, h1, h2⟩ => by
    have h1' : c = [.int .u8 x] := h1
    rw [e, h1', rows_ints xs d h2]
    rfl

theorem run_bytes_str {P : Program} {w : World} {T T' e : TypeId} {xs : List Int} {ad : Option Addr} {cap : Nat} {cs : List Value} (hT : P.underlying T = some (.slice e)) (he : P.underlying e = some (.int .u8)) (hT' : P.underlying T' = some .string)
    (hcs : cs = xs.map (Value.int .u8)) (hne : xs ≠ [] → ∃ k o, ad = some ⟨k, o, none⟩ ∧ CellsAt w k o cs) : (convert T T' (.slice ad xs.length cap)).run P w = .ok (.string (strOf xs)) w := by
  rw [run_convert_bytes_string w T T' e ad xs.length cap hT he hT']
  cases ad with
  | none =>
    have : xs = [] := by
      by_cases hx : xs = []
      · exact hx
      · obtain ⟨k, o', e1, _⟩ := hne hx
        cases e1
    subst this
    simp [Conv.bytesToString, strOf]
    rfl
  | some ad =>
    have hl : (loadCells ad xs.length).run P w = .ok (xs.map (Value.int .u8)).toArray w := by
      by_cases hx : xs = []
      · subst hx
        rfl
      · obtain ⟨k, o', e1, e2⟩ := hne hx
        cases e1
        have := run_loadCells_list (P := P) w ⟨k, o', none⟩ cs (fun j v hj => by rw [add_none]; exact e2 j v hj)
        rw [hcs] at this
        simpa using this
    rw [run_bytesToString w _ xs.length cap xs hl, foldl_push_bytes]
    simp [strOf, ByteArray.empty, ByteArray.emptyWithCapacity]
    rfl

theorem st_convert (hE : EnOk X E) (K : Okay X S a) (hg : S.g = get A) {T T' : TypeId} {x : Operand} {d : Nat} (ho : o.op = .convert T T' x) (hod : o.dst = some d) (hd : d < X.nt) (h : step E o A Kc = some r) : After X o a S.w A Kc r := by
  unfold step at h
  rw [ho, hod] at h
  simp only at h
  split at h
  · rename_i y hs
    obtain ⟨l, hl⟩ := opT_ex hE K hg hs
    obtain ⟨lab', hl'⟩ := seen_ok K hg (show LfOk X.P S (.pl l []) y (a.eval x) from hl)
    unfold conv at h
    split at h
    · rename_i k0 b0 f0 k b f k1 n hT hT' hy
      simp only [Sv.one.injEq] at hy
      rw [hy] at hl'
      have e1 : a.eval x = .int k1 n := hl'.1
      refine st_sc K hg hod hd rfl (run_convert ho e1 ?_) h
      simp [convert, run_underlying (desc_int (hE.ti _ _ hT)), run_underlying (desc_int (hE.ti _ _ hT')), Conv.intToInt]
    · rename_i b0 f0 b f s hT hT' hy
      simp only [Sv.one.injEq] at hy
      rw [hy] at hl'
      have e1 : a.eval x = .string s := hl'.1
      refine st_sc K hg hod hd rfl (run_convert ho e1 ?_) h
      simp [convert, run_underlying (desc_str' (hE.ti _ _ hT)), run_underlying (desc_str' (hE.ti _ _ hT'))]
    · rename_i e b0 f0 b f e' xs hT hT' hy
      cases hq : Nat.beq e e' with
      | false => rw [hq] at h; simp at h
      | true =>
        rw [hq, cond_true] at h
        simp only [Sv.one.injEq] at hy
        rw [hy] at hl'
        obtain ⟨ad, cap, cs, e1, hrows, hne⟩ := app_src hl' rfl
        obtain ⟨u1, u2⟩ := desc_bytes (hE.ti _ _ hT)
        exact st_sc K hg hod hd rfl (run_convert ho e1 (run_bytes_str u1 u2 (desc_str' (hE.ti _ _ hT')) (rows_ints _ _ hrows) hne)) h
    · rename_i e b0 f0 b f e' xs hT hT' hy
      cases hq : Nat.beq e e' with
      | false => rw [hq] at h; simp at h
      | true =>
        rw [hq, cond_true] at h
        simp only [Sv.one.injEq] at hy
        rw [hy] at hl'
        obtain ⟨ad, cap, cs, e1, hrows, hne⟩ := app_src hl' rfl
        obtain ⟨u1, u2⟩ := desc_bytes (hE.ti _ _ hT)
        exact st_sc K hg hod hd rfl (run_convert ho e1 (run_bytes_str u1 u2 (desc_str' (hE.ti _ _ hT')) (rows_ints _ _ hrows) hne)) h
    · rename_i b0 f0 e b f s hT hT' hy
      cases hq : Nat.ble s.size 140737488355328 with
      | false => rw [hq] at h; simp at h
      | true =>
        rw [hq, cond_true] at h
        simp only [Sv.one.injEq] at hy
        rw [hy] at hl'
        have e1 : a.eval x = .string s := hl'.1
        obtain ⟨u1, u2⟩ := desc_bytes (hE.ti _ _ hT')
        have hr := run_bytes_of_string (P := X.P) S.w T T' e s (desc_str' (hE.ti _ _ hT)) u1 u2
        have hszs := (hE.ti _ _ hT').sz
        simp only [szB, Bool.and_eq_true, beq_iff_eq] at hszs
        generalize hob : Obj.cells (bytesRow s (grownCap S.w s.size 0 e)) e ((bytesRow s (grownCap S.w s.size 0 e)).size, (bytesRow s (grownCap S.w s.size 0 e)).size + 1) = ob at hr
        obtain ⟨K1, L1⟩ := K.grow (w' := S.w.drew.alloc ob) (row := none) (O' := fun k => if k = S.w.heap.size then .fz else S.O k) ⟨rfl, rfl, rfl, by simp, fun k hk _ => heap_alloc_old S.w.drew ob k hk⟩ (by simp)
          (fun k hk _ => by show (if k = S.w.heap.size then _ else _) = _; rw [if_neg (by omega)])
          (fun k hk => by
            show k < (S.w.heap.push _).size
            rw [Array.size_push]
            by_cases h : k = S.w.heap.size
            · omega
            · simp only [h, if_false] at hk
              have := K.lt k hk
              omega)
        have hcell : CellsAt (S.w.drew.alloc ob) S.w.heap.size 0 (s.data.toList.map fun b => Value.int .u8 b.toNat) := by
          intro j u hj
          have hb : (S.w.drew.alloc ob).heap[S.w.heap.size]? = some ob := heap_alloc_new S.w.drew ob
          subst hob
          have hjl : j < s.data.toList.length := by
            rcases Nat.lt_or_ge j s.data.toList.length with h | h
            · exact h
            · rw [List.getElem?_eq_none (by simpa using h)] at hj; cases hj
          simp only [World.cell?, hb, Nat.zero_add]
          simp only [bytesRow]
          rw [Array.getElem?_append_left (by simpa using hjl)]
          simpa using hj
        have hbl : (bytesOf s).length = s.size := by simp [bytesOf]
        have hsv : SvOk X.P (groS S (S.w.drew.alloc ob) (fun k => if k = S.w.heap.size then .fz else S.O k)) 0 (.one (.fz e (.i .u8) (bytesOf s))) (.slice (some ⟨S.w.heap.size, 0, none⟩) s.size (grownCap S.w s.size 0 e)) := by
          refine ⟨_, rfl, hszs.1, _, grownCap S.w s.size 0 e, _, by rw [hbl], by rw [hbl]; exact grownCap_ge _ _ _ _, rows_bytes s.data.toList, fun _ => ⟨_, 0, rfl, ?_, hcell⟩⟩
          show (if _ then _ else _) = _
          rw [if_pos rfl]
        have K2 := K1.put0 hd _ _ 0 rfl hsv
        refine ⟨_, h, goes_value (S := putS (groS S (S.w.drew.alloc ob) (fun k => if k = S.w.heap.size then .fz else S.O k)) (fun _ _ => none) d (.one (.fz e (.i .u8) (bytesOf s))) (.slice (some ⟨S.w.heap.size, 0, none⟩) s.size (grownCap S.w s.size 0 e))) (run_convert ho e1 hr) (by rw [hod]; exact K2) ?_⟩
        show upd S.g d _ = _
        rw [get_ups1, ← hg]
        rfl
    · cases h
  · cases h
end
end Go.Proofs.Ytehkignjdbkeiaa.Vf
