/- New slices; append; conversions. -/
import Derived.Test.YtehkignjdbkeiaaVo
import Derived.Laws.MakeOwn
import Derived.Laws.OwnMore
import Derived.Laws.IdiomStrings
set_option linter.unusedVariables false
set_option linter.unusedSimpArgs false
namespace Go.Proofs.Ytehkignjdbkeiaa.Vf
open Go
attribute [local irreducible] C H

section
variable {X : Cx} {S S' : Sit} {a : Act} {E : En} {A : Ab} {o : Oper} {R : Type} {Kc : List Up → Option R} {r : R}

theorem sz_pos : ∀ t : Ty, 0 < t.sz
  | .i _ => Nat.one_pos
  | .b => Nat.one_pos
  | .s => Nat.one_pos
  | .sl _ _ => Nat.one_pos
  | .ow _ _ => Nat.one_pos
  | .pr x y => by have := sz_pos x; show 0 < x.sz + y.sz; omega

theorem rep_one {P : Program} {G : Nat → Prop} {w : World} : ∀ (t : Ty) (x : t.den) (vs : List Value), t.rep P G w x vs → ∀ u ∈ vs, u.oneCell' = true
  | .i _, _, _, h => by subst h; simp [Value.oneCell']
  | .b, _, _, h => by subst h; simp [Value.oneCell']
  | .s, _, _, h => by subst h; simp [Value.oneCell']
  | .sl _ _, _, _, ⟨v, e, _, ad, cap, cs, e2, _⟩ => by subst e e2; simp [Value.oneCell']
  | .ow _ _, _, _, ⟨v, e, _, ad, cap, cs, e2, _⟩ => by subst e e2; simp [Value.oneCell']
  | .pr x y, p, _, ⟨c, d, e, h1, h2⟩ => by
    subst e
    intro u hu
    rcases List.mem_append.1 hu with h | h
    · exact rep_one x p.1 c h1 u h
    · exact rep_one y p.2 d h2 u h

theorem Rows.all {α : Type} {R' : α → List Value → Prop} {Q : Value → Prop} (hR : ∀ x c, R' x c → ∀ u ∈ c, Q u) : ∀ {xs : List α} {cs : List Value}, Rows R' xs cs → ∀ u ∈ cs, Q u
  | [], _, h => by simp only [Rows] at h; subst h; simp
  | _ :: _, _, ⟨c, d, e, h1, h2⟩ => by
    subst e
    intro u hu
    rcases List.mem_append.1 hu with h | h
    · exact hR _ _ h1 u h
    · exact h2.all hR u h

/-- A slice that is new, or whose block was held by name, is put. -/
theorem put_new (K : Okay X S a) {A1 : Ab} (hg : S.g = get A1) {d : Nat} (hd : d < X.nt) {w' : World} {row : Option Nat} {e : TypeId} {r' : Ty} {xs : List r'.den} {v : Value} {cs : List Value} (hw : S.w.grownBy w' row) (hrow : ∀ k, row = some k → ∃ n q, S.O k = .tm n q)
    (hsz : SzOk X.P e r'.sz) (hown : w'.ownsRow 0 e r'.sz v xs.length cs) (hrows : Rows (fun x c => r'.rep X.P (fun k => S.O k = .fz) S.w x c) xs cs) (hv : ∀ k, v.ownBlock = some k → row = some k ∨ S.w.heap.size ≤ k) :
    ∃ S', Okay X S' (a.put (some d) v) ∧ S'.w = w' ∧ S'.g = get (ups A1 [⟨d, false, .one (.own e r' xs)⟩]) := by
  obtain ⟨K1, L1⟩ := K.grow (w' := w') (row := row) (O' := fun k => if v.ownBlock = some k then .tm 0 [] else S.O k) hw hrow
    (fun k hk hnt => by
      show (if v.ownBlock = some k then _ else _) = _
      rw [if_neg]
      intro e1
      rcases hv k e1 with h | h
      · obtain ⟨n, q, h2⟩ := hrow k h
        exact hnt n q h2
      · omega)
    (fun k hk => by
      by_cases h : v.ownBlock = some k
      · exact (hown.lt k h).2
      · simp only [h, if_false] at hk
        exact Nat.lt_of_lt_of_le (K.lt k hk) hw.size)
  have hown1 : OwnOk X.P (groS S w' (fun k => if v.ownBlock = some k then .tm 0 [] else S.O k)).O w' (.tm 0 []) e r' xs v :=
    ⟨hsz, cs, hown, hrows.mono (fun x c => Ty.rep_mono (fun k h => (L1.fz k h).1) (fun k h => (L1.fz k h).2) r' x c), fun k hk => by show (if _ then _ else _) = _; rw [if_pos hk]⟩
  let hh : Nat → List Nat → Option Lab := fun n q => if n = 0 then some (.pl d q) else none
  have L2 := putS_later (groS S w' (fun k => if v.ownBlock = some k then .tm 0 [] else S.O k)) hh d (.one (.own e r' xs)) v
  have hsv : SvOk X.P (putS (groS S w' (fun k => if v.ownBlock = some k then .tm 0 [] else S.O k)) hh d (.one (.own e r' xs)) v) d (.one (.own e r' xs)) v :=
    LfOk.later (P := X.P) (x := .own e r' xs) (lab := .tm 0 []) (lab' := .pl d []) L2 hown1 (fun k hk => ⟨atO_tm hk (by simp [hh]), rfl⟩)
  have K2 := K1.put hd hh (by intro n q p hp; simp only [hh] at hp; split at hp <;> first | (cases hp; exact ⟨q, rfl⟩) | cases hp) _ _ hsv
  refine ⟨_, K2, rfl, ?_⟩
  show upd S.g d _ = _
  rw [get_ups1, ← hg]
  rfl

/-! ### make -/
theorem zsame_cells : ∀ (t t' : Ty), zsame t t' = true → zcells t = zcells t'
  | .i k, .i k', h => by simp [zsame] at h; subst h; rfl
  | .b, .b, _ => rfl
  | .s, .s, _ => rfl
  | .sl _ _, .sl _ _, _ => rfl
  | .sl _ _, .ow _ _, _ => rfl
  | .ow _ _, .sl _ _, _ => rfl
  | .ow _ _, .ow _ _, _ => rfl
  | .pr x y, .pr x' y', h => by
    simp only [zsame, Bool.and_eq_true] at h
    show zcells x ++ zcells y = _
    rw [zsame_cells x x' h.1, zsame_cells y y' h.2]
    rfl
  | .i _, .b, h | .i _, .s, h | .i _, .sl _ _, h | .i _, .ow _ _, h | .i _, .pr _ _, h => by simp [zsame] at h
  | .b, .i _, h | .b, .s, h | .b, .sl _ _, h | .b, .ow _ _, h | .b, .pr _ _, h => by simp [zsame] at h
  | .s, .i _, h | .s, .b, h | .s, .sl _ _, h | .s, .ow _ _, h | .s, .pr _ _, h => by simp [zsame] at h
  | .sl _ _, .i _, h | .sl _ _, .b, h | .sl _ _, .s, h | .sl _ _, .pr _ _, h => by simp [zsame] at h
  | .ow _ _, .i _, h | .ow _ _, .b, h | .ow _ _, .s, h | .ow _ _, .pr _ _, h => by simp [zsame] at h
  | .pr _ _, .i _, h | .pr _ _, .b, h | .pr _ _, .s, h | .pr _ _, .sl _ _, h | .pr _ _, .ow _ _, h => by simp [zsame] at h

theorem rep_dflt {P : Program} {G : Nat → Prop} {w : World} : ∀ (t : Ty), szB P t = true → t.rep P G w t.dflt (zcells t)
  | .i _, _ => rfl
  | .b, _ => rfl
  | .s, _ => rfl
  | .sl e r, h => by
    simp only [szB, Bool.and_eq_true, beq_iff_eq] at h
    exact ⟨_, rfl, h.1, none, 0, [], rfl, Nat.le_refl _, rfl, fun h => absurd rfl h⟩
  | .ow e r, h => by
    simp only [szB, Bool.and_eq_true, beq_iff_eq] at h
    exact ⟨_, rfl, h.1, none, 0, [], rfl, Nat.le_refl _, rfl, fun h => absurd rfl h⟩
  | .pr x y, h => by
    simp only [szB, Bool.and_eq_true] at h
    exact ⟨_, _, rfl, rep_dflt x h.1, rep_dflt y h.2⟩

theorem made_flat (l : List Value) (hl : 0 < l.length) : ∀ n, (madeCells l.toArray (n * l.length)).toList = (List.replicate n l).flatten := by
  have key : ∀ n, (List.range (n * l.length)).map (fun j => l.toArray[j % l.toArray.size]!) = (List.replicate n l).flatten := by
    intro n
    induction n with
    | zero => simp
    | succ n ih =>
      rw [Nat.add_mul, Nat.one_mul, Nat.add_comm, List.range_add, List.map_append, List.map_map, List.replicate_succ, List.flatten_cons, ← ih]
      congr 1
      · apply List.ext_getElem
        · simp
        · intro i h1 h2
          simp at h1
          simp [Nat.mod_eq_of_lt h1, h1]
      · apply List.map_congr_left
        intro j _
        simp
  intro n
  rw [← key n]
  simp [madeCells]

theorem st_makeSlice (hE : EnOk X E) (K : Okay X S a) (hg : S.g = get A) {T : TypeId} {x y : Operand} {d : Nat} (ho : o.op = .makeSlice T x y) (hod : o.dst = some d) (hd : d < X.nt) (h : step E o A Kc = some r) : After X o a S.w A Kc r := by
  unfold step at h
  rw [ho, hod] at h
  simp only at h
  split at h
  · rename_i e r' by_ fo n m hT hx hy
    have ex := (opT_sc hE K hg hx).1
    have ey := (opT_sc hE K hg hy).1
    split at h
    · rename_i te hte
      cases hq : (zsame te.ty r' && decide (n = m)) with
      | false => rw [hq] at h; simp at h
      | true =>
        rw [hq, cond_true] at h
        simp only [Bool.and_eq_true, decide_eq_true_eq] at hq
        obtain ⟨hz, rfl⟩ := hq
        by_cases h0 : 0 ≤ n
        · by_cases hb : n * te.by_ ≤ 140737488355328
          · simp only [h0, hb, decide_true, cond_true] at h
            have hTk := hE.ti _ _ hT
            have hek := hE.ti _ _ hte
            have hu : X.P.underlying T = some (.slice e) := by
              have := hTk.desc
              unfold descB at this
              split at this <;> simp_all
            have hszs := hTk.sz
            simp only [szB, Bool.and_eq_true, beq_iff_eq] at hszs
            obtain ⟨i, i1, i2, i3, i4, i5⟩ := hek.info
            obtain ⟨z, z1, z2, z3⟩ := tok_zero (w := S.w) hek
            have iz : i.zero = some z := by
              simp only [zeroValue, typeInfo, Sem.run_bind, run_program, Result.andThen_ok, i1, Sem.run_pure] at z1
              rw [i4] at z1 ⊢
              simp only [Sem.run_pure, Result.ok.injEq, and_true] at z1
              rw [z1]
            have hsame := zsame_cells _ _ hz
            have hsz1 : i.size = r'.sz := by
              have := hszs.1
              rw [i1] at this
              simpa using this
            have hb1 : (i.bytes : Int) * n ≤ 281474976710656 := by rw [i3, Int.mul_comm]; omega
            have h63 : n ≤ 140737488355328 := by
              have h1 : (1 : Int) ≤ te.by_ := by have := hek.by0; omega
              have := Int.mul_le_mul_of_nonneg_left h1 h0
              rw [Int.mul_one] at this
              omega
            have hr := run_make (P := X.P) S.w T e i z hu i1 iz .i64 .i64 n n h0 (Int.le_refl _) hb1 (by omega)
            have hcl : (zcells r').length = r'.sz := zcells_len r'
            have hflat : (madeCells z.cells (n.toNat * i.size)).toList = (List.replicate n.toNat (zcells r')).flatten := by
              rw [z2, hsame, hsz1, ← hcl]
              exact made_flat _ (by rw [hcl]; exact sz_pos r') _
            obtain ⟨S', K', w', g'⟩ := put_new K hg hd (w' := S.w.alloc (.cells (madeCells z.cells (n.toNat * i.size)) e)) (row := none) (e := e) (r' := r') (xs := List.replicate n.toNat r'.dflt) (v := .slice (some ⟨S.w.heap.size, 0, none⟩) n.toNat n.toNat)
              (cs := (madeCells z.cells (n.toNat * i.size)).toList) (World.grownBy_alloc _ _ _) (by simp) hszs.1
              (by rw [List.length_replicate]; exact World.ownsRow_lit S.w _ n.toNat (Nat.zero_le _) (by simp only [maxLen]; omega) (by rw [size_madeCells, hsz1]))
              (by rw [hflat]; exact Rows.replicate (rep_dflt r' hszs.2) _) (by
                intro k hk
                simp only [Value.ownBlock, Option.some.injEq] at hk
                exact .inr (Nat.le_of_eq hk))
            refine ⟨_, h, goes_value (S := S') (v := .slice (some ⟨S.w.heap.size, 0, none⟩) n.toNat n.toNat) ?_ (by rw [hod]; exact K') g'⟩
            rw [w']
            unfold execOp
            simp [ho, ex, ey, hr]
          · simp [h0, hb] at h
        · simp [h0] at h
    · cases h
  · cases h

/-! ### A slice out of its elements -/
theorem rowsP_ok (hE : EnOk X E) {e : TypeId} {r' : Ty} (N : Nat) : ∀ (ps : List (Nat × Operand)) {S : Sit} {A : Ab} {i : Nat} {ys : List r'.den} {us' : List Up} {zs : List r'.den} {cs : List Value}, Okay X S a → S.g = get A → rowsP E A e r' i ps = some (ys, us') → zs.length = i →
    Rows (fun x c => r'.rep X.P (fun k => S.O k = .fz) S.w x c) zs (cs.take (i * r'.sz)) → cs.length = N * r'.sz → i + ps.length ≤ N →
    ∃ S', ∃ cs' : List Value, Okay X S' a ∧ S'.g = get (ups A us') ∧ S'.w = S.w ∧ ys.length = ps.length ∧ cs'.length = N * r'.sz ∧ Rows (fun x c => r'.rep X.P (fun k => S'.O k = .fz) S'.w x c) (zs ++ ys) (cs'.take ((i + ps.length) * r'.sz)) ∧
      Instr.fill (fun j => some (j * r'.sz, r'.sz)) cs.toArray (ps.map fun p => (p.1, a.eval p.2)) = some cs'.toArray
  | [], S, A, i, ys, us', zs, cs, K, hg, h, hi, hz, hcl, hN => by
    simp only [rowsP, Option.some.injEq, Prod.mk.injEq] at h
    obtain ⟨rfl, rfl⟩ := h
    exact ⟨S, cs, K, hg, rfl, rfl, hcl, by simpa using hz, rfl⟩
  | (j, x) :: ps, S, A, i, ys, us', zs, cs, K, hg, h, hi, hz, hcl, hN => by
    simp only [rowsP] at h
    cases hb : Nat.beq i j with
    | false => rw [hb] at h; simp at h
    | true =>
      rw [hb, cond_true] at h
      have hij : i = j := Nat.eq_of_beq_eq_true hb
      subst hij
      split at h
      · rename_i s hs
        cases hst : storable ((parts s).map (kept A)) with
        | false => rw [hst] at h; simp at h
        | true =>
          rw [hst, cond_true] at h
          split at h
          · rename_i y hy
            split at h
            · rename_i ys1 us1 hrec
              simp only [Option.some.injEq, Prod.mk.injEq] at h
              obtain ⟨rfl, rfl⟩ := h
              have hnt : ∀ vs, s ≠ .tup vs := by
                intro vs e1
                subst e1
                have : ∀ t : Ty, mkT t [] = none := by intro t; induction t <;> simp_all [mkT]
                simp [parts, mkW, this] at hy
              obtain ⟨S1, K1, g1, w1, b1, p1, L1, x1, heads, tms, us, hsh, hls⟩ := taken hE K hg hs hnt 0
              obtain ⟨K2, L2⟩ := K1.names (frzH 0) (by intro n q; unfold frzH; split <;> simp)
              have hrep := calm_rep hst hls
              rw [List.map_map] at hrep
              have hyr := mkW_rep hy hrep
              have hul := Ty.rep_len _ _ _ hyr
              have hone := one_of hst hls
              have hle : i * r'.sz + r'.sz ≤ cs.length := by
                rw [hcl]
                have := Nat.mul_le_mul_right r'.sz (show i + 1 ≤ N by simp only [List.length_cons] at hN; omega)
                rw [Nat.add_mul, Nat.one_mul] at this
                exact this
              have hz2 : Rows (fun x c => r'.rep X.P (fun k => ({ S1 with O := atO S1.O (frzH 0) } : Sit).O k = .fz) ({ S1 with O := atO S1.O (frzH 0) } : Sit).w x c) (zs ++ [y]) ((cs.take (i * r'.sz) ++ us ++ cs.drop (i * r'.sz + r'.sz)).take ((i + 1) * r'.sz)) := by
                have e1 : (cs.take (i * r'.sz) ++ us ++ cs.drop (i * r'.sz + r'.sz)).take ((i + 1) * r'.sz) = cs.take (i * r'.sz) ++ us := by
                  rw [List.take_left' (by rw [List.length_append, List.length_take, hul, Nat.add_mul, Nat.one_mul]; omega)]
                rw [e1]
                refine Rows.append (hz.mono (fun x c => Ty.rep_mono (fun k hk => (L2.fz k (L1.fz k hk).1).1) (fun k hk => by show S1.w.heap[k]? = _; rw [w1]) r' x c)) ⟨us, [], by simp, hyr, rfl⟩
              obtain ⟨S', cs', K', g', w', l1, l2, l3, hf⟩ := rowsP_ok hE N ps K2 (by show S1.g = _; exact g1) hrec (by simp [hi]) hz2 (by
                simp only [List.length_append, List.length_take, List.length_drop, hul]; omega) (by simp only [List.length_cons] at hN; omega)
              refine ⟨S', cs', K', by rw [ups_append]; exact g', w'.trans w1, by simp [l1], l2, ?_, ?_⟩
              · rw [List.append_assoc, List.singleton_append] at l3
                rw [List.length_cons, show i + (ps.length + 1) = i + 1 + ps.length by omega]
                exact l3
              · rw [List.map_cons, fill_cons (us := us) (off := i * r'.sz) (z := r'.sz) rfl (shape_cells hsh hnt hone) hul (by simpa using hle)]
                exact hf
            · cases h
          · cases h
      · cases h

theorem st_buildSlice (hE : EnOk X E) (K : Okay X S a) (hg : S.g = get A) {T : TypeId} {n d : Nat} {ps : Array (Nat × Operand)} (ho : o.op = .buildSlice T n ps) (hod : o.dst = some d) (hd : d < X.nt) (h : step E o A Kc = some r) : After X o a S.w A Kc r := by
  unfold step at h
  rw [ho, hod] at h
  simp only at h
  split at h
  · rename_i e r' by_ fo hT
    cases hq : (Nat.beq n ps.size && Nat.ble (n * r'.sz) 16777216 && (E.ti e).isSome) with
    | false => rw [hq] at h; simp at h
    | true =>
      rw [hq, cond_true] at h
      simp only [Bool.and_eq_true] at hq
      have hn : n = ps.size := Nat.eq_of_beq_eq_true hq.1.1
      have hle : n * r'.sz ≤ 16777216 := Nat.le_of_ble_eq_true hq.1.2
      obtain ⟨te, hte⟩ := Option.isSome_iff_exists.1 hq.2
      split at h
      · rename_i ys us hrows
        have hTk := hE.ti _ _ hT
        have hek := hE.ti _ _ hte
        have hu : X.P.underlying T = some (.slice e) := by
          have := hTk.desc
          unfold descB at this
          split at this <;> simp_all
        have hszs := hTk.sz
        simp only [szB, Bool.and_eq_true, beq_iff_eq] at hszs
        obtain ⟨z, z1, z2, z3⟩ := tok_zero (w := S.w) hek
        -- whatever lies there at first
        have run : ∀ zero : Array Value, ((if n * r'.sz = 0 then pure #[] else do pure (← zeroValue e).cells : Sem (Array Value)).run X.P S.w = .ok zero S.w) → After X o a S.w A Kc r := by
          intro zero hzero
          obtain ⟨S1, cs', K1, g1, w1, l1, l2, l3, hf⟩ := rowsP_ok hE n ps.toList (zs := []) (cs := ((Array.range (n * r'.sz)).map (zero[· % zero.size]!)).toList) K hg hrows rfl (by simp [Rows]) (by simp) (by simp [hn])
          simp only [List.nil_append, Nat.zero_add] at l3
          have hps : ps.toList.length = n := by rw [hn]; simp
          rw [hps] at l1 l3
          rw [List.take_of_length_le (by omega)] at l3
          obtain ⟨S', K', w', g'⟩ := put_new K1 g1 hd (w' := S1.w.alloc (.cells cs'.toArray e)) (row := none) (e := e) (r' := r') (xs := ys) (v := .slice (some ⟨S1.w.heap.size, 0, none⟩) n n)
            (cs := cs'.toArray.toList) (World.grownBy_alloc _ _ _) (by simp) hszs.1
            (by rw [l1]; exact World.ownsRow_lit S1.w _ n (Nat.zero_le _) (by
              have h1 := sz_pos r'
              have h2 : n * 1 ≤ n * r'.sz := Nat.mul_le_mul_left _ h1
              simp only [maxLen]; omega) (by simpa using l2))
            l3 (by
              intro k hk
              simp only [Value.ownBlock, Option.some.injEq] at hk
              exact .inr (Nat.le_of_eq hk))
          rw [← ups_append] at g'
          refine ⟨_, h, goes_value (S := S') (v := .slice (some ⟨S1.w.heap.size, 0, none⟩) n n) ?_ (by rw [hod]; exact K') g'⟩
          rw [w', w1]
          unfold execOp
          simp only [ho, Sem.run_bind]
          unfold Instr.buildSlice
          simp only [Sem.run_bind, run_underlying hu, Result.andThen_ok, info_size hszs.1]
          rw [if_neg (by omega)]
          have e2 : (ps.map fun x => (x.1, a.eval x.2)).toList = ps.toList.map fun p => (p.1, a.eval p.2) := by simp
          simp only [Array.toArray_toList] at hf
          by_cases hz0 : n * r'.sz = 0
          · rw [if_pos hz0] at hzero ⊢
            simp only [Sem.run_pure, Result.ok.injEq, and_true] at hzero
            subst hzero
            simp only [Sem.run_bind, Sem.run_pure, Result.andThen_ok, e2, hf]
            simp [newRow]
          · rw [if_neg hz0] at hzero ⊢
            simp only [Sem.run_bind, Sem.run_pure, z1, Result.andThen_ok, Result.ok.injEq, and_true] at hzero
            subst hzero
            simp only [Sem.run_bind, Sem.run_pure, z1, Result.andThen_ok, e2, hf]
            simp [newRow]
        by_cases hz : n * r'.sz = 0
        · exact run #[] (by rw [if_pos hz]; rfl)
        · exact run z.cells (by rw [if_neg hz]; simp [z1])
      · cases h
  · cases h
end
end Go.Proofs.Ytehkignjdbkeiaa.Vf
