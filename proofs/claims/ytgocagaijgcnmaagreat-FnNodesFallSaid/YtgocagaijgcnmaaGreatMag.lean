import Derived.Test.YtgocagaijgcnmaaGreatMaf
import Derived.Laws.MakeOwn
import Derived.Laws.OwnMore
import Derived.Laws.IdiomStrings
import Derived.Lib.AppendStr
section
set_option linter.unusedVariables false
set_option linter.unusedSimpArgs false
namespace Go.Proofs.YtgocagaijgcnmaaGreat.Vf
open Go
attribute [local irreducible] C H
section
variable {X : Cx} {S S' : Sit} {a : Act} {E : En} {A : Ab} {o : Oper} {R : Type} {Kc : List Up → Option R} {r : R}
theorem Ln : ∀ t : Ty, 0 < t.sz
 | .i _ => Nat.one_pos
 | .b => Nat.one_pos
 | .s => Nat.one_pos
 | .sl _ _ => Nat.one_pos
 | .ow _ _ => Nat.one_pos
 | .pr x y => by have := Ln x; show 0 < x.sz + y.sz; omega
theorem Ua {P : Program} {G : Nat → Prop} {w : World} : ∀ (t : Ty) (x : t.den) (vs : List Value), t.rep P G w x vs → ∀ u ∈ vs, u.oneCell' = true
 | .i _, _, _, h => by subst h; simp [Value.oneCell']
 | .b, _, _, h => by subst h; simp [Value.oneCell']
 | .s, _, _, h => by subst h; simp [Value.oneCell']
 | .sl _ _, _, _, ⟨v, e, _, ad, cap, cs, e2, _⟩ => by subst e e2; simp [Value.oneCell']
 | .ow _ _, _, _, ⟨v, e, _, ad, cap, cs, e2, _⟩ => by subst e e2; simp [Value.oneCell']
 | .pr x y, p, _, ⟨c, d, e, h1, h2⟩ => by
  subst e
  intro u hu
  rcases List.mem_append.1 hu with h | h
  ·exact Ua x p.1 c h1 u h
  ·exact Ua y p.2 d h2 u h
theorem He.all {α : Type} {R' : α → List Value → Prop} {Q : Value → Prop} (hR : ∀ x c, R' x c → ∀ u ∈ c, Q u) : ∀ {xs : List α} {cs : List Value}, He R' xs cs → ∀ u ∈ cs, Q u
 | [], _, h => by simp only [He] at h; subst h; simp
 | _ :: _, _, ⟨c, d, e, h1, h2⟩ => by
  subst e
  intro u hu
  rcases List.mem_append.1 hu with h | h
  ·exact hR _ _ h1 u h
  ·exact h2.all hR u h
theorem Qa (K : Aw X S a) {A1 : Ab} (hg : S.g = get A1) {d : Nat} (hd : d < X.nt) {w' : World} {row : Option Nat} {e : TypeId} {r' : Ty} {xs : List r'.den} {v : Value} {cs : List Value} {b2 : List Nat} (hw : S.w.grownBy w' row) (hrow : ∀ k, row = some k → ∃ n q, S.O k = .tm n q)
  (hsz : S9 X.P e r'.sz) (hown : w'.ownsRow 0 e r'.sz v xs.length cs) (hrows : Dn (fun x c b => r'.dep X.P (fun k => S.O k = .fz) S.w x c b) xs cs b2) (hn : b2.Nodup) (hb : ∀ k ∈ b2, ∃ q, S.O k = .tm 0 q) (hb2 : ∀ k ∈ b2, row ≠ some k ∧ v.ownBlock ≠ some k)
  (hv : ∀ k, v.ownBlock = some k → row = some k ∨ S.w.heap.size ≤ k) :
  ∃ S', Aw X S' (a.put (some d) v) ∧ S'.w = w' ∧ S'.g = get (ups A1 [⟨d, false, .one (.own e r' xs)⟩]) := by
 obtain ⟨K1, L1⟩ := K.grow (w' := w') (row := row) (O' := fun k => if v.ownBlock = some k then .tm 0 [] else S.O k) hw hrow
  (fun k hk hnt => by
   show (if v.ownBlock = some k then _ else _) = _
   rw [if_neg]
   intro e1
   rcases hv k e1 with h | h
   ·obtain ⟨n, q, h2⟩ := hrow k h
    exact hnt n q h2
   ·omega)
  (fun k hk => by
   by_cases h : v.ownBlock = some k
   ·exact (hown.lt k h).2
   ·simp only [h, if_false] at hk
    exact Nat.lt_of_lt_of_le (K.lt k hk) hw.size)
 let O1 : Nat → Lab := fun k => if v.ownBlock = some k then .tm 0 [] else S.O k
 let hh : Nat → List Nat → Option Lab := fun n q => if n = 0 then some (.pl d []) else none
 have L2 := Fm (Si S w' O1) hh d (.one (.own e r' xs)) v
 have hlab : ∀ k ∈ v.ownBlock.toList ++ b2, (J9 (Si S w' O1) hh d (.one (.own e r' xs)) v).O k = .pl d [] := fun k hk => by
  have h1 : ∃ q, O1 k = .tm 0 q := by
   rcases List.mem_append.1 hk with hk | hk
   ·refine ⟨[], if_pos ?_⟩
    cases hvb : v.ownBlock with
    | none => rw [hvb] at hk; simp at hk
    | some j => rw [hvb] at hk; simp at hk; rw [hk]
   ·obtain ⟨q, hq⟩ := hb k hk
    exact ⟨q, (if_neg (hb2 k hk).2).trans hq⟩
  obtain ⟨q, hq⟩ := h1
  exact Hf (h := hh) hq (by simp [hh])
 have hown1 : Ep X.P (J9 (Si S w' O1) hh d (.one (.own e r' xs)) v).O w' (.pl d []) e r' xs v := by
  refine ⟨v.ownBlock.toList ++ b2, ⟨v, cs, b2, rfl, hsz, hown, hrows.mono (fun x c b hbb h => Ty.dep_mono (fun k hk => (L2.fz k (L1.fz k hk).1).1) (fun k hk => (L1.fz k hk).2) r' x c b (fun k hk => ?_) h), rfl⟩, ?_, hlab⟩
  ·have hk2 := hbb k hk
   obtain ⟨q, hq⟩ := hb k hk2
   exact hw.block k (K.lt k (by rw [hq]; simp)) (fun e => (hb2 k hk2).1 e.symm)
  ·rw [List.nodup_append]
   refine ⟨by cases v.ownBlock <;> simp, hn, fun k hk k' hk' e => ?_⟩
   subst e
   cases hvb : v.ownBlock with
   | none => rw [hvb] at hk; simp at hk
   | some j =>
    rw [hvb] at hk
    simp at hk
    exact (hb2 k hk').2 (by rw [hvb, hk])
 have K2 := K1.put hd hh (by intro n q p hp; simp only [hh] at hp; split at hp <;> Aa | (cases hp; exact ⟨[], rfl⟩) | cases hp) (.one (.own e r' xs)) v hown1
 refine ⟨_, K2, rfl, ?_⟩
 show upd S.g d _ = _
 rw [Ah, ← hg]
 rfl
theorem Gqa (K : Aw X S a) {A1 : Ab} (hg : S.g = get A1) {d : Nat} (hd : d < X.nt) {w' : World} {row : Option Nat} {e : TypeId} {r' : Ty} {xs : List r'.den} {v : Value} {cs : List Value} (hno : Hb r' = true) (hw : S.w.grownBy w' row) (hrow : ∀ k, row = some k → ∃ n q, S.O k = .tm n q)
  (hsz : S9 X.P e r'.sz) (hown : w'.ownsRow 0 e r'.sz v xs.length cs) (hrows : He (fun x c => r'.rep X.P (fun k => S.O k = .fz) S.w x c) xs cs) (hv : ∀ k, v.ownBlock = some k → row = some k ∨ S.w.heap.size ≤ k) :
  ∃ S', Aw X S' (a.put (some d) v) ∧ S'.w = w' ∧ S'.g = get (ups A1 [⟨d, false, .one (.own e r' xs)⟩]) :=
 Qa K hg hd hw hrow hsz hown ((Dn.flat (fun x c b => Ty.dep_flat r' x c b hno)).2 ⟨hrows, rfl⟩) (by simp) (by simp) (by simp) hv
theorem Ng : ∀ (t t' : Ty), Nn t t' = true → E9 t = E9 t'
 | .i k, .i k', h => by simp [Nn] at h; subst h; rfl
 | .b, .b, _ => rfl
 | .s, .s, _ => rfl
 | .sl _ _, .sl _ _, _ => rfl
 | .sl _ _, .ow _ _, _ => rfl
 | .ow _ _, .sl _ _, _ => rfl
 | .ow _ _, .ow _ _, _ => rfl
 | .pr x y, .pr x' y', h => by
  simp only [Nn, Bool.and_eq_true] at h
  show E9 x ++ E9 y = _
  rw [Ng x x' h.1, Ng y y' h.2]
  rfl
 | .i _, .b, h | .i _, .s, h | .i _, .sl _ _, h | .i _, .ow _ _, h | .i _, .pr _ _, h => by simp [Nn] at h
 | .b, .i _, h | .b, .s, h | .b, .sl _ _, h | .b, .ow _ _, h | .b, .pr _ _, h => by simp [Nn] at h
 | .s, .i _, h | .s, .b, h | .s, .sl _ _, h | .s, .ow _ _, h | .s, .pr _ _, h => by simp [Nn] at h
 | .sl _ _, .i _, h | .sl _ _, .b, h | .sl _ _, .s, h | .sl _ _, .pr _ _, h => by simp [Nn] at h
 | .ow _ _, .i _, h | .ow _ _, .b, h | .ow _ _, .s, h | .ow _ _, .pr _ _, h => by simp [Nn] at h
 | .pr _ _, .i _, h | .pr _ _, .b, h | .pr _ _, .s, h | .pr _ _, .sl _ _, h | .pr _ _, .ow _ _, h => by simp [Nn] at h
theorem Ub {P : Program} {G : Nat → Prop} {w : World} : ∀ (t : Ty), szB P t = true → t.rep P G w t.dflt (E9 t)
 | .i _, _ => rfl
 | .b, _ => rfl
 | .s, _ => rfl
 | .sl e r, h => by
  simp only [szB, Bool.and_eq_true, beq_iff_eq] at h
  exact ⟨_, rfl, h.1, none, 0, [], rfl, Nat.le_refl _, rfl, fun h => absurd rfl h⟩
 | .ow e r, h => by
  simp only [szB, Bool.and_eq_true, beq_iff_eq] at h
  exact ⟨_, rfl, h.1, none, 0, [], rfl, Nat.le_refl _, rfl, fun h => absurd rfl h⟩
 | .pr x y, h => by
  simp only [szB, Bool.and_eq_true] at h
  exact ⟨_, _, rfl, Ub x h.1, Ub y h.2⟩
theorem Mp : ∀ t : Ty, E9 (shp t) = E9 t
 | .i _ => rfl
 | .b => rfl
 | .s => rfl
 | .sl _ _ => rfl
 | .ow _ _ => rfl
 | .pr x y => by show E9 (shp x) ++ E9 (shp y) = E9 x ++ E9 y; rw [Mp x, Mp y]
theorem P6 {P : Program} : ∀ t : Ty, szB P (shp t) = szB P t
 | .i _ => rfl
 | .b => rfl
 | .s => rfl
 | .sl e r => by show (_ && szB P (shp r)) = (_ && szB P r); rw [P6 r, Ir r]
 | .ow e r => by show (_ && szB P (shp r)) = (_ && szB P r); rw [P6 r, Ir r]
 | .pr x y => by show (szB P (shp x) && szB P (shp y)) = _; rw [P6 x, P6 y]; rfl
theorem Uc {P : Program} {G : Nat → Prop} {w : World} : ∀ (t : Ty), szB P t = true → t.dep P G w t.dflt (E9 t) []
 | .i _, _ => ⟨rfl, rfl⟩
 | .b, _ => ⟨rfl, rfl⟩
 | .s, _ => ⟨rfl, rfl⟩
 | .sl e r, h => ⟨Ub (.sl e r) h, rfl⟩
 | .ow e r, h => by
  simp only [szB, Bool.and_eq_true, beq_iff_eq] at h
  exact ⟨_, [], [], rfl, h.1, World.ownsRow_nil _ _ _ _, ⟨rfl, rfl⟩, rfl⟩
 | .pr x y, h => by
  simp only [szB, Bool.and_eq_true] at h
  exact ⟨_, _, [], [], rfl, rfl, Uc x h.1, Uc y h.2⟩
theorem Dn.replicate {α : Type} {R : α → List Value → List Nat → Prop} {x : α} {c : List Value} (h : R x c []) : ∀ n, Dn R (List.replicate n x) (List.replicate n c).flatten []
 | 0 => by simp [Dn]
 | n + 1 => ⟨c, _, [], [], by simp [List.replicate_succ], rfl, h, Dn.replicate h n⟩
theorem Gra (l : List Value) (hl : 0 < l.length) : ∀ n, (madeCells l.toArray (n * l.length)).toList = (List.replicate n l).flatten := by
 have key : ∀ n, (List.range (n * l.length)).map (fun j => l.toArray[j % l.toArray.size]!) = (List.replicate n l).flatten := by
  intro n
  induction n with
  | zero => simp
  | succ n ih =>
   rw [Nat.add_mul, Nat.one_mul, Nat.add_comm, List.range_add, List.map_append, List.map_map, List.replicate_succ, List.flatten_cons, ← ih]
   congr 1
   ·apply List.ext_getElem
    ·simp
    ·intro i h1 h2
     simp at h1
     simp [Nat.mod_eq_of_lt h1, h1]
   ·apply List.map_congr_left
    intro j _
    simp
 intro n
 rw [← key n]
 simp [madeCells]
theorem Xa (hE : I8 X E) (K : Aw X S a) (hg : S.g = get A) {T : TypeId} {x y : Operand} {d : Nat} (ho : o.op = .makeSlice T x y) (hod : o.dst = some d) (hd : d < X.nt) (h : Ap E o A Kc = some r) : H2 X o a S.w A Kc r := by
 unfold Ap at h
 rw [ho, hod] at h
 simp only at h
 split at h
 ·rename_i e r' by_ fo n m hT hx hy
  have ex := (Jv hE K hg hx).1
  have ey := (Jv hE K hg hy).1
  split at h
  ·rename_i te hte
   cases hq : (Nn te.ty r' && decide (n = m)) with
   | false => rw [hq] at h; simp at h
   | true =>
    rw [hq, cond_true] at h
    simp only [Bool.and_eq_true, decide_eq_true_eq] at hq
    obtain ⟨hz, rfl⟩ := hq
    by_cases h0 : 0 ≤ n
    ·by_cases hb : n * te.by_ ≤ 140737488355328
     ·simp only [h0, hb, decide_true, cond_true] at h
      have hTk := hE.ti _ _ hT
      have hek := hE.ti _ _ hte
      have hu : X.P.underlying T = some (.slice e) := by
       have := hTk.desc
       unfold P0 at this
       split at this <;> simp_all
      have hszs := hTk.sz
      simp only [szB, Bool.and_eq_true, beq_iff_eq] at hszs
      obtain ⟨i, i1, i2, i3, i4, i5⟩ := hek.info
      obtain ⟨z, z1, z2, z3⟩ := O4 (w := S.w) hek
      have iz : i.zero = some z := by
       simp only [zeroValue, typeInfo, Sem.run_bind, run_program, Result.andThen_ok, i1, Sem.run_pure] at z1
       rw [i4] at z1 ⊢
       simp only [Sem.run_pure, Result.ok.injEq, and_true] at z1
       rw [z1]
      have hsame := Ng _ _ hz
      have hsz1 : i.size = r'.sz := by
       have := hszs.1
       rw [i1] at this
       simpa using this
      have hb1 : (i.bytes : Int) * n ≤ 281474976710656 := by rw [i3, Int.mul_comm]; omega
      have h63 : n ≤ 140737488355328 := by
       have h1 : (1 : Int) ≤ te.by_ := by have := hek.by0; omega
       have := Int.mul_le_mul_of_nonneg_left h1 h0
       rw [Int.mul_one] at this
       omega
      have hr := run_make (P := X.P) S.w T e i z hu i1 iz .i64 .i64 n n h0 (Int.le_refl _) hb1 (by omega)
      have key : ∀ r2 : Ty, shp r2 = shp r' → Kc [⟨d, false, .one (.own e r2 (List.replicate n.toNat r2.dflt))⟩] = some r → H2 X o a S.w A Kc r := by
       intro r2 hs2 hk
       have hsz2 : r2.sz = r'.sz := by rw [← Ir r2, hs2, Ir r']
       have hzc2 : E9 r2 = E9 r' := by rw [← Mp r2, hs2, Mp r']
       have hszb2 : szB X.P r2 = true := by rw [← P6 r2, hs2, P6 r']; exact hszs.2
       have hcl : (E9 r2).length = r2.sz := Ki r2
       have hflat : (madeCells z.cells (n.toNat * i.size)).toList = (List.replicate n.toNat (E9 r2)).flatten := by
        rw [z2, hsame, hsz1, ← hzc2, ← hsz2, ← hcl]
        exact Gra _ (by rw [hcl]; exact Ln r2) _
       obtain ⟨S', K', w', g'⟩ := Qa K hg hd (w' := S.w.alloc (.cells (madeCells z.cells (n.toNat * i.size)) e)) (row := none) (e := e) (r' := r2) (xs := List.replicate n.toNat r2.dflt) (v := .slice (some ⟨S.w.heap.size, 0, none⟩) n.toNat n.toNat)
        (cs := (madeCells z.cells (n.toNat * i.size)).toList) (b2 := []) (World.grownBy_alloc _ _ _) (by simp) (by rw [hsz2]; exact hszs.1)
        (by rw [List.length_replicate]; exact World.ownsRow_lit S.w _ n.toNat (Nat.zero_le _) (by simp only [maxLen]; omega) (by rw [size_madeCells, hsz1, hsz2]))
        (by rw [hflat]; exact Dn.replicate (Uc r2 hszb2) _) (by simp) (by simp) (by simp) (by
         intro k hk
         simp only [Value.ownBlock, Option.some.injEq] at hk
         exact .inr (Nat.le_of_eq hk))
       refine ⟨_, hk, Ai (S := S') (v := .slice (some ⟨S.w.heap.size, 0, none⟩) n.toNat n.toNat) ?_ (by rw [hod]; exact K') g'⟩
       rw [w']
       unfold execOp
       simp [ho, ex, ey, hr]
      split at h
      ·exact key r' rfl h
      ·rename_i r2 _
       by_cases hs2 : shp r2 = shp r'
       ·simp only [hs2, decide_true, cond_true] at h
        exact key r2 hs2 h
       ·simp [hs2] at h
     ·simp [h0, hb] at h
    ·simp [h0] at h
  ·cases h
 ·cases h
theorem Cia (hE : I8 X E) {e : TypeId} {r' : Ty} (N : Nat) : ∀ (ps : List (Nat × Operand)) {S : Sit} {A : Ab} {i : Nat} {ys : List r'.den} {us' : List Up} {zs : List r'.den} {cs : List Value}, Aw X S a → S.g = get A → W5 E A e r' i ps = some (ys, us') → zs.length = i →
  He (fun x c => r'.rep X.P (fun k => S.O k = .fz) S.w x c) zs (cs.take (i * r'.sz)) → cs.length = N * r'.sz → i + ps.length ≤ N →
  ∃ S', ∃ cs' : List Value, Aw X S' a ∧ S'.g = get (ups A us') ∧ S'.w = S.w ∧ ys.length = ps.length ∧ cs'.length = N * r'.sz ∧ He (fun x c => r'.rep X.P (fun k => S'.O k = .fz) S'.w x c) (zs ++ ys) (cs'.take ((i + ps.length) * r'.sz)) ∧
   Instr.fill (fun j => some (j * r'.sz, r'.sz)) cs.toArray (ps.map fun p => (p.1, a.eval p.2)) = some cs'.toArray
 | [], S, A, i, ys, us', zs, cs, K, hg, h, hi, hz, hcl, hN => by
  simp only [W5, Option.some.injEq, Prod.mk.injEq] at h
  obtain ⟨rfl, rfl⟩ := h
  exact ⟨S, cs, K, hg, rfl, rfl, hcl, by simpa using hz, rfl⟩
 | (j, x) :: ps, S, A, i, ys, us', zs, cs, K, hg, h, hi, hz, hcl, hN => by
  simp only [W5] at h
  cases hb : Nat.beq i j with
  | false => rw [hb] at h; simp at h
  | true =>
   rw [hb, cond_true] at h
   have hij : i = j := Nat.eq_of_beq_eq_true hb
   subst hij
   split at h
   ·rename_i s hs
    cases hst : A4 ((parts s).map (Hh A)) with
    | false => rw [hst] at h; simp at h
    | true =>
     rw [hst, cond_true] at h
     split at h
     ·rename_i y hy
      split at h
      ·rename_i ys1 us1 hrec
       simp only [Option.some.injEq, Prod.mk.injEq] at h
       obtain ⟨rfl, rfl⟩ := h
       have hnt : ∀ vs, s ≠ .tup vs := by
        intro vs e1
        subst e1
        have : ∀ t : Ty, mkT t [] = none := by intro t; induction t <;> simp_all [mkT]
        simp [parts, mkW, this] at hy
       obtain ⟨S1, K1, g1, w1, b1, p1, L1, x1, heads, tms, us, hsh, hls⟩ := Gda hE K hg hs hnt 0
       obtain ⟨K2, L2⟩ := K1.names (Cfa 0) (by intro n q; unfold Cfa; split <;> simp)
       have hrep := Ny hst hls
       rw [List.map_map] at hrep
       have hyr := Qp hy hrep
       have hul := Ty.rep_len _ _ _ hyr
       have hone := M1 hst hls
       have hle : i * r'.sz + r'.sz ≤ cs.length := by
        rw [hcl]
        have := Nat.mul_le_mul_right r'.sz (show i + 1 ≤ N by simp only [List.length_cons] at hN; omega)
        rw [Nat.add_mul, Nat.one_mul] at this
        exact this
       have hz2 : He (fun x c => r'.rep X.P (fun k => ({ S1 with O := atO S1.O (Cfa 0) } : Sit).O k = .fz) ({ S1 with O := atO S1.O (Cfa 0) } : Sit).w x c) (zs ++ [y]) ((cs.take (i * r'.sz) ++ us ++ cs.drop (i * r'.sz + r'.sz)).take ((i + 1) * r'.sz)) := by
        have e1 : (cs.take (i * r'.sz) ++ us ++ cs.drop (i * r'.sz + r'.sz)).take ((i + 1) * r'.sz) = cs.take (i * r'.sz) ++ us := by
         rw [List.take_left' (by rw [List.length_append, List.length_take, hul, Nat.add_mul, Nat.one_mul]; omega)]
        rw [e1]
        refine He.append (hz.mono (fun x c => Ty.rep_mono (fun k hk => (L2.fz k (L1.fz k hk).1).1) (fun k hk => by show S1.w.heap[k]? = _; rw [w1]) r' x c)) ⟨us, [], by simp, hyr, rfl⟩
       obtain ⟨S', cs', K', g', w', l1, l2, l3, hf⟩ := Cia hE N ps K2 (by show S1.g = _; exact g1) hrec (by simp [hi]) hz2 (by
        simp only [List.length_append, List.length_take, List.length_drop, hul]; omega) (by simp only [List.length_cons] at hN; omega)
       refine ⟨S', cs', K', by rw [Av]; exact g', w'.trans w1, by simp [l1], l2, ?_, ?_⟩
       ·rw [List.append_assoc, List.singleton_append] at l3
        rw [List.length_cons, show i + (ps.length + 1) = i + 1 + ps.length by omega]
        exact l3
       ·rw [List.map_cons, O6 (us := us) (off := i * r'.sz) (z := r'.sz) rfl (H9 hsh hnt hone) hul (by simpa using hle)]
        exact hf
      ·cases h
     ·cases h
   ·cases h
theorem Cja (hE : I8 X E) {e : TypeId} {r' : Ty} (N : Nat) (hall : Eg r' = true) : ∀ (ps : List (Nat × Operand)) {S : Sit} {A : Ab} {i : Nat} {ys : List r'.den} {us' : List Up} {zs : List r'.den} {cs : List Value} {bz : List Nat}, Aw X S a → S.g = get A → W6 E A e r' i ps = some (ys, us') → zs.length = i →
  Dn (fun x c b => r'.dep X.P (fun k => S.O k = .fz) S.w x c b) zs (cs.take (i * r'.sz)) bz → bz.Nodup → (∀ k ∈ bz, ∃ n q, 1000 ≤ n ∧ n < 1000 + i ∧ S.O k = .tm n q) → cs.length = N * r'.sz → i + ps.length ≤ N →
  ∃ S', ∃ cs' : List Value, ∃ b2, Aw X S' a ∧ S'.g = get (ups A us') ∧ S'.w = S.w ∧ ys.length = ps.length ∧ cs'.length = N * r'.sz ∧ Dn (fun x c b => r'.dep X.P (fun k => S'.O k = .fz) S'.w x c b) (zs ++ ys) (cs'.take ((i + ps.length) * r'.sz)) b2 ∧
   b2.Nodup ∧ (∀ k ∈ b2, ∃ n q, 1000 ≤ n ∧ n < 1000 + (i + ps.length) ∧ S'.O k = .tm n q) ∧ Instr.fill (fun j => some (j * r'.sz, r'.sz)) cs.toArray (ps.map fun p => (p.1, a.eval p.2)) = some cs'.toArray
 | [], S, A, i, ys, us', zs, cs, bz, K, hg, h, hi, hz, hbn, hbl, hcl, hN => by
  simp only [W6, Option.some.injEq, Prod.mk.injEq] at h
  obtain ⟨rfl, rfl⟩ := h
  exact ⟨S, cs, bz, K, hg, rfl, rfl, hcl, by simpa using hz, hbn, by simpa using hbl, rfl⟩
 | (j, x) :: ps, S, A, i, ys, us', zs, cs, bz, K, hg, h, hi, hz, hbn, hbl, hcl, hN => by
  simp only [W6] at h
  cases hb : Nat.beq i j with
  | false => rw [hb] at h; simp at h
  | true =>
   rw [hb, cond_true] at h
   have hij : i = j := Nat.eq_of_beq_eq_true hb
   subst hij
   split at h
   ·rename_i s hs
    split at h
    ·rename_i m us0 hgive
     cases hst : Lq m with
     | false => rw [hst] at h; simp at h
     | true =>
      rw [hst, cond_true] at h
      split at h
      ·rename_i y hy
       split at h
       ·rename_i ys1 us1 hrec
        simp only [Option.some.injEq, Prod.mk.injEq] at h
        obtain ⟨rfl, rfl⟩ := h
        have hnt : ∀ vs, s ≠ .tup vs := by
         intro vs e1
         subst e1
         have h1 : ∀ t : Ty, mkT t [] = none := by intro t; induction t <;> simp_all [mkT]
         have h2 := Q7 hgive
         have : m = [] := List.eq_nil_of_length_eq_zero (by simpa [parts] using h2)
         subst this
         simp [mkW, h1] at hy
        obtain ⟨S1, K1, g1, G1, us, hsh, hls⟩ := Gia hE K hg hs hnt hgive (1000 + i)
        obtain ⟨mb, m1, m2, m3⟩ := Mn hst hls (Gja hnt (Q7 hgive))
        have hyr := U9 hall hy m1
        have hul := Ty.dep_len _ _ _ _ hyr
        have hone := M1 (K7 hst) hls
        have hle : i * r'.sz + r'.sz ≤ cs.length := by
         rw [hcl]
         have := Nat.mul_le_mul_right r'.sz (show i + 1 ≤ N by simp only [List.length_cons] at hN; omega)
         rw [Nat.add_mul, Nat.one_mul] at this
         exact this
        have hbl1 : ∀ k ∈ bz, ∃ n q, 1000 ≤ n ∧ n < 1000 + i ∧ S1.O k = .tm n q := fun k hk => by
         obtain ⟨n, q, h1, h2, h3⟩ := hbl k hk
         exact ⟨n, q, h1, h2, G1.tm n q k h3⟩
        have hz1 : Dn (fun x c b => r'.dep X.P (fun k => S1.O k = .fz) S1.w x c b) zs (cs.take (i * r'.sz)) bz := hz.mono (fun x c b _ h => Ty.dep_mono (fun k hk => (G1.later.fz k hk).1) (fun k _ => by rw [G1.w]) r' x c b (fun k _ => by rw [G1.w]) h)
        have hz2 : Dn (fun x c b => r'.dep X.P (fun k => S1.O k = .fz) S1.w x c b) (zs ++ [y]) ((cs.take (i * r'.sz) ++ us ++ cs.drop (i * r'.sz + r'.sz)).take ((i + 1) * r'.sz)) (bz ++ mb) := by
         have e1 : (cs.take (i * r'.sz) ++ us ++ cs.drop (i * r'.sz + r'.sz)).take ((i + 1) * r'.sz) = cs.take (i * r'.sz) ++ us := by
          rw [List.take_left' (by rw [List.length_append, List.length_take, hul, Nat.add_mul, Nat.one_mul]; omega)]
         rw [e1]
         exact hz1.append ⟨us, [], mb, [], by simp, by simp, hyr, rfl, rfl⟩
        have hbn2 : (bz ++ mb).Nodup := by
         rw [List.nodup_append]
         refine ⟨hbn, m2, fun k hk k' hk' e => ?_⟩
         subst e
         obtain ⟨n, q, _, h2, h3⟩ := hbl1 k hk
         obtain ⟨n', _, _, h4⟩ := m3 k hk'
         rw [h3] at h4
         cases h4
         omega
        have hbl2 : ∀ k ∈ bz ++ mb, ∃ n q, 1000 ≤ n ∧ n < 1000 + (i + 1) ∧ S1.O k = .tm n q := fun k hk => by
         rcases List.mem_append.1 hk with hk | hk
         ·obtain ⟨n, q, h1, h2, h3⟩ := hbl1 k hk
          exact ⟨n, q, h1, by omega, h3⟩
         ·obtain ⟨n', _, _, h4⟩ := m3 k hk
          exact ⟨_, _, by omega, by omega, h4⟩
        obtain ⟨S', cs', b2, K', g', w', l1, l2, l3, l4, l5, hf⟩ := Cja hE N hall ps K1 g1 hrec (by simp [hi]) hz2 hbn2 hbl2 (by
         simp only [List.length_append, List.length_take, List.length_drop, hul]; omega) (by simp only [List.length_cons] at hN; omega)
        refine ⟨S', cs', b2, K', by rw [Av]; exact g', w'.trans G1.w, by simp [l1], l2, ?_, l4, ?_, ?_⟩
        ·rw [List.append_assoc, List.singleton_append] at l3
         rw [List.length_cons, show i + (ps.length + 1) = i + 1 + ps.length by omega]
         exact l3
        ·rw [List.length_cons, show i + (ps.length + 1) = i + 1 + ps.length by omega]
         exact l5
        ·rw [List.map_cons, O6 (us := us) (off := i * r'.sz) (z := r'.sz) rfl (H9 hsh hnt hone) hul (by simpa using hle)]
         exact hf
       ·cases h
      ·cases h
    ·cases h
   ·cases h
theorem Ud (hE : I8 X E) (K : Aw X S a) (hg : S.g = get A) {T : TypeId} {n d : Nat} {ps : Array (Nat × Operand)} (ho : o.op = .buildSlice T n ps) (hod : o.dst = some d) (hd : d < X.nt) (h : Ap E o A Kc = some r) : H2 X o a S.w A Kc r := by
 unfold Ap at h
 rw [ho, hod] at h
 simp only at h
 split at h
 ·rename_i e r' by_ fo hT
  cases hq : (Nat.beq n ps.size && Nat.ble (n * r'.sz) 16777216 && (E.ti e).isSome) with
  | false => rw [hq] at h; simp at h
  | true =>
   rw [hq, cond_true] at h
   simp only [Bool.and_eq_true] at hq
   have hn : n = ps.size := Nat.eq_of_beq_eq_true hq.1.1
   have hle : n * r'.sz ≤ 16777216 := Nat.le_of_ble_eq_true hq.1.2
   obtain ⟨te, hte⟩ := Option.isSome_iff_exists.1 hq.2
   have hTk := hE.ti _ _ hT
   have hek := hE.ti _ _ hte
   have hu : X.P.underlying T = some (.slice e) := by
    have := hTk.desc
    unfold P0 at this
    split at this <;> simp_all
   have hszs := hTk.sz
   simp only [szB, Bool.and_eq_true, beq_iff_eq] at hszs
   obtain ⟨z, z1, z2, z3⟩ := O4 (w := S.w) hek
   have hps : ps.toList.length = n := by rw [hn]; simp
   have fin : ∀ {r2 : Ty} {ys : List r2.den} {us : List Up}, r2.sz = r'.sz → Kc (us ++ [⟨d, false, .one (.own e r2 ys)⟩]) = some r →
     (∀ cs : List Value, cs.length = n * r2.sz → ∃ (S1 : Sit) (cs' : List Value) (b2 : List Nat), Aw X S1 a ∧ S1.g = get (ups A us) ∧ S1.w = S.w ∧ ys.length = n ∧ cs'.length = n * r2.sz ∧ Dn (fun x c b => r2.dep X.P (fun k => S1.O k = .fz) S1.w x c b) ys cs' b2 ∧
      b2.Nodup ∧ (∀ k ∈ b2, ∃ q, S1.O k = .tm 0 q) ∧ Instr.fill (fun j => some (j * r2.sz, r2.sz)) cs.toArray (ps.toList.map fun p => (p.1, a.eval p.2)) = some cs'.toArray) → H2 X o a S.w A Kc r := by
    intro r2 ys us hsz2 hk hrows
    rw [← hsz2] at hle hszs
    have run : ∀ zero : Array Value, ((if n * r2.sz = 0 then pure #[] else do pure (← zeroValue e).cells : Sem (Array Value)).run X.P S.w = .ok zero S.w) → H2 X o a S.w A Kc r := by
     intro zero hzero
     obtain ⟨S1, cs', b2, K1, g1, w1, l1, l2, l3, l4, l5, hf⟩ := hrows ((Array.range (n * r2.sz)).map (zero[· % zero.size]!)).toList (by simp)
     obtain ⟨S', K', w', g'⟩ := Qa K1 g1 hd (w' := S1.w.alloc (.cells cs'.toArray e)) (row := none) (e := e) (r' := r2) (xs := ys) (v := .slice (some ⟨S1.w.heap.size, 0, none⟩) n n)
      (cs := cs'.toArray.toList) (World.grownBy_alloc _ _ _) (by simp) hszs.1
      (by rw [l1]; exact World.ownsRow_lit S1.w _ n (Nat.zero_le _) (by
       have h1 := Ln r2
       have h2 : n * 1 ≤ n * r2.sz := Nat.mul_le_mul_left _ h1
       simp only [maxLen]; omega) (by simpa using l2))
      l3 l4 l5 (by
       intro k hk
       refine ⟨by simp, fun e1 => ?_⟩
       simp only [Value.ownBlock, Option.some.injEq] at e1
       obtain ⟨q, hq⟩ := l5 k hk
       have := K1.lt k (by rw [hq]; simp)
       omega) (by
       intro k hk
       simp only [Value.ownBlock, Option.some.injEq] at hk
       exact .inr (Nat.le_of_eq hk))
     rw [← Av] at g'
     refine ⟨_, hk, Ai (S := S') (v := .slice (some ⟨S1.w.heap.size, 0, none⟩) n n) ?_ (by rw [hod]; exact K') g'⟩
     rw [w', w1]
     unfold execOp
     simp only [ho, Sem.run_bind]
     unfold Instr.buildSlice
     simp only [Sem.run_bind, run_underlying hu, Result.andThen_ok, I4 hszs.1]
     rw [if_neg (by omega)]
     have e2 : (ps.map fun x => (x.1, a.eval x.2)).toList = ps.toList.map fun p => (p.1, a.eval p.2) := by simp
     simp only [Array.toArray_toList] at hf
     by_cases hz0 : n * r2.sz = 0
     ·rw [if_pos hz0] at hzero ⊢
      simp only [Sem.run_pure, Result.ok.injEq, and_true] at hzero
      subst hzero
      simp only [Sem.run_bind, Sem.run_pure, Result.andThen_ok, e2, hf]
      simp [newRow]
     ·rw [if_neg hz0] at hzero ⊢
      simp only [Sem.run_bind, Sem.run_pure, z1, Result.andThen_ok, Result.ok.injEq, and_true] at hzero
      subst hzero
      simp only [Sem.run_bind, Sem.run_pure, z1, Result.andThen_ok, e2, hf]
      simp [newRow]
    by_cases hz : n * r2.sz = 0
    ·exact run #[] (by rw [if_pos hz]; rfl)
    ·exact run z.cells (by rw [if_neg hz]; simp [z1])
   split at h
   ·cases hno : Hb r' with
    | false => rw [hno] at h; simp at h
    | true =>
     rw [hno, cond_true] at h
     split at h
     ·rename_i ys us hrows
      refine fin rfl h (fun cs hcs => ?_)
      obtain ⟨S1, cs', K1, g1, w1, l1, l2, l3, hf⟩ := Cia hE n ps.toList (zs := []) (cs := cs) K hg hrows rfl (by simp [He]) hcs (by simp [hn])
      simp only [List.nil_append, Nat.zero_add] at l3
      rw [hps] at l1 l3
      rw [List.take_of_length_le (by omega)] at l3
      exact ⟨S1, cs', [], K1, g1, w1, l1, l2, (Dn.flat (fun x c b => Ty.dep_flat r' x c b hno)).2 ⟨l3, rfl⟩, by simp, by simp, hf⟩
     ·cases h
   ·rename_i r2 _
    cases hq2 : (decide (shp r2 = shp r') && Eg r2) with
    | false => rw [hq2] at h; simp at h
    | true =>
     rw [hq2, cond_true] at h
     simp only [Bool.and_eq_true, decide_eq_true_eq] at hq2
     have hsz2 : r2.sz = r'.sz := by rw [← Ir r2, hq2.1, Ir r']
     split at h
     ·rename_i ys us hrows
      refine fin hsz2 h (fun cs hcs => ?_)
      obtain ⟨S1, cs', b2, K1, g1, w1, l1, l2, l3, l4, l5, hf⟩ := Cja hE n hq2.2 ps.toList (zs := []) (bz := []) (cs := cs) K hg hrows rfl (by simp [Dn]) (by simp) (by simp) hcs (by simp [hn])
      simp only [List.nil_append, Nat.zero_add] at l3
      rw [hps] at l1 l3
      rw [List.take_of_length_le (by omega)] at l3
      obtain ⟨K2, L2⟩ := K1.names (fun n _ => if 1000 ≤ n then some (.tm 0 []) else none) (by intro n q; split <;> simp)
      refine ⟨_, cs', b2, K2, g1, w1, l1, l2, l3.mono (fun x c b _ h => Ty.dep_mono (fun k hk => (L2.fz k hk).1) (fun _ _ => rfl) r2 x c b (fun _ _ => rfl) h), l4, fun k hk => ?_, hf⟩
      obtain ⟨m, q, m1, _, m2⟩ := l5 k hk
      exact ⟨[], Hf m2 (by simp [m1])⟩
     ·cases h
 ·cases h
end
end Go.Proofs.YtgocagaijgcnmaaGreat.Vf
end

section
set_option linter.unusedVariables false
set_option linter.unusedSimpArgs false
namespace Go.Proofs.YtgocagaijgcnmaaGreat.Vf
open Go
attribute [local irreducible] C H
section
variable {X : Cx} {S S' : Sit} {a : Act} {E : En} {A : Ab} {o : Oper} {R : Type} {Kc : List Up → Option R} {r : R}
theorem Nva {P : Program} {w : World} {t ty e : TypeId} {i : TypeInfo} {z : Value} {size : Nat} (ht : P.underlying t = some (.slice e)) (hi : P.info? e = some i) (hz : i.zero = some z)
  (hsize : i.size = size) {v : Value} {n : Nat} {xs : List Value} (hown : w.ownsRow 0 e size v n xs)
  {ad : Addr} {m c : Nat} {S8 : List Value} (hl : S8.length = m * size) (hnews : ∀ j u, S8[j]? = some u → w.cell? (ad.add j) = some u) (h1 : ∀ u ∈ S8, u.oneCell' = true)
  (h63 : n + m ≤ maxLen) (hbytes : (n + m) * i.bytes ≤ 140737488355328) {v' : Value} {w' : World} (hr : (Builtin.append_ #[t, t] ty #[v, .slice (some ad) m c]).run P w = .ok v' w')
  (hnil : v' = .slice none 0 0 ↔ v = .slice none 0 0 ∧ m = 0) : ∀ k, v'.ownBlock = some k → v.ownBlock = some k ∨ w.heap.size ≤ k := by
 subst hsize
 have hsmall : n + m ≤ 9223372036854775807 := by simp only [maxLen] at h63; omega
 intro k hk
 rcases Eo hown with ⟨rfl, hn, rfl⟩ | ⟨k0, cap, cur, rfl, hg, hc1, hc2, hc3, hc4⟩
 ·by_cases hm : m = 0
  ·rw [hnil.2 ⟨rfl, hm⟩] at hk
   simp [Value.ownBlock] at hk
  ·subst hn
   have h2 := run_append_nil (P := P) w t ty e i z ht hi hz ad m c S8 hl hnews (by omega) (by omega) (by have hb := hbytes; simp only [Nat.zero_add] at hb; omega)
   rw [h2] at hr
   cases hr
   simp only [Value.ownBlock, Option.some.injEq] at hk
   exact .inr (Nat.le_of_eq hk)
 ·by_cases hroom : n + m ≤ cap
  ·have hfit : n * i.size + S8.length ≤ cur.size := by rw [hl, hc3, ← Nat.add_mul]; exact Nat.mul_le_mul_right _ hroom
   have h2 := run_append_room (P := P) w t ty e i ht hi k0 n cap cur hg ad m c S8 hl hnews h1 hroom hfit
   rw [h2] at hr
   cases hr
   exact .inl hk
  ·have holds : ∀ j u, xs[j]? = some u → w.cell? ((⟨k0, 0, none⟩ : Addr).add j) = some u := hown.cells (g := k0) rfl
   have h2 := run_append_grow (P := P) w t ty e i z ht hi hz ⟨k0, 0, none⟩ n cap xs hown.1 holds ad m c S8 hl hnews (by omega) (by omega) (growslice_fits (by omega) hbytes)
   rw [h2] at hr
   cases hr
   simp only [Value.ownBlock, Option.some.injEq] at hk
   exact .inr (Nat.le_of_eq hk)
theorem Aja {P : Program} {w : World} {t u ty e : TypeId} {i : TypeInfo} (ht : P.underlying t = some (.slice e)) (hu : P.underlying u = some .string) (hi : P.info? e = some i) (hz : i.zero = some (.int .u8 0))
  (hsize : i.size = 1) (hby : i.bytes = 1) {v : Value} {n : Nat} {xs : List Value} (hown : w.ownsRow 0 e 1 v n xs) {s : ByteArray}
  (h63 : n + s.size ≤ maxLen) (hbytes : n + s.size ≤ 140737488355328) {v' : Value} {w' : World} (hr : (Builtin.append_ #[t, u] ty #[v, .string s]).run P w = .ok v' w')
  (hnil : v' = .slice none 0 0 ↔ v = .slice none 0 0 ∧ s.size = 0) : ∀ k, v'.ownBlock = some k → v.ownBlock = some k ∨ w.heap.size ≤ k := by
 have hsmall : n + s.size ≤ 9223372036854775807 := by simp only [maxLen] at h63; omega
 intro k hk
 rcases Eo hown with ⟨rfl, hn, rfl⟩ | ⟨k0, cap, cur, rfl, hg, hc1, hc2, hc3, hc4⟩
 ·by_cases hm : s.size = 0
  ·rw [hnil.2 ⟨rfl, hm⟩] at hk
   simp [Value.ownBlock] at hk
  ·subst hn
   have h2 := run_append_nil_string (P := P) w t u ty e i _ ht hu hi hz s (by omega) (by omega) (by rw [hby]; omega)
   rw [h2] at hr
   cases hr
   simp only [Value.ownBlock, Option.some.injEq] at hk
   exact .inr (Nat.le_of_eq hk)
 ·by_cases hroom : n + s.size ≤ cap
  ·have h2 := Go.Lib.run_append_room_string (P := P) w t u ty e i ht hu hi hsize k0 n cap cur hg s hroom (by rw [hc3]; omega)
   rw [h2] at hr
   cases hr
   exact .inl hk
  ·have holds : ∀ j u, xs[j]? = some u → w.cell? ((⟨k0, 0, none⟩ : Addr).add j) = some u := hown.cells (g := k0) rfl
   have h2 := Go.Lib.run_append_grow_string (P := P) w t u ty e i _ ht hu hi hz ⟨k0, 0, none⟩ n cap xs (by rw [hsize]; exact hown.1) holds s (by omega) (by omega) (growslice_fits (by omega) (by rw [hby]; omega))
   rw [h2] at hr
   cases hr
   simp only [Value.ownBlock, Option.some.injEq] at hk
   exact .inr (Nat.le_of_eq hk)
theorem Jk {P : Program} {w w' : World} {T T' : TypeId} {x y : Operand} {c : Call} (ho : o.op = .call c) (hc : c.callee = .builtin .append) (hT : c.argTypes.toList = [T, T']) (hx : c.args.toList = [x, y]) {v : Value}
  (hr : (Builtin.append_ #[T, T'] o.type #[a.eval x, a.eval y]).run P w = .ok v w') : (execOp a.eval o).run P w = .ok (.value v) w' := by
 have e1 : c.args = #[x, y] := by rw [← hx]
 have e2 : c.argTypes = #[T, T'] := by rw [← hT]
 unfold execOp
 simp [ho, resolve, hc, e1, e2, invoke, builtin, hr]
theorem Cka (hE : I8 X E) (K : Aw X S a) (hg : S.g = get A) {T : TypeId} {x : Operand} {u : Lf} {e : TypeId} {r' : Ty} {xs : List r'.den} (hs : opT E T A x = some (.one u)) (hu : Ic A u = .own e r' xs) :
  ∃ S1, Aw X S1 a ∧ S1.g = get (ups A (A0a u x)) ∧ S1.w = S.w ∧ Ef S S1 ∧ Ep X.P S1.O S1.w (.tm 0 []) e r' xs (a.eval x) ∧ (∀ n q z v, B6 X.P S (.tm n q) z v → B6 X.P S1 (.tm n q) z v) ∧ S1.bb = S.bb ∧ S1.ph = S.ph ∧ (∀ b n, (S.g (H b)).2 = .one (.hd n) → S1.g (H b) = S.g (H b)) := by
 obtain ⟨l, hl⟩ := Gv hE K hg hs
 have hlf : B6 X.P S (.pl l []) u (a.eval x) := hl
 by_cases hal : ∃ p v, u = .al p v
 ·obtain ⟨p, v, rfl⟩ := hal
  obtain ⟨p', v', e1, hp⟩ := Mj hu (by intro e r xs h; cases h)
  cases e1
  obtain ⟨K1, g1, g2⟩ := N3 K p 0
  have he : a.eval x = S.ph p := hlf.2 (by rw [hg, hp])
  refine ⟨_, K1, ?_, rfl, It S p 0, ?_, g2, rfl, rfl, fun b n hn => Ar _ _ (fun e1 => by rw [e1, hg, hp] at hn; cases hn)⟩
  ·show upd S.g p _ = _
   rw [show A0a (.al p v) x = [⟨p, false, .one .dead⟩] from rfl, Ah, ← hg]
  ·have := K.at_ p
   rw [hg, hp] at this
   rw [he]
   exact g1 [] (.own e r' xs) _ this
 ·have hne : ∀ p v, u = .al p v → False := fun p v h => hal ⟨p, v, h⟩
  have hu' := C7a hu hne
  subst hu'
  rcases Kf hE K hg hs with ⟨t, rfl, ht, hst, het, hok⟩ | ⟨hnt, y', ey, hy'⟩
  ·obtain ⟨K1, g1, g2⟩ := N3 K t 0
   refine ⟨_, K1, ?_, rfl, It S t 0, g1 [] (.own e r' xs) _ hok, g2, rfl, rfl, fun b n hn => Ar _ _ (fun e1 => by rw [e1, ← hst] at hn; cases hn)⟩
   show upd S.g t _ = _
   rw [show A0a (.own e r' xs) (.tmp t) = [⟨t, false, .one .dead⟩] from rfl, Ah, ← hg]
  ·cases ey
   refine ⟨S, K, ?_, rfl, .refl S, hy' (.tm 0 []), fun _ _ _ _ h => h, rfl, rfl, fun _ _ _ => rfl⟩
   cases x <;> Aa | exact hg | exact absurd rfl (hnt _)
theorem Mga {lab : Lab} {e' : TypeId} {r' : Ty} {ys : List r'.den} {u : Value} (h : B6 X.P S lab (.fz e' r' ys) u) :
  ∃ ad cap cs, u = .slice ad ys.length cap ∧ He (fun x c => r'.rep X.P (fun k => S.O k = .fz) S.w x c) ys cs ∧ (ys ≠ [] → ∃ k o, ad = some ⟨k, o, none⟩ ∧ E8 S.w k o cs) := by
 obtain ⟨v, e1, _, ad, cap, cs, e2, _, hrows, hne⟩ := h
 cases e1
 refine ⟨ad, cap, cs, e2, hrows, fun hn => ?_⟩
 obtain ⟨k, o', e3, _, e4⟩ := hne hn
 exact ⟨k, o', e3, e4⟩
theorem Gsa {lab : Lab} {e' : TypeId} {r' : Ty} {ys : List r'.den} {u : Value} (hno : Hb r' = true) (h : Ep X.P S.O S.w lab e' r' ys u) :
  ∃ ad cap cs, u = .slice ad ys.length cap ∧ He (fun x c => r'.rep X.P (fun k => S.O k = .fz) S.w x c) ys cs ∧ (ys ≠ [] → ∃ k o, ad = some ⟨k, o, none⟩ ∧ E8 S.w k o cs) := by
 obtain ⟨_, cs, hrow, hrows, _⟩ := (Ep.flat hno).1 h
 rcases Eo hrow with ⟨e1, e2, rfl⟩ | ⟨k, cap, cur, e1, hc, _, _, _, ht⟩
 ·refine ⟨none, 0, [], by rw [e1, e2], hrows, fun hn => absurd (List.eq_nil_of_length_eq_zero e2) hn⟩
 ·exact ⟨_, cap, cs, e1, hrows, fun _ => ⟨k, 0, rfl, Hm hc ht⟩⟩
theorem Mha {p v : Nat} {pi : Option (List (Int × Nat))} {e' : TypeId} {r' : Ty} {ys : List r'.den} {u : Value} (hno : Hb r' = true) (hv : (S.g p).1 = v) (h : Fqa X.P S p v pi e' r' ys u) :
  ∃ ad cap cs, u = .slice ad ys.length cap ∧ He (fun x c => r'.rep X.P (fun k => S.O k = .fz) S.w x c) ys cs ∧ (ys ≠ [] → ∃ k o, ad = some ⟨k, o, none⟩ ∧ E8 S.w k o cs) := by
 obtain ⟨_, _, h2⟩ := h
 obtain ⟨_, ⟨_, ad, cap, cs, bs, e1, _, hrows, _, hne⟩, _⟩ := h2 hv
 refine ⟨ad, cap, cs, e1, ((Dn.flat (fun x c b => Ty.dep_flat r' x c b hno)).1 hrows).1, fun hn => ?_⟩
 obtain ⟨k, o', e3, _, e4⟩ := hne hn
 exact ⟨k, o', e3, e4⟩
theorem Q5a (K : Aw X S a) (hg : S.g = get A) {lab : Lab} {x : Lf} {e' : TypeId} {r' : Ty} {ys : List r'.den} {u : Value} (h : B6 X.P S lab x u) (hs : Zz A x = some ⟨e', r', ys⟩) :
  ∃ ad cap cs, u = .slice ad ys.length cap ∧ He (fun x c => r'.rep X.P (fun k => S.O k = .fz) S.w x c) ys cs ∧ (ys ≠ [] → ∃ k o, ad = some ⟨k, o, none⟩ ∧ E8 S.w k o cs) := by
 unfold Zz at hs
 split at hs
 ·rename_i p v pi e r xs
  cases hq : (Nat.beq (get A p).1 v && Hb r) with
  | false => rw [hq] at hs; simp at hs
  | true =>
   rw [hq] at hs
   simp only [cond_true, Option.some.injEq, Sl.mk.injEq] at hs
   obtain ⟨rfl, rfl, h3⟩ := hs
   cases h3
   simp only [Bool.and_eq_true] at hq
   exact Mha hq.2 (by rw [hg]; exact Nat.eq_of_beq_eq_true hq.1) h
 ·obtain ⟨lab', h'⟩ := Nb K hg h
  split at hs
  ·rename_i e r xs hsn
   rw [hsn] at h'
   simp only [Option.some.injEq, Sl.mk.injEq] at hs
   obtain ⟨rfl, rfl, h3⟩ := hs
   cases h3
   exact Mga h'
  ·rename_i e r xs hsn
   rw [hsn] at h'
   cases hq : Hb r with
   | false => rw [hq] at hs; simp at hs
   | true =>
    rw [hq] at hs
    simp only [cond_true, Option.some.injEq, Sl.mk.injEq] at hs
    obtain ⟨rfl, rfl, h3⟩ := hs
    cases h3
    exact Gsa hq h'
  ·cases hs
theorem Cla {P : Program} {T : TypeId} {t : TI} (w : World) (h : TOk P T t) : ∃ i z, P.info? T = some i ∧ i.zero = some z ∧ i.size = t.ty.sz ∧ i.bytes = t.by_ ∧ z.cells = (E9 t.ty).toArray ∧ (t.ag = false → E9 t.ty = [z]) := by
 obtain ⟨i, i1, i2, i3, i4, i5⟩ := h.info
 obtain ⟨z, z1, z2, z3⟩ := O4 (w := w) h
 have iz : i.zero = some z := by
  simp only [zeroValue, typeInfo, Sem.run_bind, run_program, Result.andThen_ok, i1, Sem.run_pure] at z1
  rw [i4] at z1 ⊢
  simp only [Sem.run_pure, Result.ok.injEq, and_true] at z1
  rw [z1]
 exact ⟨i, z, i1, iz, i2, i3, z2, fun ha => by rw [ha] at z3; simpa using z3⟩
theorem P7 {P : Program} {G : Nat → Prop} {w : World} : ∀ l : List UInt8, He (fun x c => Ty.rep P G w (.i .u8) x c) (l.map fun b => (b.toNat : Int)) (l.map fun b => Value.int .u8 b.toNat)
 | [] => rfl
 | b :: l => ⟨[_], _, rfl, rfl, P7 l⟩
theorem Gta {P : Program} {w : World} {T ty e : TypeId} {te : TI} {sz : Nat} (hu : P.underlying T = some (.slice e)) (hek : TOk P e te) (hsz : S9 P e sz) {v u : Value} {n m cap : Nat} {cs ds : List Value} {ad : Option Addr} (hrow : w.ownsRow 0 e sz v n cs) (ev : u = .slice ad m cap)
  (hdl : ds.length = m * sz) (hdone : ∀ u ∈ ds, u.oneCell' = true) (hne : m ≠ 0 → ∃ k o, ad = some ⟨k, o, none⟩ ∧ E8 w k o ds) (hle : (n + m) * te.by_ ≤ 140737488355328) (hpos : 0 < sz) :
  ∃ v' w', (Builtin.append_ #[T, T] ty #[v, u]).run P w = .ok v' w' ∧ w'.ownsRow 0 e sz v' (n + m) (cs ++ ds) ∧ w.grownBy w' v.ownBlock ∧ ∀ k, v'.ownBlock = some k → v.ownBlock = some k ∨ w.heap.size ≤ k := by
 obtain ⟨i, z, i1, iz, i2, i3, z2, _⟩ := Cla w hek
 have hsize : i.size = sz := by
  have := hsz
  unfold S9 at this
  rw [i1] at this
  simpa using this
 have h63 : n + m ≤ maxLen := by
  have h1 := hek.by0
  have h2 : (n + m) * 1 ≤ (n + m) * te.by_ := Nat.mul_le_mul_left _ h1
  simp only [maxLen]; omega
 subst ev
 cases ad with
 | none =>
  have hm0 : m = 0 := by
   by_cases hm : m = 0
   ·exact hm
   ·obtain ⟨k, o', e1, _⟩ := hne hm
    cases e1
  subst hm0
  have hd0 : ds = [] := List.eq_nil_of_length_eq_zero (by simpa using hdl)
  subst hd0
  have hcap : (Builtin.append_ #[T, T] ty #[v, .slice none 0 cap]).run P w = .ok v w := by
   rcases Eo hrow with ⟨e1, _⟩ | ⟨k, cap', cur, e1, _, hle', _⟩
   ·rw [e1]; simp [Builtin.append_, run_underlying hu, sizeOf, typeInfo, i1, Builtin.lenOf, Builtin.firstCells]
   ·rw [e1]; simp [Builtin.append_, run_underlying hu, sizeOf, typeInfo, i1, Builtin.lenOf, Builtin.firstCells, hle', storeCells]
  refine ⟨_, _, hcap, by simpa using hrow, ⟨rfl, rfl, rfl, Nat.le_refl _, fun _ _ _ => rfl⟩, fun k hk => .inl hk⟩
 | some ad =>
  have hnews : ∀ j u, ds[j]? = some u → w.cell? (ad.add j) = some u := by
   intro j u hj
   have hm : m ≠ 0 := by
    intro e1
    subst e1
    have : ds = [] := List.eq_nil_of_length_eq_zero (by simpa using hdl)
    subst this
    simp at hj
   obtain ⟨k, o', e1, e2⟩ := hne hm
   cases e1
   rw [Ja]
   exact e2 j u hj
  obtain ⟨v', w', hr, ho', hgr, hnil⟩ := run_append_own (P := P) w 0 T ty e i z sz te.by_ hu i1 iz hsize i3 (by rw [z2, List.size_toArray, Ki, ← i2, hsize]) hpos v n cs hrow ad m cap ds hdl hnews hdone h63 hle (Nat.zero_le _)
  exact ⟨v', w', hr, ho', hgr, Nva hu i1 iz hsize hrow hdl hnews hdone h63 (by rw [i3]; exact hle) hr hnil⟩
theorem Nwa {P : Program} {G : Nat → Prop} {w : World} (t : Ty) (x : t.den) (c : List Value) (b : List Nat) (h : t.dep P G w x c b) : ∀ u ∈ c, u.oneCell' = true :=
 Ua (G := fun k => G k ∨ k ∈ b) t x c (Ty.dep_rep (fun _ h => .inl h) t x c b (fun _ h => .inr h) h)
theorem Gua (hE : I8 X E) (K : Aw X S a) (hg : S.g = get A) {c : Call} (ho : o.op = .call c) (hc : c.callee = .builtin .append) (hd : ∀ d, o.dst = some d → d < X.nt) (h : Ap E o A Kc = some r) : H2 X o a S.w A Kc r := by
 unfold Ap at h
 rw [ho] at h
 simp only [hc] at h
 split at h
 ·rename_i T T' x y d hT hx hod
  have hdl := hd d hod
  split at h
  ·rename_i u w hsu hsw
   split at h
   ·rename_i e r' xs hsu'
    obtain ⟨S1, K1, g1, w1, L1, hown, tms, _⟩ := Cka hE K hg hsu hsu'
    split at h
    ·-- all that is in it is Lq
     rename_i r2 _
     split at h
     ·rename_i w2 hsw2
      split at h
      ·rename_i e' r3 ys xs2 te hsn hcx hte
       split at h
       ·rename_i ys2 hcy
        cases hq : (Eg r2 && Nat.beq e e' && Iz E T e && Nat.beq T T') with
        | false => rw [hq] at h; simp at h
        | true =>
         rw [hq, cond_true] at h
         cases hq2 : Nat.ble ((xs2.length + ys2.length) * te.by_) 140737488355328 with
         | false => rw [hq2] at h; simp at h
         | true =>
          rw [hq2, cond_true] at h
          simp only [Bool.and_eq_true] at hq
          obtain ⟨⟨⟨q0, q1⟩, q2⟩, q3⟩ := hq
          have he : e = e' := Nat.eq_of_beq_eq_true q1
          have hTT : T = T' := Nat.eq_of_beq_eq_true q3
          subst he hTT
          have hle : (xs2.length + ys2.length) * te.by_ ≤ 140737488355328 := Nat.le_of_ble_eq_true hq2
          obtain ⟨K2, L2⟩ := K1.names (fun n _ => if n = 0 then some (.tm 1 []) else none) (by intro n q; split <;> simp)
          have hown2 : B6 X.P { S1 with O := atO S1.O (fun n _ => if n = 0 then some (.tm 1 []) else none) } (.tm 1 []) (.own e r' xs) (a.eval x) :=
           B6.later (P := X.P) (x := .own e r' xs) (lab := .tm 0 []) (lab' := .tm 1 []) L2 hown (fun k hk => ⟨Hf hk (by simp), rfl⟩)
          obtain ⟨S3, K3, g3, w3, L3, hsrc, tms3, _⟩ := Cka hE K2 (by show S1.g = _; exact g1) hsw2 hsn
          have hown3 : Ep X.P S3.O S3.w (.tm 1 []) e r' xs (a.eval x) := tms3 1 [] (.own e r' xs) _ hown2
          have hown4 := hown3.cast hcx
          have hsrc2 := hsrc.cast hcy
          obtain ⟨bx, ⟨vx, cx, b1, ex, hszx, hrowx, hrowsx, ebx⟩, hnx, hbx⟩ := hown4
          obtain ⟨by_, ⟨vy, cy, b2, ey, hszy, hrowy, hrowsy, eby⟩, hny, hby⟩ := hsrc2
          simp only [List.cons.injEq, and_true] at ex ey
          subst ex ey ebx eby
          have hu := Hn q2 hE.ti
          have hek := hE.ti _ _ hte
          have hshape : ∃ ad cap, a.eval y = .slice ad ys2.length cap ∧ (ys2.length ≠ 0 → ∃ k o, ad = some ⟨k, o, none⟩ ∧ E8 S3.w k o cy) := by
           rcases Eo hrowy with ⟨e1, e2, _⟩ | ⟨k, cap, cur, e1, hc, _, _, _, ht⟩
           ·exact ⟨none, 0, by rw [e1, e2], fun h => absurd e2 h⟩
           ·exact ⟨_, cap, e1, fun _ => ⟨k, 0, rfl, Hm hc ht⟩⟩
          obtain ⟨ad, cap, ev, hne⟩ := hshape
          have hdone : ∀ u ∈ cy, u.oneCell' = true := (hrowsy.rows (R' := fun _ c => ∀ u ∈ c, u.oneCell' = true) (fun x c b _ h => Nwa r2 x c b h)).all (fun _ _ h => h)
          obtain ⟨v', w', hr, ho', hgr, hnew⟩ := Gta (ty := o.type) hu hek hszx hrowx ev (hrowsy.len (Ty.dep_len r2)) hdone hne hle (Ln r2)
          rw [← List.length_append] at ho'
          obtain ⟨K4, L4⟩ := K3.names (fun n _ => if n = 1 then some (.tm 0 [1]) else none) (by intro n q; split <;> simp)
          have h1 : ∀ k ∈ (a.eval x).ownBlock.toList ++ b1, atO S3.O (fun n _ => if n = 1 then some (.tm 0 [1]) else none) k = .tm 0 [1] := fun k hk => Hf (hbx k hk) (by simp)
          have h0 : ∀ k ∈ (a.eval y).ownBlock.toList ++ b2, atO S3.O (fun n _ => if n = 1 then some (.tm 0 [1]) else none) k = .tm 0 [] := fun k hk => Ju (hby k hk) (by simp)
          have hvx : ∀ k, (a.eval x).ownBlock = some k → k ∈ (a.eval x).ownBlock.toList ++ b1 := fun k hk => by rw [hk]; simp
          rw [List.nodup_append] at hnx hny
          have hnb : (b1 ++ b2).Nodup := by
           rw [List.nodup_append]
           refine ⟨hnx.2.1, hny.2.1, fun k hk k' hk' e9 => ?_⟩
           subst e9
           have e5 := h1 k (List.mem_append_right _ hk)
           rw [h0 k (List.mem_append_right _ hk')] at e5
           cases e5
          obtain ⟨S', K', ew, g'⟩ := Qa K4 (A1 := ups (ups A (A0a u x)) (A0a w2 y)) (by show S3.g = _; exact g3) hdl (w' := w') (row := (a.eval x).ownBlock) (e := e) (r' := r2) (xs := xs2 ++ ys2) (v := v') (cs := cx ++ cy) (b2 := b1 ++ b2) hgr
           (fun k hk => ⟨0, [1], h1 k (hvx k hk)⟩) hszx ho' ((hrowsx.append hrowsy).mono (fun x c b _ h => Ty.dep_mono (fun k hk => (L4.fz k hk).1) (fun _ _ => rfl) r2 x c b (fun _ _ => rfl) h)) hnb
           (fun k hk => by
            rcases List.mem_append.1 hk with hk | hk
            ·exact ⟨_, h1 k (List.mem_append_right _ hk)⟩
            ·exact ⟨_, h0 k (List.mem_append_right _ hk)⟩)
           (fun k hk => by
            have hnr : (a.eval x).ownBlock ≠ some k := fun e9 => by
             rcases List.mem_append.1 hk with hk | hk
             ·exact hnx.2.2 k (by rw [e9]; simp) k hk rfl
             ·have e5 := h1 k (hvx k e9)
              rw [h0 k (List.mem_append_right _ hk)] at e5
              cases e5
            refine ⟨hnr, fun e9 => ?_⟩
            rcases hnew k e9 with h9 | h9
            ·exact hnr h9
            ·have hlt : k < S3.w.heap.size := K4.lt k (by
              rcases List.mem_append.1 hk with hk | hk
              ·show atO S3.O _ k ≠ _
               rw [h1 k (List.mem_append_right _ hk)]; simp
              ·show atO S3.O _ k ≠ _
               rw [h0 k (List.mem_append_right _ hk)]; simp)
             omega) hnew
          rw [← Av, ← Av] at g'
          have hw3 : S3.w = S.w := w3.trans w1
          exact ⟨_, h, Ai (S := S') (v := v') (by rw [ew, ← hw3]; exact Jk ho hc hT hx hr) (by rw [hod]; exact K') g'⟩
       ·cases h
      ·cases h
     ·cases h
    ·cases hno : Hb r' with
     | false => rw [hno] at h; simp at h
     | true =>
     rw [hno, cond_true] at h
     obtain ⟨hsz, cs, hrow, hrows, hlab⟩ := (Ep.flat hno).1 hown
     obtain ⟨lw, hlw⟩ := Gv hE K hg hsw
     have hlw' : B6 X.P S (.pl lw []) w (a.eval y) := hlw
     split at h
     ·rename_i e' r'' ys hasl
      split at h
      ·rename_i ys' te hcast hte
       cases hq : (Nat.beq e e' && Iz E T e && Nat.beq T T') with
       | false => rw [hq] at h; simp at h
       | true =>
        rw [hq, cond_true] at h
        cases hq2 : Nat.ble ((xs.length + ys'.length) * te.by_) 140737488355328 with
        | false => rw [hq2] at h; simp at h
        | true =>
         rw [hq2, cond_true] at h
         simp only [Bool.and_eq_true] at hq
         obtain ⟨⟨q1, q2⟩, q3⟩ := hq
         have he : e = e' := Nat.eq_of_beq_eq_true q1
         have hTT : T = T' := Nat.eq_of_beq_eq_true q3
         subst he hTT
         have hle : (xs.length + ys'.length) * te.by_ ≤ 140737488355328 := Nat.le_of_ble_eq_true hq2
         have hu := Hn q2 hE.ti
         have hek := hE.ti _ _ hte
         obtain ⟨ad, cap, ds, ev, hdrows0, hne0⟩ := Q5a K hg hlw' hasl
         obtain ⟨hdrows, hylen⟩ := St hcast hdrows0
         have hdl2 := hdrows.len (Ty.rep_len r')
         have hdone : ∀ u ∈ ds, u.oneCell' = true := hdrows.all (Ua r')
         have hdrows1 : He (fun x c => r'.rep X.P (fun k => S1.O k = .fz) S1.w x c) ys' ds := hdrows.mono (fun x c => Ty.rep_mono (fun k hk => (L1.fz k hk).1) (fun k hk => (L1.fz k hk).2) r' x c)
         obtain ⟨v', w', hr, ho', hgr, hnew⟩ := Gta (ty := o.type) (w := S1.w) (u := a.eval y) (ad := ad) (cap := cap) hu hek hsz hrow (by rw [ev, hylen]) hdl2 hdone (fun hm => by
          obtain ⟨k, o', e1, e2⟩ := hne0 (fun e3 => hm (by rw [hylen, e3, List.length_nil]))
          exact ⟨k, o', e1, by rw [w1]; exact e2⟩) hle (Ln r')
         rw [← List.length_append] at ho'
         obtain ⟨S', K', ew, g'⟩ := Gqa K1 g1 hdl hno hgr (fun k hk => ⟨0, [], hlab k hk⟩) hsz ho' (hrows.append hdrows1) hnew
         rw [← Av] at g'
         exact ⟨_, h, Ai (S := S') (v := v') (by rw [ew, ← w1]; exact Jk ho hc hT hx hr) (by rw [hod]; exact K') g'⟩
      ·cases h
     ·split at h
      ·rename_i s _
       split at h
       ·rename_i ys fo hcast hte
        cases hq : (Iz E T e && No E T' && Nat.ble ((xs.length + s.size) * 1) 140737488355328) with
        | false => rw [hq] at h; simp at h
        | true =>
         rw [hq, cond_true] at h
         simp only [Bool.and_eq_true] at hq
         obtain ⟨⟨q2, q3⟩, q4⟩ := hq
         have hle : (xs.length + s.size) * 1 ≤ 140737488355328 := Nat.le_of_ble_eq_true q4
         rw [Nat.mul_one] at hle
         have hu := Hn q2 hE.ti
         have hus := Q4 q3 hE.ti
         have hek := hE.ti _ _ hte
         have ev : a.eval y = .string s := hlw'.1
         obtain ⟨i, z, i1, iz, i2, i3, _, z3⟩ := Cla S.w hek
         have hz : z = .int .u8 0 := by
          have := z3 rfl
          simp only [E9, List.cons.injEq, and_true] at this
          exact this.symm
         subst hz
         have h63 : xs.length + s.size ≤ maxLen := by simp only [maxLen]; omega
         have hsz1 : r'.sz = 1 := by
          have := hsz
          unfold S9 at this
          rw [i1] at this
          simp only [Option.map_some, Option.some.injEq] at this
          rw [← this]
          exact i2
         rw [hsz1] at hrow
         obtain ⟨v', w', hr, ho', hgr, hnil⟩ := Go.Lib.run_append_own_string (P := X.P) S1.w 0 T T' o.type e i hu hus i1 iz i2 i3 (a.eval x) xs.length cs hrow s h63 hle (Nat.zero_le _)
         have hbl : (bytesOf s).length = s.size := by simp [bytesOf]
         have hnew := Aja hu hus i1 iz i2 i3 hrow h63 hle hr hnil
         obtain ⟨hrows2, hl2⟩ := St (P := X.P) (G := fun k => S1.O k = .fz) (w := S1.w) hcast (P7 s.data.toList)
         have hlen2 : xs.length + s.size = (xs ++ ys).length := by rw [List.length_append, hl2, hbl]
         rw [hlen2, ← hsz1] at ho'
         obtain ⟨S', K', ew, g'⟩ := Gqa K1 g1 hdl hno hgr (fun k hk => ⟨0, [], hlab k hk⟩) hsz ho' (hrows.append hrows2) hnew
         rw [← Av] at g'
         exact ⟨_, h, Ai (S := S') (v := v') (by rw [ew, ← w1]; exact Jk ho hc hT hx (by rw [ev]; exact hr)) (by rw [hod]; exact K') g'⟩
       ·cases h
      ·cases h
   ·cases h
  ·cases h
 ·cases h
theorem Iu {P : Program} {w w' : World} {T T' : TypeId} {x : Operand} {u v : Value} (ho : o.op = .convert T T' x) (he : a.eval x = u) (hr : (convert T T' u).run P w = .ok v w') : (execOp a.eval o).run P w = .ok (.value v) w' := by
 unfold execOp
 simp [ho, he, hr]
theorem Cma {P : Program} {T : TypeId} {k : IntKind} {by_ : Nat} {fo : List (Nat × Nat × Bool)} (h : TOk P T ⟨.i k, false, by_, fo⟩) : P.underlying T = some (.int k) := by
 have := h.desc
 unfold P0 at this
 split at this <;> simp_all
theorem Km {P : Program} {T : TypeId} {by_ : Nat} {fo : List (Nat × Nat × Bool)} (h : TOk P T ⟨.s, false, by_, fo⟩) : P.underlying T = some .string := by
 have := h.desc
 unfold P0 at this
 split at this <;> simp_all
theorem Mq {P : Program} {T e : TypeId} {by_ : Nat} {fo : List (Nat × Nat × Bool)} (h : TOk P T ⟨.sl e (.i .u8), false, by_, fo⟩) : P.underlying T = some (.slice e) ∧ P.underlying e = some (.int .u8) := by
 have hu : P.underlying T = some (.slice e) := by
  have := h.desc
  unfold P0 at this
  split at this <;> simp_all
 refine ⟨hu, ?_⟩
 have := h.desc
 rw [hu] at this
 simp only [P0, Pva, Bool.and_eq_true] at this
 obtain ⟨_, h2⟩ := this
 split at h2
 ·rename_i k' hk
  simp at h2
  rw [hk, ← h2]
 ·cases h2
theorem O7 {P : Program} {G : Nat → Prop} {w : World} : ∀ (xs : List Int) (cs : List Value), He (fun x c => Ty.rep P G w (.i .u8) x c) xs cs → cs = xs.map (Value.int .u8)
 | [], _, h => h
 | x :: xs, _, ⟨c, d, e, h1, h2⟩ => by
  have h1' : c = [.int .u8 x] := h1
  rw [e, h1', O7 xs d h2]
  rfl
theorem La {P : Program} {w : World} {T T' e : TypeId} {xs : List Int} {ad : Option Addr} {cap : Nat} {cs : List Value} (hT : P.underlying T = some (.slice e)) (he : P.underlying e = some (.int .u8)) (hT' : P.underlying T' = some .string)
  (hcs : cs = xs.map (Value.int .u8)) (hne : xs ≠ [] → ∃ k o, ad = some ⟨k, o, none⟩ ∧ E8 w k o cs) : (convert T T' (.slice ad xs.length cap)).run P w = .ok (.string (Hd xs)) w := by
 rw [run_convert_bytes_string w T T' e ad xs.length cap hT he hT']
 cases ad with
 | none =>
  have : xs = [] := by
   by_cases hx : xs = []
   ·exact hx
   ·obtain ⟨k, o', e1, _⟩ := hne hx
    cases e1
  subst this
  simp [Conv.bytesToString, Hd]
  rfl
 | some ad =>
  have hl : (loadCells ad xs.length).run P w = .ok (xs.map (Value.int .u8)).toArray w := by
   by_cases hx : xs = []
   ·subst hx
    rfl
   ·obtain ⟨k, o', e1, e2⟩ := hne hx
    cases e1
    have := run_loadCells_list (P := P) w ⟨k, o', none⟩ cs (fun j v hj => by rw [Ja]; exact e2 j v hj)
    rw [hcs] at this
    simpa using this
  rw [run_bytesToString w _ xs.length cap xs hl, foldl_push_bytes]
  simp [Hd, ByteArray.empty, ByteArray.emptyWithCapacity]
  rfl
theorem Nxa (K : Aw X S a) (hg : S.g = get A) {lab : Lab} {y : Lf} {u : Value} (h : B6 X.P S lab y u) :
  (∃ lab', B6 X.P S lab' (Sp A y) u) ∨ ∃ p v pi e r, ∃ xs : List (Ty.den r), y = .da p v pi e r xs ∧ (S.g p).1 = v ∧ Sp A y = .fz e r xs := by
 unfold Sp
 split
 ·rename_i p v pi e r xs
  cases hq : Nat.beq (get A p).1 v with
  | false => exact .inl ⟨lab, trivial⟩
  | true => exact .inr ⟨p, v, pi, e, r, xs, rfl, by rw [hg]; exact Nat.eq_of_beq_eq_true hq, rfl⟩
 ·exact .inl (Nb K hg h)
theorem Eha (hE : I8 X E) (K : Aw X S a) (hg : S.g = get A) {T T' : TypeId} {x : Operand} {d : Nat} (ho : o.op = .convert T T' x) (hod : o.dst = some d) (hd : d < X.nt) (h : Ap E o A Kc = some r) : H2 X o a S.w A Kc r := by
 unfold Ap at h
 rw [ho, hod] at h
 simp only at h
 split at h
 ·rename_i y hs
  obtain ⟨l, hl⟩ := Gv hE K hg hs
  rcases Nxa K hg (show B6 X.P S (.pl l []) y (a.eval x) from hl) with ⟨lab', hl'⟩ | ⟨p, v, pi, e, r0, xs, rfl, hv, hvw⟩
  rotate_left 1
  ·rw [hvw] at h
   unfold E7a at h
   split at h
   ·rename_i hy; simp at hy
   ·rename_i hy; simp at hy
   ·rename_i e0 b0 f0 b f e' xs' hT hT' hy
    cases hq : Nat.beq e0 e' with
    | false => rw [hq] at h; simp at h
    | true =>
     rw [hq, cond_true] at h
     simp only [Sv.one.injEq] at hy
     cases hy
     obtain ⟨ad, cap, cs, e1, hrows, hne⟩ := Mha rfl hv hl
     obtain ⟨u1, u2⟩ := Mq (hE.ti _ _ hT)
     exact Ls K hg hod hd rfl (Iu ho e1 (La u1 u2 (Km (hE.ti _ _ hT')) (O7 _ _ hrows) hne)) h
   ·rename_i hy; simp at hy
   ·rename_i hy; simp at hy
   ·cases h
  unfold E7a at h
  split at h
  ·rename_i k0 b0 f0 k b f k1 n hT hT' hy
   simp only [Sv.one.injEq] at hy
   rw [hy] at hl'
   have e1 : a.eval x = .int k1 n := hl'.1
   refine Ls K hg hod hd rfl (Iu ho e1 ?_) h
   simp [convert, run_underlying (Cma (hE.ti _ _ hT)), run_underlying (Cma (hE.ti _ _ hT')), Conv.intToInt]
  ·rename_i b0 f0 b f s hT hT' hy
   simp only [Sv.one.injEq] at hy
   rw [hy] at hl'
   have e1 : a.eval x = .string s := hl'.1
   refine Ls K hg hod hd rfl (Iu ho e1 ?_) h
   simp [convert, run_underlying (Km (hE.ti _ _ hT)), run_underlying (Km (hE.ti _ _ hT'))]
  ·rename_i e b0 f0 b f e' xs hT hT' hy
   cases hq : Nat.beq e e' with
   | false => rw [hq] at h; simp at h
   | true =>
    rw [hq, cond_true] at h
    simp only [Sv.one.injEq] at hy
    rw [hy] at hl'
    obtain ⟨ad, cap, cs, e1, hrows, hne⟩ := Mga hl'
    obtain ⟨u1, u2⟩ := Mq (hE.ti _ _ hT)
    exact Ls K hg hod hd rfl (Iu ho e1 (La u1 u2 (Km (hE.ti _ _ hT')) (O7 _ _ hrows) hne)) h
  ·rename_i e b0 f0 b f e' xs hT hT' hy
   cases hq : Nat.beq e e' with
   | false => rw [hq] at h; simp at h
   | true =>
    rw [hq, cond_true] at h
    simp only [Sv.one.injEq] at hy
    rw [hy] at hl'
    obtain ⟨ad, cap, cs, e1, hrows, hne⟩ := Gsa rfl hl'
    obtain ⟨u1, u2⟩ := Mq (hE.ti _ _ hT)
    exact Ls K hg hod hd rfl (Iu ho e1 (La u1 u2 (Km (hE.ti _ _ hT')) (O7 _ _ hrows) hne)) h
  ·rename_i b0 f0 e b f s hT hT' hy
   cases hq : Nat.ble s.size 140737488355328 with
   | false => rw [hq] at h; simp at h
   | true =>
    rw [hq, cond_true] at h
    simp only [Sv.one.injEq] at hy
    rw [hy] at hl'
    have e1 : a.eval x = .string s := hl'.1
    obtain ⟨u1, u2⟩ := Mq (hE.ti _ _ hT')
    have hr := run_bytes_of_string (P := X.P) S.w T T' e s (Km (hE.ti _ _ hT)) u1 u2
    have hszs := (hE.ti _ _ hT').sz
    simp only [szB, Bool.and_eq_true, beq_iff_eq] at hszs
    generalize hob : Obj.cells (bytesRow s (grownCap S.w s.size 0 e)) e ((bytesRow s (grownCap S.w s.size 0 e)).size, (bytesRow s (grownCap S.w s.size 0 e)).size + 1) = ob at hr
    obtain ⟨K1, L1⟩ := K.grow (w' := S.w.drew.alloc ob) (row := none) (O' := fun k => if k = S.w.heap.size then .fz else S.O k) ⟨rfl, rfl, rfl, by simp, fun k hk _ => heap_alloc_old S.w.drew ob k hk⟩ (by simp)
     (fun k hk _ => by show (if k = S.w.heap.size then _ else _) = _; rw [if_neg (by omega)])
     (fun k hk => by
      show k < (S.w.heap.push _).size
      rw [Array.size_push]
      by_cases h : k = S.w.heap.size
      ·omega
      ·simp only [h, if_false] at hk
       have := K.lt k hk
       omega)
    have hcell : E8 (S.w.drew.alloc ob) S.w.heap.size 0 (s.data.toList.map fun b => Value.int .u8 b.toNat) := by
     intro j u hj
     have hb : (S.w.drew.alloc ob).heap[S.w.heap.size]? = some ob := heap_alloc_new S.w.drew ob
     subst hob
     have hjl : j < s.data.toList.length := by
      rcases Nat.lt_or_ge j s.data.toList.length with h | h
      ·exact h
      ·rw [List.getElem?_eq_none (by simpa using h)] at hj; cases hj
     simp only [World.cell?, hb, Nat.zero_add]
     simp only [bytesRow]
     rw [Array.getElem?_append_left (by simpa using hjl)]
     simpa using hj
    have hbl : (bytesOf s).length = s.size := by simp [bytesOf]
    have hsv : Hq X.P (Si S (S.w.drew.alloc ob) (fun k => if k = S.w.heap.size then .fz else S.O k)) 0 (.one (.fz e (.i .u8) (bytesOf s))) (.slice (some ⟨S.w.heap.size, 0, none⟩) s.size (grownCap S.w s.size 0 e)) := by
     refine ⟨_, rfl, hszs.1, _, grownCap S.w s.size 0 e, _, by rw [hbl], by rw [hbl]; exact grownCap_ge _ _ _ _, P7 s.data.toList, fun _ => ⟨_, 0, rfl, ?_, hcell⟩⟩
     show (if _ then _ else _) = _
     rw [if_pos rfl]
    have K2 := K1.put0 hd _ _ 0 rfl hsv
    refine ⟨_, h, Ai (S := J9 (Si S (S.w.drew.alloc ob) (fun k => if k = S.w.heap.size then .fz else S.O k)) (fun _ _ => none) d (.one (.fz e (.i .u8) (bytesOf s))) (.slice (some ⟨S.w.heap.size, 0, none⟩) s.size (grownCap S.w s.size 0 e))) (Iu ho e1 hr) (by rw [hod]; exact K2) ?_⟩
    show upd S.g d _ = _
    rw [Ah, ← hg]
    rfl
  ·cases h
 ·cases h
end
end Go.Proofs.YtgocagaijgcnmaaGreat.Vf
end

section
set_option linter.unusedVariables false
set_option linter.unusedSimpArgs false
namespace Go.Proofs.YtgocagaijgcnmaaGreat.Vf
open Go
attribute [local irreducible] C H
def bare (O : Nat → Lab) (w : World) : Sit := ⟨O, fun _ => (0, 0), fun _ => (0, .one .dead), fun _ => undef, w⟩
def Sy (P : Program) (S : Sit) (rg : Nat → Nat × Nat) (B : Nat) (t : Ty) (l : List Lf) (u : Value) : Prop :=
 ∃ k o c e us, u = .pointer (some ⟨k, o, none⟩) ∧ S.w.heap[k]? = some (.cells c e (0, 0)) ∧ S.O k = .bx B ∧ rg B = (o, t.sz) ∧ o + t.sz ≤ c.size ∧ t.sz < 999 ∧ l.length = t.sz ∧ (∀ j, j < t.sz → c[o + j]? = us[j]?) ∧
  A8 P S (fun j => .pl (C B j) []) 0 l us
def Eia (P : Program) (S : Sit) (w : Nat → Value) (j : Nat) : Lf → Value → Prop
 | .own _ _ _, u => u = w j
 | x, u => Fva x = true ∧ B6 P S .fz x u
def Ue (Q : Nat → Lf → Value → Prop) : Nat → List Lf → List Value → Prop
 | _, [], [] => True
 | j, x :: l, u :: us => Q j x u ∧ Ue Q (j + 1) l us
 | _, _, _ => False
def Eja (P : Program) (S : Sit) (rg : Nat → Nat × Nat) (nv : Nat) (hs : List Value) (i : Nat) : Par → List Lf → Value → Prop
 | .vw t h, l, u => nv ≤ h ∧ ∃ vs k o c e, u = .agg vs.toArray ∧ hs[h - nv]? = some (.pointer (some ⟨k, o, none⟩)) ∧ S.w.heap[k]? = some (.cells c e (0, 0)) ∧ t.sz < 999 ∧ l.length = t.sz ∧ Ue (Eia P S (fun j => c.getD (o + j) undef)) 0 l vs
 | .val ag _, l, u => ∃ us, (if ag then u = .agg us.toArray else us = [u]) ∧ A8 P S (fun j => .pl i (if ag then [j] else [])) 0 l us
 | .ptr t _, l, u => i < nv ∧ Sy P S rg (bid nv i) t l u
 | .hid t _, l, u => nv ≤ i ∧ Sy P S rg (bid nv i) t l u
 | .rd t, l, u => ∃ x k o cs, mkW t l = some x ∧ u = .pointer (some ⟨k, o, none⟩) ∧ S.O k = .fz ∧ t.rep P (fun k => S.O k = .fz) S.w x cs ∧ E8 S.w k o cs
 | .fn F m, _, u => u = .func (.func F) #[] hs.toArray ∧ hs.length = m
def Ko (P : Program) (S : Sit) (rg : Nat → Nat × Nat) (nv : Nat) (hs : List Value) : Nat → List Par → List (List Lf) → List Value → Prop
 | _, [], [], [] => True
 | i, p :: ps, l :: ls, u :: us => Eja P S rg nv hs i p l u ∧ Ko P S rg nv hs (i + 1) ps ls us
 | _, _, _, _ => False
def M2 (P : Program) (S : Sit) (n0 : Nat) (i : Nat) : RK → List Lf → Value → Prop
 | .one, l, u => A8 P S (fun _ => .tm i []) 0 l [u]
 | .agg, l, u => ∃ us, u = .agg us.toArray ∧ A8 P S (fun j => .tm i [j]) 0 l us
 | .ptr, l, u => ∃ k o c e us, u = .pointer (some ⟨k, o, none⟩) ∧ S.w.heap[k]? = some (.cells c e (0, 0)) ∧ n0 ≤ k ∧ S.O k = .tm (i + 500) [] ∧ o + l.length ≤ c.size ∧ l.length < 999 ∧ (∀ j, j < l.length → c[o + j]? = us[j]?) ∧
   A8 P S (fun j => .tm i [j]) 0 l us
def Ig (P : Program) (S : Sit) (n0 : Nat) : Nat → List (RK × Ty) → List (List Lf) → List Value → Prop
 | _, [], _, us => us = []
 | i, k :: ks, l :: ls, u :: us => M2 P S n0 i k.1 l u ∧ Ig P S n0 (i + 1) ks ls us
 | _, _, _, _ => False
def H5 (P : Program) (S : Sit) (n0 : Nat) (rs : List (RK × Ty)) (ls : List (List Lf)) (v : Value) : Prop :=
 match rs with
 | [r] => ∃ l ls', ls = l :: ls' ∧ M2 P S n0 1 r.1 l v
 | rs => ∃ us, v = .tuple us.toArray ∧ Ig P S n0 1 rs ls us
def Sz (P : Program) (S : Sit) (i : Nat) (t' : Ty) (l : List Lf) (u : Value) : Prop :=
 ∃ k o c e us, u = .pointer (some ⟨k, o, none⟩) ∧ S.w.heap[k]? = some (.cells c e (0, 0)) ∧ l.length = t'.sz ∧ (∀ j, j < t'.sz → c[o + j]? = us[j]?) ∧ A8 P S (fun j => .tm (1001 + i) [j]) 0 l us
def K8 (P : Program) (S : Sit) : Nat → List Par → List Value → List (List Lf) → Prop
 | _, [], _, ls => ls = []
 | i, .ptr _ t' :: ps, u :: us, l :: ls => Sz P S i t' l u ∧ K8 P S (i + 1) ps us ls
 | i, .hid _ t' :: ps, u :: us, l :: ls => Sz P S i t' l u ∧ K8 P S (i + 1) ps us ls
 | i, .val _ _ :: ps, _ :: us, ls => K8 P S (i + 1) ps us ls
 | i, .vw _ _ :: ps, _ :: us, ls => K8 P S (i + 1) ps us ls
 | i, .rd _ :: ps, _ :: us, ls => K8 P S (i + 1) ps us ls
 | i, .fn _ _ :: ps, _ :: us, ls => K8 P S (i + 1) ps us ls
 | _, _, _, _ => False
def Q6a (nv n b : Nat) : Prop := ∃ i, i < n ∧ b = bid nv i
def Nya (P : Program) (f : FuncId) (en : Ent) : Prop :=
 ∀ x r, en.run x = some r → ∀ (w : World) (O : Nat → Lab) (rg : Nat → Nat × Nat) (us : List Value), (∀ k, O k ≠ .no → k < w.heap.size) → (∀ k b, O k = .bx b → Q6a en.nv en.ps.length b ∧ (∃ c e f, w.heap[k]? = some (.cells c e f)) ∧ ∀ k', O k' = .bx b → k' = k) → Ko P (bare O w) rg en.nv (us.drop en.nv) 0 en.ps (Cr _ x) us →
  Calls P f (us.take en.nv).toArray w (fun e w' => ∃ v O', e = .returned v ∧ Fr O w rg O' w' ∧ (∀ k, O' k ≠ .no → k < w'.heap.size) ∧ H5 P (bare O' w') w.heap.size en.rs (Cr _ r) v ∧ K8 P (bare O' w') 0 en.ps us ((Cr _ r).drop en.rs.length))
structure A5 (P : Program) (f : FuncId) (en : Ent) : Prop where
 fn : ∃ fn, P.funcs[f]? = some fn ∧ (fn.name == "runtime.NumGoroutine") = false ∧ fn.body.isNone = false
 sound : Nya P f en
section
variable {X : Cx} {S S' : Sit} {a : Act} {E : En} {A : Ab} {o : Oper} {R : Type} {Kc : List Up → Option R} {r : R}
def Gx : Lf → Bool
 | .sc _ | .fz _ _ _ | .own _ _ _ => true
 | _ => false
theorem B6.bare {P : Program} {x : Lf} {u : Value} {lab lab' : Lab} (hx : Gx x = true) {S1 S2 : Sit} (hw : S2.w = S1.w) (hf : ∀ k, S1.O k = .fz → S2.O k = .fz) (hl : ∀ k, S1.O k = lab → S2.O k = lab') (h : B6 P S1 lab x u) : B6 P S2 lab' x u := by
 cases x with
 | sc v => exact h
 | fz e r xs => exact Ty.rep_mono (t := .sl e r) hf (fun k _ => by rw [hw]) _ _ h
 | own e r xs => exact Ep.later (O' := S2.O) (w' := S2.w) h (fun k hk => ⟨hf k hk, by rw [hw]⟩) (fun k hk => ⟨hl k hk, by rw [hw]⟩)
 | _ => simp [Gx] at hx
theorem Ih : ∀ (t : Ty) (x : t.den), ∀ y ∈ A6 t x, Gx y = true
 | .i _, _ => by simp [A6, Gx]
 | .b, _ => by simp [A6, Gx]
 | .s, _ => by simp [A6, Gx]
 | .sl _ _, _ => by simp [A6, Gx]
 | .ow _ _, _ => by simp [A6, Gx]
 | .pr x y, p => by
  intro z hz
  rcases List.mem_append.1 (show z ∈ A6 x p.1 ++ A6 y p.2 from hz) with h | h
  ·exact Ih x p.1 z h
  ·exact Ih y p.2 z h
theorem Gc : ∀ (t : Ty) (x : t.den), (A6 t x).length = t.sz
 | .i _, _ => rfl
 | .b, _ => rfl
 | .s, _ => rfl
 | .sl _ _, _ => rfl
 | .ow _ _, _ => rfl
 | .pr x y, p => by
  show (A6 x p.1 ++ A6 y p.2).length = x.sz + y.sz
  rw [List.length_append, Gc x p.1, Gc y p.2]
theorem A8.impS {P : Program} {S1 S2 : Sit} {f f' : Nat → Lab} : ∀ {l : List Lf} {j : Nat} {us : List Value}, (∀ y ∈ l, Gx y = true) → (∀ n x u, Gx x = true → B6 P S1 (f n) x u → B6 P S2 (f' n) x u) → A8 P S1 f j l us → A8 P S2 f' j l us
 | [], _, [], _, _, _ => trivial
 | [], _, _ :: _, _, _, h => h.elim
 | _ :: _, _, [], _, _, h => h.elim
 | y :: l, j, u :: us, hs, hi, h => ⟨hi j y u (hs y (by simp)) h.1, A8.impS (fun z hz => hs z (List.mem_cons_of_mem _ hz)) hi h.2⟩
theorem Aw.world (K : Aw X S a) {w' : World} {O' : Nat → Lab} (h1 : ∀ k, k < S.w.heap.size → (∀ n q, S.O k ≠ .tm n q) → O' k = S.O k ∧ w'.heap[k]? = S.w.heap[k]?)
  (hos : w'.os = S.w.os) (ht : w'.tape = S.w.tape) (hout : w'.output = S.w.output) (hsz : S.w.heap.size ≤ w'.heap.size) (hlt : ∀ k, O' k ≠ .no → k < w'.heap.size) :
  Aw X (Si S w' O') a ∧ Ef S (Si S w' O') := by
 have keep : ∀ k o, S.O k = o → k < S.w.heap.size → (∀ n q, o ≠ .tm n q) → O' k = o ∧ w'.heap[k]? = S.w.heap[k]? := by
  intro k o' h hk ho
  obtain ⟨h2, h3⟩ := h1 k hk (by rw [h]; exact ho)
  exact ⟨h2.trans h, h3⟩
 have keep' : ∀ k o, S.O k = o → o ≠ .no → (∀ n q, o ≠ .tm n q) → O' k = o ∧ w'.heap[k]? = S.w.heap[k]? := fun k o' h hn ho => keep k o' h (K.lt k (by rw [h]; exact hn)) ho
 have L : Ef S (Si S w' O') := ⟨fun _ => Nat.le_refl _, fun _ _ => rfl, fun p v e r xs' h _ => ⟨xs', h, rfl⟩, fun _ _ => rfl, fun k h => keep' k _ h (by simp) (by simp), Ef.box_of (fun _ _ _ h => h) (fun k b h => keep' k _ h (by simp) (by simp)), fun p _ hd => ⟨hd, fun _ _ _ h => h, fun k hk => by
  obtain ⟨h1, h2⟩ := keep' k _ hk (by simp) (by simp)
  exact ⟨.inl h1, h2⟩⟩⟩
 have F := K.fr
 refine ⟨⟨K.nt, hlt, fun l => (K.at_ l).later L (fun p k h => keep' k _ h (by simp) (by simp)), fun b n h => ?_, K.rgn, K.sl, K.sz, K.df, ⟨hos.trans F.os, ht.trans F.tape, hout.trans F.out, Nat.le_trans F.size hsz, fun k hk h0 => ?_, fun k hk h0 => ?_, fun k b hk h0 => ?_⟩⟩, L⟩
 ·obtain ⟨hn, c, e, e1, e2, e3, e4⟩ := K.box b n h
  obtain ⟨h5, h6⟩ := keep' _ _ e2 (by simp) (by simp)
  exact ⟨hn, c, e, h6.trans e1, h5, e3, e4⟩
 ·obtain ⟨f1, f2⟩ := F.no k hk h0
  obtain ⟨h5, h6⟩ := keep k _ f1 (Nat.lt_of_lt_of_le hk F.size) (by simp)
  exact ⟨h5, h6.trans f2⟩
 ·obtain ⟨f1, f2⟩ := F.fz k hk h0
  obtain ⟨h5, h6⟩ := keep k _ f1 (Nat.lt_of_lt_of_le hk F.size) (by simp)
  exact ⟨h5, h6.trans f2⟩
 ·obtain ⟨f1, c, c', e, f, f2, f3, f4, f5⟩ := F.bx k b hk h0
  obtain ⟨h5, h6⟩ := keep k _ f1 (Nat.lt_of_lt_of_le hk F.size) (by simp)
  exact ⟨h5, c, c', e, f, f2, h6.trans f3, f4, f5⟩
end
end Go.Proofs.YtgocagaijgcnmaaGreat.Vf
end

section
set_option linter.unusedVariables false
set_option linter.unusedSimpArgs false
namespace Go.Proofs.YtgocagaijgcnmaaGreat.Vf
open Go
attribute [local irreducible] C H
section
variable {X : Cx} {S S' : Sit} {a : Act} {E : En} {A : Ab} {o : Oper} {R : Type} {Kc : List Up → Option R} {r : R}
theorem A8.impM {P : Program} {S1 S2 : Sit} {f f' : Nat → Lab} : ∀ {l : List Lf} {j : Nat} {us : List Value}, (∀ x ∈ l, ∀ n u, B6 P S1 (f n) x u → B6 P S2 (f' n) x u) → A8 P S1 f j l us → A8 P S2 f' j l us
 | [], _, [], _, _ => trivial
 | [], _, _ :: _, _, h => h.elim
 | _ :: _, _, [], _, h => h.elim
 | y :: l, j, u :: us, hi, h => ⟨hi y (by simp) j u h.1, A8.impM (fun z hz => hi z (List.mem_cons_of_mem _ hz)) h.2⟩
theorem M2.imp {P : Program} {S1 S2 : Sit} {n0 i : Nat} {k : RK} {l : List Lf} {u : Value} (hw : S2.w = S1.w) (hO : ∀ k i, S1.O k = .tm i [] → S2.O k = .tm i []) (hi : ∀ y ∈ l, ∀ i q u, B6 P S1 (.tm i q) y u → B6 P S2 (.tm i q) y u) (h : M2 P S1 n0 i k l u) : M2 P S2 n0 i k l u := by
 cases k with
 | one => exact A8.impM (fun x hx n u h => hi x hx _ _ u h) h
 | agg =>
  obtain ⟨us, e, h⟩ := h
  exact ⟨us, e, h.impM (fun x hx n u h => hi x hx _ _ u h)⟩
 | ptr =>
  obtain ⟨k, o, c, e, us, e1, e2, e3, e4, e5, e6, e7, h⟩ := h
  exact ⟨k, o, c, e, us, e1, by rw [hw]; exact e2, e3, hO _ _ e4, e5, e6, e7, h.impM (fun x hx n u h => hi x hx _ _ u h)⟩
theorem Ig.imp {P : Program} {S1 S2 : Sit} {n0 : Nat} (hw : S2.w = S1.w) (hO : ∀ k i, S1.O k = .tm i [] → S2.O k = .tm i []) : ∀ {rs : List (RK × Ty)} {i : Nat} {ls : List (List Lf)} {us : List Value},
  (∀ l ∈ ls, ∀ y ∈ l, ∀ i q u, B6 P S1 (.tm i q) y u → B6 P S2 (.tm i q) y u) → Ig P S1 n0 i rs ls us → Ig P S2 n0 i rs ls us
 | [], _, _, _, _, h => h
 | k :: ks, i, l :: ls, u :: us, hi, h => ⟨h.1.imp hw hO (hi l (by simp)), Ig.imp hw hO (fun l' hl' => hi l' (List.mem_cons_of_mem _ hl')) h.2⟩
 | _ :: _, _, [], _, _, h => h.elim
 | _ :: _, _, _ :: _, [], _, h => h.elim
theorem H5.imp {P : Program} {S1 S2 : Sit} {n0 : Nat} {rs : List (RK × Ty)} {ls : List (List Lf)} {v : Value} (hw : S2.w = S1.w) (hO : ∀ k i, S1.O k = .tm i [] → S2.O k = .tm i [])
  (hi : ∀ l ∈ ls, ∀ y ∈ l, ∀ i q u, B6 P S1 (.tm i q) y u → B6 P S2 (.tm i q) y u) (h : H5 P S1 n0 rs ls v) : H5 P S2 n0 rs ls v := by
 unfold H5 at h ⊢
 split at h
 ·obtain ⟨l, ls', rfl, h⟩ := h
  exact ⟨l, ls', rfl, h.imp hw hO (hi l (by simp))⟩
 ·obtain ⟨us, e, h⟩ := h
  exact ⟨us, e, h.imp hw hO hi⟩
theorem Q7a (K : Aw X S a) {A1 : Ab} (hg : S.g = get A1) {d k o n0 : Nat} {l0 : List Nat} {m : List Lf} {us : List Value} {q : Nat → List Nat} {c : Array Value} {e : TypeId} (hd : d < X.nt) (hk : S.O k = .tm n0 l0) (hn0 : n0 ≠ 0) (hk0 : X.w0.heap.size ≤ k)
  (hc : S.w.heap[k]? = some (.cells c e (0, 0))) (ho : o + m.length ≤ c.size) (hcs : ∀ j, j < m.length → c[o + j]? = us[j]?) (hl : A8 X.P S (fun j => .tm 0 (q j)) 0 m us)
  (hq : ∀ j, j < m.length → Sa d 0 0 (q j) = some (.pl (C d (0 + j)) [])) (hm : m.length < 999) (hst : ∀ k, .hd k ∉ m) (hnp : X.np ≤ d) :
  ∃ S', Aw X S' (a.put (some d) (.pointer (some ⟨k, o, none⟩))) ∧ S'.w = S.w ∧ S'.g = get (ups A1 (⟨H d, false, .one (.hd m.length)⟩ :: C4 d 0 m ++ [⟨d, false, .one (.bp d ((get A1 (H d)).1 + 1) 0)⟩])) := by
 obtain ⟨K2, L2⟩ := K.newbox (d := d) (k := k) (o := o) hk hn0 hk0 hc ho hcs hl hq hm hst hnp (Nat.lt_of_lt_of_le hd K.nt)
 have hv : ((Zv S d k o m us).g (H d)).1 = (S.g (H d)).1 + 1 := by
  show (L7 (upd S.g (H d) _) d 0 m (H d)).1 = _
  unfold L7
  rw [if_neg (F7 (by omega)), Af]
 have K3 := K2.put0 hd (.one (.bp d ((S.g (H d)).1 + 1) 0)) (.pointer (some ⟨k, o, none⟩)) 0 rfl ⟨by rw [hv]; exact Nat.le_refl _, fun _ => by
  show Value.pointer _ = .pointer (some ⟨(upd S.bb d (k, o) d).1, (upd S.bb d (k, o) d).2 + 0, none⟩)
  rw [Af]
  rfl⟩
 have e1 : (Zv S d k o m us).g = get (ups A1 (⟨H d, false, .one (.hd m.length)⟩ :: C4 d 0 m)) := by
  show L7 (upd S.g (H d) ((S.g (H d)).1 + 1, .one (.hd m.length))) d 0 m = get (ups (up A1 ⟨H d, false, .one (.hd m.length)⟩) (C4 d 0 m))
  rw [Ho, Jt, ← hg]
  rfl
 refine ⟨_, K3, rfl, ?_⟩
 show upd (Zv S d k o m us).g d _ = _
 rw [Av, Ah, ← e1, ← hg]
def Fra (d : Nat) (many : Bool) : Nat → List Nat → Option Lab := fun n q => match n with
 | 0 => none
 | n + 1 => if many then (match q with
  | [] => some (.pl d [n, 0])
  | [j] => some (.pl d [n, j])
  | _ => none) else (if n = 0 then some (.pl d q) else none)
theorem Aka (d : Nat) (many : Bool) : ∀ n q p, Fra d many n q = some p → ∃ p', p = .pl d p' := by
 intro n q p hp
 unfold Fra at hp
 split at hp
 ·cases hp
 ·split at hp
  ·split at hp <;> Aa | (cases hp; exact ⟨_, rfl⟩) | cases hp
  ·split at hp <;> Aa | (cases hp; exact ⟨_, rfl⟩) | cases hp
theorem Ala (K : Aw X S a) {A1 : Ab} (hg : S.g = get A1) {rs : List (RK × Ty)} {ls : List (List Lf)} {d : Option Nat} {us : List Up} {v : Value} {n0 : Nat} (hd : ∀ d', d = some d' → d' < X.nt) (hn0 : X.w0.heap.size ≤ n0) (hls : ∀ l ∈ ls, ∀ y ∈ l, Gx y = true) (hnp : ∀ d', d = some d' → Ik rs = true → X.np ≤ d')
  (hr : H5 X.P S n0 rs ls v) (h : Na A1 rs ls d = some us) : ∃ S', Aw X S' (a.put d v) ∧ S'.w = S.w ∧ S'.g = get (ups A1 us) := by
 cases d with
 | none =>
  have : us = [] := by unfold Na at h; cases rs <;> simpa using h.symm
  subst this
  exact ⟨S, K, rfl, hg⟩
 | some d =>
  cases rs with
  | nil =>
   have : us = [⟨d, false, .tup []⟩] := by unfold Na at h; simpa using h.symm
   subst this
   obtain ⟨vs, rfl, h2⟩ := hr
   have : vs = [] := by cases ls <;> exact h2
   subst this
   have K2 := K.put0 (hd d rfl) (.tup []) (.tuple #[]) 0 rfl ⟨[], rfl, trivial⟩
   exact ⟨_, K2, rfl, by show upd S.g d _ = _; rw [Ah, ← hg]⟩
  | cons r1 rs =>
   cases rs with
   | nil =>
    obtain ⟨l, ls', e1, h2⟩ := hr
    subst e1
    obtain ⟨k, t⟩ := r1
    cases k with
    | one =>
     have h2' : A8 X.P S (fun _ => .tm 1 []) 0 l [v] := h2
     cases l with
     | nil => exact h2'.elim
     | cons x l =>
      cases l with
      | cons y l => exact h2'.2.elim
      | nil =>
       have : us = [⟨d, false, .one x⟩] := by unfold Na at h; simpa using h.symm
       subst this
       have h3 : B6 X.P S (.tm 1 []) x v := h2'.1
       have L := Fm S (Fra d false) d (.one x) v
       have hsv : Hq X.P (J9 S (Fra d false) d (.one x) v) d (.one x) v := B6.later (lab := .tm 1 []) (lab' := .pl d []) L h3 (fun k hk => ⟨Hf hk rfl, rfl⟩)
       have K2 := K.put (hd d rfl) (Fra d false) (Aka d false) (.one x) v hsv
       exact ⟨_, K2, rfl, by show upd S.g d _ = _; rw [Ah, ← hg]⟩
    | agg =>
     have : us = [⟨d, false, .agg l⟩] := by unfold Na at h; simpa using h.symm
     subst this
     obtain ⟨vs, rfl, h3⟩ := h2
     have L := Fm S (Fra d false) d (.agg l) (.agg vs.toArray)
     have hsv : Hq X.P (J9 S (Fra d false) d (.agg l) (.agg vs.toArray)) d (.agg l) (.agg vs.toArray) := ⟨vs, rfl, h3.imp (fun j x u hx => hx.later L (fun k hk => ⟨Hf hk rfl, rfl⟩))⟩
     have K2 := K.put (hd d rfl) (Fra d false) (Aka d false) (.agg l) _ hsv
     exact ⟨_, K2, rfl, by show upd S.g d _ = _; rw [Ah, ← hg]⟩
    | ptr =>
     have : us = Fxa A1 d l := by unfold Na at h; simpa using h.symm
     subst this
     obtain ⟨k, o, c, e, vs, rfl, e2, e3, e4, e5, e6, e7, h3⟩ := h2
     let hh : Nat → List Nat → Option Lab := fun n q => if n = 1 then some (.tm 0 q) else none
     obtain ⟨K1, L1⟩ := K.names hh (by intro n q; simp only [hh]; split <;> simp)
     have e4' : ({ S with O := atO S.O hh } : Sit).O k = .tm 501 [] := Ju e4 (by simp [hh])
     obtain ⟨S', K', w', g'⟩ := Q7a K1 (A1 := A1) (q := fun j => [j]) hg (hd d rfl) e4' (by decide) (Nat.le_trans hn0 e3) e2 e5 e7 (h3.imp (fun j x u hx => hx.later L1 (fun k hk => ⟨Hf hk (by simp [hh]), rfl⟩))) (fun j hj => rfl) e6 (by
      intro k hk
      have := hls l (by simp) _ hk
      simp [Gx] at this) (hnp d rfl rfl)
     exact ⟨S', K', w', by rw [g']; rfl⟩
   | cons r2 rs =>
    have h' : (bif Ik (r1 :: r2 :: rs) then none else some [(⟨d, false, .tup (W4 (r1 :: r2 :: rs) ls)⟩ : Up)]) = some us := by
     unfold Na at h
     obtain ⟨k1, t1⟩ := r1
     cases k1 <;> exact h
    cases hp : Ik (r1 :: r2 :: rs) with
    | true => rw [hp] at h'; simp at h'
    | false =>
     rw [hp] at h'
     simp only [cond_false, Option.some.injEq] at h'
     subst h'
     obtain ⟨vs, rfl, h2⟩ := hr
     generalize hR : (r1 :: r2 :: rs) = R2 at hp h2
     have key : ∀ (s : Sv) (rs : List (RK × Ty)) (i : Nat) (ls : List (List Lf)) (us : List Value), Ik rs = false → Ig X.P S n0 (i + 1) rs ls us → Lr X.P (J9 S (Fra d true) d s (.tuple vs.toArray)) d i (W4 rs ls) us := by
      intro s rs
      induction rs with
      | nil =>
       intro i ls us _ h
       have : us = [] := by cases ls <;> exact h
       subst this
       simp [W4, Lr]
      | cons r rs ih =>
       intro i ls us hp h
       cases ls with
       | nil => exact h.elim
       | cons l ls =>
        cases us with
        | nil => exact h.elim
        | cons u us =>
         obtain ⟨k, t⟩ := r
         have L := Fm S (Fra d true) d s (.tuple vs.toArray)
         have hp2 : Ik rs = false := by cases k <;> Aa | (simp [Ik] at hp; done) | simpa [Ik] using hp
         refine ⟨?_, ih (i + 1) ls us hp2 h.2⟩
         cases k with
         | ptr => simp [Ik] at hp
         | one =>
          have h2' : A8 X.P S (fun _ => .tm (i + 1) []) 0 l [u] := h.1
          refine ⟨[u], rfl, ?_⟩
          cases l with
          | nil => exact h2'.elim
          | cons x l =>
           cases l with
           | cons y l => exact h2'.2.elim
           | nil => exact ⟨B6.later (lab := .tm (i + 1) []) (lab' := .pl d [i, 0]) L h2'.1 (fun k hk => ⟨Hf hk rfl, rfl⟩), trivial⟩
         | agg =>
          obtain ⟨ws, e1, h3⟩ := h.1
          exact ⟨ws, e1, h3.imp (fun j x u hx => hx.later L (fun k hk => ⟨Hf hk rfl, rfl⟩))⟩
     have hsv : Hq X.P (J9 S (Fra d true) d (.tup (W4 R2 ls)) (.tuple vs.toArray)) d (.tup (W4 R2 ls)) (.tuple vs.toArray) := ⟨vs, rfl, key _ _ 0 ls vs hp h2⟩
     have K2 := K.put (hd d rfl) (Fra d true) (Aka d true) (.tup (W4 R2 ls)) _ hsv
     exact ⟨_, K2, rfl, by show upd S.g d _ = _; rw [Ah, ← hg]⟩
def Gva (N : Nat) : Nat → List Nat → Option Lab := fun n _ => if n ≤ N then some .fz else none
theorem A8.calmN {P : Program} {S : Sit} {N i : Nat} (hi : i ≤ N) {q : Nat → List Nat} : ∀ {l : List Lf} {j : Nat} {us : List Value}, (∀ y ∈ l, Gx y = true) → A8 P S (fun n => .tm i (q n)) j l us → A8 P { S with O := atO S.O (Gva N) } (fun n => .tm i (q n)) j (l.map Jd) us
 | [], _, [], _, _ => trivial
 | [], _, _ :: _, _, h => h.elim
 | _ :: _, _, [], _, h => h.elim
 | x :: l, j, u :: us, hs, h => by
  have hfz : ∀ k, S.O k = .fz → atO S.O (Gva N) k = .fz := fun k hk => B1 hk (by simp)
  refine ⟨?_, A8.calmN hi (fun y hy => hs y (List.mem_cons_of_mem _ hy)) h.2⟩
  have h1 := hs x (by simp)
  cases x with
  | sc v => exact h.1
  | fz e r xs => exact Ty.rep_mono (t := .sl e r) hfz (fun _ _ => rfl) _ _ h.1
  | own e r xs =>
   have h2 : Ep P S.O S.w (.tm i (q j)) e r xs u := h.1
   exact h2.reads (O' := fun k => atO S.O (Gva N) k) hfz (fun k hk => Hf hk (by simp [Gva, hi]))
  | _ => simp [Gx] at h1
theorem M2.calmN {P : Program} {S : Sit} {N n0 i : Nat} (hi : i ≤ N) {k : RK} (hk : k = .ptr → N < i + 500) {l : List Lf} {u : Value} (hs : ∀ y ∈ l, Gx y = true) (h : M2 P S n0 i k l u) : M2 P { S with O := atO S.O (Gva N) } n0 i k (l.map Jd) u := by
 cases k with
 | one => exact A8.calmN (q := fun _ => []) hi hs h
 | agg =>
  obtain ⟨us, e, h⟩ := h
  exact ⟨us, e, A8.calmN (q := fun n => [n]) hi hs h⟩
 | ptr =>
  obtain ⟨k, o, c, e, us, h1, h2, h3, h4, h5, h6, h7, h8⟩ := h
  have := hk rfl
  refine ⟨k, o, c, e, us, h1, h2, h3, ?_, by rw [List.length_map]; exact h5, by rw [List.length_map]; exact h6, by rw [List.length_map]; exact h7, A8.calmN (q := fun n => [n]) hi hs h8⟩
  exact Ju h4 (by unfold Gva; rw [if_neg (by omega)])
theorem H5.calmN {P : Program} {S : Sit} {N n0 : Nat} {rs : List (RK × Ty)} (hN : rs.length ≤ N) (hk : Ik rs = true → N < 501) {ls : List (List Lf)} {v : Value} (hs : ∀ l ∈ ls, ∀ y ∈ l, Gx y = true) (h : H5 P S n0 rs ls v) : H5 P { S with O := atO S.O (Gva N) } n0 rs (ls.map fun l => l.map Jd) v := by
 have all : ∀ (rs : List (RK × Ty)) (i : Nat) (ls : List (List Lf)) (us : List Value), 1 ≤ i → i + rs.length ≤ N + 1 → (Ik rs = true → N < 501) → (∀ l ∈ ls, ∀ y ∈ l, Gx y = true) → Ig P S n0 i rs ls us → Ig P { S with O := atO S.O (Gva N) } n0 i rs (ls.map fun l => l.map Jd) us := by
  intro rs
  induction rs with
  | nil => intro i ls us _ _ _ _ h; exact h
  | cons r rs ih =>
   intro i ls us h1 h2 h3 h4 h
   simp only [List.length_cons] at h2
   cases ls with
   | nil => exact h.elim
   | cons l ls =>
    cases us with
    | nil => exact h.elim
    | cons u us =>
     refine ⟨M2.calmN (by omega) (fun hp => ?_) (h4 l (by simp)) h.1, ih (i + 1) ls us (by omega) (by omega) (fun hp => h3 ?_) (fun l hl => h4 l (List.mem_cons_of_mem _ hl)) h.2⟩
     ·have := h3 (by obtain ⟨k, t⟩ := r; have : k = .ptr := hp; subst this; rfl)
      omega
     ·obtain ⟨k, t⟩ := r
      cases k <;> Aa | exact hp | rfl
 unfold H5 at h ⊢
 split at h
 ·rename_i r
  obtain ⟨l, ls', e, h⟩ := h
  subst e
  refine ⟨l.map Jd, _, rfl, M2.calmN (by simpa using hN) (fun hp => ?_) (hs l (by simp)) h⟩
  have := hk (by obtain ⟨k, t⟩ := r; have : k = .ptr := hp; subst this; rfl)
  omega
 ·obtain ⟨us, e, h⟩ := h
  exact ⟨us, e, all _ 1 _ _ (Nat.le_refl _) (by omega) hk hs h⟩
theorem Cna {E : En} (K : Aw X S a) {A1 : Ab} (hg : S.g = get A1) {rs : List (RK × Ty)} {ls : List (List Lf)} {d : Option Nat} {us : List Up} {v : Value} {n0 : Nat} (hN : Ik rs = true → rs.length ≤ 400) (hd : ∀ d', d = some d' → d' < X.nt) (hn0 : X.w0.heap.size ≤ n0) (hls : ∀ l ∈ ls, ∀ y ∈ l, Gx y = true) (hnp : ∀ d', d = some d' → Ik rs = true → X.np ≤ d')
  (hr : H5 X.P S n0 rs ls v) (h : Na A1 rs (shL E d ls) d = some us) : ∃ S', Aw X S' (a.put d v) ∧ S'.w = S.w ∧ S'.g = get (ups A1 us) := by
 cases d with
 | none => exact Ala K hg hd hn0 hls hnp hr h
 | some d =>
  unfold shL at h
  simp only at h
  cases hsh : E.sh d with
  | false => rw [hsh] at h; exact Ala K hg hd hn0 hls hnp hr h
  | true =>
   rw [hsh, cond_true] at h
   have go : ∀ N, rs.length ≤ N → (Ik rs = true → N < 501) → ∃ S', Aw X S' (a.put (some d) v) ∧ S'.w = S.w ∧ S'.g = get (ups A1 us) := by
    intro N h1 h2
    obtain ⟨K1, _⟩ := K.names (Gva N) (by intro n q; unfold Gva; split <;> simp)
    refine Ala (S := { S with O := atO S.O (Gva N) }) K1 hg hd hn0 (fun l hl y hy => ?_) hnp (hr.calmN h1 h2 hls) h
    obtain ⟨l0, h3, rfl⟩ := List.mem_map.1 hl
    obtain ⟨y0, h4, rfl⟩ := List.mem_map.1 hy
    have := hls l0 h3 y0 h4
    cases y0 <;> Aa | rfl | simp [Gx] at this
   cases hp : Ik rs with
   | true => exact go 400 (hN hp) (fun _ => by omega)
   | false => exact go rs.length (Nat.le_refl _) (fun h => by rw [hp] at h; cases h)
end
end Go.Proofs.YtgocagaijgcnmaaGreat.Vf
end

section
set_option linter.unusedVariables false
set_option linter.unusedSimpArgs false
namespace Go.Proofs.YtgocagaijgcnmaaGreat.Vf
open Go
attribute [local irreducible] C H
def Mk : List Ty → List (List Lf) → List (List Lf) → Prop
 | [], [], [] => True
 | t :: ts, l :: ls, l' :: ls' => (∃ y, mkW t l = some y ∧ l' = A6 t y) ∧ Mk ts ls ls'
 | _, _, _ => False
theorem Qb : ∀ (ts : List Ty) (ls : List (List Lf)) (x : Den ts), Ot ts ls = some x → Mk ts ls (Cr ts x)
 | [], [], _, _ => trivial
 | [], _ :: _, _, h => by simp [Ot] at h
 | [t], [], _, h => by simp [Ot] at h
 | [t], [l], x, h => ⟨⟨x, h, rfl⟩, trivial⟩
 | [t], _ :: _ :: _, _, h => by simp [Ot] at h
 | _ :: _ :: _, [], _, h => by simp [Ot] at h
 | t :: u :: ts, l :: ls, x, h => by
  simp only [Ot] at h
  split at h
  ·rename_i y hy
   split at h
   ·rename_i z hz
    cases h
    exact ⟨⟨y, hy, rfl⟩, Qb (u :: ts) ls z hz⟩
   ·cases h
  ·cases h
theorem Hy : ∀ (ts : List Ty) (x : Den ts), ∀ l ∈ Cr ts x, ∀ y ∈ l, Gx y = true
 | [], _ => by simp [Cr]
 | [t], x => by
  intro l hl
  simp [Cr] at hl
  subst hl
  exact Ih t x
 | t :: u :: ts, x => by
  intro l hl
  rcases List.mem_cons.1 (show l ∈ A6 t x.1 :: Cr (u :: ts) x.2 from hl) with rfl | h
  ·exact Ih t x.1
  ·exact Hy (u :: ts) x.2 l h
theorem R4 (t : Ty) (x : t.den) (h : Hb t = true) : A6 t x = lvs t x := Q9 t x h
section
variable {X : Cx} {S S' : Sit} {a : Act} {E : En} {A : Ab} {o : Oper} {R : Type} {Kc : List Up → Option R} {r : R}
theorem Kia (hE : I8 X E) (K : Aw X S a) (hg : S.g = get A) {T : TypeId} {x : Operand} {s : Sv} {ag : Bool} (hx : opT E T A x = some s) (hf : Hj ag s = true) :
  ∃ us, ∃ f : Nat → Lab, (if ag then a.eval x = .agg us.toArray else us = [a.eval x]) ∧ A8 X.P S f 0 (parts s) us ∧ ∀ n, f n ≠ .no := by
 rcases Kf hE K hg hx with ⟨t, rfl, ht, hst, het, hok⟩ | ⟨hnt, y, rfl, hy⟩
 ·cases s with
  | tup vs => simp [Hj, Fpa] at hf
  | one y =>
   have : ag = false := by cases ag <;> simp [Hj, Fpa] at hf ⊢
   subst this
   exact ⟨[a.eval (.tmp t)], fun _ => .pl t [], rfl, ⟨hok, trivial⟩, by simp⟩
  | agg l =>
   have : ag = true := by cases ag <;> simp [Hj, Fpa] at hf ⊢
   subst this
   obtain ⟨us, e1, hl⟩ := hok
   exact ⟨us, fun n => .pl t [n], e1, hl, by simp⟩
 ·have : ag = false := by cases ag <;> simp [Hj, Fpa] at hf ⊢
  subst this
  exact ⟨[a.eval x], fun _ => .fz, rfl, ⟨hy _, trivial⟩, by simp⟩
theorem Gwa {ag : Bool} {s : Sv} (hf : Hj ag s = true) : ∀ vs, s ≠ .tup vs := by
 intro vs e
 subst e
 simp [Hj, Fpa] at hf
theorem T0 {ag : Bool} {s : Sv} {u : Value} {us : List Value} (hf : Hj ag s = true) (h : Px s u us) : if ag then u = .agg us.toArray else us = [u] := by
 cases s with
 | tup vs => simp [Hj, Fpa] at hf
 | one y =>
  have : ag = false := by cases ag <;> simp [Hj, Fpa] at hf ⊢
  subst this
  exact h
 | agg l =>
  have : ag = true := by cases ag <;> simp [Hj, Fpa] at hf ⊢
  subst this
  exact h
theorem T1 {P : Program} {S : Sit} {G : Nat → Prop} {t : Ty} {l : List Lf} {y : t.den} {us : List Value} (hG : ∀ k, G k → S.O k = .fz) (hm : mkW t l = some y) (hn : Hb t = true) (h : Iy (I3 P G S.w) l us) (f : Nat → Lab) (j : Nat) : A8 P S f j (A6 t y) us := by
 have h1 := Qp hm h
 have h2 := L5 (P := P) (G := fun k => S.O k = .fz) (w := S.w) t y us (Ty.rep_mono hG (fun _ _ => rfl) t y us h1)
 rw [R4 t y hn]
 exact A8.ofRep h2 f j
def P8 (S : Sit) : Nat → Lab := fun k => if S.O k = .no then .no else .fz
theorem Kja {y : Lf} {u : Value} {lab : Lab} (K : Aw X S a) (hg : S.g = get A) (h : B6 X.P S lab y u) : ∃ lab', (lab' = lab ∨ ∃ p, lab' = .pl p []) ∧ B6 X.P S lab' (Ic A y) u := by
 unfold Ic
 split
 ·rename_i p v
  split
  ·rename_i n e r xs hp
   cases hb : Nat.beq n v with
   | false => exact ⟨lab, .inl rfl, trivial⟩
   | true =>
    have hnv : n = v := by simpa using hb
    subst hnv
    have e1 : u = S.ph p := h.2 (by rw [hg, hp])
    refine ⟨.pl p [], .inr ⟨p, rfl⟩, ?_⟩
    have := K.at_ p
    rw [hg, hp] at this
    rw [e1]
    exact this
  ·rename_i n e r xs hp
   cases hb : Nat.beq n v with
   | false => exact ⟨lab, .inl rfl, trivial⟩
   | true =>
    have hnv : n = v := by simpa using hb
    subst hnv
    have e1 : u = S.ph p := h.2 (by rw [hg, hp])
    refine ⟨.pl p [], .inr ⟨p, rfl⟩, ?_⟩
    have := K.at_ p
    rw [hg, hp] at this
    rw [e1]
    exact this
  ·exact ⟨lab, .inl rfl, trivial⟩
 ·exact ⟨lab, .inl rfl, h⟩
theorem Coa (K : Aw X S a) (hg : S.g = get A) {f : Nat → Lab} (hf : ∀ n, f n ≠ .no) : ∀ {l : List Lf} {j : Nat} {us : List Value}, A8 X.P S f j l us → A4 (l.map fun y => Jd (Sp A y)) = true →
  Iy (I3 X.P (fun k => P8 S k = .fz) S.w) (l.map fun y => Jd (Sp A y)) us
 | [], _, [], _, _ => .nil
 | [], _, _ :: _, h, _ => h.elim
 | _ :: _, _, [], h, _ => h.elim
 | y :: l, j, u :: us, h, hst => by
  have hfz : ∀ k, S.O k = .fz → P8 S k = .fz := fun k hk => by simp [P8, hk]
  rw [List.map_cons] at hst ⊢
  have hrest : A4 (l.map fun y => Jd (Sp A y)) = true := by
   generalize Jd (Sp A y) = z at hst
   cases z <;> Aa | (simp [A4] at hst; done) | simpa [A4] using hst
  refine .cons ?_ (Coa K hg hf h.2 hrest)
  have hv : (∃ lab', lab' ≠ .no ∧ B6 X.P S lab' (Sp A y) u) ∨ ∃ p e r, ∃ xs : List (Ty.den r), Sp A y = .fz e r xs ∧ Aaa X.P S p e r xs u := by
   unfold Sp
   split
   ·rename_i p v pi e r xs
    cases hq : Nat.beq (get A p).1 v with
    | false => exact .inl ⟨f j, hf j, trivial⟩
    | true =>
     obtain ⟨_, _, h2⟩ := h.1
     exact .inr ⟨p, e, r, xs, rfl, (h2 (by rw [hg]; exact Nat.eq_of_beq_eq_true hq)).2.1⟩
   ·obtain ⟨lab', hlab, h1⟩ := Kja K hg h.1
    refine .inl ⟨lab', ?_, h1⟩
    rcases hlab with rfl | ⟨p, rfl⟩
    ·exact hf j
    ·simp
  rcases hv with ⟨lab', hno, h1⟩ | ⟨p, e, r, xs, e1, h1⟩
  rotate_left 1
  ·rw [e1]
   exact h1.reads (fun k hk => by
    rcases hk with hk | hk <;> simp [P8, hk])
  generalize Sp A y = z at h1 hst
  cases z with
  | sc v => exact h1
  | fz e r xs => exact Ty.rep_mono (t := .sl e r) hfz (fun _ _ => rfl) _ _ h1
  | own e r xs =>
   have h2 : Ep X.P S.O S.w lab' e r xs u := h1
   exact h2.reads (O' := P8 S) hfz (fun k hk => by simp [P8, hk, hno])
  | _ => simp [Jd, A4] at hst
theorem Xb (hE : I8 X E) (K : Aw X S a) (hg : S.g = get A) (rg : Nat → Nat × Nat) (nv : Nat) (hs : List Value) : ∀ (ps : List Par) {xs : List Operand} {ss : List Sv} {ls ls' : List (List Lf)} {i : Nat}, Iy (fun s x => ∃ T, opT E T A x = some s) ss xs → Lu A ps ss = some ls → Mk (ps.map Par.ty) ls ls' →
  Lt ps = true → Ko X.P (bare (P8 S) S.w) rg nv hs i ps ls' (xs.map a.eval) ∧ xs.length = ps.length
 | [], _, _, ls, ls', i, .nil, h, hm, _ => by
  simp only [Lu, Option.some.injEq] at h
  subst h
  cases ls' with
  | nil => exact ⟨trivial, rfl⟩
  | cons => exact hm.elim
 | [], _, _, ls, ls', i, .cons _ _, h, hm, _ => by simp [Lu] at h
 | .ptr _ _ :: _, _, _, _, _, _, _, _, _, hl => by simp [Lt] at hl
 | .hid _ _ :: _, _, _, _, _, _, _, _, _, hl => by simp [Lt] at hl
 | .rd _ :: _, _, _, _, _, _, _, _, _, hl => by simp [Lt] at hl
 | .fn _ _ :: _, _, _, _, _, _, _, _, _, hl => by simp [Lt] at hl
 | .val ag t :: ps, _, _, ls, ls', i, .nil, h, _, _ => by simp [Lu] at h
 | .val ag t :: ps, _, _, ls, ls', i, .cons (x := s) (y := x) (xs := ss) (ys := xs) hs1 hss, h, hm, hl => by
  simp only [Lt, Bool.and_eq_true] at hl
  simp only [Lu] at h
  cases hq : (Hj ag s && A4 ((parts s).map (fun y => Jd (Sp A y)))) with
  | false => rw [hq] at h; simp at h
  | true =>
   rw [hq, cond_true] at h
   simp only [Bool.and_eq_true] at hq
   split at h
   ·rename_i ls1 hls1
    cases h
    cases ls' with
    | nil => exact hm.elim
    | cons l' ls' =>
     obtain ⟨⟨y, hy, rfl⟩, hm2⟩ := hm
     obtain ⟨T, hx⟩ := hs1
     obtain ⟨us, f, hsh, hlf, hf⟩ := Kia hE K hg hx hq.1
     obtain ⟨r1, r2⟩ := Xb hE K hg rg nv hs (i := i + 1) ps hss hls1 hm2 hl.2
     exact ⟨⟨⟨us, hsh, T1 (S := bare (P8 S) S.w) (fun k hk => hk) hy hl.1 (Coa K hg hf hlf hq.2) _ _⟩, r1⟩, by simp [r2]⟩
   ·cases h
def Lb : Lf → Bool
 | .sc _ => true
 | .own _ r _ => Eg r
 | _ => false
theorem Jw : ∀ (t : Ty) (x : t.den), Eg t = true → ∀ y ∈ A6 t x, Lb y = true
 | .i _, _, _ => by simp [A6, Lb]
 | .b, _, _ => by simp [A6, Lb]
 | .s, _, _ => by simp [A6, Lb]
 | .sl _ _, _, h => by simp [Eg] at h
 | .ow _ r, _, h => by simpa [A6, Lb, Eg] using h
 | .pr x y, p, h => by
  simp only [Eg, Bool.and_eq_true] at h
  intro z hz
  rcases List.mem_append.1 (show z ∈ A6 x p.1 ++ A6 y p.2 from hz) with h' | h'
  ·exact Jw x p.1 h.1 z h'
  ·exact Jw y p.2 h.2 z h'
theorem Q8a {P : Program} {S1 S2 : Sit} {lab lab' : Lab} {y : Lf} {u : Value} (hy : Lb y = true) (hw : S2.w = S1.w) (hl : ∀ k, S1.O k = lab → S2.O k = lab') (h : B6 P S1 lab y u) : B6 P S2 lab' y u := by
 cases y with
 | sc v => exact h
 | own e r xs =>
  obtain ⟨bs, h1, h2, h3⟩ := h
  exact ⟨bs, Ty.dep_all (.ow e r) xs [u] bs hy (fun k _ => by rw [hw]) h1, h2, fun k hk => hl k (h3 k hk)⟩
 | _ => simp [Lb] at hy
theorem R5 : ∀ (rs : List (RK × Ty)) (x : Den (rs.map Prod.snd)), S8 rs = true → ∀ l ∈ Cr (rs.map Prod.snd) x, ∀ y ∈ l, Lb y = true
 | [], _, _ => fun l hl => by cases (show l ∈ ([] : List (List Lf)) from hl)
 | [(k, t)], x, h => by
  intro l hl
  have hl' : l ∈ [A6 t x] := hl
  simp at hl'
  subst hl'
  have : Eg t = true := by cases k <;> simp [S8] at h <;> exact h
  exact Jw t x this
 | (k, t) :: r2 :: rs, x, h => by
  intro l hl
  have h2 : Eg t = true ∧ S8 (r2 :: rs) = true := by
   cases k <;> simp only [S8, Bool.and_eq_true] at h <;> Aa | exact h | cases h
  rcases List.mem_cons.1 (show l ∈ A6 t x.1 :: Cr ((r2 :: rs).map Prod.snd) x.2 from hl) with rfl | h'
  ·exact Jw t x.1 h2.1
  ·exact R5 (r2 :: rs) x.2 h2.2 l h'
end
end Go.Proofs.YtgocagaijgcnmaaGreat.Vf
end
