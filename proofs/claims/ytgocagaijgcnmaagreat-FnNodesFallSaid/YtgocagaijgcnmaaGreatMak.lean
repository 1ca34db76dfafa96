import Derived.Test.YtgocagaijgcnmaaGreatMaj
import Derived.ChangeArms
import Derived.SizedLaws
import Derived.DataReads
import Derived.Laws.StructEq
import Derived.Below
section
set_option linter.unusedVariables false
set_option linter.unusedSimpArgs false
namespace Go.Proofs.YtgocagaijgcnmaaGreat.Vf
open Go
attribute [local irreducible] C H
section
variable {X : Cx} {E : En} {ops : Array Oper} {Q : Exit → Act → World → Prop}
structure Mpa (X : Cx) (ops : Array Oper) (Q : Exit → Act → World → Prop) (l : List Nat) (lg : List Lg) (g : Gs) (f : Gs) (L : List (Lg × Ak)) : Prop where
 ix : L.map (fun z => z.1.i) = l
 runs : Mna (L.map Prod.snd) g f
 fits : ∀ z ∈ L, Ut z.1 z.2 ∧ Pga X ops Q z.1.i z.2
 old : ∀ y ∈ lg, ∀ z ∈ L, Nat.testBit z.1.anc y.i = true ∨ G1a y z.1 = true
 pair : L.Pairwise (fun y z => Nat.testBit z.1.anc y.1.i = true ∨ G1a y.1 z.1 = true)
 anc : ∀ z ∈ L, ∀ k, Nat.testBit z.1.anc k = true → Anc ops k z.1.i
 lt : ∀ i ∈ l, ∃ o, ops[i]? = some o ∧ ∀ j ∈ aft o, j < i
theorem Mpa.cons {l : List Nat} {lg : List Lg} {g g1 f : Gs} {L : List (Lg × Ak)} {y : Lg} {x : Ak} {i : Nat} (h : Mpa X ops Q l (y :: lg) g1 f L) (hi : y.i = i) (hn : x.N g) (he : x.e g = g1) (hf : Ut y x) (ho : Pga X ops Q i x) (hok : G3a lg y = true)
  (ha : ∀ k, Nat.testBit y.anc k = true → Anc ops k i) (hl : ∃ o, ops[i]? = some o ∧ ∀ j ∈ aft o, j < i) : Mpa X ops Q (i :: l) lg g f ((y, x) :: L) := by
 refine ⟨by simp [hi, h.ix], ⟨hn, by rw [he]; exact h.runs⟩, ?_, ?_, ?_, ?_, ?_⟩
 ·intro z hz
  rcases List.mem_cons.1 hz with rfl | hz
  ·exact ⟨hf, by rw [hi]; exact ho⟩
  ·exact h.fits z hz
 ·intro y' hy' z hz
  rcases List.mem_cons.1 hz with rfl | hz
  ·unfold G3a at hok
   rw [List.all_eq_true] at hok
   have := hok y' hy'
   simpa using this
  ·exact h.old y' (List.mem_cons_of_mem _ hy') z hz
 ·exact List.pairwise_cons.2 ⟨fun z hz => h.old y (by simp) z hz, h.pair⟩
 ·intro z hz k hk
  rcases List.mem_cons.1 hz with rfl | hz
  ·rw [hi]; exact ha k hk
  ·exact h.anc z hz k hk
 ·intro j hj
  rcases List.mem_cons.1 hj with rfl | hj
  ·exact hl
  ·exact h.lt j hj
theorem Daa (hV : R8 X E) {R : Type} : ∀ (l : List Nat) (lg : List Lg) (A : Ab) (K : Ab → Option R) (r : R), (∀ y ∈ lg, ∀ k, Nat.testBit y.anc k = true → Anc ops k y.i) → Ha E ops.toList l lg A K = some r →
  ∃ (L : List (Lg × Ak)) (A' : Ab), K A' = some r ∧ Mpa X ops Q l lg (get A) (get A') L
 | [], lg, A, K, r, _, h => ⟨[], A, h, rfl, rfl, by simp, by simp, .nil, by simp, by simp⟩
 | i :: l, lg, A, K, r, hlg, h => by
  unfold Ha at h
  rw [H6] at h
  split at h
  ·cases h
  ·rename_i o ho
   have hi : ops[i]? = some o := by simpa using ho
   cases hb0 : (Sg E o && (aft o).all (fun j => Nat.blt j i)) with
   | false => rw [hb0] at h; simp at h
   | true =>
    rw [hb0, cond_true] at h
    simp only [Bool.and_eq_true, List.all_eq_true] at hb0
    obtain ⟨hd, hlt0⟩ := hb0
    have hlt : ∃ o, ops[i]? = some o ∧ ∀ j ∈ aft o, j < i := ⟨o, hi, fun j hj => by
     have := hlt0 j hj
     exact Nat.le_of_ble_eq_true this⟩
    have hanc : ∀ k, Nat.testBit (Maa lg (aft o)) k = true → Anc ops k i := I3a hlg hi (fun j hj => hj)
    have next : ∀ {y : Lg} {x : Ak} {A1 : Ab}, y.i = i → y.anc = Maa lg (aft o) → x.N (get A) → x.e (get A) = get A1 → Ut y x → Pga X ops Q i x → G3a lg y = true → Ha E ops.toList l (y :: lg) A1 K = some r →
      ∃ (L : List (Lg × Ak)) (A' : Ab), K A' = some r ∧ Mpa X ops Q (i :: l) lg (get A) (get A') L := by
     intro y x A1 e1 e2 hn he hf hop hok hev
     obtain ⟨L, A', h1, h2⟩ := Daa hV l (y :: lg) A1 K r (fun z hz k hk => by
      rcases List.mem_cons.1 hz with rfl | hz
      ·rw [e1]; exact hanc k (by rw [← e2]; exact hk)
      ·exact hlg z hz k hk) hev
     exact ⟨_, A', h1, h2.cons e1 hn he hf hop hok (by rw [e2]; exact hanc) hlt⟩
    have cnd : ∀ {b : Bool} {z : Option R}, (bif b then z else none) = some r → b = true ∧ z = some r := by
     intro b z hz
     cases b with
     | false => simp at hz
     | true => exact ⟨rfl, hz⟩
    have exec : ∀ (B : Ab) (gd : List Nat), get B = get A → (∀ S a, Aw X S a → (∀ p ∈ gd, S.g p = get A p) → Region.wanted o (yielded ops a.tmps) = true) →
      Ap E o B (fun U => bif G3a lg (Ss o i lg gd B U) then Ha E ops.toList l (Ss o i lg gd B U :: lg) (ups B U) K else none) = some r →
      ∃ (L : List (Lg × Ak)) (A' : Ab), K A' = some r ∧ Mpa X ops Q (i :: l) lg (get A) (get A') L := by
     intro B gd hBA hw hs
     have generic : (Ss o i lg gd B [] ).ex = none → ∃ (L : List (Lg × Ak)) (A' : Ab), K A' = some r ∧ Mpa X ops Q (i :: l) lg (get A) (get A') L := by
      intro hex
      obtain ⟨U, h1, h2⟩ := L1a (F := rds B o) (fun p hp => hp) hs
      obtain ⟨hok, hev⟩ := cnd h1
      have hfit : Ut (Ss o i lg gd B U) (Roa (Ss o i lg gd B U).F B U) := I4a (F := gd ++ rds B o) rfl rfl hex
      refine next (y := Ss o i lg gd B U) (x := Roa (Ss o i lg gd B U).F B U) (A1 := ups B U) rfl rfl (fun p _ => by rw [hBA]) ?_ hfit ?_ hok hev
      ·show B3a (get A) U = _
       rw [Mu, hBA]
      ·refine Qka hV hi hd (fun S a hS hN => hw S a hS (fun p hp => ?_)) (fun A' hN => ⟨U, ?_, rfl⟩)
       ·rw [← hBA]
        exact hN p (by show p ∈ gd ++ rds B o ++ _; simp [hp])
       ·exact h2 A' (fun p hp => hN p (by show p ∈ gd ++ rds B o ++ _; simp [hp])) some
     cases hgd : gd with
     | cons p0 gd' => subst hgd; exact generic (by simp [Ss])
     | nil =>
      subst hgd
      cases hexo : Ppa o with
      | none => exact generic (by simp [Ss, hexo])
      | some q =>
       obtain ⟨t, j, d⟩ := q
       have : o.op = .extract (.tmp t) j ∧ o.dst = some d := by
        unfold Ppa at hexo
        split at hexo
        ·rename_i e1 e2
         cases hexo
         exact ⟨e1, e2⟩
        ·cases hexo
       obtain ⟨hop, hod⟩ := this
       obtain ⟨vs, ag, lf, s, hg, hn, h1, h2⟩ := L2a hop hod hs
       obtain ⟨hok, hev⟩ := cnd h1
       have hex : ∀ A' vs', (get A' t).2 = .tup vs' → B3a (get A') (D9a t j d lf s vs') = (B5a t j d ag lf s).e (get A') := by
        intro A' vs' hv
        unfold D9a B5a
        simp only
        rw [hv]
        rfl
       refine next (y := Ss o i lg [] B (D9a t j d lf s vs)) (x := B5a t j d ag lf s) (A1 := ups B (D9a t j d lf s vs)) rfl rfl ⟨vs, by rw [← hBA]; exact hg, hn⟩ ?_ (L3a hop hod) ?_ hok hev
       ·rw [← hBA, Mu]
        exact (hex B vs hg).symm
       ·refine Qka hV hi hd (fun S a hS _ => hw S a hS (by simp)) (fun A' hN => ?_)
        obtain ⟨vs', g1, g2⟩ := hN
        exact ⟨_, h2 A' vs' g1 g2, hex A' vs' g1⟩
    have skip : ∀ (B : Ab) (dj : Nat), get B = get A → (∀ S a, Aw X S a → S.g dj = get A dj → Region.wanted o (yielded ops a.tmps) = false) →
      (bif G3a lg (Ns o i lg [dj]) then Ha E ops.toList l (Ns o i lg [dj] :: lg) (Nr o B) K else none) = some r →
      ∃ (L : List (Lg × Ak)) (A' : Ab), K A' = some r ∧ Mpa X ops Q (i :: l) lg (get A) (get A') L := by
     intro B dj hBA hw hs
     obtain ⟨hok, hev⟩ := cnd hs
     have hsk : B3a (get A) (match o.dst with | some d => [⟨d, false, .one .un⟩] | none => []) = get (Nr o B) := by
      unfold Nr
      cases o.dst with
      | none => exact hBA.symm
      | some d => rw [← hBA]; exact (Mu [⟨d, false, .one .un⟩] B).symm
     refine next (y := Ns o i lg [dj]) (x := ⟨fun g => g dj = get A dj, fun g => B3a g (match o.dst with | some d => [⟨d, false, .one .un⟩] | none => [])⟩) (A1 := Nr o B) rfl rfl rfl hsk ?_ (Oja hV hi hd (fun S a hS hN => hw S a hS hN)) hok hev
     have hmap : (match o.dst with | some d => [(⟨d, false, .one .un⟩ : Up)] | none => []).map Up.l = o.dst.toList := by cases o.dst <;> rfl
     refine ⟨fun p hp => List.mem_append_right _ hp, fun g g' h hn => by show g' dj = get A dj; rw [← h dj (by show dj ∈ [dj] ++ _; simp)]; exact hn, fun g p hp => O9 _ g p (by rw [hmap]; exact hp), fun g g' p _ h => Oa _ g g' p h, fun t j d h => by cases h⟩
    split at h
    ·rename_i hgd
     exact exec A [] rfl (fun S a _ _ => by unfold Region.wanted; rw [hgd]) h
    ·rename_i j want hgd
     split at h
     ·cases h
     ·rename_i dj hdj
      cases hb : Nat.blt dj E.nt with
      | false => rw [hb] at h; simp at h
      | true =>
       rw [hb, cond_true] at h
       split at h
       ·rename_i n b hgt
        have hwant : ∀ (S : Sit) (a : Act), Aw X S a → S.g dj = get A dj → Region.wanted o (yielded ops a.tmps) = (b == want) := fun S a hS hs => (D8a hV.en hS hgd hdj hb).1 b (by rw [hs, hgt])
        cases b with
        | true =>
         rw [cond_true] at h
         cases want with
         | true =>
          rw [cond_true] at h
          exact exec (lit A dj n true) [dj] (R9 hgt) (fun S a hS hs => hwant S a hS (hs dj (by simp))) h
         | false =>
          rw [cond_false] at h
          exact skip (lit A dj n true) dj (R9 hgt) (fun S a hS hs => hwant S a hS hs) h
        | false =>
         rw [cond_false] at h
         cases want with
         | true =>
          rw [cond_true] at h
          exact skip (lit A dj n false) dj (R9 hgt) (fun S a hS hs => hwant S a hS hs) h
         | false =>
          rw [cond_false] at h
          exact exec (lit A dj n false) [dj] (R9 hgt) (fun S a hS hs => hwant S a hS (hs dj (by simp))) h
       ·rename_i n hgt
        exact skip A dj rfl (fun S a hS hs => (D8a hV.en hS hgd hdj hb).2 (by rw [hs, hgt])) h
       ·cases h
theorem Oka (hV : R8 X E) (hm : X.P.follows .mixedOrders = true) : Xi X E := by
 intro R id ops Q S a A K r hK hg h hQ
 refine wp_region_any hm ?_
 obtain ⟨L, A', hA', T⟩ := Daa (X := X) (ops := ops) (Q := Q) hV _ [] A K r (by simp) h
 have hlen : L.length = ops.size := by
  have := congrArg List.length T.ix
  simpa using this
 have hmem : ∀ z ∈ L, z.1.i < ops.size := by
  intro z hz
  have : z.1.i ∈ L.map (fun z => z.1.i) := List.mem_map_of_mem hz
  rw [T.ix] at this
  simpa using this
 have K2 := (hK.world (w' := { S.w with drawn := S.w.drawn + 1 }) (O' := S.O) (fun k _ _ => ⟨rfl, rfl⟩) rfl rfl rfl (Nat.le_refl _) hK.lt).1
 refine Moa (X := X) (f := get A') ?_ (fun S' a' A2 K' g' e' => hQ S' a' A' K' (by rw [g', e']) hA') ops.size (L.map fun z => (z.1.i, z.2)) _ (Si S { S.w with drawn := S.w.drawn + 1 } S.O) a A (by simp [hlen]) (by simp) ?_ ?_ ?_ ?_ ?_ ?_ K2 hg ?_
 ·intro i o hi j hj
  have hil : i < ops.size := (Array.getElem?_eq_some_iff.1 hi).1
  obtain ⟨o', h1, h2⟩ := T.lt i (by simpa using hil)
  rw [hi] at h1
  cases h1
  exact h2 j hj
 ·rw [List.pairwise_map]
  have hp : (L.map (fun z => z.1.i)).Pairwise (· < ·) := by rw [T.ix]; exact List.pairwise_lt_range
  rw [List.pairwise_map] at hp
  exact hp
 ·intro i hi
  constructor
  ·intro _
   have : i ∈ L.map (fun z => z.1.i) := by rw [T.ix]; simpa using hi
   obtain ⟨z, hz, hzi⟩ := List.mem_map.1 this
   exact ⟨(z.1.i, z.2), List.mem_map_of_mem hz, hzi⟩
  ·intro _
   simp [Array.getD_eq_getD_getElem?, hi]
 ·rw [List.pairwise_map]
  refine List.Pairwise.imp_of_mem ?_ T.pair
  intro y z hy hz h
  rcases h with h | h
  ·exact .inl (T.anc z hz _ h)
  ·exact .inr ((T.fits y hy).1.ind (T.fits z hz).1 h)
 ·intro x hx
  obtain ⟨z, hz, rfl⟩ := List.mem_map.1 hx
  exact (T.fits z hz).2
 ·intro x hx
  obtain ⟨z, hz, rfl⟩ := List.mem_map.1 hx
  exact hmem z hz
 ·intro i o hi hl
  have hil : i < ops.size := (Array.getElem?_eq_some_iff.1 hi).1
  simp [Array.getD_eq_getD_getElem?, hil] at hl
 ·have : (L.map fun z => (z.1.i, z.2)).map Prod.snd = L.map Prod.snd := by simp
  rw [this]
  exact T.runs
end
end Go.Proofs.YtgocagaijgcnmaaGreat.Vf
end

section
set_option linter.unusedVariables false
set_option linter.unusedSimpArgs false
namespace Go.Proofs.YtgocagaijgcnmaaGreat.Vf
open Go
attribute [local irreducible] C H
def Ty.fit (ti : TypeId → Option TI) : (t : Ty) → t.den → Prop
 | .i k, n => (Lit.int k n).wf = true
 | .b, _ => True
 | .s, x => x.size ≤ 140737488351232
 | .sl e r, xs => (∀ te, ti e = some te → xs.length * te.by_ ≤ 140737488351232) ∧ ∀ x ∈ xs, r.fit ti x
 | .ow e r, xs => (∀ te, ti e = some te → xs.length * te.by_ ≤ 140737488351232) ∧ ∀ x ∈ xs, r.fit ti x
 | .pr x y, p => x.fit ti p.1 ∧ y.fit ti p.2
def Qla (ti : TypeId → Option TI) (T : TypeId) (ty : Ty) : Bool := match ti T with
 | some t => decide (t.ty = ty)
 | none => false
def Pf (ti : TypeId → Option TI) : List Field → Nat → Ty → Bool
 | [], _, _ => false
 | [f], o, ty => Nat.beq f.offset o && Qla ti f.type ty
 | f :: g :: fs, o, .pr x y => Nat.beq f.offset o && Qla ti f.type x && Pf ti (g :: fs) (o + x.sz) y
 | _, _, _ => false
def Ob (P : Program) (ti : TypeId → Option TI) (T : TypeId) : Bool := match ti T, P.underlying T with
 | none, _ => true
 | some t, some (.struct fs) => t.ag && Pf ti fs.toList 0 t.ty
 | some ⟨.sl e r, false, _, _⟩, some (.slice e') => Nat.beq e e' && Qla ti e r
 | some ⟨.i k, false, _, _⟩, some (.int k') => decide (k = k')
 | some ⟨.b, false, _, _⟩, some .bool => true
 | some ⟨.s, false, _, _⟩, some .string => true
 | _, _ => false
section
variable {H' : Type} {enc : TypeId × Value → H'} {P : Program} {w : World} {base : Nat} {spare : Nat → Bool} {held : Bool} {ti : TypeId → Option TI}
theorem M8 {T : TypeId} {ty : Ty} (h : Qla ti T ty = true) : ∃ t, ti T = some t ∧ t.ty = ty := by
 unfold Qla at h
 split at h
 ·rename_i t ht
  exact ⟨t, ht, of_decide_eq_true h⟩
 ·cases h
theorem Oc {T : TypeId} {t : TI} (h : TOk P T t) : P.cellsOf T = t.ty.sz := by
 unfold Program.cellsOf
 rw [Ml h]
 rfl
theorem I5a {T : TypeId} {t : TI} (h : TOk P T t) : P.bytesOf T = t.by_ := by
 obtain ⟨i, h1, _, h2, _⟩ := h.info
 unfold Program.bytesOf
 rw [h1]
 exact h2
theorem I6a {α : Type} {R : α → List Value → Prop} {Fit : α → Prop} {k o n : Nat} : ∀ (len : Nat), (∀ i, i < len → ∃ x c, R x c ∧ Fit x ∧ c.length = n ∧ E8 w k (o + i * n) c) →
  ∃ (xs : List α) (cs : List Value), xs.length = len ∧ He R xs cs ∧ (∀ x ∈ xs, Fit x) ∧ cs.length = len * n ∧ E8 w k o cs
 | 0, _ => ⟨[], [], rfl, rfl, by simp, by simp, by intro j u hj; simp at hj⟩
 | len + 1, h => by
  obtain ⟨xs, cs, h1, h2, h3, h4, h5⟩ := I6a len (fun i hi => h i (by omega))
  obtain ⟨x, c, g1, g2, g3, g4⟩ := h len (by omega)
  refine ⟨xs ++ [x], cs ++ c, by simp [h1], He.append h2 ⟨c, [], by simp, g1, rfl⟩, ?_, ?_, ?_⟩
  ·intro y hy
   rcases List.mem_append.1 hy with hy | hy
   ·exact h3 y hy
   ·simp at hy; subst hy; exact g2
  ·rw [List.length_append, h4, g3, Nat.add_mul, Nat.one_mul]
  ·intro j u hj
   by_cases hlt : j < cs.length
   ·rw [List.getElem?_append_left hlt] at hj
    exact h5 j u hj
   ·rw [List.getElem?_append_right (by omega)] at hj
    have := g4 (j - cs.length) u hj
    rw [h4] at this hlt
    rwa [show o + len * n + (j - len * n) = o + j by omega] at this
theorem L4a {a : Addr} {n : Nat} {cs : List Value} (h : w.cells? base a n = some cs) (hn : 0 < n) : a.spot = none ∧ a.block < w.heap.size ∧ cs.length = n ∧ E8 w a.block a.off cs := by
 unfold World.cells? at h
 split at h
 ·have hl := mapM_some_length h
  have hg := fun i hi => mapM_some_get h i i hi
  simp only [List.length_range] at hl
  have h0 : w.cell? (a.add 0) = cs[0]? := hg 0 (by simp [hn])
  have hc0 : ∃ v, cs[0]? = some v := ⟨_, List.getElem?_eq_getElem (by omega)⟩
  obtain ⟨v, hv⟩ := hc0
  rw [hv] at h0
  have hspot : a.spot = none ∧ a.block < w.heap.size := by
   unfold World.cell? at h0
   split at h0
   ·rename_i c e f hb
    refine ⟨?_, (Array.getElem?_eq_some_iff.1 hb).1⟩
    cases hs : a.spot with
    | none => rfl
    | some s => simp [Addr.add, hs] at h0
   ·cases h0
  refine ⟨hspot.1, hspot.2, hl, fun j u hj => ?_⟩
  have hjl : j < n := by have := (List.getElem?_eq_some_iff.1 hj).1; omega
  have := hg j (by simp [hjl])
  rw [hj] at this
  obtain ⟨b, off, sp⟩ := a
  have hsp : sp = none := hspot.1
  subst hsp
  rw [Ja] at this
  exact this
 ·cases h
theorem Ri {T : TypeId} : ∀ {ds : List (DataW H')} {m : Nat}, m ∈ DataW.weightsAll P T ds ↔ ∃ d ∈ ds, m ∈ d.weights P T
 | [], m => by simp [DataW.weightsAll]
 | d :: ds, m => by
  simp only [DataW.weightsAll, List.mem_append, List.mem_cons, Ri (ds := ds)]
  constructor
  ·rintro (h | ⟨d', h1, h2⟩)
   ·exact ⟨d, .inl rfl, h⟩
   ·exact ⟨d', .inr h1, h2⟩
  ·rintro ⟨d', rfl | h1, h2⟩
   ·exact .inl h2
   ·exact .inr ⟨d', h1, h2⟩
def Qma (enc : TypeId × Value → H') (P : Program) (w : World) (base : Nat) (spare : Nat → Bool) (held : Bool) (ti : TypeId → Option TI) (n : Nat) : Prop :=
 ∀ T t cs y, ti T = some t → DataW.trod enc P w base spare held n T cs = some y → (∀ m ∈ y.1.weights P T, m ≤ 140737488351232) → ∃ X : t.ty.den, t.ty.rep P (fun k => k < w.heap.size) w X cs ∧ t.ty.fit ti X
theorem Rj (htok : ∀ T t, ti T = some t → TOk P T t) {n : Nat} (ih : Qma enc P w base spare held ti n) {cs : List Value} : ∀ (fs : List Field) (o : Nat) (ty : Ty) (xs : List (DataW H' × List MemPlace)), Pf ti fs o ty = true → xs.length = fs.length →
  (∀ (i : Nat) (f : Field), fs[i]? = some f → DataW.trod enc P w base spare held n f.type ((cs.drop f.offset).take (P.cellsOf f.type)) = xs[i]?) → (∀ m ∈ DataW.weightsEach P (fs.map (·.type)) (xs.map (·.1)), m ≤ 140737488351232) → o + ty.sz ≤ cs.length →
  ∃ X : ty.den, ty.rep P (fun k => k < w.heap.size) w X ((cs.drop o).take ty.sz) ∧ ty.fit ti X
 | [], o, ty, xs, hp, _, _, _, _ => by cases ty <;> simp [Pf] at hp
 | [f], o, ty, xs, hp, hl, ht, hw, hs => by
  simp only [Pf, Bool.and_eq_true] at hp
  obtain ⟨t, h1, h2⟩ := M8 hp.2
  have ho : f.offset = o := Nat.eq_of_beq_eq_true hp.1
  subst h2
  have e := ht 0 f rfl
  cases xs with
  | nil => simp at hl
  | cons y xs =>
   have e' : DataW.trod enc P w base spare held n f.type ((cs.drop f.offset).take (P.cellsOf f.type)) = some y := by simpa using e
   rw [Oc (htok _ _ h1), ho] at e'
   exact ih f.type t _ y h1 e' (fun m hm => hw m (by simp [DataW.weightsEach, hm]))
 | f :: g :: fs, o, ty, xs, hp, hl, ht, hw, hs => by
  cases ty <;> Aa | (simp [Pf] at hp; done) | skip
  rename_i x y
  simp only [Pf, Bool.and_eq_true] at hp
  obtain ⟨⟨h0, h1a⟩, hp⟩ := hp
  obtain ⟨t, h1, h2⟩ := M8 h1a
  have ho : f.offset = o := Nat.eq_of_beq_eq_true h0
  subst h2
  have e := ht 0 f rfl
  cases xs with
  | nil => simp at hl
  | cons z xs =>
   have e' : DataW.trod enc P w base spare held n f.type ((cs.drop f.offset).take (P.cellsOf f.type)) = some z := by simpa using e
   rw [Oc (htok _ _ h1), ho] at e'
   have hsz : o + (t.ty.sz + y.sz) ≤ cs.length := hs
   obtain ⟨X, r1, f1⟩ := ih f.type t _ z h1 e' (fun m hm => hw m (by simp [DataW.weightsEach, hm]))
   obtain ⟨Y, r2, f2⟩ := Rj htok ih (g :: fs) (o + t.ty.sz) y xs hp (by simpa using hl) (fun i f' hf' => by have := ht (i + 1) f' hf'; simpa using this) (fun m hm => hw m (by
    simp only [List.map_cons, DataW.weightsEach, List.mem_append]
    exact .inr hm)) (by omega)
   refine ⟨(X, Y), ⟨_, _, ?_, r1, r2⟩, f1, f2⟩
   show (cs.drop o).take (t.ty.sz + y.sz) = _
   rw [List.take_add, List.drop_drop]
theorem Uu (htok : ∀ T t, ti T = some t → TOk P T t) (hcl : ∀ T, Ob P ti T = true) : ∀ n, Qma enc P w base spare held ti n
 | 0 => by
  intro T t cs y _ h
  simp [DataW.trod] at h
 | n + 1 => by
  intro T t cs y hT h hw
  have hc := hcl T
  have hk := htok T t hT
  unfold Ob at hc
  rw [hT] at hc
  split at hc
  ·rename_i e; cases e
  ·-- a struct
   rename_i t0 fs e1 hu
   cases e1
   simp only [Bool.and_eq_true] at hc
   obtain ⟨xs, n', e1, rfl, hl, hxl, hx⟩ := DataW.trod_struct hu h
   have : n' = n := by omega
   subst this
   rw [Oc hk] at hl
   have hw' : ∀ m ∈ DataW.weightsEach P (fs.toList.map (·.type)) (xs.map (·.1)), m ≤ 140737488351232 := fun m hm => hw m (by simp only [DataW.weights, hu]; exact hm)
   obtain ⟨X, r, f⟩ := Rj htok (Uu htok hcl n') fs.toList 0 t.ty xs hc.2 (by simpa using hxl) (fun i f hf => hx i f (by simpa using hf)) hw' (by omega)
   rw [List.drop_zero, ← hl, List.take_length] at r
   exact ⟨X, r, f⟩
  ·-- a slice
   rename_i e r by_ fo e' e1 hu
   cases e1
   simp only [Bool.and_eq_true] at hc
   obtain ⟨te, hte, hty⟩ := M8 hc.2
   have he : e = e' := Nat.eq_of_beq_eq_true hc.1
   subst he
   subst hty
   have hke := htok e te hte
   have hsz : S9 P e te.ty.sz := Ml hke
   rcases DataW.trod_slice hu h with ⟨rfl, rfl⟩ | ⟨a, len, cap, elems, rest, n', e1, rfl, rfl, hb, hl, hm, hlen, hel, hsp, hns⟩
   ·exact ⟨[], ⟨_, rfl, hsz, none, 0, [], rfl, Nat.le_refl _, rfl, fun h => (h rfl).elim⟩, by simp, by simp⟩
   ·have : n' = n := by omega
    subst this
    have hlw : (elems.map (·.1)).length + (rest.map (·.1)).length = elems.length + rest.length := by simp
    have hw0 : (elems.length + rest.length) * P.bytesOf e ≤ 140737488351232 := hw _ (by simp only [DataW.weights, hu]; simp)
    rw [I5a hke] at hw0
    rw [Oc hke] at hel
    have hpos := Ln te.ty
    have each : ∀ i, i < len → ∃ x c, te.ty.rep P (fun k => k < w.heap.size) w x c ∧ te.ty.fit ti x ∧ c.length = te.ty.sz ∧ ((i = 0 → a.spot = none) ∧ a.block < w.heap.size) ∧ E8 w a.block (a.off + i * te.ty.sz) c := by
     intro i hi
     have e1 := hel i hi
     rw [List.getElem?_eq_getElem (by omega)] at e1
     simp only [Option.bind_eq_some_iff] at e1
     obtain ⟨c, hc1, hc2⟩ := e1
     obtain ⟨g1, g2, g3, g4⟩ := L4a hc1 hpos
     obtain ⟨X, r1, f1⟩ := Uu htok hcl n' e te c _ hte hc2 (fun m hm => hw m (by
      simp only [DataW.weights, hu, List.mem_cons, List.mem_append]
      exact .inr (.inl (Ri.2 ⟨_, List.mem_map_of_mem (List.getElem_mem (l := elems) (n := i) (by omega)), hm⟩))))
     have hblk : (a.add (i * te.ty.sz)).block = a.block ∧ (a.add (i * te.ty.sz)).off = a.off + i * te.ty.sz := by
      unfold Addr.add
      split
      ·rename_i h0; exact ⟨rfl, by omega⟩
      ·exact ⟨rfl, rfl⟩
     rw [hblk.1, hblk.2] at g4
     rw [hblk.1] at g2
     refine ⟨X, c, r1, f1, g3, ⟨fun h0 => ?_, g2⟩, g4⟩
     subst h0
     rw [Nat.zero_mul] at g1
     exact g1
    obtain ⟨xs, cs, h1, h2, h3, h4, h5⟩ := I6a (w := w) (k := a.block) (o := a.off) (n := te.ty.sz) (R := fun x c => te.ty.rep P (fun k => k < w.heap.size) w x c) (Fit := te.ty.fit ti) len (fun i hi => by
     obtain ⟨x, c, q1, q2, q3, q4, q5⟩ := each i hi
     exact ⟨x, c, q1, q2, q3, q5⟩)
    refine ⟨xs, ⟨_, rfl, hsz, some a, cap, cs, by rw [h1], by omega, h2, fun hne => ?_⟩, fun te' ht' => ?_, h3⟩
    ·have hpos : 0 < len := by rw [← h1]; cases xs with | nil => exact (hne rfl).elim | cons => simp
     obtain ⟨x, c, q1, q2, q3, q4, q5⟩ := each 0 hpos
     refine ⟨a.block, a.off, ?_, q4.2, h5⟩
     obtain ⟨b, off, sp⟩ := a
     have hsp : sp = none := q4.1 rfl
     rw [hsp]
    ·rw [hte] at ht'
     cases ht'
     rw [h1, ← hlen]
     exact Nat.le_trans (Nat.mul_le_mul_right _ (Nat.le_add_right _ _)) hw0
  ·rename_i k by_ fo k' e1 hu
   cases e1
   have : k = k' := of_decide_eq_true hc
   subst this
   obtain ⟨m, rfl, rfl, hwf⟩ := DataW.trod_int hu h
   exact ⟨m, rfl, hwf⟩
  ·rename_i by_ fo e1 hu
   cases e1
   obtain ⟨b, rfl, rfl⟩ := DataW.trod_bool hu h
   exact ⟨b, rfl, trivial⟩
  ·rename_i by_ fo e1 hu
   cases e1
   obtain ⟨s, rfl, rfl, hs⟩ := DataW.trod_string hu h
   refine ⟨s, rfl, ?_⟩
   have := hw s.data.toList.length (by rw [show (DataW.lit (.string s.data.toList) : DataW H').weights P T = [s.data.toList.length] from by simp only [DataW.weights]]; exact List.mem_singleton.2 rfl)
   have e : s.data.toList.length = s.size := Array.length_toList
   rw [e] at this
   exact this
  ·cases hc
end
end Go.Proofs.YtgocagaijgcnmaaGreat.Vf
end

section
set_option linter.unusedVariables false
set_option linter.unusedSimpArgs false
namespace Go.Proofs.YtgocagaijgcnmaaGreat.Vf
open Go
attribute [local irreducible] C H
def eq1 : Lf → Lf → Option Bool
 | .sc (.int k x), .sc (.int k' y) => if k = k' then some (x == y) else none
 | .sc (.bool x), .sc (.bool y) => some (x == y)
 | .sc (.string x), .sc (.string y) => some (x == y)
 | _, _ => none
theorem L5a (a a' : Lf) (l l' : List Lf) {b : Bool} (h : Cs (a :: l) (a' :: l') = some b) : ∃ b1 b2, eq1 a a' = some b1 ∧ Cs l l' = some b2 ∧ b = (b1 && b2) := by
 unfold Cs at h
 split at h
 ·rename_i e _; cases e
 ·rename_i k x k' y e1 e2
  cases e1; cases e2
  by_cases hk : k = k'
  ·simp only [hk, decide_true, cond_true, Option.some.injEq] at h
   exact ⟨x == y, true, by simp only [eq1, hk, if_true], rfl, by simp [h]⟩
  ·simp [hk] at h
 ·rename_i x y e1 e2
  cases e1; cases e2
  simp only [Option.some.injEq] at h
  exact ⟨_, true, rfl, rfl, by simp [h]⟩
 ·rename_i x y e1 e2
  cases e1; cases e2
  simp only [Option.some.injEq] at h
  exact ⟨_, true, rfl, rfl, by simp [h]⟩
 ·rename_i k x l k' y l' _ e1 e2
  cases e1; cases e2
  by_cases hk : k = k'
  ·simp only [hk, decide_true, cond_true] at h
   split at h
   ·rename_i b2 hb
    simp only [Option.some.injEq] at h
    exact ⟨_, b2, by simp only [eq1, hk, if_true], hb, h.symm⟩
   ·cases h
  ·simp [hk] at h
 ·rename_i x l y l' _ e1 e2
  cases e1; cases e2
  split at h
  ·rename_i b2 hb
   simp only [Option.some.injEq] at h
   exact ⟨_, b2, rfl, hb, h.symm⟩
  ·cases h
 ·rename_i x l y l' _ e1 e2
  cases e1; cases e2
  split at h
  ·rename_i b2 hb
   simp only [Option.some.injEq] at h
   exact ⟨_, b2, rfl, hb, h.symm⟩
  ·cases h
 ·cases h
theorem Tb : ∀ (l m l' m' : List Lf) (b : Bool), l.length = l'.length → Cs (l ++ m) (l' ++ m') = some b → ∃ b1 b2, Cs l l' = some b1 ∧ Cs m m' = some b2 ∧ b = (b1 && b2)
 | [], m, [], m', b, _, h => ⟨true, b, rfl, h, by simp⟩
 | [], _, _ :: _, _, _, hl, _ => by simp at hl
 | _ :: _, _, [], _, _, hl, _ => by simp at hl
 | a :: l, m, a' :: l', m', b, hl, h => by
  obtain ⟨b1, b2, h1, h2, rfl⟩ := L5a a a' (l ++ m) (l' ++ m') h
  obtain ⟨b3, b4, h3, h4, rfl⟩ := Tb l m l' m' b2 (by simpa using hl) h2
  refine ⟨b1 && b3, b4, ?_, h4, by simp [Bool.and_assoc]⟩
  cases a with
  | sc u =>
   cases a' with
   | sc u' =>
    cases u <;> Aa | (simp [eq1] at h1; done) | skip
    all_goals (cases u' <;> Aa | (simp [eq1] at h1; done) | skip)
    ·rename_i x y
     simp only [eq1, Option.some.injEq] at h1
     cases l <;> cases l' <;> Aa | (simp at hl; done) | skip
     ·simp only [Cs, Option.some.injEq] at h3
      simp only [Cs]
      rw [← h3, ← h1, Bool.and_true]
     ·simp only [Cs, h3]
      rw [← h1]
    ·rename_i k x k' y
     simp only [eq1] at h1
     by_cases hk : k = k'
     ·rw [if_pos hk] at h1
      simp only [Option.some.injEq] at h1
      cases l <;> cases l' <;> Aa | (simp at hl; done) | skip
      ·simp only [Cs, Option.some.injEq] at h3
       simp only [Cs, hk, decide_true, cond_true]
       rw [← h3, ← h1, Bool.and_true]
      ·simp only [Cs, hk, decide_true, cond_true, h3]
       rw [← h1]
     ·rw [if_neg hk] at h1; cases h1
    ·rename_i x y
     simp only [eq1, Option.some.injEq] at h1
     cases l <;> cases l' <;> Aa | (simp at hl; done) | skip
     ·simp only [Cs, Option.some.injEq] at h3
      simp only [Cs]
      rw [← h3, ← h1, Bool.and_true]
     ·simp only [Cs, h3]
      rw [← h1]
   | _ => cases u <;> simp [eq1] at h1
  | _ => simp [eq1] at h1
def eqB (P : Program) (ti : TypeId → Option TI) : Nat → TypeId → Bool
 | 0, _ => false
 | n + 1, T => match ti T, P.underlying T with
  | some t, some (.struct fs) => t.ag && !(P.stoodInHeld T) && Pf ti fs.toList 0 t.ty && fs.toList.all (fun f => !(f.name == "_") && eqB P ti n f.type)
  | some ⟨.i _, false, _, _⟩, some (.int _) => true
  | some ⟨.b, false, _, _⟩, some .bool => true
  | some ⟨.s, false, _, _⟩, some .string => true
  | _, _ => false
section
variable {P : Program} {ti : TypeId → Option TI} {G : Nat → Prop} {w : World}
def Qna (P : Program) (ti : TypeId → Option TI) (G : Nat → Prop) (w : World) (n : Nat) : Prop :=
 ∀ T t d (X Y : t.ty.den) (us vs : List Value) (x y : Value) (b : Bool) (w' : World), n ≤ d → eqB P ti n T = true → ti T = some t → Iy (I3 P G w) (A6 t.ty X) us → Iy (I3 P G w) (A6 t.ty Y) vs → Cs (A6 t.ty X) (A6 t.ty Y) = some b →
  (if t.ag then x = .agg us.toArray else us = [x]) → (if t.ag then y = .agg vs.toArray else vs = [y]) → (Op.equalIn d T x y).run P w' = .ok b w'
theorem Qd {T : TypeId} {t : TI} (hk : TOk P T t) {us : List Value} {off : Nat} (hl : off + t.ty.sz ≤ us.length) (w' : World) :
  ∃ u, (part T us.toArray off).run P w' = .ok u w' ∧ (if t.ag then u = .agg ((us.drop off).take t.ty.sz).toArray else (us.drop off).take t.ty.sz = [u]) := by
 obtain ⟨d, hd, hagg⟩ := Afa hk
 cases ha : t.ag with
 | true =>
  rw [ha] at hagg
  refine ⟨.agg (us.toArray.extract off (off + t.ty.sz)), ?_, ?_⟩
  ·unfold part
   simp only [Sem.run_bind, L6 hd hagg, Result.andThen_ok, if_true, I4 (Ml hk), Sem.run_pure]
  ·simp only [if_true]
   congr 1
   apply Array.ext'
   rw [Array.toList_extract]
   simp [List.extract]
 | false =>
  rw [ha] at hagg
  have h1 := Gea hk ha
  have hlt : off < us.length := by omega
  refine ⟨us[off], ?_, ?_⟩
  ·unfold part
   simp only [Sem.run_bind, L6 hd hagg, Result.andThen_ok, Bool.false_eq_true, if_false]
   have : us.toArray[off]? = some us[off] := by simp [hlt]
   rw [this]
   rfl
  ·simp only [Bool.false_eq_true, if_false]
   rw [h1, List.drop_eq_getElem_cons hlt]
   rfl
theorem Xt (htok : ∀ T t, ti T = some t → TOk P T t) {n : Nat} (ih : Qna P ti G w n) {d : Nat} (hd : n ≤ d) {us vs : List Value} (w' : World) :
  ∀ (fs : List Field) (o : Nat) (ty : Ty) (X Y : ty.den) (b : Bool), Pf ti fs o ty = true → fs.all (fun f => !(f.name == "_") && eqB P ti n f.type) = true → o + ty.sz ≤ us.length → o + ty.sz ≤ vs.length →
   Iy (I3 P G w) (A6 ty X) ((us.drop o).take ty.sz) → Iy (I3 P G w) (A6 ty Y) ((vs.drop o).take ty.sz) →
   Cs (A6 ty X) (A6 ty Y) = some b → (Op.eqFields d us.toArray vs.toArray fs).run P w' = .ok b w'
 | [], o, ty, X, Y, b, hp, _, _, _, _, _, _ => by cases ty <;> simp [Pf] at hp
 | [f], o, ty, X, Y, b, hp, ha, hl, hl', h0, h0', he => by
  simp only [Pf, Bool.and_eq_true] at hp
  simp only [List.all_cons, Bool.and_eq_true, Bool.not_eq_true', beq_eq_false_iff_ne] at ha
  obtain ⟨⟨a1, a2⟩, _⟩ := ha
  obtain ⟨t, h1, h2⟩ := M8 hp.2
  have ho : f.offset = o := Nat.eq_of_beq_eq_true hp.1
  subst h2
  subst ho
  obtain ⟨x, hx1, hx2⟩ := Qd (htok _ _ h1) hl w'
  obtain ⟨y, hy1, hy2⟩ := Qd (htok _ _ h1) hl' w'
  have hr := ih f.type t d X Y _ _ x y b w' hd a2 h1 h0 h0' he hx2 hy2
  simp only [Op.eqFields, ne_eq, a1, not_false_eq_true, if_true, Sem.run_bind, hx1, hy1, hr, Result.andThen_ok]
  cases b <;> rfl
 | f :: g :: fs, o, ty, X, Y, b, hp, ha, hl, hl', h0, h0', he => by
  cases ty <;> Aa | (simp [Pf] at hp; done) | skip
  rename_i tx tyy
  simp only [Pf, Bool.and_eq_true] at hp
  obtain ⟨⟨q0, q1⟩, hp⟩ := hp
  rw [List.all_cons, Bool.and_eq_true] at ha
  obtain ⟨ha0, ha⟩ := ha
  simp only [Bool.and_eq_true, Bool.not_eq_true', beq_eq_false_iff_ne] at ha0
  obtain ⟨a1, a2⟩ := ha0
  obtain ⟨t, h1, h2⟩ := M8 q1
  have ho : f.offset = o := Nat.eq_of_beq_eq_true q0
  subst h2
  subst ho
  have hl2 : f.offset + (t.ty.sz + tyy.sz) ≤ us.length := hl
  have hl2' : f.offset + (t.ty.sz + tyy.sz) ≤ vs.length := hl'
  have he2 : Cs (A6 t.ty X.1 ++ A6 tyy X.2) (A6 t.ty Y.1 ++ A6 tyy Y.2) = some b := he
  have r0 : Iy (I3 P G w) (A6 t.ty X.1 ++ A6 tyy X.2) ((us.drop f.offset).take (t.ty.sz + tyy.sz)) := h0
  have r0' : Iy (I3 P G w) (A6 t.ty Y.1 ++ A6 tyy Y.2) ((vs.drop f.offset).take (t.ty.sz + tyy.sz)) := h0'
  have k1 := r0.take t.ty.sz
  have k2 := r0.drop t.ty.sz
  have k1' := r0'.take t.ty.sz
  have k2' := r0'.drop t.ty.sz
  have c1 := Gc t.ty X.1
  have c1' := Gc t.ty Y.1
  rw [← c1, List.take_left, c1, List.take_take, Nat.min_eq_left (by omega)] at k1
  rw [← c1', List.take_left, c1', List.take_take, Nat.min_eq_left (by omega)] at k1'
  have c2 : ∀ l : List Value, List.drop t.ty.sz (List.take (t.ty.sz + tyy.sz) l) = List.take tyy.sz (List.drop t.ty.sz l) := fun l => by rw [List.drop_take]; congr 1; omega
  rw [c2, List.drop_drop] at k2 k2'
  rw [show List.drop t.ty.sz (A6 t.ty X.1 ++ A6 tyy X.2) = A6 tyy X.2 by rw [← c1, List.drop_left]] at k2
  rw [show List.drop t.ty.sz (A6 t.ty Y.1 ++ A6 tyy Y.2) = A6 tyy Y.2 by rw [← c1', List.drop_left]] at k2'
  obtain ⟨b1, b2, e1, e2, rfl⟩ := Tb _ _ _ _ b (by rw [c1, c1']) he2
  obtain ⟨x, hx1, hx2⟩ := Qd (htok _ _ h1) (us := us) (off := f.offset) (by omega) w'
  obtain ⟨y, hy1, hy2⟩ := Qd (htok _ _ h1) (us := vs) (off := f.offset) (by omega) w'
  have hr := ih f.type t d X.1 Y.1 _ _ x y b1 w' hd a2 h1 k1 k1' e1 hx2 hy2
  have hr2 := Xt htok ih hd w' (g :: fs) (f.offset + t.ty.sz) tyy X.2 Y.2 b2 hp ha (by omega) (by omega) k2 k2' e2
  rw [Op.eqFields]
  simp only [ne_eq, a1, not_false_eq_true, if_true, Sem.run_bind, hx1, hy1, hr, Result.andThen_ok]
  cases b1
  ·rfl
  ·simpa using hr2
theorem Mqa (htok : ∀ T t, ti T = some t → TOk P T t) : ∀ n, Qna P ti G w n
 | 0 => by
  intro T t d X Y us vs x y b w' _ h
  simp [eqB] at h
 | n + 1 => by
  intro T t d X Y us vs x y b w' hd h hT hl hl' he hx hy
  obtain ⟨d, rfl⟩ : ∃ m, d = m + 1 := ⟨d - 1, by omega⟩
  have one : ∀ {us : List Value} {x : Value} {z : Lf}, us = [x] → Iy (I3 P G w) [z] us → I3 P G w z x := by
   intro us x z e h
   subst e
   cases h with
   | cons a h => exact a
  unfold eqB at h
  rw [hT] at h
  split at h
  ·rename_i t0 fs e1 hu
   cases e1
   simp only [Bool.and_eq_true, Bool.not_eq_true'] at h
   obtain ⟨⟨⟨h1, h2⟩, h3⟩, h4⟩ := h
   rw [h1] at hx hy
   simp only [if_true] at hx hy
   subst hx hy
   have hfs : P.fieldsOf T = fs := by unfold Program.fieldsOf; rw [hu]
   rw [run_equalIn_struct w' d T _ _ (by rw [hfs]; exact hu) h2, hfs]
   have e1 := hl.len
   have e2 := hl'.len
   rw [Gc] at e1 e2
   exact Xt htok (Mqa htok n) (by omega) w' fs.toList 0 t.ty X Y b h3 h4 (by omega) (by omega) (by rw [List.drop_zero, ← e1, List.take_length]; exact hl) (by rw [List.drop_zero, ← e2, List.take_length]; exact hl') he
  ·rename_i k by_ fo k' e1 hu
   cases e1
   simp only [Bool.false_eq_true, if_false] at hx hy
   have hz := (one hx hl).1
   have hz' := (one hy hl').1
   subst hz hz'
   have he' : (X == Y) = b := by simpa [A6, Cs] using he
   rw [← he']
   simp [Op.equalIn, run_underlying hu]
  ·rename_i by_ fo e1 hu
   cases e1
   simp only [Bool.false_eq_true, if_false] at hx hy
   have hz := (one hx hl).1
   have hz' := (one hy hl').1
   subst hz hz'
   have he' : (X == Y) = b := by simpa [A6, Cs] using he
   rw [← he']
   simp [Op.equalIn, run_underlying hu]
  ·rename_i by_ fo e1 hu
   cases e1
   simp only [Bool.false_eq_true, if_false] at hx hy
   have hz := (one hx hl).1
   have hz' := (one hy hl').1
   subst hz hz'
   have he' : (X == Y) = b := by simpa [A6, Cs] using he
   rw [← he']
   simp [Op.equalIn, run_underlying hu]
  ·cases h
end
theorem Qoa : ∀ (t : Ty) (l l' : List Lf) (x : t.den), Kx l = true → mkT t l = some (x, l') → l = A6 t x ++ l' ∧ Kx l' = true := by
 intro t
 induction t with
 | pr p q ihp ihq =>
  intro l l' x h hm
  simp only [mkT] at hm
  split at hm
  ·rename_i y l1 h1
   split at hm
   ·rename_i z l2 h2
    simp only [Option.some.injEq, Prod.mk.injEq] at hm
    obtain ⟨rfl, rfl⟩ := hm
    obtain ⟨e1, a1⟩ := ihp _ _ _ h h1
    obtain ⟨e2, a2⟩ := ihq _ _ _ a1 h2
    refine ⟨?_, a2⟩
    rw [e1, e2, ← List.append_assoc]
    rfl
   ·cases hm
  ·cases hm
 | _ =>
  intro l l' x h hm
  cases l with
  | nil => simp [mkT] at hm
  | cons z l =>
   cases z <;> Aa | (simp [Kx] at h; done) | skip
   rename_i v
   cases v <;> Aa | (simp [mkT] at hm; done) | skip
   all_goals
    simp only [Kx] at h
    simp only [mkT] at hm
    Aa
     | (simp only [Option.some.injEq, Prod.mk.injEq] at hm; obtain ⟨rfl, rfl⟩ := hm; exact ⟨rfl, h⟩)
     | (
       rename_i k k' n
       by_cases hk : k = k'
       ·subst hk
        simp only [decide_true, cond_true, Option.some.injEq, Prod.mk.injEq] at hm
        obtain ⟨rfl, rfl⟩ := hm
        exact ⟨rfl, h⟩
       ·simp [hk] at hm)
theorem Rpa {P : Program} {ti : TypeId → Option TI} (htok : ∀ T t, ti T = some t → TOk P T t) {T : TypeId} (h : eqB P ti 9 T = true) (hag : (match ti T with | some t => t.ag | none => false) = true) (hg : P.eqGuardType P.depth T = false) (G : Nat → Prop) (w w' : World) (x y : Operand) (l l' : List Lf) (us vs : List Value) (b : Bool)
  (h1 : Iy (I3 P G w) l us) (h2 : Iy (I3 P G w) l' vs) (he : Cs l l' = some b) (ha : Kx l = true) (ha' : Kx l' = true) (hk : Jh (ti T) l = true) (hk' : Jh (ti T) l' = true) :
  (Op.equal T (.agg us.toArray) (.agg vs.toArray)).run P w' = .ok b w' ∧ (eqGuard .eql T x y (.agg us.toArray) (.agg vs.toArray)).run P w' = .ok () w' ∧ (eqGuard .neq T x y (.agg us.toArray) (.agg vs.toArray)).run P w' = .ok () w' := by
 refine ⟨?_, run_eqGuard_agg w' _ T x y _ _ hg, run_eqGuard_agg w' _ T x y _ _ hg⟩
 unfold Jh at hk hk'
 split at hk
 ·rename_i t hT
  rw [hT] at hk' hag
  simp only at hk' hag
  have key : ∀ {l : List Lf}, Kx l = true → (mkW t.ty l).isSome = true → ∃ X, l = A6 t.ty X := by
   intro l ha hk
   obtain ⟨X, hX⟩ := Option.isSome_iff_exists.1 hk
   unfold mkW at hX
   split at hX
   ·rename_i z hz
    cases hX
    obtain ⟨e1, _⟩ := Qoa t.ty l [] _ ha hz
    exact ⟨_, by rw [e1, List.append_nil]⟩
   ·cases hX
  obtain ⟨X, rfl⟩ := key ha hk
  obtain ⟨Y, rfl⟩ := key ha' hk'
  exact Mqa htok 9 T t Op.maxDepth X Y us vs _ _ b w' (by decide) h hT h1 h2 he (by rw [hag]; rfl) (by rw [hag]; rfl)
 ·cases hk
end Go.Proofs.YtgocagaijgcnmaaGreat.Vf
end

section
set_option linter.unusedVariables false
set_option linter.unusedSimpArgs false
namespace Go.Proofs.YtgocagaijgcnmaaGreat.Vf
open Go Go.RowKit
attribute [local irreducible] C H
def Ip : Code → List Code
 | .seq a b => Ip a ++ Ip b
 | .cond _ a b => Ip a ++ Ip b
 | .block _ c => Ip c
 | .loop c => [c]
 | _ => []
theorem I7a {X : Cx} {E : En} : ∀ (c : Code), (∀ d ∈ Ip c, ∀ L, E.lp (Aa d) = some L → Xh X L d) → Jl X E c := by
 intro c
 induction c with
 | seq a b iha ihb => exact fun h => ⟨iha fun d hd => h d (List.mem_append_left _ hd), ihb fun d hd => h d (List.mem_append_right _ hd)⟩
 | cond x a b iha ihb => exact fun h => ⟨iha fun d hd => h d (List.mem_append_left _ hd), ihb fun d hd => h d (List.mem_append_right _ hd)⟩
 | block i c ih => exact fun h => ih h
 | loop c ih => exact fun h => h c (by simp [Ip])
 | _ => exact fun h => trivial
theorem L6a {X : Cx} {E : En} {c b : Code} (ids : List Nat) (h1 : Ip c = ids.map fun l => I2 l b) (h2 : (ids.map fun l => Aa (I2 l b)) = ids) (h3 : ∀ l ∈ ids, ∀ L, E.lp l = some L → Xh X L (I2 l b)) : Jl X E c := by
 refine I7a c fun d hd L hL => ?_
 rw [h1] at hd
 obtain ⟨l, hl, rfl⟩ := List.mem_map.1 hd
 have : Aa (I2 l b) = l := by
  have key : ∀ (is : List Nat), (is.map fun l => Aa (I2 l b)) = is → ∀ l ∈ is, Aa (I2 l b) = l := by
   intro is
   induction is with
   | nil => intro _ l hl; simp at hl
   | cons i is ih =>
    intro e l hl
    simp only [List.map_cons, List.cons.injEq] at e
    rcases List.mem_cons.1 hl with rfl | hl
    ·exact e.1
    ·exact ih e.2 l hl
  exact key ids h2 l hl
 rw [this] at hL
 exact h3 l hl L hL
theorem Qpa {P : Program} {X : Cx} {E : En} {ti : TypeId → Option TI} {eqs : TypeId → Bool} (hP : X.P = P) (h1 : E.nt = X.nt) (h2 : E.np = X.np) (h3 : E.ti = ti) (h4 : E.eq = eqs) (htok : ∀ T t, ti T = some t → TOk P T t)
  (heq : ∀ T, eqs T = true → eqB P ti 9 T = true ∧ (match ti T with | some t => t.ag | none => false) = true ∧ P.eqGuardType P.depth T = false) (hc : ∀ f en, E.call f = some en → A5 P f en) : R8 X E := by
 refine ⟨⟨h1, h2, fun T t h => ?_, fun T h G w w' x y l l' us vs b => ?_⟩, fun f en h => ?_⟩
 ·rw [hP]; rw [h3] at h; exact htok T t h
 ·rw [hP, h3]
  rw [h4] at h
  obtain ⟨e1, e2, e3⟩ := heq T h
  exact Rpa htok e1 e2 e3 G w w' x y l l' us vs b
 ·rw [hP]; exact hc f en h
def Ola {t : Ty} : {ts : List Ty} → t.den → Den ts → Den (t :: ts)
 | [], x, _ => x
 | _ :: _, x, y => (x, y)
theorem Xu {t : Ty} {ts : List Ty} {x : t.den} {y : Den ts} : Cr (t :: ts) (Ola x y) = A6 t x :: Cr ts y := by
 cases ts <;> rfl
inductive Mra (P : Program) (w : World) : (ps : List Par) → Den (ps.map Par.ty) → List Value → Prop
 | nil : Mra P w [] () []
 | cons {ag : Bool} {t : Ty} {ps : List Par} {X : t.den} {Y : Den (ps.map Par.ty)} {u : Value} {us vs : List Value} (hn : Hb t = true) (hu : if ag then u = .agg vs.toArray else vs = [u])
   (hr : t.rep P (fun k => k < w.heap.size) w X vs) (h : Mra P w ps Y us) : Mra P w (.val ag t :: ps) (Ola (t := t) (ts := ps.map Par.ty) X Y) (u :: us)
def L7a (w : World) : Nat → Lab := fun k => if k < w.heap.size then .fz else .no
theorem L8a {P : Program} {w : World} : ∀ {ps : List Par} {x : Den (ps.map Par.ty)} {us : List Value}, Mra P w ps x us → us.length = ps.length := by
 intro ps x us h
 induction h with
 | nil => rfl
 | cons _ _ _ _ ih => simp [ih]
theorem I8a {P : Program} {w : World} {rg : Nat → Nat × Nat} {nv : Nat} {hs : List Value} : ∀ {ps : List Par} {x : Den (ps.map Par.ty)} {us : List Value} (i : Nat), Mra P w ps x us → Ko P (bare (L7a w) w) rg nv hs i ps (Cr _ x) us := by
 intro ps x us i h
 induction h generalizing i with
 | nil => trivial
 | @cons ag t ps X Y u us vs hn hu hr h ih =>
  show Ko P (bare (L7a w) w) rg nv hs i (.val ag t :: ps) (Cr (t :: ps.map Par.ty) (Ola X Y)) (u :: us)
  rw [Xu]
  refine ⟨⟨vs, hu, ?_⟩, ih (i + 1)⟩
  have h1 := L5 (P := P) (G := fun k => L7a w k = .fz) (w := w) t X vs (Ty.rep_mono (fun k hk => by unfold L7a; rw [if_pos hk]) (fun _ _ => rfl) t X vs hr)
  rw [R4 t X hn]
  exact A8.ofRep (S := bare (L7a w) w) h1 _ _
theorem L9a {P : Program} {f : FuncId} {en : Ent} (hs : Nya P f en) {w : World} {us : List Value} {x : Den (en.ps.map Par.ty)} (hc : Mra P w en.ps x us) (hnv : Nat.ble en.ps.length en.nv = true) {r : Den (en.rs.map Prod.snd ++ Ij en.ps)} (hr : en.run x = some r)
  (hrs : en.rs = [(.one, .b)]) (hl : ∃ ls, Cr _ r = [.sc (.bool true)] :: ls) : Calls P f us.toArray w (fun e w' => e = .returned (.bool true) ∧ Below w.heap.size w w') := by
 have htk : us.take en.nv = us := List.take_of_length_le (by rw [L8a hc]; exact Nat.le_of_ble_eq_true hnv)
 have hcalls := hs x r hr w (L7a w) (fun _ => (0, 0)) us (fun k hk => by
  unfold L7a at hk
  split at hk
  ·assumption
  ·exact (hk rfl).elim) (fun k b hk => by
  unfold L7a at hk
  split at hk <;> cases hk) (I8a 0 hc)
 rw [htk] at hcalls
 refine P9 hcalls ?_
 rintro e w' ⟨v, O', rfl, hF, _, hR, _⟩
 obtain ⟨ls, hl⟩ := hl
 rw [hl] at hR
 rw [hrs] at hR
 obtain ⟨l, ls', e1, h1⟩ := hR
 cases e1
 have h2 : A8 P (bare O' w') (fun _ => .tm 1 []) 0 [.sc (.bool true)] [v] := h1
 have hv : v = .bool true := h2.1.1
 subst hv
 exact ⟨rfl, hF.os, hF.tape, hF.out, hF.size, fun k hk => (hF.fz k hk (by unfold L7a; rw [if_pos hk])).2⟩
theorem Laa {H' : Type} {enc : TypeId × Value → H'} {P : Program} {w : World} {base : Nat} {spare : Nat → Bool} {held : Bool} {ti : TypeId → Option TI} (htok : ∀ T t, ti T = some t → TOk P T t) (hcl : ∀ T, Ob P ti T = true)
  {T : TypeId} {t : TI} (hT : ti T = some t) {v : Value} {d : DataW H'} {p : List MemPlace} {b0 : Nat} (hv : Value.okWide P w .any b0 T v) (h : DataW.Trod enc P w base spare held T v d p)
  {ts : List TypeId} {ds : List (DataW H')} (hw : (DataW.weightsEach P ts ds).all (· ≤ reachBytes) = true) {j : Nat} (hj : ts[j]? = some T) (hd : ds[j]? = some d) :
  ∃ (X : t.ty.den) (vs : List Value), (if t.ag then v = .agg vs.toArray else vs = [v]) ∧ t.ty.rep P (fun k => k < w.heap.size) w X vs ∧ t.ty.fit ti X := by
 obtain ⟨n, hn⟩ := h
 obtain ⟨X, r, f⟩ := Uu htok hcl n T t _ _ hT hn (fun m hm => by
  have := List.all_eq_true.1 hw m (DataW.weights_mem_each hj hd m hm)
  exact of_decide_eq_true this)
 refine ⟨X, _, ?_, r, f⟩
 have hc := hcl T
 unfold Ob at hc
 rw [hT] at hc
 unfold Value.okWide at hv
 split at hc
 ·rename_i e; cases e
 ·rename_i t0 fs e1 hu
  cases e1
  simp only [Bool.and_eq_true] at hc
  rw [hc.1]
  rw [hu] at hv
  obtain ⟨cs, rfl, _⟩ := hv
  simp [Value.cells]
 all_goals Aa
  | (cases hc; done)
  | (rename_i hu; rw [hu] at hv; simp only [Cell.okWide, hu] at hv; rename_i e1; cases e1; simp only [Bool.false_eq_true, if_false]; have hsz := Ty.rep_len _ _ _ r; cases v <;> Aa | (simp [Value.cells]; done) | (simp only [Cell.ok, hu] at hv; done) | (simp [Cell.ok, hu] at hv; done))
end Go.Proofs.YtgocagaijgcnmaaGreat.Vf
end

section
set_option linter.unusedVariables false
set_option linter.unusedSimpArgs false
namespace Go.Proofs.YtgocagaijgcnmaaGreat.Vf
open Go Go.RowKit
attribute [local irreducible] C H
def lk {α : Type} : List (Nat × α) → Nat → Option α
 | [], _ => none
 | (i, a) :: l, n => bif Nat.beq n i then some a else lk l n
structure LF where
 ins : W1
 alts : List (Ex × W1)
 f : Nat → ins.den → Option (Jta alts)
@[reducible] def LF.at (p : LF) (k : Nat) : Lp := ⟨p.ins, p.alts, p.f k⟩
structure Fd where
 nt : Nat
 nv : Nat
 nm : List Nat
 res : List Nat
 cs : Nat → List (FuncId × Ent) := fun _ => []
 ls : List (Nat × LF) := []
 hint : List (Nat × Ty) := []
 mv : List Nat := []
 gh : List (Nat × List Gh) := []
 opn : List Nat := []
 sh : Bool := false
 rf : Bool := false
def Fd.n (D : Fd) (ti : TypeId → Option TI) (eqs : TypeId → Bool) (k : Nat) : En :=
 ⟨D.nt, ti, eqs, D.nm.contains, D.res.contains, lk (D.cs k), fun l => match lk D.ls l with | some p => some (p.at k) | none => none, D.nv, lk D.hint, D.mv.contains, fun n => (lk D.gh n).getD [], D.opn.contains, fun _ => D.sh, D.rf⟩
theorem Msa {α : Type} : ∀ {l : List (Nat × α)} {n : Nat} {a : α}, lk l n = some a → n ∈ l.map Prod.fst
 | [], _, _, h => by cases h
 | (i, b) :: l, n, a, h => by
  unfold lk at h
  cases hb : Nat.beq n i with
  | true => rw [Nat.eq_of_beq_eq_true hb]; simp
  | false =>
   rw [hb, cond_false] at h
   exact List.mem_cons_of_mem _ (Msa h)
def Oq (P : Program) : List (FuncId × Ent) → Prop
 | [] => True
 | c :: l => A5 P c.1 c.2 ∧ Oq P l
theorem I9a {P : Program} : ∀ {l : List (FuncId × Ent)} {f : FuncId} {en : Ent}, Oq P l → lk l f = some en → A5 P f en
 | [], _, _, _, h => by cases h
 | (i, a) :: l, f, en, hc, h => by
  unfold lk at h
  cases hb : Nat.beq f i with
  | true =>
   rw [hb, cond_true] at h
   cases h
   rw [Nat.eq_of_beq_eq_true hb]
   exact hc.1
  | false => rw [hb, cond_false] at h; exact I9a hc.2 h
@[reducible] def bo (fn : Func) : Code := fn.body.getD .skip
structure Rk (P : Program) (ti : TypeId → Option TI) (eqs : TypeId → Bool) : Prop where
 tok : ∀ T t, ti T = some t → TOk P T t
 eq : ∀ T, eqs T = true → eqB P ti 9 T = true ∧ (match ti T with | some t => t.ag | none => false) = true ∧ P.eqGuardType P.depth T = false
 mix : P.follows .mixedOrders = true
def LK (P : Program) (fn : Func) (D : Fd) (l : Nat) (p : LF) : Prop := ∀ X : Cx, X.P = P → X.nt = fn.ntmps → X.np = D.nv → ∀ k, Xh X (p.at k) (I2 l (bo fn))
def Qqa (P : Program) (fn : Func) (D : Fd) : List Nat → Prop
 | [] => True
 | l :: r => (match lk D.ls l with | some p => LK P fn D l p | none => True) ∧ Qqa P fn D r
theorem Iaa {P : Program} {fn : Func} {D : Fd} {l : Nat} {p : LF} (hp : lk D.ls l = some p) : ∀ {r : List Nat}, Qqa P fn D r → l ∈ r → LK P fn D l p
 | [], _, h => by cases h
 | i :: r, ha, h => by
  rcases List.mem_cons.1 h with rfl | h
  ·have := ha.1
   rw [hp] at this
   exact this
  ·exact Iaa hp ha.2 h
section
variable {P : Program} {ti : TypeId → Option TI} {eqs : TypeId → Bool} {fn : Func}
theorem Rqa (hS : Rk P ti eqs) {D : Fd} {k : Nat} (hn : Nat.beq D.nt fn.ntmps = true) (hc : Oq P (D.cs k)) {X : Cx} (hP : X.P = P) (hx : X.nt = fn.ntmps) (hp : X.np = D.nv) : R8 X (D.n ti eqs k) :=
 Qpa hP ((Nat.eq_of_beq_eq_true hn).trans hx.symm) hp.symm rfl rfl hS.tok hS.eq (fun _ _ h => I9a hc h)
theorem Qra (hS : Rk P ti eqs) {D : Fd} {k : Nat} (hn : Nat.beq D.nt fn.ntmps = true) (hc : Oq P (D.cs k)) {X : Cx} (hP : X.P = P) (hx : X.nt = fn.ntmps) (hp : X.np = D.nv) : Xi X (D.n ti eqs k) :=
 Oka (Rqa hS hn hc hP hx hp) (by rw [hP]; exact hS.mix)
theorem Mta {D : Fd} {k : Nat} {c : Code} {ids : List Nat} (h : (Ip c, ids.map fun l => Aa (I2 l (bo fn))) = (ids.map fun l => I2 l (bo fn), ids)) (hi : Qqa P fn D ids) {X : Cx} (hP : X.P = P) (hx : X.nt = fn.ntmps) (hp : X.np = D.nv) : Jl X (D.n ti eqs k) c := by
 rw [Prod.mk.injEq] at h
 refine L6a (b := bo fn) ids h.1 h.2 fun l hl L hL => ?_
 have hL' : (match lk D.ls l with | some p => some (p.at k) | none => none) = some L := hL
 cases hp' : lk D.ls l with
 | none => rw [hp'] at hL'; cases hL'
 | some p =>
  rw [hp'] at hL'
  cases hL'
  exact Iaa hp' hi hl X hP hx hp k
@[reducible] def Sda (ti : TypeId → Option TI) (eqs : TypeId → Bool) (fn : Func) (D : Fd) (l : Nat) (p : LF) : Prop := ∀ k x, G4a (D.n ti eqs k) (p.at k) (I2 l (bo fn)) x = p.f (k + 1) x
theorem mkL (hS : Rk P ti eqs) {D : Fd} {l : Nat} {p : LF} (ids : List Nat) (hn : Nat.beq D.nt fn.ntmps = true) (hc : ∀ k, Oq P (D.cs k)) (hi : Qqa P fn D ids) (h : (Ip (I2 l (bo fn)), ids.map fun l => Aa (I2 l (bo fn))) = (ids.map fun l => I2 l (bo fn), ids)) (h0 : ∀ x, p.f 0 x = none) (hs : Sda ti eqs fn D l p) : LK P fn D l p :=
 fun X hP hx hp => O6a (ins := p.ins) (alts := p.alts) (f := p.f) (En' := D.n ti eqs) h0 hs (fun k => Rqa hS hn (hc k) hP hx hp) (fun k => Qra hS hn (hc k) hP hx hp) (fun k => Mta h hi hP hx hp)
def S8a (fn : Func) (D : Fd) (en : Ent) : Bool := Nat.beq D.nt fn.ntmps && (Nat.ble fn.ntmps 1000 && (Nat.ble en.nv fn.ntmps && (Nat.beq en.nv D.nv && (fn.body.isSome && (!(fn.name == "runtime.NumGoroutine") && Aua en)))))
theorem mkS (hS : Rk P ti eqs) {f : FuncId} {D : Fd} {k : Nat} {en : Ent} (ids : List Nat) (hf : P.funcs[f]? = some fn) (hc : Oq P (D.cs k)) (hi : Qqa P fn D ids) (hk : S8a fn D en = true) (h : (Ip (bo fn), ids.map fun l => Aa (I2 l (bo fn))) = (ids.map fun l => I2 l (bo fn), ids))
  (hr : ∀ x, Mca (D.n ti eqs k) (bo fn) fn.results.toList en x = en.run x) : A5 P f en := by
 unfold S8a at hk
 simp only [Bool.and_eq_true, Bool.not_eq_true'] at hk
 obtain ⟨h1, h2, h3, h4, h5, h6, h7⟩ := hk
 have h4 := Nat.eq_of_beq_eq_true h4
 have hb : fn.body = some (bo fn) := by
  unfold bo
  cases hb : fn.body with
  | none => rw [hb] at h5; cases h5
  | some c => rfl
 refine ⟨⟨fn, hf, h6, by rw [hb]; rfl⟩, Esa hf hb (Nat.le_of_ble_eq_true h2) (Nat.le_of_ble_eq_true h3) (fun X hP hx hp => ?_) (fun X hP hx hp => ?_) (fun X hP hx hp => ?_) h7 hr⟩
 ·exact Rqa hS h1 hc hP hx (hp.trans h4)
 ·exact Qra hS h1 hc hP hx (hp.trans h4)
 ·exact Mta h hi hP hx (hp.trans h4)
theorem Rra {keys Pha : List Nat} (hk : ∀ {T t}, ti T = some t → T ∈ keys) (h1 : (keys.all fun T => (match ti T with | some t => Rla P T t | none => true) && Ob P ti T) = true)
  (h2 : (Pha.all fun T => eqB P ti 9 T && (match ti T with | some t => t.ag | none => false) && !(P.eqGuardType P.depth T)) = true) (he : eqs = fun T => Pha.contains T) (hm : P.follows .mixedOrders = true) : Rk P ti eqs ∧ ∀ T, Ob P ti T = true := by
 refine ⟨⟨fun T t h => ?_, fun T h => ?_, hm⟩, fun T => ?_⟩
 ·have h3 := List.all_eq_true.1 h1 T (hk h)
  rw [Bool.and_eq_true, h] at h3
  exact Pwa _ _ _ h3.1
 ·rw [he] at h
  have h3 := List.all_eq_true.1 h2 T (List.elem_iff.1 h)
  simp only [Bool.and_eq_true, Bool.not_eq_true'] at h3
  exact ⟨h3.1.1, h3.1.2, h3.2⟩
 ·cases h : ti T with
  | none => unfold Ob; rw [h]
  | some t =>
   have h3 := List.all_eq_true.1 h1 T (hk h)
   rw [Bool.and_eq_true] at h3
   exact h3.2
end
end Go.Proofs.YtgocagaijgcnmaaGreat.Vf
end
