/- Regions whose order is drawn are sound. -/
import Derived.Test.YtehkignjdbkeiaaWl
set_option linter.unusedVariables false
set_option linter.unusedSimpArgs false
namespace Go.Proofs.Ytehkignjdbkeiaa.Vf
open Go
attribute [local irreducible] C H

section
variable {X : Cx} {E : En} {ops : Array Oper} {Q : Exit → Act → World → Prop}

/-- What is told of a drawn region's operations from here on. -/
structure Told (X : Cx) (ops : Array Oper) (Q : Exit → Act → World → Prop) (l : List Nat) (lg : List Lg) (g : Gs) (f : Gs) (L : List (Lg × Ak)) : Prop where
  ix : L.map (fun z => z.1.i) = l
  runs : Runs (L.map Prod.snd) g f
  fits : ∀ z ∈ L, Fits z.1 z.2 ∧ OpOk X ops Q z.1.i z.2
  old : ∀ y ∈ lg, ∀ z ∈ L, Nat.testBit z.1.anc y.i = true ∨ indep y z.1 = true
  pair : L.Pairwise (fun y z => Nat.testBit z.1.anc y.1.i = true ∨ indep y.1 z.1 = true)
  anc : ∀ z ∈ L, ∀ k, Nat.testBit z.1.anc k = true → Anc ops k z.1.i
  lt : ∀ i ∈ l, ∃ o, ops[i]? = some o ∧ ∀ j ∈ aft o, j < i

theorem Told.cons {l : List Nat} {lg : List Lg} {g g1 f : Gs} {L : List (Lg × Ak)} {y : Lg} {x : Ak} {i : Nat} (h : Told X ops Q l (y :: lg) g1 f L) (hi : y.i = i) (hn : x.N g) (he : x.e g = g1) (hf : Fits y x) (ho : OpOk X ops Q i x) (hok : lgOk lg y = true)
    (ha : ∀ k, Nat.testBit y.anc k = true → Anc ops k i) (hl : ∃ o, ops[i]? = some o ∧ ∀ j ∈ aft o, j < i) : Told X ops Q (i :: l) lg g f ((y, x) :: L) := by
  refine ⟨by simp [hi, h.ix], ⟨hn, by rw [he]; exact h.runs⟩, ?_, ?_, ?_, ?_, ?_⟩
  · intro z hz
    rcases List.mem_cons.1 hz with rfl | hz
    · exact ⟨hf, by rw [hi]; exact ho⟩
    · exact h.fits z hz
  · intro y' hy' z hz
    rcases List.mem_cons.1 hz with rfl | hz
    · unfold lgOk at hok
      rw [List.all_eq_true] at hok
      have := hok y' hy'
      simpa using this
    · exact h.old y' (List.mem_cons_of_mem _ hy') z hz
  · exact List.pairwise_cons.2 ⟨fun z hz => h.old y (by simp) z hz, h.pair⟩
  · intro z hz k hk
    rcases List.mem_cons.1 hz with rfl | hz
    · rw [hi]; exact ha k hk
    · exact h.anc z hz k hk
  · intro j hj
    rcases List.mem_cons.1 hj with rfl | hj
    · exact hl
    · exact h.lt j hj

theorem draw_run (hV : EnvOk X E) {R : Type} : ∀ (l : List Nat) (lg : List Lg) (A : Ab) (K : Ab → Option R) (r : R), (∀ y ∈ lg, ∀ k, Nat.testBit y.anc k = true → Anc ops k y.i) → evDrawOps E ops.toList l lg A K = some r →
    ∃ (L : List (Lg × Ak)) (A' : Ab), K A' = some r ∧ Told X ops Q l lg (get A) (get A') L
  | [], lg, A, K, r, _, h => ⟨[], A, h, rfl, rfl, by simp, by simp, .nil, by simp, by simp⟩
  | i :: l, lg, A, K, r, hlg, h => by
    unfold evDrawOps at h
    rw [nth_eq] at h
    split at h
    · cases h
    · rename_i o ho
      have hi : ops[i]? = some o := by simpa using ho
      cases hb0 : (dstIn E o && (aft o).all (fun j => Nat.blt j i)) with
      | false => rw [hb0] at h; simp at h
      | true =>
        rw [hb0, cond_true] at h
        simp only [Bool.and_eq_true, List.all_eq_true] at hb0
        obtain ⟨hd, hlt0⟩ := hb0
        have hlt : ∃ o, ops[i]? = some o ∧ ∀ j ∈ aft o, j < i := ⟨o, hi, fun j hj => by
          have := hlt0 j hj
          exact Nat.le_of_ble_eq_true this⟩
        have hanc : ∀ k, Nat.testBit (ancL lg (aft o)) k = true → Anc ops k i := ancL_ok hlg hi (fun j hj => hj)
        -- one step further
        have next : ∀ {y : Lg} {x : Ak} {A1 : Ab}, y.i = i → y.anc = ancL lg (aft o) → x.N (get A) → x.e (get A) = get A1 → Fits y x → OpOk X ops Q i x → lgOk lg y = true → evDrawOps E ops.toList l (y :: lg) A1 K = some r →
            ∃ (L : List (Lg × Ak)) (A' : Ab), K A' = some r ∧ Told X ops Q (i :: l) lg (get A) (get A') L := by
          intro y x A1 e1 e2 hn he hf hop hok hev
          obtain ⟨L, A', h1, h2⟩ := draw_run hV l (y :: lg) A1 K r (fun z hz k hk => by
            rcases List.mem_cons.1 hz with rfl | hz
            · rw [e1]; exact hanc k (by rw [← e2]; exact hk)
            · exact hlg z hz k hk) hev
          exact ⟨_, A', h1, h2.cons e1 hn he hf hop hok (by rw [e2]; exact hanc) hlt⟩
        have cnd : ∀ {b : Bool} {z : Option R}, (bif b then z else none) = some r → b = true ∧ z = some r := by
          intro b z hz
          cases b with
          | false => simp at hz
          | true => exact ⟨rfl, hz⟩
        -- an operation that is done
        have exec : ∀ (B : Ab) (gd : List Nat), get B = get A → (∀ S a, Okay X S a → (∀ p ∈ gd, S.g p = get A p) → Region.wanted o (yielded ops a.tmps) = true) →
            step E o B (fun U => bif lgOk lg (lgOf o i lg gd B U) then evDrawOps E ops.toList l (lgOf o i lg gd B U :: lg) (ups B U) K else none) = some r →
            ∃ (L : List (Lg × Ak)) (A' : Ab), K A' = some r ∧ Told X ops Q (i :: l) lg (get A) (get A') L := by
          intro B gd hBA hw hs
          have generic : (lgOf o i lg gd B [] ).ex = none → ∃ (L : List (Lg × Ak)) (A' : Ab), K A' = some r ∧ Told X ops Q (i :: l) lg (get A) (get A') L := by
            intro hex
            obtain ⟨U, h1, h2⟩ := step_loc (F := rds B o) (fun p hp => hp) hs
            obtain ⟨hok, hev⟩ := cnd h1
            have hfit : Fits (lgOf o i lg gd B U) (akOf (lgOf o i lg gd B U).F B U) := akOf_fits (F := gd ++ rds B o) rfl rfl hex
            refine next (y := lgOf o i lg gd B U) (x := akOf (lgOf o i lg gd B U).F B U) (A1 := ups B U) rfl rfl (fun p _ => by rw [hBA]) ?_ hfit ?_ hok hev
            · show gups (get A) U = _
              rw [get_gups, hBA]
            · refine op_ok hV hi hd (fun S a hS hN => hw S a hS (fun p hp => ?_)) (fun A' hN => ⟨U, ?_, rfl⟩)
              · rw [← hBA]
                exact hN p (by show p ∈ gd ++ rds B o ++ _; simp [hp])
              · exact h2 A' (fun p hp => hN p (by show p ∈ gd ++ rds B o ++ _; simp [hp])) some
          cases hgd : gd with
          | cons p0 gd' => subst hgd; exact generic (by simp [lgOf])
          | nil =>
            subst hgd
            cases hexo : exOf o with
            | none => exact generic (by simp [lgOf, hexo])
            | some q =>
              obtain ⟨t, j, d⟩ := q
              have : o.op = .extract (.tmp t) j ∧ o.dst = some d := by
                unfold exOf at hexo
                split at hexo
                · rename_i e1 e2
                  cases hexo
                  exact ⟨e1, e2⟩
                · cases hexo
              obtain ⟨hop, hod⟩ := this
              obtain ⟨vs, ag, lf, s, hg, hn, h1, h2⟩ := ext_step hop hod hs
              obtain ⟨hok, hev⟩ := cnd h1
              have hex : ∀ A' vs', (get A' t).2 = .tup vs' → gups (get A') (extU t j d lf s vs') = (extAk t j d ag lf s).e (get A') := by
                intro A' vs' hv
                unfold extU extAk
                simp only
                rw [hv]
                rfl
              refine next (y := lgOf o i lg [] B (extU t j d lf s vs)) (x := extAk t j d ag lf s) (A1 := ups B (extU t j d lf s vs)) rfl rfl ⟨vs, by rw [← hBA]; exact hg, hn⟩ ?_ (ext_fits hop hod) ?_ hok hev
              · rw [← hBA, get_gups]
                exact (hex B vs hg).symm
              · refine op_ok hV hi hd (fun S a hS _ => hw S a hS (by simp)) (fun A' hN => ?_)
                obtain ⟨vs', g1, g2⟩ := hN
                exact ⟨_, h2 A' vs' g1 g2, hex A' vs' g1⟩
        -- one that is skipped
        have skip : ∀ (B : Ab) (dj : Nat), get B = get A → (∀ S a, Okay X S a → S.g dj = get A dj → Region.wanted o (yielded ops a.tmps) = false) →
            (bif lgOk lg (lgSkip o i lg [dj]) then evDrawOps E ops.toList l (lgSkip o i lg [dj] :: lg) (skipO o B) K else none) = some r →
            ∃ (L : List (Lg × Ak)) (A' : Ab), K A' = some r ∧ Told X ops Q (i :: l) lg (get A) (get A') L := by
          intro B dj hBA hw hs
          obtain ⟨hok, hev⟩ := cnd hs
          have hsk : gups (get A) (match o.dst with | some d => [⟨d, false, .one .un⟩] | none => []) = get (skipO o B) := by
            unfold skipO
            cases o.dst with
            | none => exact hBA.symm
            | some d => rw [← hBA]; exact (get_gups [⟨d, false, .one .un⟩] B).symm
          refine next (y := lgSkip o i lg [dj]) (x := ⟨fun g => g dj = get A dj, fun g => gups g (match o.dst with | some d => [⟨d, false, .one .un⟩] | none => [])⟩) (A1 := skipO o B) rfl rfl rfl hsk ?_ (skip_ok hV hi hd (fun S a hS hN => hw S a hS hN)) hok hev
          have hmap : (match o.dst with | some d => [(⟨d, false, .one .un⟩ : Up)] | none => []).map Up.l = o.dst.toList := by cases o.dst <;> rfl
          refine ⟨fun p hp => List.mem_append_right _ hp, fun g g' h hn => by show g' dj = get A dj; rw [← h dj (by show dj ∈ [dj] ++ _; simp)]; exact hn, fun g p hp => gups_out _ g p (by rw [hmap]; exact hp), fun g g' p _ h => gups_same _ g g' p h, fun t j d h => by cases h⟩
        split at h
        · rename_i hgd
          exact exec A [] rfl (fun S a _ _ => by unfold Region.wanted; rw [hgd]) h
        · rename_i j want hgd
          split at h
          · cases h
          · rename_i dj hdj
            cases hb : Nat.blt dj E.nt with
            | false => rw [hb] at h; simp at h
            | true =>
              rw [hb, cond_true] at h
              split at h
              · rename_i n b hgt
                have hwant : ∀ (S : Sit) (a : Act), Okay X S a → S.g dj = get A dj → Region.wanted o (yielded ops a.tmps) = (b == want) := fun S a hS hs => (guard_ok hV.en hS hgd hdj hb).1 b (by rw [hs, hgt])
                cases b with
                | true =>
                  rw [cond_true] at h
                  cases want with
                  | true =>
                    rw [cond_true] at h
                    exact exec (lit A dj n true) [dj] (get_lit hgt) (fun S a hS hs => hwant S a hS (hs dj (by simp))) h
                  | false =>
                    rw [cond_false] at h
                    exact skip (lit A dj n true) dj (get_lit hgt) (fun S a hS hs => hwant S a hS hs) h
                | false =>
                  rw [cond_false] at h
                  cases want with
                  | true =>
                    rw [cond_true] at h
                    exact skip (lit A dj n false) dj (get_lit hgt) (fun S a hS hs => hwant S a hS hs) h
                  | false =>
                    rw [cond_false] at h
                    exact exec (lit A dj n false) [dj] (get_lit hgt) (fun S a hS hs => hwant S a hS (hs dj (by simp))) h
              · rename_i n hgt
                exact skip A dj rfl (fun S a hS hs => (guard_ok hV.en hS hgd hdj hb).2 (by rw [hs, hgt])) h
              · cases h

theorem draw_ok (hV : EnvOk X E) (hm : X.P.follows .mixedOrders = true) : DrawOk X E := by
  intro R id ops Q S a A K r hK hg h hQ
  refine wp_region_any hm ?_
  obtain ⟨L, A', hA', T⟩ := draw_run (X := X) (ops := ops) (Q := Q) hV _ [] A K r (by simp) h
  have hlen : L.length = ops.size := by
    have := congrArg List.length T.ix
    simpa using this
  have hmem : ∀ z ∈ L, z.1.i < ops.size := by
    intro z hz
    have : z.1.i ∈ L.map (fun z => z.1.i) := List.mem_map_of_mem hz
    rw [T.ix] at this
    simpa using this
  have K2 := (hK.world (w' := { S.w with drawn := S.w.drawn + 1 }) (O' := S.O) (fun k _ _ => ⟨rfl, rfl⟩) rfl rfl rfl (Nat.le_refl _) hK.lt).1
  refine any_ok (X := X) (f := get A') ?_ (fun S' a' A2 K' g' e' => hQ S' a' A' K' (by rw [g', e']) hA') ops.size (L.map fun z => (z.1.i, z.2)) _ (groS S { S.w with drawn := S.w.drawn + 1 } S.O) a A (by simp [hlen]) (by simp) ?_ ?_ ?_ ?_ ?_ ?_ K2 hg ?_
  · intro i o hi j hj
    have hil : i < ops.size := (Array.getElem?_eq_some_iff.1 hi).1
    obtain ⟨o', h1, h2⟩ := T.lt i (by simpa using hil)
    rw [hi] at h1
    cases h1
    exact h2 j hj
  · rw [List.pairwise_map]
    have hp : (L.map (fun z => z.1.i)).Pairwise (· < ·) := by rw [T.ix]; exact List.pairwise_lt_range
    rw [List.pairwise_map] at hp
    exact hp
  · intro i hi
    constructor
    · intro _
      have : i ∈ L.map (fun z => z.1.i) := by rw [T.ix]; simpa using hi
      obtain ⟨z, hz, hzi⟩ := List.mem_map.1 this
      exact ⟨(z.1.i, z.2), List.mem_map_of_mem hz, hzi⟩
    · intro _
      simp [Array.getD_eq_getD_getElem?, hi]
  · rw [List.pairwise_map]
    refine List.Pairwise.imp_of_mem ?_ T.pair
    intro y z hy hz h
    rcases h with h | h
    · exact .inl (T.anc z hz _ h)
    · exact .inr ((T.fits y hy).1.ind (T.fits z hz).1 h)
  · intro x hx
    obtain ⟨z, hz, rfl⟩ := List.mem_map.1 hx
    exact (T.fits z hz).2
  · intro x hx
    obtain ⟨z, hz, rfl⟩ := List.mem_map.1 hx
    exact hmem z hz
  · intro i o hi hl
    have hil : i < ops.size := (Array.getElem?_eq_some_iff.1 hi).1
    simp [Array.getD_eq_getD_getElem?, hil] at hl
  · have : (L.map fun z => (z.1.i, z.2)).map Prod.snd = L.map Prod.snd := by simp
    rw [this]
    exact T.runs
end
end Go.Proofs.Ytehkignjdbkeiaa.Vf
