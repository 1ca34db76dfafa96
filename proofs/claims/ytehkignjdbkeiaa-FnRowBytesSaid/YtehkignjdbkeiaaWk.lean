/- A region whose order is drawn: whatever the order, it comes to the same. -/
import Derived.Test.YtehkignjdbkeiaaWj
set_option linter.unusedVariables false
set_option linter.unusedSimpArgs false
namespace Go.Proofs.Ytehkignjdbkeiaa.Vf
open Go
attribute [local irreducible] C H

abbrev Gs := Nat → Nat × Sv

def gup (g : Gs) (u : Up) : Gs := fun p => if p = u.l then ((bif u.keep then (g u.l).1 else (g u.l).1 + 1), u.s) else g p
def gups (g : Gs) : List Up → Gs
  | [] => g
  | u :: U => gups (gup g u) U

theorem get_gups : ∀ (U : List Up) (A : Ab), get (ups A U) = gups (get A) U
  | [], _ => rfl
  | u :: U, A => by
    show get (ups (up A u) U) = gups (gup (get A) u) U
    rw [get_gups U (up A u)]
    congr 1
    funext p
    exact get_up1 A u p

theorem gups_out : ∀ (U : List Up) (g : Gs) (p : Nat), p ∉ U.map Up.l → gups g U p = g p
  | [], _, _, _ => rfl
  | u :: U, g, p, h => by
    simp only [List.map_cons, List.mem_cons, not_or] at h
    show gups (gup g u) U p = g p
    rw [gups_out U _ p h.2]
    exact if_neg h.1

theorem gups_same : ∀ (U : List Up) (g g' : Gs) (p : Nat), g p = g' p → gups g U p = gups g' U p
  | [], _, _, _, h => h
  | u :: U, g, g', p, h => by
    refine gups_same U (gup g u) (gup g' u) p ?_
    unfold gup
    by_cases e : p = u.l
    · subst e; rw [if_pos rfl, if_pos rfl, h]
    · rw [if_neg e, if_neg e, h]

/-- What an operation asks of the state, and what it makes of it. -/
structure Ak where
  N : Gs → Prop
  e : Gs → Gs

def Ind (x y : Ak) : Prop := (∀ g, x.N g → y.N (x.e g) → y.N g) ∧ (∀ g, y.N g → x.N g → x.N (y.e g)) ∧ (∀ g, x.N g → y.N g → x.e (y.e g) = y.e (x.e g))

def Runs : List Ak → Gs → Gs → Prop
  | [], g, f => g = f
  | x :: L, g, f => x.N g ∧ Runs L (x.e g) f

theorem Runs.front {y : Ak} {L2 : List Ak} : ∀ {L1 : List Ak} {g f : Gs}, (∀ x ∈ L1, Ind x y) → Runs (L1 ++ y :: L2) g f → y.N g ∧ Runs (L1 ++ L2) (y.e g) f
  | [], g, f, _, h => h
  | x :: L1, g, f, hi, h => by
    obtain ⟨h1, h2⟩ := h
    obtain ⟨h3, h4⟩ := Runs.front (fun z hz => hi z (List.mem_cons_of_mem _ hz)) h2
    obtain ⟨i1, i2, i3⟩ := hi x (by simp)
    have hy := i1 g h1 h3
    exact ⟨hy, i2 g hy h1, by rw [i3 g h1 hy]; exact h4⟩

inductive Anc (ops : Array Oper) : Nat → Nat → Prop
  | dir {i j : Nat} {o : Oper} (h : ops[i]? = some o) (hj : j ∈ aft o) : Anc ops j i
  | tr {i j k : Nat} {o : Oper} (h : ops[i]? = some o) (hk : k ∈ aft o) (ha : Anc ops j k) : Anc ops j i

theorem mem_aft {o : Oper} {j : Nat} : j ∈ aft o ↔ ∃ e ∈ o.after, Region.binds .any e = true ∧ e.on = j := by
  unfold aft
  rw [List.mem_filterMap]
  constructor
  · rintro ⟨e, he, h⟩
    cases hb : Region.binds .any e with
    | false => rw [hb] at h; simp at h
    | true =>
      rw [hb] at h
      simp only [cond_true, Option.some.injEq] at h
      exact ⟨e, by simpa using he, hb, h⟩
  · rintro ⟨e, he, hb, h⟩
    exact ⟨e, by simpa using he, by rw [hb]; simp [h]⟩

section
variable {X : Cx} {E : En} {ops : Array Oper} {Q : Exit → Act → World → Prop}

def OpOk (X : Cx) (ops : Array Oper) (Q : Exit → Act → World → Prop) (i : Nat) (x : Ak) : Prop :=
  ∀ (S : Sit) (a : Act) (A : Ab), Okay X S a → S.g = get A → x.N (get A) → ∀ K : Act → World → Prop, (∀ S' a' A', Okay X S' a' → S'.g = get A' → get A' = x.e (get A) → K a' S'.w) → wpOp X.P ops Q i K a S.w

theorem anc_listed {listed : Array Bool} (hd : ∀ i o, ops[i]? = some o → listed.getD i false = true → ∀ j ∈ aft o, listed.getD j false = true) {i j : Nat} (h : Anc ops j i) : listed.getD i false = true → listed.getD j false = true := by
  induction h with
  | dir h hj => exact fun hi => hd _ _ h hi _ hj
  | tr h hk _ ih => exact fun hi => ih (hd _ _ h hi _ hk)

theorem getD_tf {listed : Array Bool} {i : Nat} (hi : i < listed.size) : listed.getD i true = listed.getD i false := by
  simp [Array.getD_eq_getD_getElem?, hi]

theorem any_ok (hlt : ∀ i o, ops[i]? = some o → ∀ j ∈ aft o, j < i) {f : Gs} (hQ : ∀ S a A, Okay X S a → S.g = get A → get A = f → Q .normal a S.w) :
    ∀ (fuel : Nat) (L : List (Nat × Ak)) (listed : Array Bool) (S : Sit) (a : Act) (A : Ab), L.length = fuel → listed.size = ops.size → L.Pairwise (fun x y => x.1 < y.1) → (∀ i, i < ops.size → (listed.getD i false = false ↔ ∃ x ∈ L, x.1 = i)) →
      L.Pairwise (fun x y => Anc ops x.1 y.1 ∨ Ind x.2 y.2) → (∀ x ∈ L, OpOk X ops Q x.1 x.2) → (∀ x ∈ L, x.1 < ops.size) →
      (∀ i o, ops[i]? = some o → listed.getD i false = true → ∀ j ∈ aft o, listed.getD j false = true) →
      Okay X S a → S.g = get A → Runs (L.map Prod.snd) (get A) f → wpAny X.P .any ops Q fuel listed a S.w
  | 0, L, listed, S, a, A, hlen, hsz, hs, hl, hi, ho, hb, hd, K, hg, hr => by
    have : L = [] := List.eq_nil_of_length_eq_zero hlen
    subst this
    refine ⟨?_, hQ S a A K hg hr⟩
    rw [List.eq_nil_iff_forall_not_mem]
    intro i hm
    obtain ⟨h1, o, h2, _⟩ := mem_ready.1 hm
    have hlt2 : i < ops.size := (Array.getElem?_eq_some_iff.1 h2).1
    rw [getD_tf (by omega)] at h1
    obtain ⟨x, hx, _⟩ := (hl i hlt2).1 h1
    simp at hx
  | fuel + 1, L, listed, S, a, A, hlen, hsz, hs, hl, hi, ho, hb, hd, K, hg, hr => by
    cases L with
    | nil => simp at hlen
    | cons x0 L0 =>
      refine ⟨fun h0 => ?_, fun i hm => ?_⟩
      · exfalso
        have hx0 := hb x0 (by simp)
        obtain ⟨o, h2⟩ : ∃ o, ops[x0.1]? = some o := ⟨_, Array.getElem?_eq_getElem hx0⟩
        have hu := (hl x0.1 hx0).2 ⟨x0, by simp, rfl⟩
        have : x0.1 ∈ Region.ready .any ops listed := by
          refine mem_ready.2 ⟨by rw [getD_tf (by omega)]; exact hu, o, h2, fun e he hbe => ?_⟩
          have hj := hlt _ _ h2 e.on (mem_aft.2 ⟨e, he, hbe, rfl⟩)
          cases hc : listed.getD e.on false with
          | true => rfl
          | false =>
            obtain ⟨y, hy, hye⟩ := (hl e.on (by omega)).1 hc
            rcases List.mem_cons.1 hy with rfl | hy
            · omega
            · have := (List.pairwise_cons.1 hs).1 y hy
              omega
        rw [h0] at this
        simp at this
      · obtain ⟨h1, o, h2, h3⟩ := mem_ready.1 hm
        have hil : i < ops.size := (Array.getElem?_eq_some_iff.1 h2).1
        rw [getD_tf (by omega)] at h1
        obtain ⟨y, hy, hyi⟩ := (hl i hil).1 h1
        obtain ⟨L1, L2, hL⟩ := List.append_of_mem hy
        have haft : ∀ j ∈ aft o, listed.getD j false = true := fun j hj => by
          obtain ⟨e, he, hbe, rfl⟩ := mem_aft.1 hj
          exact h3 e he hbe
        have hanc : ∀ j, Anc ops j i → listed.getD j false = true := by
          intro j hj
          cases hj with
          | dir h hj => rw [h2] at h; cases h; exact haft _ hj
          | tr h hk ha => rw [h2] at h; cases h; exact anc_listed hd ha (haft _ hk)
        rw [hL] at hs hl hi ho hb hr hlen
        rw [List.pairwise_append] at hs hi
        obtain ⟨s1, s2, s3⟩ := hs
        obtain ⟨i1, i2, i3⟩ := hi
        rw [List.pairwise_cons] at s2 i2
        have hind : ∀ x ∈ L1, Ind x.2 y.2 := by
          intro x hx
          rcases i3 x hx y (by simp) with h | h
          · exfalso
            have h4 := hanc x.1 (by rw [← hyi]; exact h)
            have h5 := (hl x.1 (hb x (by simp [hx]))).2 ⟨x, by simp [hx], rfl⟩
            rw [h4] at h5
            cases h5
          · exact h
        rw [List.map_append, List.map_cons] at hr
        obtain ⟨hN, hr2⟩ := Runs.front (fun z hz => by obtain ⟨x, hx, rfl⟩ := List.mem_map.1 hz; exact hind x hx) hr
        rw [← List.map_append] at hr2
        subst hyi
        refine ho y (by simp) S a A K hg hN _ (fun S' a' A' K' g' e' => ?_)
        refine any_ok hlt hQ fuel (L1 ++ L2) (listed.setIfInBounds y.1 true) S' a' A' (by simp at hlen ⊢; omega) (by simpa using hsz) ?_ ?_ ?_ (fun x hx => ho x (by rcases List.mem_append.1 hx with h | h <;> simp [h])) (fun x hx => hb x (by rcases List.mem_append.1 hx with h | h <;> simp [h])) ?_ K' g' (by rw [e']; exact hr2)
        · exact List.pairwise_append.2 ⟨s1, s2.2, fun x hx z hz => s3 x hx z (List.mem_cons_of_mem _ hz)⟩
        · intro k hk
          by_cases hky : k = y.1
          · subst hky
            have e1 : (listed.setIfInBounds y.1 true).getD y.1 false = true := by simp [Array.getD_eq_getD_getElem?, hsz, hk]
            rw [e1]
            constructor
            · intro h; cases h
            · rintro ⟨x, hx, hxe⟩
              exfalso
              rcases List.mem_append.1 hx with h | h
              · have := s3 x h y (by simp); omega
              · have := s2.1 x h; omega
          · rw [getD_set_ne false (Ne.symm hky), hl k hk]
            constructor
            · rintro ⟨x, hx, hxe⟩
              refine ⟨x, ?_, hxe⟩
              rcases List.mem_append.1 hx with h | h
              · exact List.mem_append_left _ h
              · rcases List.mem_cons.1 h with rfl | h
                · exact (hky hxe.symm).elim
                · exact List.mem_append_right _ h
            · rintro ⟨x, hx, hxe⟩
              exact ⟨x, by rcases List.mem_append.1 hx with h | h <;> simp [h], hxe⟩
        · exact List.pairwise_append.2 ⟨i1, i2.2, fun x hx z hz => i3 x hx z (List.mem_cons_of_mem _ hz)⟩
        · intro k o' hk hkl j hj
          by_cases hky : k = y.1
          · subst hky
            rw [h2] at hk
            cases hk
            exact getD_set_true (haft j hj)
          · rw [getD_set_ne false (Ne.symm hky)] at hkl
            exact getD_set_true (hd k o' hk hkl j hj)
end
end Go.Proofs.Ytehkignjdbkeiaa.Vf
