/- Boxes: their cells, new ones, loads and stores. -/
import Derived.Test.YtehkignjdbkeiaaVk
import Derived.Laws.CopyRow
set_option linter.unusedVariables false
set_option linter.unusedSimpArgs false
namespace Go.Proofs.Ytehkignjdbkeiaa.Vf
open Go

def gput (g : Nat → Nat × Sv) (b j : Nat) (l : List Lf) : Nat → Nat × Sv := fun p => if C b j ≤ p ∧ p < C b j + l.length then ((g p).1 + 1, .one (l.getD (p - C b j) .dead)) else g p
def phput (ph : Nat → Value) (b j : Nat) (us : List Value) : Nat → Value := fun p => if C b j ≤ p ∧ p < C b j + us.length then us.getD (p - C b j) undef else ph p

theorem get_putCells (b : Nat) : ∀ (l : List Lf) (A : Ab) (j : Nat), get (ups A (putCells b j l)) = gput (get A) b j l
  | [], A, j => by
    funext p
    simp only [putCells, ups, gput, List.length_nil, Nat.add_zero]
    rw [if_neg (by omega)]
  | x :: l, A, j => by
    show get (ups (up A ⟨C b j, false, .one x⟩) (putCells b (j + 1) l)) = _
    rw [get_putCells b l _ (j + 1), get_up]
    have hc : C b (j + 1) = C b j + 1 := rfl
    funext p
    unfold gput
    rw [hc]
    simp only [List.length_cons]
    by_cases h1 : p = C b j
    · subst h1
      rw [if_neg (by omega), if_pos (by omega), upd_same]
      simp
    · rw [upd_ne _ _ h1]
      by_cases h2 : C b j + 1 ≤ p ∧ p < C b j + 1 + l.length
      · rw [if_pos h2, if_pos (by omega)]
        rw [show p - C b j = (p - (C b j + 1)) + 1 by omega, List.getD_cons_succ]
      · rw [if_neg h2, if_neg (by omega)]

/-- The names of what goes into a box's cells. -/
def boxH (b off : Nat) : Nat → List Nat → Option Lab := fun n q => if n = 0 then (match q with
  | [] => some (.pl (C b off) [])
  | [j] => some (.pl (C b (off + j)) [])
  | _ => none) else none

section
variable {X : Cx} {S S' : Sit} {a : Act} {E : En} {A : Ab} {o : Oper} {R : Type} {Kc : List Up → Option R} {r : R}

theorem LfsOk.at {P : Program} {f : Nat → Lab} : ∀ {j : Nat} {xs : List Lf} {us : List Value} (i : Nat), LfsOk P S f j xs us → i < xs.length → ∃ x u, xs.getD i .dead = x ∧ us.getD i undef = u ∧ us[i]? = some u ∧ LfOk P S (f (j + i)) x u
  | _, [], _, i, _, hi => by simp at hi
  | j, x :: xs, u :: us, 0, h, _ => ⟨x, u, rfl, rfl, rfl, h.1⟩
  | j, x :: xs, u :: us, i + 1, h, hi => by
    obtain ⟨x', u', h1, h2, h3, h4⟩ := h.2.at i (by simpa using hi)
    exact ⟨x', u', by simpa using h1, by simpa using h2, by simpa using h3, by rw [show j + (i + 1) = j + 1 + i by omega]; exact h4⟩
  | _, _ :: _, [], _, h, _ => h.elim

theorem heads_apart {b b' off n : Nat} (h : off + n ≤ 999) : ¬ (C b off ≤ H b' ∧ H b' < C b off + n) := by unfold C H; omega
theorem cells_apart {b b' off n j : Nat} (h : off + n ≤ 999) (hj : j < 999) (hne : b' ≠ b) : ¬ (C b off ≤ C b' j ∧ C b' j < C b off + n) := by unfold C; omega
theorem slots_apart {b off n t : Nat} (ht : t < 1000) : ¬ (C b off ≤ t ∧ t < C b off + n) := by unfold C; omega

def cellS (S : Sit) (hb : Nat → List Nat → Option Lab) (b off : Nat) (m : List Lf) (us : List Value) (w : World) : Sit :=
  { S with O := atO S.O hb, g := gput S.g b off m, ph := phput S.ph b off us, w := w }

/-- A box's cells get other contents. -/
theorem Okay.cells (K : Okay X S a) {b n off : Nat} {m : List Lf} {us : List Value} {q : Nat → List Nat} {c : Array Value} {e : TypeId} (hh : (S.g (H b)).2 = .one (.hd n)) (hoff : off + m.length ≤ n)
    (hc : S.w.heap[(S.bb b).1]? = some (.cells c e (0, 0))) (hl : LfsOk X.P S (fun j => .tm 0 (q j)) 0 m us) (hq : ∀ j, j < m.length → boxH b off 0 (q j) = some (.pl (C b (off + j)) [])) (hnh : ∀ k, .hd k ∉ m) :
    Okay X (cellS S (boxH b off) b off m us (S.w.setRow (S.bb b).1 (c.toList.take ((S.bb b).2 + off) ++ us ++ c.toList.drop ((S.bb b).2 + off + us.length)).toArray)) a ∧
    Later S (cellS S (boxH b off) b off m us (S.w.setRow (S.bb b).1 (c.toList.take ((S.bb b).2 + off) ++ us ++ c.toList.drop ((S.bb b).2 + off + us.length)).toArray)) := by
  obtain ⟨hn, c0, e0, h1, h2, h3, h4⟩ := K.box b n hh
  rw [hc] at h1
  cases h1
  have hlen := hl.len
  generalize hw : S.w.setRow (S.bb b).1 (c.toList.take ((S.bb b).2 + off) ++ us ++ c.toList.drop ((S.bb b).2 + off + us.length)).toArray = w'
  have hnew : w'.heap[(S.bb b).1]? = some (.cells (c.toList.take ((S.bb b).2 + off) ++ us ++ c.toList.drop ((S.bb b).2 + off + us.length)).toArray e (0, 0)) := by rw [← hw]; exact setRow_heap _ _ _ _ _ _ hc
  have hold : ∀ k, S.O k ≠ .bx b → w'.heap[k]? = S.w.heap[k]? := fun k hk => by
    rw [← hw]
    exact setRow_other _ _ _ _ (fun e => hk (e ▸ h2))
  have hsz : (c.toList.take ((S.bb b).2 + off) ++ us ++ c.toList.drop ((S.bb b).2 + off + us.length)).toArray.size = c.size := by
    simp only [List.size_toArray, List.length_append, List.length_take, List.length_drop, Array.length_toList]
    omega
  have hcell : ∀ i, (i < (S.bb b).2 + off ∨ (S.bb b).2 + off + us.length ≤ i) → (c.toList.take ((S.bb b).2 + off) ++ us ++ c.toList.drop ((S.bb b).2 + off + us.length)).toArray[i]? = c[i]? := by
    intro i hi
    have ht : (c.toList.take ((S.bb b).2 + off)).length = (S.bb b).2 + off := by rw [List.length_take, Array.length_toList]; omega
    rw [List.getElem?_toArray, ← Array.getElem?_toList]
    rcases hi with hi | hi
    · rw [List.append_assoc, List.getElem?_append_left (by omega), List.getElem?_take, if_pos hi]
    · rw [List.getElem?_append_right (by rw [List.length_append, ht]; omega), List.length_append, ht, List.getElem?_drop]
      congr 1
      omega
  have hcell2 : ∀ i, i < us.length → (c.toList.take ((S.bb b).2 + off) ++ us ++ c.toList.drop ((S.bb b).2 + off + us.length)).toArray[(S.bb b).2 + off + i]? = us[i]? := by
    intro i hi
    have ht : (c.toList.take ((S.bb b).2 + off)).length = (S.bb b).2 + off := by rw [List.length_take, Array.length_toList]; omega
    rw [List.getElem?_toArray, List.getElem?_append_left (by rw [List.length_append, ht]; omega), List.getElem?_append_right (by omega), ht]
    congr 1
    omega
  have gout : ∀ p, ¬ (C b off ≤ p ∧ p < C b off + m.length) → gput S.g b off m p = S.g p ∧ phput S.ph b off us p = S.ph p := fun p hp => by
    unfold gput phput
    rw [if_neg hp, if_neg (by rw [hlen]; exact hp)]
    exact ⟨rfl, rfl⟩
  have L : Later S (cellS S (boxH b off) b off m us w') := by
    refine ⟨fun p => ?_, fun p hp => ?_, fun p v e r xs' hp hv => ?_, fun _ _ => rfl, fun k hk => ⟨atO_other hk (by simp), hold k (by simp [hk])⟩⟩
    · show (S.g p).1 ≤ (gput S.g b off m p).1
      unfold gput
      split <;> simp
    · show phput S.ph b off us p = S.ph p
      by_cases hin : C b off ≤ p ∧ p < C b off + m.length
      · have : (gput S.g b off m p).1 = (S.g p).1 := hp
        unfold gput at this
        rw [if_pos hin] at this
        simp at this
      · exact (gout p hin).2
    · have hp' : gput S.g b off m p = (v, .one (.own e r xs')) := hp
      by_cases hin : C b off ≤ p ∧ p < C b off + m.length
      · unfold gput at hp'
        rw [if_pos hin] at hp'
        simp only [Prod.mk.injEq] at hp'
        omega
      · rw [(gout p hin).1] at hp'
        exact ⟨xs', hp', rfl⟩
  refine ⟨⟨K.nt, fun k hk => ?_, fun l => ?_, fun b' n' hb' => ?_, fun b' n' hb' => ?_, fun t ht => ?_, K.sz, K.df, ?_⟩, L⟩
  · have : k < S.w.heap.size := K.lt k (fun e => hk (atO_other e (by simp)))
    show k < w'.heap.size
    rw [← hw]
    simpa [World.setRow] using this
  · show SvOk X.P _ l (gput S.g b off m l).2 (phput S.ph b off us l)
    by_cases hin : C b off ≤ l ∧ l < C b off + m.length
    · obtain ⟨x, u, e1, e2, e3, e4⟩ := hl.at (l - C b off) (by omega)
      unfold gput phput
      rw [if_pos hin, if_pos (by rw [hlen]; exact hin), e1, e2]
      refine LfOk.later L e4 (fun k hk => ⟨?_, hold k (by simp [hk])⟩)
      rw [Nat.zero_add] at hk
      have := atO_tm (h := boxH b off) hk (hq _ (by omega))
      rwa [show C b (off + (l - C b off)) = l by have : C b (off + (l - C b off)) = C b off + (l - C b off) := by unfold C; omega
                                                 omega] at this
    · rw [(gout l hin).1, (gout l hin).2]
      exact (K.at_ l).later L (fun p k hk => ⟨atO_other hk (by simp), hold k (by simp [hk])⟩)
  · have e1 : (S.g (H b')).2 = .one (.hd n') := by
      have : (gput S.g b off m (H b')).2 = .one (.hd n') := hb'
      rwa [(gout _ (heads_apart (by omega))).1] at this
    obtain ⟨g1, c1, e2, g2, g3, g4, g5⟩ := K.box b' n' e1
    by_cases hbb : b' = b
    · subst hbb
      rw [hc] at g2
      cases g2
      rw [hh] at e1
      cases e1
      refine ⟨g1, _, _, hnew, atO_other g3 (by simp), by rw [hsz]; exact g4, fun j hj => ?_⟩
      show (_ : Array Value)[(S.bb b').2 + j]? = some (phput S.ph b' off us (C b' j))
      by_cases hin : C b' off ≤ C b' j ∧ C b' j < C b' off + m.length
      · have h5 : off ≤ j ∧ j < off + m.length := by unfold C at hin; omega
        have h6 : C b' j - C b' off = j - off := by unfold C; omega
        unfold phput
        rw [if_pos (by rw [hlen]; exact hin), h6, show (S.bb b').2 + j = (S.bb b').2 + off + (j - off) by omega, hcell2 _ (by omega)]
        rw [List.getD_eq_getElem?_getD, List.getElem?_eq_getElem (by omega)]
        rfl
      · rw [(gout _ hin).2, ← g5 j hj]
        refine hcell _ ?_
        unfold C at hin
        omega
    · have hne : S.O (S.bb b').1 ≠ .bx b := by rw [g3]; simp [hbb]
      refine ⟨g1, c1, e2, (hold _ hne).trans g2, atO_other g3 (by simp), g4, fun j hj => ?_⟩
      show _ = some (phput S.ph b off us (C b' j))
      rw [(gout _ (cells_apart (by omega) (by omega) hbb)).2]
      exact g5 j hj
  · have e1 : (S.g (H b')).2 = .one (.hd n') := by
      have : (gput S.g b off m (H b')).2 = .one (.hd n') := hb'
      rwa [(gout _ (heads_apart (by omega))).1] at this
    exact K.rgn b' n' e1
  · show a.tmps.getD t undef = phput S.ph b off us t
    rw [(gout _ (slots_apart (Nat.lt_of_lt_of_le ht K.nt))).2]
    exact K.sl t ht
  · have F := K.fr
    refine ⟨?_, ?_, ?_, ?_, fun k hk h0 => ?_, fun k hk h0 => ?_, fun k b' hk h0 => ?_⟩
    · rw [show (cellS S (boxH b off) b off m us w').w = w' from rfl, ← hw]; exact F.os
    · rw [show (cellS S (boxH b off) b off m us w').w = w' from rfl, ← hw]; exact F.tape
    · rw [show (cellS S (boxH b off) b off m us w').w = w' from rfl, ← hw]; exact F.out
    · show _ ≤ w'.heap.size
      rw [← hw]
      simpa [World.setRow] using F.size
    · obtain ⟨f1, f2⟩ := F.no k hk h0
      exact ⟨atO_other f1 (by simp), (hold k (by simp [f1])).trans f2⟩
    · obtain ⟨f1, f2⟩ := F.fz k hk h0
      exact ⟨atO_other f1 (by simp), (hold k (by simp [f1])).trans f2⟩
    · obtain ⟨f1, c1, c2, e1, f, f2, f3, f4, f5⟩ := F.bx k b' hk h0
      refine ⟨atO_other f1 (by simp), ?_⟩
      by_cases hbk : k = (S.bb b).1
      · subst hbk
        rw [h2] at f1
        cases f1
        rw [hc] at f3
        cases f3
        obtain ⟨r1, r2, r3⟩ := (K.rgn b n hh).1 hk
        refine ⟨c1, _, _, _, f2, hnew, hsz.trans f4, fun i hi => ?_⟩
        rw [hcell i (by omega)]
        exact f5 i hi
      · refine ⟨c1, c2, e1, f, f2, ?_, f4, f5⟩
        rw [← f3]
        show w'.heap[k]? = _
        rw [← hw]
        exact setRow_other _ _ _ _ hbk
end
end Go.Proofs.Ytehkignjdbkeiaa.Vf
