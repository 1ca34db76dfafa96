/- What a drawn listing is: short names, at most six rows. -/
import Derived.Test.YtehkignjdbkeiaaYi
set_option linter.unusedVariables false
namespace Go.Proofs.Ytehkignjdbkeiaa.Vf
open Go

theorem drawn_short : ∀ s ∈ drawnNames, Short s ∧ nameOk s = true := by
  intro s hs
  simp only [drawnNames, List.mem_cons, List.not_mem_nil, or_false] at hs
  rcases hs with rfl | rfl | rfl | rfl | rfl | rfl <;> exact ⟨by unfold Short; decide, by decide⟩

theorem rowIn_ok {x : Row} (h : RowIn x) : rowOk x = true := by
  obtain ⟨h1, ⟨t0, t1, s0, s1, n0, n1⟩, h3, h4, h5⟩ := h
  unfold rowOk stampOk
  rw [(drawn_short x.1 h1).2, inR_iff.2 ⟨t0, t1⟩, inR_iff.2 ⟨s0, s1⟩, inR_iff.2 ⟨n0, n1⟩, inR_iff.2 ⟨h3, by omega⟩]
  cases hd : x.2.2.1 with
  | false => rfl
  | true => rw [h5 hd]; rfl

theorem l11Any_short (c : Cur) (hc : CurOk c) : Tot (fun k => spec_l11Any k c) (fun r => CurOk r.2 ∧ r.1.length ≤ 6 ∧ AllShort r.1) := by
  unfold spec_l11Any
  refine Tot.bind (l11Draw_tot c hc) (fun r hr => ?_)
  obtain ⟨k1, hr1, hl⟩ := hr
  have hsh : AllShort r.1 := fun q hq => (drawn_short q.1 (hr1.2 q hq).1).1
  obtain ⟨x, c', e, _, _, _, k2⟩ := l1Below_ok r.2 k1 8 (by decide)
  refine Tot.bind (Tot.of (Q := fun r => r = (x, c')) e rfl) ?_
  rintro y rfl
  refine Tot.ite (fun _ => ?_) (fun _ => ?_)
  · refine Tot.bind (l11One_tot c' k2) (fun z hz => ?_)
    refine Tot.ble (by simp only [List.length_cons, List.length_nil]; omega) (Tot.pure ⟨hz.2, ?_, ?_⟩)
    · show (r.1 ++ [z.1]).length ≤ 6
      simp only [List.length_append, List.length_cons, List.length_nil]
      omega
    · intro q hq
      rcases List.mem_append.1 hq with hq | hq
      · exact hsh q hq
      · simp only [List.mem_singleton] at hq
        subst hq
        exact (drawn_short _ hz.1.1).1
  · refine Tot.ite (fun _ => ?_) (fun _ => Tot.pure ⟨k2, by show r.1.length ≤ 6; omega, hsh⟩)
    refine Tot.dite (fun h => ?_) (fun h => Tot.pure ⟨k2, by show r.1.length ≤ 6; omega, hsh⟩)
    obtain ⟨v, c3, e3, _, k3⟩ := l1Int_ok c' k2 [(-1), 201, 200] (by decide) (by decide)
    refine Tot.bind (Tot.of (Q := fun r => r = (v, c3)) e3 rfl) ?_
    rintro z rfl
    refine Tot.dec (by omega) (Tot.pure ⟨k3, ?_, ?_⟩)
    · show (List.set r.1 _ _).length ≤ 6
      rw [List.length_set]
      omega
    · intro q hq
      rcases List.mem_or_eq_of_mem_set hq with hq | rfl
      · exact hsh q hq
      · have hpos : Int.toNat 0 < r.1.length := by show 0 < _; omega
        have h1 : Short (r.1.getD (Int.toNat 0) row0).1 := hsh _ (getD_mem' (d := row0) hpos)
        exact h1


end Go.Proofs.Ytehkignjdbkeiaa.Vf
