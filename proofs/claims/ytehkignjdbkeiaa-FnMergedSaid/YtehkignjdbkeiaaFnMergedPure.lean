/- The law FnMerged, in plain Lean: drawn listings merged either way are the same; merged again nothing changes; of three it does not matter which come first. -/
import Derived.Test.YtehkignjdbkeiaaXs
import Derived.Test.YtehkignjdbkeiaaYj
set_option linter.unusedVariables false
namespace Go.Proofs.Ytehkignjdbkeiaa.Pure
open Go Go.RowKit Go.Proofs.Ytehkignjdbkeiaa.Vf

theorem FnMerged : ∀ (a0 : List Int), Ty.fit ti (.sl 5 (.i .u8)) a0 → ∃ k, laws_FnMerged k a0 = some true := by
  intro a0 _
  refine Tot.law (f := fun k => laws_FnMerged k a0) ?_
  unfold laws_FnMerged laws_big
  refine Tot.bind (Tot.pure (Q := fun b => b = decide ((List.length a0 : Int) > 1048576)) rfl) ?_
  rintro b rfl
  refine Tot.dite (fun _ => Tot.pure rfl) (fun hb => ?_)
  have hd : Tot (fun k => spec_DrawRows k a0) (fun r => (RowsIn r.1 ∧ r.1.length ≤ 5) ∧ (RowsIn r.2 ∧ r.2.length ≤ 5)) := by
    unfold spec_DrawRows
    refine Tot.bind (l1New_tot a0 (by omega)) (fun c hc => ?_)
    refine Tot.bind (l11Draw_tot c hc) (fun r hr => ?_)
    exact Tot.bind (l11Draw_tot r.2 hr.1) (fun q hq => Tot.pure ⟨hr.2, hq.2⟩)
  have hd2 : Tot (fun k => spec_DrawMergeRows k a0) (fun r => r.1.length ≤ 6 ∧ AllShort r.1) := by
    unfold spec_DrawMergeRows
    refine Tot.bind (l1New_tot a0 (by omega)) (fun c hc => ?_)
    refine Tot.bind (l11Any_short c hc) (fun r hr => ?_)
    exact Tot.bind (l11Any_short r.2 hr.1) (fun q hq => Tot.pure hr.2)
  refine Tot.bind hd (fun ab hab => ?_)
  obtain ⟨⟨⟨sa, ina⟩, la⟩, ⟨sb, inb⟩, lb⟩ := hab
  refine Tot.bind hd2 (fun cc hcc => ?_)
  obtain ⟨lc, shc⟩ := hcc
  obtain ⟨a, b⟩ := ab
  obtain ⟨c, c'⟩ := cc
  simp only at sa ina la sb inb lb lc shc ⊢
  have lm := mrgs_len a b
  have hcomm := mrgs_comm sa sb
  refine Tot.bind (implMerges a b (by omega)) ?_
  rintro m rfl
  refine Tot.bind (implMerges b a (by omega)) ?_
  rintro m rfl
  refine Tot.bind (sameRows_tot (mrgs a b) (mrgs b a) (by unfold Few; omega) (by rw [← hcomm]; unfold Few; omega)) ?_
  rintro e rfl
  refine Tot.no (by rw [decide_eq_true hcomm]; rfl) ?_
  refine Tot.bind (implMerges (mrgs a b) b (by omega)) ?_
  rintro m rfl
  have hidem := mrgs_idem sa sb
  refine Tot.bind (sameRows_tot (mrgs (mrgs a b) b) (mrgs a b) (by rw [hidem]; unfold Few; omega) (by unfold Few; omega)) ?_
  rintro e rfl
  refine Tot.no (by rw [decide_eq_true hidem]; rfl) ?_
  have inm : ∀ r ∈ mrgs a b, RowIn r := fun r hr => (mem_mrgs hr).elim (ina r) (inb r)
  have shm : AllShort (mrgs a b) := fun r hr => (drawn_short r.1 (inm r hr).1).1
  refine Tot.bind (implRows (mrgs a b) (by unfold Few; omega) shm) ?_
  rintro e rfl
  have hok : rowsOk (mrgs a b) = true := rowsOk_iff.2 ⟨mrgs_sorted sa, fun r hr => rowIn_ok (inm r hr), by omega⟩
  refine Tot.no (by rw [hok]; rfl) ?_
  refine Tot.ndec (by omega) ?_
  rw [w64 (n := (a.length : Int) + (b.length : Int)) (by omega) (by omega)]
  refine Tot.ndec (by omega) ?_
  refine Tot.bind (specRows c (by unfold Few; omega) shc) ?_
  rintro e rfl
  refine Tot.ite (fun hc => ?_) (fun hc => ?_)
  · refine Tot.bind (implRows c (by unfold Few; omega) shc) ?_
    rintro e rfl
    exact Tot.pure hc
  · have hc' : rowsOk c = true := by
      cases h : rowsOk c with
      | true => rfl
      | false => rw [h] at hc; cases hc
    have sc := (rowsOk_iff.1 hc').1
    have lbc := mrgs_len b c
    refine Tot.bind (implMerges (mrgs a b) c (by omega)) ?_
    rintro m rfl
    refine Tot.bind (implMerges b c (by omega)) ?_
    rintro m rfl
    refine Tot.bind (implMerges a (mrgs b c) (by omega)) ?_
    rintro m rfl
    have hassoc := mrgs_assoc sa sb sc
    have l1 := mrgs_len (mrgs a b) c
    refine Tot.bind (sameRows_tot (mrgs (mrgs a b) c) (mrgs a (mrgs b c)) (by unfold Few; omega) (by rw [← hassoc]; unfold Few; omega)) ?_
    rintro e rfl
    exact Tot.pure (decide_eq_true hassoc)

end Go.Proofs.Ytehkignjdbkeiaa.Pure
