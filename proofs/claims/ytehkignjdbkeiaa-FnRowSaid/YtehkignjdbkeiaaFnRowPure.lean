/- The law FnRow, in plain Lean: a row merged into a drawn listing is there, or a later one of its name. -/
import Derived.Test.YtehkignjdbkeiaaXs
import Derived.Test.YtehkignjdbkeiaaYd
set_option linter.unusedVariables false
namespace Go.Proofs.Ytehkignjdbkeiaa.Pure
open Go Go.RowKit Go.Proofs.Ytehkignjdbkeiaa.Vf

theorem fnRow_l9 (l m : List Row) (x : Row) (hf : Few m) : ∀ (n i : Nat) (inn : Bool), m.length - i = n → i ≤ m.length →
    Tot (fun k => laws_FnRow_l9 k l m inn (i : Int) x.1 x.2.1.1 x.2.1.2.1 x.2.1.2.2 x.2.2.1 x.2.2.2) (fun r => r = (l, m, inn || (m.drop i).any fun r => teq r.1 x.1 && !(sle r.2.1 x.2.1))) := by
  unfold Few at hf
  intro n
  induction n with
  | zero =>
    intro i inn hn hi
    refine Tot.succ ?_
    simp only [laws_FnRow_l9]
    refine Tot.ndec (by omega) (Tot.pure ?_)
    rw [List.drop_of_length_le (by omega)]
    simp
  | succ n ih =>
    intro i inn hn hi
    have hlt : i < m.length := by omega
    refine Tot.succ ?_
    simp only [laws_FnRow_l9]
    rw [w64 (n := (i : Int) + 1) (by omega) (by omega), show Int.toNat (i : Int) = i from Int.toNat_natCast i]
    rw [drop_cons (d := row0) hlt, List.any_cons]
    refine Tot.dec (by omega) ?_
    refine Tot.ite (fun hb => ?_) (fun hb => ?_)
    · refine (ih (i + 1) true (by omega) (by omega)).mono ?_
      rintro r rfl
      rw [hb]
      simp
    · refine Tot.dec (by omega) (Tot.dec (by omega) ?_)
      refine Tot.ite (fun ht => ?_) (fun ht => ?_)
      · have ht' : teq (m.getD i row0).1 x.1 = true := ht
        refine Tot.dec (by omega) (Tot.dec (by omega) ?_)
        refine Tot.bind (Tot.of (Q := fun r => r = sle (m.getD i row0).2.1 x.2.1) (implLess _ _) rfl) ?_
        rintro b rfl
        refine (ih (i + 1) _ (by omega) (by omega)).mono ?_
        rintro r rfl
        rw [hb, ht']
        simp
      · have ht' : teq (m.getD i row0).1 x.1 = false := ht
        refine (ih (i + 1) false (by omega) (by omega)).mono ?_
        rintro r rfl
        rw [hb, ht']
        simp

theorem FnRow : ∀ (a0 : List Int), Ty.fit ti (.sl 5 (.i .u8)) a0 → ∃ k, laws_FnRow k a0 = some true := by
  intro a0 _
  refine Tot.law (f := fun k => laws_FnRow k a0) ?_
  unfold laws_FnRow laws_big
  refine Tot.bind (Tot.pure (Q := fun b => b = decide ((List.length a0 : Int) > 1048576)) rfl) ?_
  rintro b rfl
  refine Tot.dite (fun _ => Tot.pure rfl) (fun hb => ?_)
  -- what is drawn
  have hd : Tot (fun k => spec_DrawMergeRow k a0) (fun r => r.1.length ≤ 6) := by
    unfold spec_DrawMergeRow
    refine Tot.bind (l1New_tot a0 (by omega)) (fun c hc => ?_)
    refine Tot.bind (l11Any_tot c hc) (fun r hr => ?_)
    exact Tot.bind (l11One_tot r.2 hr.1) (fun q hq => Tot.pure hr.2)
  refine Tot.bind hd (fun r hl => ?_)
  have hf : Few r.1 := by unfold Few; omega
  have hlen := mrg_len r.1 r.2
  have hf2 : Few (mrg r.1 r.2) := by unfold Few; omega
  refine Tot.bind (implMerge r.1 r.2 hf) ?_
  rintro m rfl
  refine Tot.bind (specMerge r.1 r.2 hf) ?_
  rintro m rfl
  refine Tot.bind (sameRows_tot _ _ hf2 hf2) ?_
  rintro e rfl
  refine Tot.no (by simp) ?_
  refine Tot.bind (fnRow_l9 r.1 (mrg r.1 r.2) r.2 hf2 _ 0 false rfl (Nat.zero_le _)) ?_
  rintro q rfl
  have hin : (false || ((mrg r.1 r.2).drop 0).any fun q => teq q.1 r.2.1 && !(sle q.2.1 r.2.2.1)) = true := by
    obtain ⟨q, h1, h2, h3⟩ := mrg_has r.1 r.2
    rw [Bool.false_or, List.drop_zero, List.any_eq_true]
    exact ⟨q, h1, by rw [teq_iff.2 h2, h3]; rfl⟩
  refine Tot.yes hin ?_
  refine Tot.dec (show ((mrg r.1 r.2).length : Int) ≥ (r.1.length : Int) by omega) (Tot.pure ?_)
  rw [w64 (n := (r.1.length : Int) + 1) (by omega) (by omega)]
  exact decide_eq_true (show ((mrg r.1 r.2).length : Int) ≤ (r.1.length : Int) + 1 by omega)

end Go.Proofs.Ytehkignjdbkeiaa.Pure
