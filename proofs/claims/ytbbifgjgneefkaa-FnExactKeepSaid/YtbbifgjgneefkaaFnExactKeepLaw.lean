/- Part of the proof of the statement FnExactKeep: what its code computes, read by an evaluator that is proved sound, answers as it says. -/
import Derived.Test.YtbbifgjgneefkaaRows
import Derived.Test.YtbbifgjgneefkaaMaj
import Derived.Test.YtbbifgjgneefkaaMal
import Derived.WalkKit
import Derived.ProofKit
import Derived.OpenShut
import Derived.ShutString
import Derived.ChangeOld
import Derived.Below
import Derived.SizedLaws
import Derived.Carry
import Derived.KernelRfl
namespace Go.Proofs.Ytbbifgjgneefkaa.fnExactKeep
open Go.ChangeShapes Go.WideShapes Go.ChangeAt Go.RowKit Go.Proofs.Ytbbifgjgneefkaa.Vf
set_option linter.unusedVariables false
theorem own : ownKnob Try.prog.godebug = none := by kernel_rfl
theorem laidOut : laidOutB Try.prog = true := by kernel_rfl
set_option maxRecDepth 100000 in
theorem lifted (os : Os) (started : os.Started) (H : Type) (enc : TypeId × Value → H) :
  ReturnsInHanded {} Try.checked os 5 .any (Rows.fnExactKeepSpec.pre6 enc Try.prog Try.f5 Rows.fnExactKeepRow.domain false) (Rows.fnExactKeepSpec.post enc Try.prog Try.f5 false true false false) := by
 refine returnsInHanded_of_change_sized (C := Try.checked) own started (by kernel_rfl) Try.func5
  (ChangeSpec.witness6 (enc := enc) (C := Try.checked) false ⟨#[], #[.agg #[.slice none 0 0, .slice none 0 0], .string ByteArray.empty, .agg #[.int .i64 0, .int .i64 0, .int .i64 0, .bool false, .slice none 0 0], .bool false], []⟩ 8 (by kernel_rfl) (by kernel_rfl) (by kernel_rfl) (by kernel_rfl)) ?_
 intro W base args ds gs before hval0 hW hcnd hsz0 _
 have hsz : (DataW.weightsEach Try.prog (Try.f5.params.toList ++ Rows.fnExactKeepSpec.plain.varTypes Try.prog) (ds ++ gs)).all (· ≤ reachBytes) = true := hsz0
 have hval : ∀ (j : Nat) t v, Try.f5.params[j]? = some t → args[j]? = some v → Value.okWide Try.prog W .any base t v := hval0
 have hW' := hW
 obtain ⟨p, q, hA0, hV, rfl, hfz, hnd⟩ := hW
 have hA : DataW.TrodAll enc Try.prog W 0 (fun _ => true) true Try.f5.params.toList args.toList ds p := hA0
 rw [Try.params5] at hA hval hsz
 obtain ⟨v0, vs0, d0, ds0, p0, q0, hargs, rfl, rfl, h0, r0⟩ := trodAll_cons hA
 obtain ⟨v1, vs1, d1, ds1, p1, q1, rfl, rfl, rfl, h1, r1⟩ := trodAll_cons r0
 obtain ⟨v2, vs2, d2, ds2, p2, q2, rfl, rfl, rfl, h2, r2⟩ := trodAll_cons r1
 obtain ⟨v3, vs3, d3, ds3, p3, q3, rfl, rfl, rfl, h3, r3⟩ := trodAll_cons r2
 obtain ⟨rfl, rfl, rfl⟩ := trodAll_nil r3
 obtain rfl : args = #[v0, v1, v2, v3] := by cases args; simp_all
 obtain ⟨rfl, rfl⟩ := trodVars_none hV
 have lt0 : ∀ x ∈ p0, x.block < W.heap.size := by obtain ⟨m, hm⟩ := h0; exact DataW.trod_lt m _ _ _ hm
 obtain ⟨X0, c0, e0, o0, f0⟩ := Nd Mya Mza (T := 24) (t := ⟨(.pr (.sl 80 (.pr .s (.sl 5 (.i .u8)))) (.sl 80 (.pr .s (.sl 5 (.i .u8))))), true, 48, [(0, 1, false), (1, 1, false)]⟩) rfl (hval 0 24 v0 rfl rfl) h0 hsz (j := 0) rfl rfl
 have lt1 : ∀ x ∈ p1, x.block < W.heap.size := by obtain ⟨m, hm⟩ := h1; exact DataW.trod_lt m _ _ _ hm
 obtain ⟨X1, c1, e1, o1, f1⟩ := Nd Mya Mza (T := 9) (t := ⟨.s, false, 16, []⟩) rfl (hval 1 9 v1 rfl rfl) h1 hsz (j := 1) rfl rfl
 have lt2 : ∀ x ∈ p2, x.block < W.heap.size := by obtain ⟨m, hm⟩ := h2; exact DataW.trod_lt m _ _ _ hm
 obtain ⟨X2, c2, e2, o2, f2⟩ := Nd Mya Mza (T := 44) (t := ⟨(.pr (.pr (.i .i64) (.pr (.i .i64) (.i .i64))) (.pr .b (.sl 5 (.i .u8)))), true, 56, [(0, 3, true), (3, 1, false), (4, 1, false)]⟩) rfl (hval 2 44 v2 rfl rfl) h2 hsz (j := 2) rfl rfl
 have lt3 : ∀ x ∈ p3, x.block < W.heap.size := by obtain ⟨m, hm⟩ := h3; exact DataW.trod_lt m _ _ _ hm
 obtain ⟨X3, c3, e3, o3, f3⟩ := Nd Mya Mza (T := 4) (t := ⟨.b, false, 1, []⟩) rfl (hval 3 4 v3 rfl rfl) h3 hsz (j := 3) rfl rfl
 clear hA0 hval0 hsz0 hsz
 obtain ⟨k, hk⟩ := Pure.FnExactKeep X0 X1 X2 X3 f0 f1 f2 f3
 refine (Hba (Cd.s k).sound (us := [v0, v1, v2, v3]) (Eda.cons rfl e0 o0 (Eda.cons rfl e1 o1 (Eda.cons rfl e2 o2 (Eda.cons rfl e3 o3 Eda.nil)))) rfl (r := (true : Bool)) hk rfl ⟨[], rfl⟩).mono fun e W' ⟨he, bel⟩ => ?_
 subst he
 exact ⟨_, rfl, _, _, _, [], _, [], hW', trodAll_mk1 (shut_bool Try.underlying4 _), (trodAll_cons_mk (Below.trod laidOut (by kernel_rfl) (of_decide_eq_true (by kernel_rfl)) h0 bel lt0) (trodAll_cons_mk (Below.trod laidOut (by kernel_rfl) (of_decide_eq_true (by kernel_rfl)) h1 bel lt1) (trodAll_cons_mk (Below.trod laidOut (by kernel_rfl) (of_decide_eq_true (by kernel_rfl)) h2 bel lt2) (trodAll_cons_mk (Below.trod laidOut (by kernel_rfl) (of_decide_eq_true (by kernel_rfl)) h3 bel lt3) trodAll_mk0)))), rfl, bel.frame _, fun h => by cases h⟩
theorem over : Rows.fnExactKeepRow.holds Try.pinned (OpenSpec.ofChange Rows.fnExactKeepSpec) :=
 OpenClaim.holds_of_wide 5 Try.f5 rfl rfl rfl rfl rfl rfl rfl ⟨rfl, rfl, rfl, rfl, rfl⟩ rfl rfl rfl rfl rfl (by kernel_rfl) Try.func5 (by kernel_rfl)
  (of_decide_eq_true (by kernel_rfl)) (by unfold Func.isWrapper; first | (rw [if_pos (by decide +kernel)]; kernel_rfl) | (rw [if_neg (by decide +kernel)]; exact ⟨rfl, rfl⟩))
  (fun os started H enc _ => lifted os started H enc)
theorem proved : Rows.FnExactKeepSaid := over
#print axioms proved
end Go.Proofs.Ytbbifgjgneefkaa.fnExactKeep
namespace Go.Proofs.Ytbbifgjgneefkaa
theorem fnExactKeep_holds : Rows.FnExactKeepSaid := fnExactKeep.proved
end Go.Proofs.Ytbbifgjgneefkaa
