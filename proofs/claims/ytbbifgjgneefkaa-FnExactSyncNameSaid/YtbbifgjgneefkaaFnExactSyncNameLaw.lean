/- Part of the proof of the statement FnExactSyncName: what its code computes, read by an evaluator that is proved sound, answers as it says. -/
import Derived.Test.YtbbifgjgneefkaaRows
import Derived.Test.YtbbifgjgneefkaaMai
import Derived.Test.YtbbifgjgneefkaaMaj
import Derived.WalkKit
import Derived.ProofKit
import Derived.OpenShut
import Derived.ShutString
import Derived.ChangeOld
import Derived.Below
import Derived.SizedLaws
import Derived.Carry
import Derived.KernelRfl
namespace Go.Proofs.Ytbbifgjgneefkaa.fnExactSyncName
open Go.ChangeShapes Go.WideShapes Go.ChangeAt Go.RowKit Go.Proofs.Ytbbifgjgneefkaa.Vf
set_option linter.unusedVariables false
theorem own : ownKnob Try.prog.godebug = none := by kernel_rfl
theorem laidOut : laidOutB Try.prog = true := by kernel_rfl
set_option maxRecDepth 100000 in
theorem lifted (os : Os) (started : os.Started) (H : Type) (enc : TypeId × Value → H) :
  ReturnsInHanded {} Try.checked os 4 .any (Rows.fnExactSyncNameSpec.pre6 enc Try.prog Try.f4 Rows.fnExactSyncNameRow.domain false) (Rows.fnExactSyncNameSpec.post enc Try.prog Try.f4 false true false false) := by
 refine returnsInHanded_of_change_sized (C := Try.checked) own started (by kernel_rfl) Try.func4
  (ChangeSpec.witness6 (enc := enc) (C := Try.checked) false ⟨#[], #[.agg #[.slice none 0 0, .slice none 0 0], .string ByteArray.empty], []⟩ 8 (by kernel_rfl) (by kernel_rfl) (by kernel_rfl) (by kernel_rfl)) ?_
 intro W base args ds gs before hval0 hW hcnd hsz0 _
 have hsz : (DataW.weightsEach Try.prog (Try.f4.params.toList ++ Rows.fnExactSyncNameSpec.plain.varTypes Try.prog) (ds ++ gs)).all (· ≤ reachBytes) = true := hsz0
 have hval : ∀ (j : Nat) t v, Try.f4.params[j]? = some t → args[j]? = some v → Value.okWide Try.prog W .any base t v := hval0
 have hW' := hW
 obtain ⟨p, q, hA0, hV, rfl, hfz, hnd⟩ := hW
 have hA : DataW.TrodAll enc Try.prog W 0 (fun _ => true) true Try.f4.params.toList args.toList ds p := hA0
 rw [Try.params4] at hA hval hsz
 obtain ⟨v0, vs0, d0, ds0, p0, q0, hargs, rfl, rfl, h0, r0⟩ := trodAll_cons hA
 obtain ⟨v1, vs1, d1, ds1, p1, q1, rfl, rfl, rfl, h1, r1⟩ := trodAll_cons r0
 obtain ⟨rfl, rfl, rfl⟩ := trodAll_nil r1
 obtain rfl : args = #[v0, v1] := by cases args; simp_all
 obtain ⟨rfl, rfl⟩ := trodVars_none hV
 have lt0 : ∀ x ∈ p0, x.block < W.heap.size := by obtain ⟨m, hm⟩ := h0; exact DataW.trod_lt m _ _ _ hm
 obtain ⟨X0, c0, e0, o0, f0⟩ := Tu Iza J0a (T := 24) (t := ⟨(.pr (.sl 80 (.pr .s (.sl 5 (.i .u8)))) (.sl 80 (.pr .s (.sl 5 (.i .u8))))), true, 48, [(0, 1, false), (1, 1, false)]⟩) rfl (hval 0 24 v0 rfl rfl) h0 hsz (j := 0) rfl rfl
 have lt1 : ∀ x ∈ p1, x.block < W.heap.size := by obtain ⟨m, hm⟩ := h1; exact DataW.trod_lt m _ _ _ hm
 obtain ⟨X1, c1, e1, o1, f1⟩ := Tu Iza J0a (T := 9) (t := ⟨.s, false, 16, []⟩) rfl (hval 1 9 v1 rfl rfl) h1 hsz (j := 1) rfl rfl
 clear hA0 hval0 hsz0 hsz
 obtain ⟨k, hk⟩ := Pure.FnExactSyncName X0 X1 f0 f1
 refine (D2a (Ap.s k).sound (us := [v0, v1]) (Cza.cons rfl e0 o0 (Cza.cons rfl e1 o1 Cza.nil)) rfl (r := (true : Bool)) hk rfl ⟨[], rfl⟩).mono fun e W' ⟨he, bel⟩ => ?_
 subst he
 exact ⟨_, rfl, _, _, _, [], _, [], hW', trodAll_mk1 (shut_bool Try.underlying4 _), (trodAll_cons_mk (Below.trod laidOut (by kernel_rfl) (of_decide_eq_true (by kernel_rfl)) h0 bel lt0) (trodAll_cons_mk (Below.trod laidOut (by kernel_rfl) (of_decide_eq_true (by kernel_rfl)) h1 bel lt1) trodAll_mk0)), rfl, bel.frame _, fun h => by cases h⟩
theorem over : Rows.fnExactSyncNameRow.holds Try.pinned (OpenSpec.ofChange Rows.fnExactSyncNameSpec) :=
 OpenClaim.holds_of_wide 4 Try.f4 rfl rfl rfl rfl rfl rfl rfl ⟨rfl, rfl, rfl, rfl, rfl⟩ rfl rfl rfl rfl rfl (by kernel_rfl) Try.func4 (by kernel_rfl)
  (of_decide_eq_true (by kernel_rfl)) (by unfold Func.isWrapper; first | (rw [if_pos (by decide +kernel)]; kernel_rfl) | (rw [if_neg (by decide +kernel)]; exact ⟨rfl, rfl⟩))
  (fun os started H enc _ => lifted os started H enc)
theorem proved : Rows.FnExactSyncNameSaid := over
#print axioms proved
end Go.Proofs.Ytbbifgjgneefkaa.fnExactSyncName
namespace Go.Proofs.Ytbbifgjgneefkaa
theorem fnExactSyncName_holds : Rows.FnExactSyncNameSaid := fnExactSyncName.proved
end Go.Proofs.Ytbbifgjgneefkaa
