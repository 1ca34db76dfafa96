import Derived.Test.YtehkignjdbkeiaaMal
import Derived.Test.YtehkignjdbkeiaaVr
namespace Go.Proofs.Ytehkignjdbkeiaa.Vf
open Go Go.Proofs
set_option linter.unusedVariables false
set_option linter.unusedSimpArgs false
def keys : List Nat := [2, 3, 4, 5, 6, 7, 8, 9, 10, 11, 12, 13, 14, 21, 22, 24, 25, 26, 27, 28, 38, 39, 40, 42, 43, 44, 62, 72, 73, 74, 75, 81, 82, 90, 91, 92, 114, 126, 128, 129, 153, 154, 158, 166, 175, 182, 183, 186, 187]
theorem ti_mem {T : TypeId} {t : TI} (h : ti T = some t) : T ∈ keys := by
 unfold ti at h
 split at h <;> first | (cases h; done) | (show _ ∈ keys; decide)
theorem tab : (keys.all fun T => (match ti T with | some t => tokB Try.prog T t | none => true) && closeB Try.prog ti T) = true := by kernel_rfl
theorem tiOk : ∀ T t, ti T = some t → TOk Try.prog T t := fun T t h => by
 have h1 := List.all_eq_true.1 tab T (ti_mem h)
 rw [Bool.and_eq_true, h] at h1
 exact tok_of _ _ _ h1.1
theorem tiCl : ∀ T, closeB Try.prog ti T = true := fun T => by
 cases h : ti T with
 | none => unfold closeB; rw [h]
 | some t =>
  have h1 := List.all_eq_true.1 tab T (ti_mem h)
  rw [Bool.and_eq_true] at h1
  exact h1.2
theorem eqOk : ∀ T, eqs T = true → eqB Try.prog ti 9 T = true ∧ (match ti T with | some t => t.ag | none => false) = true ∧ Program.eqGuardType Try.prog (Program.depth Try.prog) T = false := fun T h => by
 have h0 : (eqsL.all fun T => eqB Try.prog ti 9 T && (match ti T with | some t => t.ag | none => false) && !(Program.eqGuardType Try.prog (Program.depth Try.prog) T)) = true := by kernel_rfl
 have h1 := List.all_eq_true.1 h0 T (List.elem_iff.1 h)
 simp only [Bool.and_eq_true, Bool.not_eq_true'] at h1
 exact ⟨h1.1.1, h1.1.2, h1.2⟩
theorem mixed : Try.prog.follows .mixedOrders = true := by kernel_rfl
theorem laws_big.v (k : Nat) {X : Cx} (hP : X.P = Try.prog) (hn : X.nt = Try.f15.ntmps) (hp : X.np = 1) : EnvOk X (laws_big.n k) :=
 env_ok hP (Eq.trans (by kernel_rfl) hn.symm) (Eq.trans rfl hp.symm) rfl rfl tiOk eqOk (fun f en h => by cases h)
theorem laws_big.s (k : Nat) : CallOk Try.prog 15 (laws_big.e k) := ⟨⟨Try.f15, Try.func15, by kernel_rfl, by kernel_rfl⟩, body_sound (fn := Try.f15) (c := (Try.f15.body.getD .skip)) Try.func15 (by kernel_rfl) (Nat.le_of_ble_eq_true (by kernel_rfl)) (Nat.le_of_ble_eq_true (by kernel_rfl)) (fun X hP hn hp => laws_big.v k hP hn hp) (fun X hP hn hp => draw_ok (laws_big.v k hP hn hp) (by rw [hP]; exact mixed)) (fun X hP hn hp => loops_all _ (by
   have e : allLoops (Try.f15.body.getD .skip) = [] := by kernel_rfl
   rw [e]
   intro d hd
   exact absurd hd (List.not_mem_nil))) rfl (fun x => laws_big.ok k x)⟩
theorem spec_l1New.v (k : Nat) {X : Cx} (hP : X.P = Try.prog) (hn : X.nt = Try.f68.ntmps) (hp : X.np = 1) : EnvOk X (spec_l1New.n k) :=
 env_ok hP (Eq.trans (by kernel_rfl) hn.symm) (Eq.trans rfl hp.symm) rfl rfl tiOk eqOk (fun f en h => by cases h)
theorem spec_l1New_l3.s {X : Cx} (hP : X.P = Try.prog) (hn : X.nt = Try.f68.ntmps) (hp : X.np = 1) : ∀ k, LoopOk X (spec_l1New_l3.p k) (loopAt 3 (Try.f68.body.getD .skip)) :=
 loop_ok (f := fun k x => (spec_l1New_l3.p k).run x) (En' := spec_l1New.n) (fun x => rfl) (fun k x => spec_l1New_l3.ok k x) (fun k => spec_l1New.v k hP hn hp) (fun k => draw_ok (spec_l1New.v k hP hn hp) (by rw [hP]; exact mixed)) (fun k => loops_all _ (by
   have e : allLoops (loopAt 3 (Try.f68.body.getD .skip)) = [] := by kernel_rfl
   rw [e]
   intro d hd
   exact absurd hd (List.not_mem_nil)))
theorem spec_l1New.s (k : Nat) : CallOk Try.prog 68 (spec_l1New.e k) := ⟨⟨Try.f68, Try.func68, by kernel_rfl, by kernel_rfl⟩, body_sound (fn := Try.f68) (c := (Try.f68.body.getD .skip)) Try.func68 (by kernel_rfl) (Nat.le_of_ble_eq_true (by kernel_rfl)) (Nat.le_of_ble_eq_true (by kernel_rfl)) (fun X hP hn hp => spec_l1New.v k hP hn hp) (fun X hP hn hp => draw_ok (spec_l1New.v k hP hn hp) (by rw [hP]; exact mixed)) (fun X hP hn hp => loops_mk (b := (Try.f68.body.getD .skip)) [3] (by kernel_rfl) (by kernel_rfl) (by
   intro l hl L hL
   simp only [List.mem_cons, List.not_mem_nil, or_false] at hl
   rcases hl with rfl
   ·have e : (spec_l1New.n k).lp 3 = some (spec_l1New_l3.p k) := rfl
    rw [e] at hL
    cases hL
    exact spec_l1New_l3.s hP hn hp k)) rfl (fun x => spec_l1New.ok k x)⟩
theorem spec_RowOf.v (k : Nat) {X : Cx} (hP : X.P = Try.prog) (hn : X.nt = Try.f135.ntmps) (hp : X.np = 2) : EnvOk X (spec_RowOf.n k) :=
 env_ok hP (Eq.trans (by kernel_rfl) hn.symm) (Eq.trans rfl hp.symm) rfl rfl tiOk eqOk (fun f en h => by cases h)
theorem spec_RowOf.s (k : Nat) : CallOk Try.prog 135 (spec_RowOf.e k) := ⟨⟨Try.f135, Try.func135, by kernel_rfl, by kernel_rfl⟩, body_sound (fn := Try.f135) (c := (Try.f135.body.getD .skip)) Try.func135 (by kernel_rfl) (Nat.le_of_ble_eq_true (by kernel_rfl)) (Nat.le_of_ble_eq_true (by kernel_rfl)) (fun X hP hn hp => spec_RowOf.v k hP hn hp) (fun X hP hn hp => draw_ok (spec_RowOf.v k hP hn hp) (by rw [hP]; exact mixed)) (fun X hP hn hp => loops_all _ (by
   have e : allLoops (Try.f135.body.getD .skip) = [] := by kernel_rfl
   rw [e]
   intro d hd
   exact absurd hd (List.not_mem_nil))) rfl (fun x => spec_RowOf.ok k x)⟩
theorem spec_l1Byte.v (k : Nat) {X : Cx} (hP : X.P = Try.prog) (hn : X.nt = Try.f155.ntmps) (hp : X.np = 1) : EnvOk X (spec_l1Byte.n k) :=
 env_ok hP (Eq.trans (by kernel_rfl) hn.symm) (Eq.trans rfl hp.symm) rfl rfl tiOk eqOk (fun f en h => by cases h)
theorem spec_l1Byte.s (k : Nat) : CallOk Try.prog 155 (spec_l1Byte.e k) := ⟨⟨Try.f155, Try.func155, by kernel_rfl, by kernel_rfl⟩, body_sound (fn := Try.f155) (c := (Try.f155.body.getD .skip)) Try.func155 (by kernel_rfl) (Nat.le_of_ble_eq_true (by kernel_rfl)) (Nat.le_of_ble_eq_true (by kernel_rfl)) (fun X hP hn hp => spec_l1Byte.v k hP hn hp) (fun X hP hn hp => draw_ok (spec_l1Byte.v k hP hn hp) (by rw [hP]; exact mixed)) (fun X hP hn hp => loops_all _ (by
   have e : allLoops (Try.f155.body.getD .skip) = [] := by kernel_rfl
   rw [e]
   intro d hd
   exact absurd hd (List.not_mem_nil))) rfl (fun x => spec_l1Byte.ok k x)⟩
theorem spec_l1Below.v (k : Nat) {X : Cx} (hP : X.P = Try.prog) (hn : X.nt = Try.f105.ntmps) (hp : X.np = 2) : EnvOk X (spec_l1Below.n k) :=
 env_ok hP (Eq.trans (by kernel_rfl) hn.symm) (Eq.trans rfl hp.symm) rfl rfl tiOk eqOk (fun f en h => by
  have h : spec_l1Below.c k f = some en := h
  unfold spec_l1Below.c at h
  split at h
  ·cases h; exact spec_l1Byte.s k
  ·cases h)
theorem spec_l1Below.s (k : Nat) : CallOk Try.prog 105 (spec_l1Below.e k) := ⟨⟨Try.f105, Try.func105, by kernel_rfl, by kernel_rfl⟩, body_sound (fn := Try.f105) (c := (Try.f105.body.getD .skip)) Try.func105 (by kernel_rfl) (Nat.le_of_ble_eq_true (by kernel_rfl)) (Nat.le_of_ble_eq_true (by kernel_rfl)) (fun X hP hn hp => spec_l1Below.v k hP hn hp) (fun X hP hn hp => draw_ok (spec_l1Below.v k hP hn hp) (by rw [hP]; exact mixed)) (fun X hP hn hp => loops_all _ (by
   have e : allLoops (Try.f105.body.getD .skip) = [] := by kernel_rfl
   rw [e]
   intro d hd
   exact absurd hd (List.not_mem_nil))) rfl (fun x => spec_l1Below.ok k x)⟩
theorem spec_l1Str.v (k : Nat) {X : Cx} (hP : X.P = Try.prog) (hn : X.nt = Try.f149.ntmps) (hp : X.np = 2) : EnvOk X (spec_l1Str.n k) :=
 env_ok hP (Eq.trans (by kernel_rfl) hn.symm) (Eq.trans rfl hp.symm) rfl rfl tiOk eqOk (fun f en h => by
  have h : spec_l1Str.c k f = some en := h
  unfold spec_l1Str.c at h
  split at h
  ·cases h; exact spec_l1Below.s k
  ·cases h)
theorem spec_l1Str.s (k : Nat) : CallOk Try.prog 149 (spec_l1Str.e k) := ⟨⟨Try.f149, Try.func149, by kernel_rfl, by kernel_rfl⟩, body_sound (fn := Try.f149) (c := (Try.f149.body.getD .skip)) Try.func149 (by kernel_rfl) (Nat.le_of_ble_eq_true (by kernel_rfl)) (Nat.le_of_ble_eq_true (by kernel_rfl)) (fun X hP hn hp => spec_l1Str.v k hP hn hp) (fun X hP hn hp => draw_ok (spec_l1Str.v k hP hn hp) (by rw [hP]; exact mixed)) (fun X hP hn hp => loops_all _ (by
   have e : allLoops (Try.f149.body.getD .skip) = [] := by kernel_rfl
   rw [e]
   intro d hd
   exact absurd hd (List.not_mem_nil))) rfl (fun x => spec_l1Str.ok k x)⟩
theorem spec_l3Name.v (k : Nat) {X : Cx} (hP : X.P = Try.prog) (hn : X.nt = Try.f136.ntmps) (hp : X.np = 1) : EnvOk X (spec_l3Name.n k) :=
 env_ok hP (Eq.trans (by kernel_rfl) hn.symm) (Eq.trans rfl hp.symm) rfl rfl tiOk eqOk (fun f en h => by
  have h : spec_l3Name.c k f = some en := h
  unfold spec_l3Name.c at h
  split at h
  ·cases h; exact spec_l1Str.s k
  ·cases h)
theorem spec_l3Name.s (k : Nat) : CallOk Try.prog 136 (spec_l3Name.e k) := ⟨⟨Try.f136, Try.func136, by kernel_rfl, by kernel_rfl⟩, body_sound (fn := Try.f136) (c := (Try.f136.body.getD .skip)) Try.func136 (by kernel_rfl) (Nat.le_of_ble_eq_true (by kernel_rfl)) (Nat.le_of_ble_eq_true (by kernel_rfl)) (fun X hP hn hp => spec_l3Name.v k hP hn hp) (fun X hP hn hp => draw_ok (spec_l3Name.v k hP hn hp) (by rw [hP]; exact mixed)) (fun X hP hn hp => loops_all _ (by
   have e : allLoops (Try.f136.body.getD .skip) = [] := by kernel_rfl
   rw [e]
   intro d hd
   exact absurd hd (List.not_mem_nil))) rfl (fun x => spec_l3Name.ok k x)⟩
theorem spec_l1Int.v (k : Nat) {X : Cx} (hP : X.P = Try.prog) (hn : X.nt = Try.f106.ntmps) (hp : X.np = 2) : EnvOk X (spec_l1Int.n k) :=
 env_ok hP (Eq.trans (by kernel_rfl) hn.symm) (Eq.trans rfl hp.symm) rfl rfl tiOk eqOk (fun f en h => by
  have h : spec_l1Int.c k f = some en := h
  unfold spec_l1Int.c at h
  split at h
  ·cases h; exact spec_l1Below.s k
  ·cases h)
theorem spec_l1Int.s (k : Nat) : CallOk Try.prog 106 (spec_l1Int.e k) := ⟨⟨Try.f106, Try.func106, by kernel_rfl, by kernel_rfl⟩, body_sound (fn := Try.f106) (c := (Try.f106.body.getD .skip)) Try.func106 (by kernel_rfl) (Nat.le_of_ble_eq_true (by kernel_rfl)) (Nat.le_of_ble_eq_true (by kernel_rfl)) (fun X hP hn hp => spec_l1Int.v k hP hn hp) (fun X hP hn hp => draw_ok (spec_l1Int.v k hP hn hp) (by rw [hP]; exact mixed)) (fun X hP hn hp => loops_all _ (by
   have e : allLoops (Try.f106.body.getD .skip) = [] := by kernel_rfl
   rw [e]
   intro d hd
   exact absurd hd (List.not_mem_nil))) rfl (fun x => spec_l1Int.ok k x)⟩
theorem spec_l1Bytes.v (k : Nat) {X : Cx} (hP : X.P = Try.prog) (hn : X.nt = Try.f158.ntmps) (hp : X.np = 2) : EnvOk X (spec_l1Bytes.n k) :=
 env_ok hP (Eq.trans (by kernel_rfl) hn.symm) (Eq.trans rfl hp.symm) rfl rfl tiOk eqOk (fun f en h => by
  have h : spec_l1Bytes.c k f = some en := h
  unfold spec_l1Bytes.c at h
  split at h
  ·cases h; exact spec_l1Byte.s k
  ·cases h)
theorem spec_l1Bytes_l3.s {X : Cx} (hP : X.P = Try.prog) (hn : X.nt = Try.f158.ntmps) (hp : X.np = 2) : ∀ k, LoopOk X (spec_l1Bytes_l3.p k) (loopAt 3 (Try.f158.body.getD .skip)) :=
 loop_ok (f := fun k x => (spec_l1Bytes_l3.p k).run x) (En' := spec_l1Bytes.n) (fun x => rfl) (fun k x => spec_l1Bytes_l3.ok k x) (fun k => spec_l1Bytes.v k hP hn hp) (fun k => draw_ok (spec_l1Bytes.v k hP hn hp) (by rw [hP]; exact mixed)) (fun k => loops_all _ (by
   have e : allLoops (loopAt 3 (Try.f158.body.getD .skip)) = [] := by kernel_rfl
   rw [e]
   intro d hd
   exact absurd hd (List.not_mem_nil)))
theorem spec_l1Bytes.s (k : Nat) : CallOk Try.prog 158 (spec_l1Bytes.e k) := ⟨⟨Try.f158, Try.func158, by kernel_rfl, by kernel_rfl⟩, body_sound (fn := Try.f158) (c := (Try.f158.body.getD .skip)) Try.func158 (by kernel_rfl) (Nat.le_of_ble_eq_true (by kernel_rfl)) (Nat.le_of_ble_eq_true (by kernel_rfl)) (fun X hP hn hp => spec_l1Bytes.v k hP hn hp) (fun X hP hn hp => draw_ok (spec_l1Bytes.v k hP hn hp) (by rw [hP]; exact mixed)) (fun X hP hn hp => loops_mk (b := (Try.f158.body.getD .skip)) [3] (by kernel_rfl) (by kernel_rfl) (by
   intro l hl L hL
   simp only [List.mem_cons, List.not_mem_nil, or_false] at hl
   rcases hl with rfl
   ·have e : (spec_l1Bytes.n k).lp 3 = some (spec_l1Bytes_l3.p k) := rfl
    rw [e] at hL
    cases hL
    exact spec_l1Bytes_l3.s hP hn hp k)) rfl (fun x => spec_l1Bytes.ok k x)⟩
theorem spec_l1Some.v (k : Nat) {X : Cx} (hP : X.P = Try.prog) (hn : X.nt = Try.f113.ntmps) (hp : X.np = 1) : EnvOk X (spec_l1Some.n k) :=
 env_ok hP (Eq.trans (by kernel_rfl) hn.symm) (Eq.trans rfl hp.symm) rfl rfl tiOk eqOk (fun f en h => by
  have h : spec_l1Some.c k f = some en := h
  unfold spec_l1Some.c at h
  split at h
  ·cases h; exact spec_l1Int.s k
  ·cases h; exact spec_l1Bytes.s k
  ·cases h)
theorem spec_l1Some.s (k : Nat) : CallOk Try.prog 113 (spec_l1Some.e k) := ⟨⟨Try.f113, Try.func113, by kernel_rfl, by kernel_rfl⟩, body_sound (fn := Try.f113) (c := (Try.f113.body.getD .skip)) Try.func113 (by kernel_rfl) (Nat.le_of_ble_eq_true (by kernel_rfl)) (Nat.le_of_ble_eq_true (by kernel_rfl)) (fun X hP hn hp => spec_l1Some.v k hP hn hp) (fun X hP hn hp => draw_ok (spec_l1Some.v k hP hn hp) (by rw [hP]; exact mixed)) (fun X hP hn hp => loops_all _ (by
   have e : allLoops (Try.f113.body.getD .skip) = [] := by kernel_rfl
   rw [e]
   intro d hd
   exact absurd hd (List.not_mem_nil))) rfl (fun x => spec_l1Some.ok k x)⟩
theorem spec_l1Once.v (k : Nat) {X : Cx} (hP : X.P = Try.prog) (hn : X.nt = Try.f114.ntmps) (hp : X.np = 2) : EnvOk X (spec_l1Once.n k) :=
 env_ok hP (Eq.trans (by kernel_rfl) hn.symm) (Eq.trans rfl hp.symm) rfl rfl tiOk eqOk (fun f en h => by
  have h : spec_l1Once.c k f = some en := h
  unfold spec_l1Once.c at h
  split at h
  ·cases h; exact spec_l1Below.s k
  ·cases h)
theorem spec_l1Once.s (k : Nat) : CallOk Try.prog 114 (spec_l1Once.e k) := ⟨⟨Try.f114, Try.func114, by kernel_rfl, by kernel_rfl⟩, body_sound (fn := Try.f114) (c := (Try.f114.body.getD .skip)) Try.func114 (by kernel_rfl) (Nat.le_of_ble_eq_true (by kernel_rfl)) (Nat.le_of_ble_eq_true (by kernel_rfl)) (fun X hP hn hp => spec_l1Once.v k hP hn hp) (fun X hP hn hp => draw_ok (spec_l1Once.v k hP hn hp) (by rw [hP]; exact mixed)) (fun X hP hn hp => loops_all _ (by
   have e : allLoops (Try.f114.body.getD .skip) = [] := by kernel_rfl
   rw [e]
   intro d hd
   exact absurd hd (List.not_mem_nil))) rfl (fun x => spec_l1Once.ok k x)⟩
theorem spec_l2Draw.v (k : Nat) {X : Cx} (hP : X.P = Try.prog) (hn : X.nt = Try.f167.ntmps) (hp : X.np = 1) : EnvOk X (spec_l2Draw.n k) :=
 env_ok hP (Eq.trans (by kernel_rfl) hn.symm) (Eq.trans rfl hp.symm) rfl rfl tiOk eqOk (fun f en h => by
  have h : spec_l2Draw.c k f = some en := h
  unfold spec_l2Draw.c at h
  split at h
  ·cases h; exact spec_l1Below.s k
  ·cases h; exact spec_l1Int.s k
  ·cases h)
theorem spec_l2Draw.s (k : Nat) : CallOk Try.prog 167 (spec_l2Draw.e k) := ⟨⟨Try.f167, Try.func167, by kernel_rfl, by kernel_rfl⟩, body_sound (fn := Try.f167) (c := (Try.f167.body.getD .skip)) Try.func167 (by kernel_rfl) (Nat.le_of_ble_eq_true (by kernel_rfl)) (Nat.le_of_ble_eq_true (by kernel_rfl)) (fun X hP hn hp => spec_l2Draw.v k hP hn hp) (fun X hP hn hp => draw_ok (spec_l2Draw.v k hP hn hp) (by rw [hP]; exact mixed)) (fun X hP hn hp => loops_all _ (by
   have e : allLoops (Try.f167.body.getD .skip) = [] := by kernel_rfl
   rw [e]
   intro d hd
   exact absurd hd (List.not_mem_nil))) rfl (fun x => spec_l2Draw.ok k x)⟩
theorem spec_l8Draw.v (k : Nat) {X : Cx} (hP : X.P = Try.prog) (hn : X.nt = Try.f137.ntmps) (hp : X.np = 1) : EnvOk X (spec_l8Draw.n k) :=
 env_ok hP (Eq.trans (by kernel_rfl) hn.symm) (Eq.trans rfl hp.symm) rfl rfl tiOk eqOk (fun f en h => by
  have h : spec_l8Draw.c k f = some en := h
  unfold spec_l8Draw.c at h
  split at h
  ·cases h; exact spec_l1Some.s k
  ·cases h; exact spec_l1Once.s k
  ·cases h; exact spec_l2Draw.s k
  ·cases h)
theorem spec_l8Draw.s (k : Nat) : CallOk Try.prog 137 (spec_l8Draw.e k) := ⟨⟨Try.f137, Try.func137, by kernel_rfl, by kernel_rfl⟩, body_sound (fn := Try.f137) (c := (Try.f137.body.getD .skip)) Try.func137 (by kernel_rfl) (Nat.le_of_ble_eq_true (by kernel_rfl)) (Nat.le_of_ble_eq_true (by kernel_rfl)) (fun X hP hn hp => spec_l8Draw.v k hP hn hp) (fun X hP hn hp => draw_ok (spec_l8Draw.v k hP hn hp) (by rw [hP]; exact mixed)) (fun X hP hn hp => loops_all _ (by
   have e : allLoops (Try.f137.body.getD .skip) = [] := by kernel_rfl
   rw [e]
   intro d hd
   exact absurd hd (List.not_mem_nil))) rfl (fun x => spec_l8Draw.ok k x)⟩
theorem spec_l11One.v (k : Nat) {X : Cx} (hP : X.P = Try.prog) (hn : X.nt = Try.f70.ntmps) (hp : X.np = 1) : EnvOk X (spec_l11One.n k) :=
 env_ok hP (Eq.trans (by kernel_rfl) hn.symm) (Eq.trans rfl hp.symm) rfl rfl tiOk eqOk (fun f en h => by
  have h : spec_l11One.c k f = some en := h
  unfold spec_l11One.c at h
  split at h
  ·cases h; exact spec_RowOf.s k
  ·cases h; exact spec_l3Name.s k
  ·cases h; exact spec_l8Draw.s k
  ·cases h)
theorem spec_l11One.s (k : Nat) : CallOk Try.prog 70 (spec_l11One.e k) := ⟨⟨Try.f70, Try.func70, by kernel_rfl, by kernel_rfl⟩, body_sound (fn := Try.f70) (c := (Try.f70.body.getD .skip)) Try.func70 (by kernel_rfl) (Nat.le_of_ble_eq_true (by kernel_rfl)) (Nat.le_of_ble_eq_true (by kernel_rfl)) (fun X hP hn hp => spec_l11One.v k hP hn hp) (fun X hP hn hp => draw_ok (spec_l11One.v k hP hn hp) (by rw [hP]; exact mixed)) (fun X hP hn hp => loops_all _ (by
   have e : allLoops (Try.f70.body.getD .skip) = [] := by kernel_rfl
   rw [e]
   intro d hd
   exact absurd hd (List.not_mem_nil))) rfl (fun x => spec_l11One.ok k x)⟩
theorem spec_LessStamp.v (k : Nat) {X : Cx} (hP : X.P = Try.prog) (hn : X.nt = Try.f138.ntmps) (hp : X.np = 2) : EnvOk X (spec_LessStamp.n k) :=
 env_ok hP (Eq.trans (by kernel_rfl) hn.symm) (Eq.trans rfl hp.symm) rfl rfl tiOk eqOk (fun f en h => by cases h)
theorem spec_LessStamp.s (k : Nat) : CallOk Try.prog 138 (spec_LessStamp.e k) := ⟨⟨Try.f138, Try.func138, by kernel_rfl, by kernel_rfl⟩, body_sound (fn := Try.f138) (c := (Try.f138.body.getD .skip)) Try.func138 (by kernel_rfl) (Nat.le_of_ble_eq_true (by kernel_rfl)) (Nat.le_of_ble_eq_true (by kernel_rfl)) (fun X hP hn hp => spec_LessStamp.v k hP hn hp) (fun X hP hn hp => draw_ok (spec_LessStamp.v k hP hn hp) (by rw [hP]; exact mixed)) (fun X hP hn hp => loops_all _ (by
   have e : allLoops (Try.f138.body.getD .skip) = [] := by kernel_rfl
   rw [e]
   intro d hd
   exact absurd hd (List.not_mem_nil))) rfl (fun x => spec_LessStamp.ok k x)⟩
theorem spec_l11Less.v (k : Nat) {X : Cx} (hP : X.P = Try.prog) (hn : X.nt = Try.f73.ntmps) (hp : X.np = 2) : EnvOk X (spec_l11Less.n k) :=
 env_ok hP (Eq.trans (by kernel_rfl) hn.symm) (Eq.trans rfl hp.symm) rfl rfl tiOk eqOk (fun f en h => by
  have h : spec_l11Less.c k f = some en := h
  unfold spec_l11Less.c at h
  split at h
  ·cases h; exact spec_LessStamp.s k
  ·cases h)
theorem spec_l11Less.s (k : Nat) : CallOk Try.prog 73 (spec_l11Less.e k) := ⟨⟨Try.f73, Try.func73, by kernel_rfl, by kernel_rfl⟩, body_sound (fn := Try.f73) (c := (Try.f73.body.getD .skip)) Try.func73 (by kernel_rfl) (Nat.le_of_ble_eq_true (by kernel_rfl)) (Nat.le_of_ble_eq_true (by kernel_rfl)) (fun X hP hn hp => spec_l11Less.v k hP hn hp) (fun X hP hn hp => draw_ok (spec_l11Less.v k hP hn hp) (by rw [hP]; exact mixed)) (fun X hP hn hp => loops_all _ (by
   have e : allLoops (Try.f73.body.getD .skip) = [] := by kernel_rfl
   rw [e]
   intro d hd
   exact absurd hd (List.not_mem_nil))) rfl (fun x => spec_l11Less.ok k x)⟩
theorem spec_MergeRow.v (k : Nat) {X : Cx} (hP : X.P = Try.prog) (hn : X.nt = Try.f19.ntmps) (hp : X.np = 2) : EnvOk X (spec_MergeRow.n k) :=
 env_ok hP (Eq.trans (by kernel_rfl) hn.symm) (Eq.trans rfl hp.symm) rfl rfl tiOk eqOk (fun f en h => by
  have h : spec_MergeRow.c k f = some en := h
  unfold spec_MergeRow.c at h
  split at h
  ·cases h; exact spec_l11Less.s k
  ·cases h)
theorem spec_MergeRow_l11.s {X : Cx} (hP : X.P = Try.prog) (hn : X.nt = Try.f19.ntmps) (hp : X.np = 2) : ∀ k, LoopOk X (spec_MergeRow_l11.p k) (loopAt 11 (Try.f19.body.getD .skip)) :=
 loop_ok (f := fun k x => (spec_MergeRow_l11.p k).run x) (En' := spec_MergeRow.n) (fun x => rfl) (fun k x => spec_MergeRow_l11.ok k x) (fun k => spec_MergeRow.v k hP hn hp) (fun k => draw_ok (spec_MergeRow.v k hP hn hp) (by rw [hP]; exact mixed)) (fun k => loops_all _ (by
   have e : allLoops (loopAt 11 (Try.f19.body.getD .skip)) = [] := by kernel_rfl
   rw [e]
   intro d hd
   exact absurd hd (List.not_mem_nil)))
theorem spec_MergeRow_l3.s {X : Cx} (hP : X.P = Try.prog) (hn : X.nt = Try.f19.ntmps) (hp : X.np = 2) : ∀ k, LoopOk X (spec_MergeRow_l3.p k) (loopAt 3 (Try.f19.body.getD .skip)) :=
 loop_ok (f := fun k x => (spec_MergeRow_l3.p k).run x) (En' := spec_MergeRow.n) (fun x => rfl) (fun k x => spec_MergeRow_l3.ok k x) (fun k => spec_MergeRow.v k hP hn hp) (fun k => draw_ok (spec_MergeRow.v k hP hn hp) (by rw [hP]; exact mixed)) (fun k => loops_all _ (by
   have e : allLoops (loopAt 3 (Try.f19.body.getD .skip)) = [] := by kernel_rfl
   rw [e]
   intro d hd
   exact absurd hd (List.not_mem_nil)))
theorem spec_MergeRow.s (k : Nat) : CallOk Try.prog 19 (spec_MergeRow.e k) := ⟨⟨Try.f19, Try.func19, by kernel_rfl, by kernel_rfl⟩, body_sound (fn := Try.f19) (c := (Try.f19.body.getD .skip)) Try.func19 (by kernel_rfl) (Nat.le_of_ble_eq_true (by kernel_rfl)) (Nat.le_of_ble_eq_true (by kernel_rfl)) (fun X hP hn hp => spec_MergeRow.v k hP hn hp) (fun X hP hn hp => draw_ok (spec_MergeRow.v k hP hn hp) (by rw [hP]; exact mixed)) (fun X hP hn hp => loops_mk (b := (Try.f19.body.getD .skip)) [3, 11] (by kernel_rfl) (by kernel_rfl) (by
   intro l hl L hL
   simp only [List.mem_cons, List.not_mem_nil, or_false] at hl
   rcases hl with rfl | rfl
   ·have e : (spec_MergeRow.n k).lp 3 = some (spec_MergeRow_l3.p k) := rfl
    rw [e] at hL
    cases hL
    exact spec_MergeRow_l3.s hP hn hp k
   ·have e : (spec_MergeRow.n k).lp 11 = some (spec_MergeRow_l11.p k) := rfl
    rw [e] at hL
    cases hL
    exact spec_MergeRow_l11.s hP hn hp k)) rfl (fun x => spec_MergeRow.ok k x)⟩
theorem spec_l11Draw.v (k : Nat) {X : Cx} (hP : X.P = Try.prog) (hn : X.nt = Try.f74.ntmps) (hp : X.np = 1) : EnvOk X (spec_l11Draw.n k) :=
 env_ok hP (Eq.trans (by kernel_rfl) hn.symm) (Eq.trans rfl hp.symm) rfl rfl tiOk eqOk (fun f en h => by
  have h : spec_l11Draw.c k f = some en := h
  unfold spec_l11Draw.c at h
  split at h
  ·cases h; exact spec_MergeRow.s k
  ·cases h; exact spec_l11One.s k
  ·cases h; exact spec_l1Below.s k
  ·cases h)
theorem spec_l11Draw_l3.s {X : Cx} (hP : X.P = Try.prog) (hn : X.nt = Try.f74.ntmps) (hp : X.np = 1) : ∀ k, LoopOk X (spec_l11Draw_l3.p k) (loopAt 3 (Try.f74.body.getD .skip)) :=
 loop_ok (f := fun k x => (spec_l11Draw_l3.p k).run x) (En' := spec_l11Draw.n) (fun x => rfl) (fun k x => spec_l11Draw_l3.ok k x) (fun k => spec_l11Draw.v k hP hn hp) (fun k => draw_ok (spec_l11Draw.v k hP hn hp) (by rw [hP]; exact mixed)) (fun k => loops_all _ (by
   have e : allLoops (loopAt 3 (Try.f74.body.getD .skip)) = [] := by kernel_rfl
   rw [e]
   intro d hd
   exact absurd hd (List.not_mem_nil)))
theorem spec_l11Draw.s (k : Nat) : CallOk Try.prog 74 (spec_l11Draw.e k) := ⟨⟨Try.f74, Try.func74, by kernel_rfl, by kernel_rfl⟩, body_sound (fn := Try.f74) (c := (Try.f74.body.getD .skip)) Try.func74 (by kernel_rfl) (Nat.le_of_ble_eq_true (by kernel_rfl)) (Nat.le_of_ble_eq_true (by kernel_rfl)) (fun X hP hn hp => spec_l11Draw.v k hP hn hp) (fun X hP hn hp => draw_ok (spec_l11Draw.v k hP hn hp) (by rw [hP]; exact mixed)) (fun X hP hn hp => loops_mk (b := (Try.f74.body.getD .skip)) [3] (by kernel_rfl) (by kernel_rfl) (by
   intro l hl L hL
   simp only [List.mem_cons, List.not_mem_nil, or_false] at hl
   rcases hl with rfl
   ·have e : (spec_l11Draw.n k).lp 3 = some (spec_l11Draw_l3.p k) := rfl
    rw [e] at hL
    cases hL
    exact spec_l11Draw_l3.s hP hn hp k)) rfl (fun x => spec_l11Draw.ok k x)⟩
theorem spec_l11Any.v (k : Nat) {X : Cx} (hP : X.P = Try.prog) (hn : X.nt = Try.f69.ntmps) (hp : X.np = 1) : EnvOk X (spec_l11Any.n k) :=
 env_ok hP (Eq.trans (by kernel_rfl) hn.symm) (Eq.trans rfl hp.symm) rfl rfl tiOk eqOk (fun f en h => by
  have h : spec_l11Any.c k f = some en := h
  unfold spec_l11Any.c at h
  split at h
  ·cases h; exact spec_l11One.s k
  ·cases h; exact spec_l11Draw.s k
  ·cases h; exact spec_l1Below.s k
  ·cases h; exact spec_l1Int.s k
  ·cases h)
theorem spec_l11Any.s (k : Nat) : CallOk Try.prog 69 (spec_l11Any.e k) := ⟨⟨Try.f69, Try.func69, by kernel_rfl, by kernel_rfl⟩, body_sound (fn := Try.f69) (c := (Try.f69.body.getD .skip)) Try.func69 (by kernel_rfl) (Nat.le_of_ble_eq_true (by kernel_rfl)) (Nat.le_of_ble_eq_true (by kernel_rfl)) (fun X hP hn hp => spec_l11Any.v k hP hn hp) (fun X hP hn hp => draw_ok (spec_l11Any.v k hP hn hp) (by rw [hP]; exact mixed)) (fun X hP hn hp => loops_all _ (by
   have e : allLoops (Try.f69.body.getD .skip) = [] := by kernel_rfl
   rw [e]
   intro d hd
   exact absurd hd (List.not_mem_nil))) rfl (fun x => spec_l11Any.ok k x)⟩
theorem spec_DrawMergeRow.v (k : Nat) {X : Cx} (hP : X.P = Try.prog) (hn : X.nt = Try.f16.ntmps) (hp : X.np = 1) : EnvOk X (spec_DrawMergeRow.n k) :=
 env_ok hP (Eq.trans (by kernel_rfl) hn.symm) (Eq.trans rfl hp.symm) rfl rfl tiOk eqOk (fun f en h => by
  have h : spec_DrawMergeRow.c k f = some en := h
  unfold spec_DrawMergeRow.c at h
  split at h
  ·cases h; exact spec_l1New.s k
  ·cases h; exact spec_l11Any.s k
  ·cases h; exact spec_l11One.s k
  ·cases h)
theorem spec_DrawMergeRow.s (k : Nat) : CallOk Try.prog 16 (spec_DrawMergeRow.e k) := ⟨⟨Try.f16, Try.func16, by kernel_rfl, by kernel_rfl⟩, body_sound (fn := Try.f16) (c := (Try.f16.body.getD .skip)) Try.func16 (by kernel_rfl) (Nat.le_of_ble_eq_true (by kernel_rfl)) (Nat.le_of_ble_eq_true (by kernel_rfl)) (fun X hP hn hp => spec_DrawMergeRow.v k hP hn hp) (fun X hP hn hp => draw_ok (spec_DrawMergeRow.v k hP hn hp) (by rw [hP]; exact mixed)) (fun X hP hn hp => loops_all _ (by
   have e : allLoops (Try.f16.body.getD .skip) = [] := by kernel_rfl
   rw [e]
   intro d hd
   exact absurd hd (List.not_mem_nil))) rfl (fun x => spec_DrawMergeRow.ok k x)⟩
theorem impl_copyRows.v (k : Nat) {X : Cx} (hP : X.P = Try.prog) (hn : X.nt = Try.f71.ntmps) (hp : X.np = 1) : EnvOk X (impl_copyRows.n k) :=
 env_ok hP (Eq.trans (by kernel_rfl) hn.symm) (Eq.trans rfl hp.symm) rfl rfl tiOk eqOk (fun f en h => by cases h)
theorem impl_copyRows.s (k : Nat) : CallOk Try.prog 71 (impl_copyRows.e k) := ⟨⟨Try.f71, Try.func71, by kernel_rfl, by kernel_rfl⟩, body_sound (fn := Try.f71) (c := (Try.f71.body.getD .skip)) Try.func71 (by kernel_rfl) (Nat.le_of_ble_eq_true (by kernel_rfl)) (Nat.le_of_ble_eq_true (by kernel_rfl)) (fun X hP hn hp => impl_copyRows.v k hP hn hp) (fun X hP hn hp => draw_ok (impl_copyRows.v k hP hn hp) (by rw [hP]; exact mixed)) (fun X hP hn hp => loops_all _ (by
   have e : allLoops (Try.f71.body.getD .skip) = [] := by kernel_rfl
   rw [e]
   intro d hd
   exact absurd hd (List.not_mem_nil))) rfl (fun x => impl_copyRows.ok k x)⟩
theorem impl_LessStamp.v (k : Nat) {X : Cx} (hP : X.P = Try.prog) (hn : X.nt = Try.f20.ntmps) (hp : X.np = 2) : EnvOk X (impl_LessStamp.n k) :=
 env_ok hP (Eq.trans (by kernel_rfl) hn.symm) (Eq.trans rfl hp.symm) rfl rfl tiOk eqOk (fun f en h => by cases h)
theorem impl_LessStamp.s (k : Nat) : CallOk Try.prog 20 (impl_LessStamp.e k) := ⟨⟨Try.f20, Try.func20, by kernel_rfl, by kernel_rfl⟩, body_sound (fn := Try.f20) (c := (Try.f20.body.getD .skip)) Try.func20 (by kernel_rfl) (Nat.le_of_ble_eq_true (by kernel_rfl)) (Nat.le_of_ble_eq_true (by kernel_rfl)) (fun X hP hn hp => impl_LessStamp.v k hP hn hp) (fun X hP hn hp => draw_ok (impl_LessStamp.v k hP hn hp) (by rw [hP]; exact mixed)) (fun X hP hn hp => loops_all _ (by
   have e : allLoops (Try.f20.body.getD .skip) = [] := by kernel_rfl
   rw [e]
   intro d hd
   exact absurd hd (List.not_mem_nil))) rfl (fun x => impl_LessStamp.ok k x)⟩
theorem impl_laterRow.v (k : Nat) {X : Cx} (hP : X.P = Try.prog) (hn : X.nt = Try.f72.ntmps) (hp : X.np = 2) : EnvOk X (impl_laterRow.n k) :=
 env_ok hP (Eq.trans (by kernel_rfl) hn.symm) (Eq.trans rfl hp.symm) rfl rfl tiOk eqOk (fun f en h => by
  have h : impl_laterRow.c k f = some en := h
  unfold impl_laterRow.c at h
  split at h
  ·cases h; exact impl_LessStamp.s k
  ·cases h)
theorem impl_laterRow.s (k : Nat) : CallOk Try.prog 72 (impl_laterRow.e k) := ⟨⟨Try.f72, Try.func72, by kernel_rfl, by kernel_rfl⟩, body_sound (fn := Try.f72) (c := (Try.f72.body.getD .skip)) Try.func72 (by kernel_rfl) (Nat.le_of_ble_eq_true (by kernel_rfl)) (Nat.le_of_ble_eq_true (by kernel_rfl)) (fun X hP hn hp => impl_laterRow.v k hP hn hp) (fun X hP hn hp => draw_ok (impl_laterRow.v k hP hn hp) (by rw [hP]; exact mixed)) (fun X hP hn hp => loops_all _ (by
   have e : allLoops (Try.f72.body.getD .skip) = [] := by kernel_rfl
   rw [e]
   intro d hd
   exact absurd hd (List.not_mem_nil))) rfl (fun x => impl_laterRow.ok k x)⟩
theorem impl_MergeRow.v (k : Nat) {X : Cx} (hP : X.P = Try.prog) (hn : X.nt = Try.f17.ntmps) (hp : X.np = 2) : EnvOk X (impl_MergeRow.n k) :=
 env_ok hP (Eq.trans (by kernel_rfl) hn.symm) (Eq.trans rfl hp.symm) rfl rfl tiOk eqOk (fun f en h => by
  have h : impl_MergeRow.c k f = some en := h
  unfold impl_MergeRow.c at h
  split at h
  ·cases h; exact impl_copyRows.s k
  ·cases h; exact impl_laterRow.s k
  ·cases h)
theorem impl_MergeRow_l11.s {X : Cx} (hP : X.P = Try.prog) (hn : X.nt = Try.f17.ntmps) (hp : X.np = 2) : ∀ k, LoopOk X (impl_MergeRow_l11.p k) (loopAt 11 (Try.f17.body.getD .skip)) :=
 loop_ok (f := fun k x => (impl_MergeRow_l11.p k).run x) (En' := impl_MergeRow.n) (fun x => rfl) (fun k x => impl_MergeRow_l11.ok k x) (fun k => impl_MergeRow.v k hP hn hp) (fun k => draw_ok (impl_MergeRow.v k hP hn hp) (by rw [hP]; exact mixed)) (fun k => loops_all _ (by
   have e : allLoops (loopAt 11 (Try.f17.body.getD .skip)) = [] := by kernel_rfl
   rw [e]
   intro d hd
   exact absurd hd (List.not_mem_nil)))
theorem impl_MergeRow_l3.s {X : Cx} (hP : X.P = Try.prog) (hn : X.nt = Try.f17.ntmps) (hp : X.np = 2) : ∀ k, LoopOk X (impl_MergeRow_l3.p k) (loopAt 3 (Try.f17.body.getD .skip)) :=
 loop_ok (f := fun k x => (impl_MergeRow_l3.p k).run x) (En' := impl_MergeRow.n) (fun x => rfl) (fun k x => impl_MergeRow_l3.ok k x) (fun k => impl_MergeRow.v k hP hn hp) (fun k => draw_ok (impl_MergeRow.v k hP hn hp) (by rw [hP]; exact mixed)) (fun k => loops_all _ (by
   have e : allLoops (loopAt 3 (Try.f17.body.getD .skip)) = [] := by kernel_rfl
   rw [e]
   intro d hd
   exact absurd hd (List.not_mem_nil)))
theorem impl_MergeRow.s (k : Nat) : CallOk Try.prog 17 (impl_MergeRow.e k) := ⟨⟨Try.f17, Try.func17, by kernel_rfl, by kernel_rfl⟩, body_sound (fn := Try.f17) (c := (Try.f17.body.getD .skip)) Try.func17 (by kernel_rfl) (Nat.le_of_ble_eq_true (by kernel_rfl)) (Nat.le_of_ble_eq_true (by kernel_rfl)) (fun X hP hn hp => impl_MergeRow.v k hP hn hp) (fun X hP hn hp => draw_ok (impl_MergeRow.v k hP hn hp) (by rw [hP]; exact mixed)) (fun X hP hn hp => loops_mk (b := (Try.f17.body.getD .skip)) [3, 11] (by kernel_rfl) (by kernel_rfl) (by
   intro l hl L hL
   simp only [List.mem_cons, List.not_mem_nil, or_false] at hl
   rcases hl with rfl | rfl
   ·have e : (impl_MergeRow.n k).lp 3 = some (impl_MergeRow_l3.p k) := rfl
    rw [e] at hL
    cases hL
    exact impl_MergeRow_l3.s hP hn hp k
   ·have e : (impl_MergeRow.n k).lp 11 = some (impl_MergeRow_l11.p k) := rfl
    rw [e] at hL
    cases hL
    exact impl_MergeRow_l11.s hP hn hp k)) rfl (fun x => impl_MergeRow.ok k x)⟩
theorem laws_sameRows.v (k : Nat) {X : Cx} (hP : X.P = Try.prog) (hn : X.nt = Try.f18.ntmps) (hp : X.np = 2) : EnvOk X (laws_sameRows.n k) :=
 env_ok hP (Eq.trans (by kernel_rfl) hn.symm) (Eq.trans rfl hp.symm) rfl rfl tiOk eqOk (fun f en h => by cases h)
theorem laws_sameRows_l4.s {X : Cx} (hP : X.P = Try.prog) (hn : X.nt = Try.f18.ntmps) (hp : X.np = 2) : ∀ k, LoopOk X (laws_sameRows_l4.p k) (loopAt 4 (Try.f18.body.getD .skip)) :=
 loop_ok (f := fun k x => (laws_sameRows_l4.p k).run x) (En' := laws_sameRows.n) (fun x => rfl) (fun k x => laws_sameRows_l4.ok k x) (fun k => laws_sameRows.v k hP hn hp) (fun k => draw_ok (laws_sameRows.v k hP hn hp) (by rw [hP]; exact mixed)) (fun k => loops_all _ (by
   have e : allLoops (loopAt 4 (Try.f18.body.getD .skip)) = [] := by kernel_rfl
   rw [e]
   intro d hd
   exact absurd hd (List.not_mem_nil)))
theorem laws_sameRows.s (k : Nat) : CallOk Try.prog 18 (laws_sameRows.e k) := ⟨⟨Try.f18, Try.func18, by kernel_rfl, by kernel_rfl⟩, body_sound (fn := Try.f18) (c := (Try.f18.body.getD .skip)) Try.func18 (by kernel_rfl) (Nat.le_of_ble_eq_true (by kernel_rfl)) (Nat.le_of_ble_eq_true (by kernel_rfl)) (fun X hP hn hp => laws_sameRows.v k hP hn hp) (fun X hP hn hp => draw_ok (laws_sameRows.v k hP hn hp) (by rw [hP]; exact mixed)) (fun X hP hn hp => loops_mk (b := (Try.f18.body.getD .skip)) [4] (by kernel_rfl) (by kernel_rfl) (by
   intro l hl L hL
   simp only [List.mem_cons, List.not_mem_nil, or_false] at hl
   rcases hl with rfl
   ·have e : (laws_sameRows.n k).lp 4 = some (laws_sameRows_l4.p k) := rfl
    rw [e] at hL
    cases hL
    exact laws_sameRows_l4.s hP hn hp k)) rfl (fun x => laws_sameRows.ok k x)⟩
theorem laws_FnRow.v (k : Nat) {X : Cx} (hP : X.P = Try.prog) (hn : X.nt = Try.f3.ntmps) (hp : X.np = 1) : EnvOk X (laws_FnRow.n k) :=
 env_ok hP (Eq.trans (by kernel_rfl) hn.symm) (Eq.trans rfl hp.symm) rfl rfl tiOk eqOk (fun f en h => by
  have h : laws_FnRow.c k f = some en := h
  unfold laws_FnRow.c at h
  split at h
  ·cases h; exact laws_big.s k
  ·cases h; exact spec_DrawMergeRow.s k
  ·cases h; exact impl_MergeRow.s k
  ·cases h; exact laws_sameRows.s k
  ·cases h; exact spec_MergeRow.s k
  ·cases h; exact impl_LessStamp.s k
  ·cases h)
theorem laws_FnRow_l9.s {X : Cx} (hP : X.P = Try.prog) (hn : X.nt = Try.f3.ntmps) (hp : X.np = 1) : ∀ k, LoopOk X (laws_FnRow_l9.p k) (loopAt 9 (Try.f3.body.getD .skip)) :=
 loop_ok (f := fun k x => (laws_FnRow_l9.p k).run x) (En' := laws_FnRow.n) (fun x => rfl) (fun k x => laws_FnRow_l9.ok k x) (fun k => laws_FnRow.v k hP hn hp) (fun k => draw_ok (laws_FnRow.v k hP hn hp) (by rw [hP]; exact mixed)) (fun k => loops_all _ (by
   have e : allLoops (loopAt 9 (Try.f3.body.getD .skip)) = [] := by kernel_rfl
   rw [e]
   intro d hd
   exact absurd hd (List.not_mem_nil)))
theorem laws_FnRow.s (k : Nat) : CallOk Try.prog 3 (laws_FnRow.e k) := ⟨⟨Try.f3, Try.func3, by kernel_rfl, by kernel_rfl⟩, body_sound (fn := Try.f3) (c := (Try.f3.body.getD .skip)) Try.func3 (by kernel_rfl) (Nat.le_of_ble_eq_true (by kernel_rfl)) (Nat.le_of_ble_eq_true (by kernel_rfl)) (fun X hP hn hp => laws_FnRow.v k hP hn hp) (fun X hP hn hp => draw_ok (laws_FnRow.v k hP hn hp) (by rw [hP]; exact mixed)) (fun X hP hn hp => loops_mk (b := (Try.f3.body.getD .skip)) [9] (by kernel_rfl) (by kernel_rfl) (by
   intro l hl L hL
   simp only [List.mem_cons, List.not_mem_nil, or_false] at hl
   rcases hl with rfl
   ·have e : (laws_FnRow.n k).lp 9 = some (laws_FnRow_l9.p k) := rfl
    rw [e] at hL
    cases hL
    exact laws_FnRow_l9.s hP hn hp k)) rfl (fun x => laws_FnRow.ok k x)⟩
theorem spec_DrawRows.v (k : Nat) {X : Cx} (hP : X.P = Try.prog) (hn : X.nt = Try.f21.ntmps) (hp : X.np = 1) : EnvOk X (spec_DrawRows.n k) :=
 env_ok hP (Eq.trans (by kernel_rfl) hn.symm) (Eq.trans rfl hp.symm) rfl rfl tiOk eqOk (fun f en h => by
  have h : spec_DrawRows.c k f = some en := h
  unfold spec_DrawRows.c at h
  split at h
  ·cases h; exact spec_l1New.s k
  ·cases h; exact spec_l11Draw.s k
  ·cases h)
theorem spec_DrawRows.s (k : Nat) : CallOk Try.prog 21 (spec_DrawRows.e k) := ⟨⟨Try.f21, Try.func21, by kernel_rfl, by kernel_rfl⟩, body_sound (fn := Try.f21) (c := (Try.f21.body.getD .skip)) Try.func21 (by kernel_rfl) (Nat.le_of_ble_eq_true (by kernel_rfl)) (Nat.le_of_ble_eq_true (by kernel_rfl)) (fun X hP hn hp => spec_DrawRows.v k hP hn hp) (fun X hP hn hp => draw_ok (spec_DrawRows.v k hP hn hp) (by rw [hP]; exact mixed)) (fun X hP hn hp => loops_all _ (by
   have e : allLoops (Try.f21.body.getD .skip) = [] := by kernel_rfl
   rw [e]
   intro d hd
   exact absurd hd (List.not_mem_nil))) rfl (fun x => spec_DrawRows.ok k x)⟩
theorem spec_DrawMergeRows.v (k : Nat) {X : Cx} (hP : X.P = Try.prog) (hn : X.nt = Try.f22.ntmps) (hp : X.np = 1) : EnvOk X (spec_DrawMergeRows.n k) :=
 env_ok hP (Eq.trans (by kernel_rfl) hn.symm) (Eq.trans rfl hp.symm) rfl rfl tiOk eqOk (fun f en h => by
  have h : spec_DrawMergeRows.c k f = some en := h
  unfold spec_DrawMergeRows.c at h
  split at h
  ·cases h; exact spec_l1New.s k
  ·cases h; exact spec_l11Any.s k
  ·cases h)
theorem spec_DrawMergeRows.s (k : Nat) : CallOk Try.prog 22 (spec_DrawMergeRows.e k) := ⟨⟨Try.f22, Try.func22, by kernel_rfl, by kernel_rfl⟩, body_sound (fn := Try.f22) (c := (Try.f22.body.getD .skip)) Try.func22 (by kernel_rfl) (Nat.le_of_ble_eq_true (by kernel_rfl)) (Nat.le_of_ble_eq_true (by kernel_rfl)) (fun X hP hn hp => spec_DrawMergeRows.v k hP hn hp) (fun X hP hn hp => draw_ok (spec_DrawMergeRows.v k hP hn hp) (by rw [hP]; exact mixed)) (fun X hP hn hp => loops_all _ (by
   have e : allLoops (Try.f22.body.getD .skip) = [] := by kernel_rfl
   rw [e]
   intro d hd
   exact absurd hd (List.not_mem_nil))) rfl (fun x => spec_DrawMergeRows.ok k x)⟩
theorem impl_MergeRows.v (k : Nat) {X : Cx} (hP : X.P = Try.prog) (hn : X.nt = Try.f23.ntmps) (hp : X.np = 2) : EnvOk X (impl_MergeRows.n k) :=
 env_ok hP (Eq.trans (by kernel_rfl) hn.symm) (Eq.trans rfl hp.symm) rfl rfl tiOk eqOk (fun f en h => by
  have h : impl_MergeRows.c k f = some en := h
  unfold impl_MergeRows.c at h
  split at h
  ·cases h; exact impl_MergeRow.s k
  ·cases h; exact impl_copyRows.s k
  ·cases h)
theorem impl_MergeRows_l3.s {X : Cx} (hP : X.P = Try.prog) (hn : X.nt = Try.f23.ntmps) (hp : X.np = 2) : ∀ k, LoopOk X (impl_MergeRows_l3.p k) (loopAt 3 (Try.f23.body.getD .skip)) :=
 loop_ok (f := fun k x => (impl_MergeRows_l3.p k).run x) (En' := impl_MergeRows.n) (fun x => rfl) (fun k x => impl_MergeRows_l3.ok k x) (fun k => impl_MergeRows.v k hP hn hp) (fun k => draw_ok (impl_MergeRows.v k hP hn hp) (by rw [hP]; exact mixed)) (fun k => loops_all _ (by
   have e : allLoops (loopAt 3 (Try.f23.body.getD .skip)) = [] := by kernel_rfl
   rw [e]
   intro d hd
   exact absurd hd (List.not_mem_nil)))
theorem impl_MergeRows.s (k : Nat) : CallOk Try.prog 23 (impl_MergeRows.e k) := ⟨⟨Try.f23, Try.func23, by kernel_rfl, by kernel_rfl⟩, body_sound (fn := Try.f23) (c := (Try.f23.body.getD .skip)) Try.func23 (by kernel_rfl) (Nat.le_of_ble_eq_true (by kernel_rfl)) (Nat.le_of_ble_eq_true (by kernel_rfl)) (fun X hP hn hp => impl_MergeRows.v k hP hn hp) (fun X hP hn hp => draw_ok (impl_MergeRows.v k hP hn hp) (by rw [hP]; exact mixed)) (fun X hP hn hp => loops_mk (b := (Try.f23.body.getD .skip)) [3] (by kernel_rfl) (by kernel_rfl) (by
   intro l hl L hL
   simp only [List.mem_cons, List.not_mem_nil, or_false] at hl
   rcases hl with rfl
   ·have e : (impl_MergeRows.n k).lp 3 = some (impl_MergeRows_l3.p k) := rfl
    rw [e] at hL
    cases hL
    exact impl_MergeRows_l3.s hP hn hp k)) rfl (fun x => impl_MergeRows.ok k x)⟩
theorem impl_in.v (k : Nat) {X : Cx} (hP : X.P = Try.prog) (hn : X.nt = Try.f120.ntmps) (hp : X.np = 3) : EnvOk X (impl_in.n k) :=
 env_ok hP (Eq.trans (by kernel_rfl) hn.symm) (Eq.trans rfl hp.symm) rfl rfl tiOk eqOk (fun f en h => by cases h)
theorem impl_in.s (k : Nat) : CallOk Try.prog 120 (impl_in.e k) := ⟨⟨Try.f120, Try.func120, by kernel_rfl, by kernel_rfl⟩, body_sound (fn := Try.f120) (c := (Try.f120.body.getD .skip)) Try.func120 (by kernel_rfl) (Nat.le_of_ble_eq_true (by kernel_rfl)) (Nat.le_of_ble_eq_true (by kernel_rfl)) (fun X hP hn hp => impl_in.v k hP hn hp) (fun X hP hn hp => draw_ok (impl_in.v k hP hn hp) (by rw [hP]; exact mixed)) (fun X hP hn hp => loops_all _ (by
   have e : allLoops (Try.f120.body.getD .skip) = [] := by kernel_rfl
   rw [e]
   intro d hd
   exact absurd hd (List.not_mem_nil))) rfl (fun x => impl_in.ok k x)⟩
theorem impl_NameOk.v (k : Nat) {X : Cx} (hP : X.P = Try.prog) (hn : X.nt = Try.f83.ntmps) (hp : X.np = 1) : EnvOk X (impl_NameOk.n k) :=
 env_ok hP (Eq.trans (by kernel_rfl) hn.symm) (Eq.trans rfl hp.symm) rfl rfl tiOk eqOk (fun f en h => by
  have h : impl_NameOk.c k f = some en := h
  unfold impl_NameOk.c at h
  split at h
  ·cases h; exact impl_in.s k
  ·cases h)
theorem impl_NameOk_l2.s {X : Cx} (hP : X.P = Try.prog) (hn : X.nt = Try.f83.ntmps) (hp : X.np = 1) : ∀ k, LoopOk X (impl_NameOk_l2.p k) (loopAt 2 (Try.f83.body.getD .skip)) :=
 loop_ok (f := fun k x => (impl_NameOk_l2.p k).run x) (En' := impl_NameOk.n) (fun x => rfl) (fun k x => impl_NameOk_l2.ok k x) (fun k => impl_NameOk.v k hP hn hp) (fun k => draw_ok (impl_NameOk.v k hP hn hp) (by rw [hP]; exact mixed)) (fun k => loops_all _ (by
   have e : allLoops (loopAt 2 (Try.f83.body.getD .skip)) = [] := by kernel_rfl
   rw [e]
   intro d hd
   exact absurd hd (List.not_mem_nil)))
theorem impl_NameOk.s (k : Nat) : CallOk Try.prog 83 (impl_NameOk.e k) := ⟨⟨Try.f83, Try.func83, by kernel_rfl, by kernel_rfl⟩, body_sound (fn := Try.f83) (c := (Try.f83.body.getD .skip)) Try.func83 (by kernel_rfl) (Nat.le_of_ble_eq_true (by kernel_rfl)) (Nat.le_of_ble_eq_true (by kernel_rfl)) (fun X hP hn hp => impl_NameOk.v k hP hn hp) (fun X hP hn hp => draw_ok (impl_NameOk.v k hP hn hp) (by rw [hP]; exact mixed)) (fun X hP hn hp => loops_mk (b := (Try.f83.body.getD .skip)) [2] (by kernel_rfl) (by kernel_rfl) (by
   intro l hl L hL
   simp only [List.mem_cons, List.not_mem_nil, or_false] at hl
   rcases hl with rfl
   ·have e : (impl_NameOk.n k).lp 2 = some (impl_NameOk_l2.p k) := rfl
    rw [e] at hL
    cases hL
    exact impl_NameOk_l2.s hP hn hp k)) rfl (fun x => impl_NameOk.ok k x)⟩
theorem impl_StampOk.v (k : Nat) {X : Cx} (hP : X.P = Try.prog) (hn : X.nt = Try.f139.ntmps) (hp : X.np = 1) : EnvOk X (impl_StampOk.n k) :=
 env_ok hP (Eq.trans (by kernel_rfl) hn.symm) (Eq.trans rfl hp.symm) rfl rfl tiOk eqOk (fun f en h => by
  have h : impl_StampOk.c k f = some en := h
  unfold impl_StampOk.c at h
  split at h
  ·cases h; exact impl_in.s k
  ·cases h)
theorem impl_StampOk.s (k : Nat) : CallOk Try.prog 139 (impl_StampOk.e k) := ⟨⟨Try.f139, Try.func139, by kernel_rfl, by kernel_rfl⟩, body_sound (fn := Try.f139) (c := (Try.f139.body.getD .skip)) Try.func139 (by kernel_rfl) (Nat.le_of_ble_eq_true (by kernel_rfl)) (Nat.le_of_ble_eq_true (by kernel_rfl)) (fun X hP hn hp => impl_StampOk.v k hP hn hp) (fun X hP hn hp => draw_ok (impl_StampOk.v k hP hn hp) (by rw [hP]; exact mixed)) (fun X hP hn hp => loops_all _ (by
   have e : allLoops (Try.f139.body.getD .skip) = [] := by kernel_rfl
   rw [e]
   intro d hd
   exact absurd hd (List.not_mem_nil))) rfl (fun x => impl_StampOk.ok k x)⟩
theorem impl_rowOk.v (k : Nat) {X : Cx} (hP : X.P = Try.prog) (hn : X.nt = Try.f75.ntmps) (hp : X.np = 1) : EnvOk X (impl_rowOk.n k) :=
 env_ok hP (Eq.trans (by kernel_rfl) hn.symm) (Eq.trans rfl hp.symm) rfl rfl tiOk eqOk (fun f en h => by
  have h : impl_rowOk.c k f = some en := h
  unfold impl_rowOk.c at h
  split at h
  ·cases h; exact impl_NameOk.s k
  ·cases h; exact impl_in.s k
  ·cases h; exact impl_StampOk.s k
  ·cases h)
theorem impl_rowOk.s (k : Nat) : CallOk Try.prog 75 (impl_rowOk.e k) := ⟨⟨Try.f75, Try.func75, by kernel_rfl, by kernel_rfl⟩, body_sound (fn := Try.f75) (c := (Try.f75.body.getD .skip)) Try.func75 (by kernel_rfl) (Nat.le_of_ble_eq_true (by kernel_rfl)) (Nat.le_of_ble_eq_true (by kernel_rfl)) (fun X hP hn hp => impl_rowOk.v k hP hn hp) (fun X hP hn hp => draw_ok (impl_rowOk.v k hP hn hp) (by rw [hP]; exact mixed)) (fun X hP hn hp => loops_all _ (by
   have e : allLoops (Try.f75.body.getD .skip) = [] := by kernel_rfl
   rw [e]
   intro d hd
   exact absurd hd (List.not_mem_nil))) rfl (fun x => impl_rowOk.ok k x)⟩
theorem impl_RowsOk.v (k : Nat) {X : Cx} (hP : X.P = Try.prog) (hn : X.nt = Try.f24.ntmps) (hp : X.np = 1) : EnvOk X (impl_RowsOk.n k) :=
 env_ok hP (Eq.trans (by kernel_rfl) hn.symm) (Eq.trans rfl hp.symm) rfl rfl tiOk eqOk (fun f en h => by
  have h : impl_RowsOk.c k f = some en := h
  unfold impl_RowsOk.c at h
  split at h
  ·cases h; exact impl_rowOk.s k
  ·cases h)
theorem impl_RowsOk_l2.s {X : Cx} (hP : X.P = Try.prog) (hn : X.nt = Try.f24.ntmps) (hp : X.np = 1) : ∀ k, LoopOk X (impl_RowsOk_l2.p k) (loopAt 2 (Try.f24.body.getD .skip)) :=
 loop_ok (f := fun k x => (impl_RowsOk_l2.p k).run x) (En' := impl_RowsOk.n) (fun x => rfl) (fun k x => impl_RowsOk_l2.ok k x) (fun k => impl_RowsOk.v k hP hn hp) (fun k => draw_ok (impl_RowsOk.v k hP hn hp) (by rw [hP]; exact mixed)) (fun k => loops_all _ (by
   have e : allLoops (loopAt 2 (Try.f24.body.getD .skip)) = [] := by kernel_rfl
   rw [e]
   intro d hd
   exact absurd hd (List.not_mem_nil)))
theorem impl_RowsOk.s (k : Nat) : CallOk Try.prog 24 (impl_RowsOk.e k) := ⟨⟨Try.f24, Try.func24, by kernel_rfl, by kernel_rfl⟩, body_sound (fn := Try.f24) (c := (Try.f24.body.getD .skip)) Try.func24 (by kernel_rfl) (Nat.le_of_ble_eq_true (by kernel_rfl)) (Nat.le_of_ble_eq_true (by kernel_rfl)) (fun X hP hn hp => impl_RowsOk.v k hP hn hp) (fun X hP hn hp => draw_ok (impl_RowsOk.v k hP hn hp) (by rw [hP]; exact mixed)) (fun X hP hn hp => loops_mk (b := (Try.f24.body.getD .skip)) [2] (by kernel_rfl) (by kernel_rfl) (by
   intro l hl L hL
   simp only [List.mem_cons, List.not_mem_nil, or_false] at hl
   rcases hl with rfl
   ·have e : (impl_RowsOk.n k).lp 2 = some (impl_RowsOk_l2.p k) := rfl
    rw [e] at hL
    cases hL
    exact impl_RowsOk_l2.s hP hn hp k)) rfl (fun x => impl_RowsOk.ok k x)⟩
theorem spec_l1In.v (k : Nat) {X : Cx} (hP : X.P = Try.prog) (hn : X.nt = Try.f141.ntmps) (hp : X.np = 3) : EnvOk X (spec_l1In.n k) :=
 env_ok hP (Eq.trans (by kernel_rfl) hn.symm) (Eq.trans rfl hp.symm) rfl rfl tiOk eqOk (fun f en h => by cases h)
theorem spec_l1In.s (k : Nat) : CallOk Try.prog 141 (spec_l1In.e k) := ⟨⟨Try.f141, Try.func141, by kernel_rfl, by kernel_rfl⟩, body_sound (fn := Try.f141) (c := (Try.f141.body.getD .skip)) Try.func141 (by kernel_rfl) (Nat.le_of_ble_eq_true (by kernel_rfl)) (Nat.le_of_ble_eq_true (by kernel_rfl)) (fun X hP hn hp => spec_l1In.v k hP hn hp) (fun X hP hn hp => draw_ok (spec_l1In.v k hP hn hp) (by rw [hP]; exact mixed)) (fun X hP hn hp => loops_all _ (by
   have e : allLoops (Try.f141.body.getD .skip) = [] := by kernel_rfl
   rw [e]
   intro d hd
   exact absurd hd (List.not_mem_nil))) rfl (fun x => spec_l1In.ok k x)⟩
theorem spec_NameOk.v (k : Nat) {X : Cx} (hP : X.P = Try.prog) (hn : X.nt = Try.f128.ntmps) (hp : X.np = 1) : EnvOk X (spec_NameOk.n k) :=
 env_ok hP (Eq.trans (by kernel_rfl) hn.symm) (Eq.trans rfl hp.symm) rfl rfl tiOk eqOk (fun f en h => by
  have h : spec_NameOk.c k f = some en := h
  unfold spec_NameOk.c at h
  split at h
  ·cases h; exact spec_l1In.s k
  ·cases h)
theorem spec_NameOk_l2.s {X : Cx} (hP : X.P = Try.prog) (hn : X.nt = Try.f128.ntmps) (hp : X.np = 1) : ∀ k, LoopOk X (spec_NameOk_l2.p k) (loopAt 2 (Try.f128.body.getD .skip)) :=
 loop_ok (f := fun k x => (spec_NameOk_l2.p k).run x) (En' := spec_NameOk.n) (fun x => rfl) (fun k x => spec_NameOk_l2.ok k x) (fun k => spec_NameOk.v k hP hn hp) (fun k => draw_ok (spec_NameOk.v k hP hn hp) (by rw [hP]; exact mixed)) (fun k => loops_all _ (by
   have e : allLoops (loopAt 2 (Try.f128.body.getD .skip)) = [] := by kernel_rfl
   rw [e]
   intro d hd
   exact absurd hd (List.not_mem_nil)))
theorem spec_NameOk.s (k : Nat) : CallOk Try.prog 128 (spec_NameOk.e k) := ⟨⟨Try.f128, Try.func128, by kernel_rfl, by kernel_rfl⟩, body_sound (fn := Try.f128) (c := (Try.f128.body.getD .skip)) Try.func128 (by kernel_rfl) (Nat.le_of_ble_eq_true (by kernel_rfl)) (Nat.le_of_ble_eq_true (by kernel_rfl)) (fun X hP hn hp => spec_NameOk.v k hP hn hp) (fun X hP hn hp => draw_ok (spec_NameOk.v k hP hn hp) (by rw [hP]; exact mixed)) (fun X hP hn hp => loops_mk (b := (Try.f128.body.getD .skip)) [2] (by kernel_rfl) (by kernel_rfl) (by
   intro l hl L hL
   simp only [List.mem_cons, List.not_mem_nil, or_false] at hl
   rcases hl with rfl
   ·have e : (spec_NameOk.n k).lp 2 = some (spec_NameOk_l2.p k) := rfl
    rw [e] at hL
    cases hL
    exact spec_NameOk_l2.s hP hn hp k)) rfl (fun x => spec_NameOk.ok k x)⟩
theorem spec_StampOk.v (k : Nat) {X : Cx} (hP : X.P = Try.prog) (hn : X.nt = Try.f140.ntmps) (hp : X.np = 1) : EnvOk X (spec_StampOk.n k) :=
 env_ok hP (Eq.trans (by kernel_rfl) hn.symm) (Eq.trans rfl hp.symm) rfl rfl tiOk eqOk (fun f en h => by
  have h : spec_StampOk.c k f = some en := h
  unfold spec_StampOk.c at h
  split at h
  ·cases h; exact spec_l1In.s k
  ·cases h)
theorem spec_StampOk.s (k : Nat) : CallOk Try.prog 140 (spec_StampOk.e k) := ⟨⟨Try.f140, Try.func140, by kernel_rfl, by kernel_rfl⟩, body_sound (fn := Try.f140) (c := (Try.f140.body.getD .skip)) Try.func140 (by kernel_rfl) (Nat.le_of_ble_eq_true (by kernel_rfl)) (Nat.le_of_ble_eq_true (by kernel_rfl)) (fun X hP hn hp => spec_StampOk.v k hP hn hp) (fun X hP hn hp => draw_ok (spec_StampOk.v k hP hn hp) (by rw [hP]; exact mixed)) (fun X hP hn hp => loops_all _ (by
   have e : allLoops (Try.f140.body.getD .skip) = [] := by kernel_rfl
   rw [e]
   intro d hd
   exact absurd hd (List.not_mem_nil))) rfl (fun x => spec_StampOk.ok k x)⟩
theorem spec_l11Row.v (k : Nat) {X : Cx} (hP : X.P = Try.prog) (hn : X.nt = Try.f76.ntmps) (hp : X.np = 1) : EnvOk X (spec_l11Row.n k) :=
 env_ok hP (Eq.trans (by kernel_rfl) hn.symm) (Eq.trans rfl hp.symm) rfl rfl tiOk eqOk (fun f en h => by
  have h : spec_l11Row.c k f = some en := h
  unfold spec_l11Row.c at h
  split at h
  ·cases h; exact spec_NameOk.s k
  ·cases h; exact spec_StampOk.s k
  ·cases h; exact spec_l1In.s k
  ·cases h)
theorem spec_l11Row.s (k : Nat) : CallOk Try.prog 76 (spec_l11Row.e k) := ⟨⟨Try.f76, Try.func76, by kernel_rfl, by kernel_rfl⟩, body_sound (fn := Try.f76) (c := (Try.f76.body.getD .skip)) Try.func76 (by kernel_rfl) (Nat.le_of_ble_eq_true (by kernel_rfl)) (Nat.le_of_ble_eq_true (by kernel_rfl)) (fun X hP hn hp => spec_l11Row.v k hP hn hp) (fun X hP hn hp => draw_ok (spec_l11Row.v k hP hn hp) (by rw [hP]; exact mixed)) (fun X hP hn hp => loops_all _ (by
   have e : allLoops (Try.f76.body.getD .skip) = [] := by kernel_rfl
   rw [e]
   intro d hd
   exact absurd hd (List.not_mem_nil))) rfl (fun x => spec_l11Row.ok k x)⟩
theorem spec_RowsOk.v (k : Nat) {X : Cx} (hP : X.P = Try.prog) (hn : X.nt = Try.f25.ntmps) (hp : X.np = 1) : EnvOk X (spec_RowsOk.n k) :=
 env_ok hP (Eq.trans (by kernel_rfl) hn.symm) (Eq.trans rfl hp.symm) rfl rfl tiOk eqOk (fun f en h => by
  have h : spec_RowsOk.c k f = some en := h
  unfold spec_RowsOk.c at h
  split at h
  ·cases h; exact spec_l11Row.s k
  ·cases h)
theorem spec_RowsOk_l2.s {X : Cx} (hP : X.P = Try.prog) (hn : X.nt = Try.f25.ntmps) (hp : X.np = 1) : ∀ k, LoopOk X (spec_RowsOk_l2.p k) (loopAt 2 (Try.f25.body.getD .skip)) :=
 loop_ok (f := fun k x => (spec_RowsOk_l2.p k).run x) (En' := spec_RowsOk.n) (fun x => rfl) (fun k x => spec_RowsOk_l2.ok k x) (fun k => spec_RowsOk.v k hP hn hp) (fun k => draw_ok (spec_RowsOk.v k hP hn hp) (by rw [hP]; exact mixed)) (fun k => loops_all _ (by
   have e : allLoops (loopAt 2 (Try.f25.body.getD .skip)) = [] := by kernel_rfl
   rw [e]
   intro d hd
   exact absurd hd (List.not_mem_nil)))
theorem spec_RowsOk.s (k : Nat) : CallOk Try.prog 25 (spec_RowsOk.e k) := ⟨⟨Try.f25, Try.func25, by kernel_rfl, by kernel_rfl⟩, body_sound (fn := Try.f25) (c := (Try.f25.body.getD .skip)) Try.func25 (by kernel_rfl) (Nat.le_of_ble_eq_true (by kernel_rfl)) (Nat.le_of_ble_eq_true (by kernel_rfl)) (fun X hP hn hp => spec_RowsOk.v k hP hn hp) (fun X hP hn hp => draw_ok (spec_RowsOk.v k hP hn hp) (by rw [hP]; exact mixed)) (fun X hP hn hp => loops_mk (b := (Try.f25.body.getD .skip)) [2] (by kernel_rfl) (by kernel_rfl) (by
   intro l hl L hL
   simp only [List.mem_cons, List.not_mem_nil, or_false] at hl
   rcases hl with rfl
   ·have e : (spec_RowsOk.n k).lp 2 = some (spec_RowsOk_l2.p k) := rfl
    rw [e] at hL
    cases hL
    exact spec_RowsOk_l2.s hP hn hp k)) rfl (fun x => spec_RowsOk.ok k x)⟩
theorem laws_FnMerged.v (k : Nat) {X : Cx} (hP : X.P = Try.prog) (hn : X.nt = Try.f4.ntmps) (hp : X.np = 1) : EnvOk X (laws_FnMerged.n k) :=
 env_ok hP (Eq.trans (by kernel_rfl) hn.symm) (Eq.trans rfl hp.symm) rfl rfl tiOk eqOk (fun f en h => by
  have h : laws_FnMerged.c k f = some en := h
  unfold laws_FnMerged.c at h
  split at h
  ·cases h; exact laws_big.s k
  ·cases h; exact laws_sameRows.s k
  ·cases h; exact spec_DrawRows.s k
  ·cases h; exact spec_DrawMergeRows.s k
  ·cases h; exact impl_MergeRows.s k
  ·cases h; exact impl_RowsOk.s k
  ·cases h; exact spec_RowsOk.s k
  ·cases h)
theorem laws_FnMerged.s (k : Nat) : CallOk Try.prog 4 (laws_FnMerged.e k) := ⟨⟨Try.f4, Try.func4, by kernel_rfl, by kernel_rfl⟩, body_sound (fn := Try.f4) (c := (Try.f4.body.getD .skip)) Try.func4 (by kernel_rfl) (Nat.le_of_ble_eq_true (by kernel_rfl)) (Nat.le_of_ble_eq_true (by kernel_rfl)) (fun X hP hn hp => laws_FnMerged.v k hP hn hp) (fun X hP hn hp => draw_ok (laws_FnMerged.v k hP hn hp) (by rw [hP]; exact mixed)) (fun X hP hn hp => loops_all _ (by
   have e : allLoops (Try.f4.body.getD .skip) = [] := by kernel_rfl
   rw [e]
   intro d hd
   exact absurd hd (List.not_mem_nil))) rfl (fun x => laws_FnMerged.ok k x)⟩
theorem laws_sameBytes.v (k : Nat) {X : Cx} (hP : X.P = Try.prog) (hn : X.nt = Try.f47.ntmps) (hp : X.np = 2) : EnvOk X (laws_sameBytes.n k) :=
 env_ok hP (Eq.trans (by kernel_rfl) hn.symm) (Eq.trans rfl hp.symm) rfl rfl tiOk eqOk (fun f en h => by cases h)
theorem laws_sameBytes_l4.s {X : Cx} (hP : X.P = Try.prog) (hn : X.nt = Try.f47.ntmps) (hp : X.np = 2) : ∀ k, LoopOk X (laws_sameBytes_l4.p k) (loopAt 4 (Try.f47.body.getD .skip)) :=
 loop_ok (f := fun k x => (laws_sameBytes_l4.p k).run x) (En' := laws_sameBytes.n) (fun x => rfl) (fun k x => laws_sameBytes_l4.ok k x) (fun k => laws_sameBytes.v k hP hn hp) (fun k => draw_ok (laws_sameBytes.v k hP hn hp) (by rw [hP]; exact mixed)) (fun k => loops_all _ (by
   have e : allLoops (loopAt 4 (Try.f47.body.getD .skip)) = [] := by kernel_rfl
   rw [e]
   intro d hd
   exact absurd hd (List.not_mem_nil)))
theorem laws_sameBytes.s (k : Nat) : CallOk Try.prog 47 (laws_sameBytes.e k) := ⟨⟨Try.f47, Try.func47, by kernel_rfl, by kernel_rfl⟩, body_sound (fn := Try.f47) (c := (Try.f47.body.getD .skip)) Try.func47 (by kernel_rfl) (Nat.le_of_ble_eq_true (by kernel_rfl)) (Nat.le_of_ble_eq_true (by kernel_rfl)) (fun X hP hn hp => laws_sameBytes.v k hP hn hp) (fun X hP hn hp => draw_ok (laws_sameBytes.v k hP hn hp) (by rw [hP]; exact mixed)) (fun X hP hn hp => loops_mk (b := (Try.f47.body.getD .skip)) [4] (by kernel_rfl) (by kernel_rfl) (by
   intro l hl L hL
   simp only [List.mem_cons, List.not_mem_nil, or_false] at hl
   rcases hl with rfl
   ·have e : (laws_sameBytes.n k).lp 4 = some (laws_sameBytes_l4.p k) := rfl
    rw [e] at hL
    cases hL
    exact laws_sameBytes_l4.s hP hn hp k)) rfl (fun x => laws_sameBytes.ok k x)⟩
theorem spec_DrawPutRows.v (k : Nat) {X : Cx} (hP : X.P = Try.prog) (hn : X.nt = Try.f48.ntmps) (hp : X.np = 1) : EnvOk X (spec_DrawPutRows.n k) :=
 env_ok hP (Eq.trans (by kernel_rfl) hn.symm) (Eq.trans rfl hp.symm) rfl rfl tiOk eqOk (fun f en h => by
  have h : spec_DrawPutRows.c k f = some en := h
  unfold spec_DrawPutRows.c at h
  split at h
  ·cases h; exact spec_l1New.s k
  ·cases h; exact spec_l11Any.s k
  ·cases h)
theorem spec_DrawPutRows.s (k : Nat) : CallOk Try.prog 48 (spec_DrawPutRows.e k) := ⟨⟨Try.f48, Try.func48, by kernel_rfl, by kernel_rfl⟩, body_sound (fn := Try.f48) (c := (Try.f48.body.getD .skip)) Try.func48 (by kernel_rfl) (Nat.le_of_ble_eq_true (by kernel_rfl)) (Nat.le_of_ble_eq_true (by kernel_rfl)) (fun X hP hn hp => spec_DrawPutRows.v k hP hn hp) (fun X hP hn hp => draw_ok (spec_DrawPutRows.v k hP hn hp) (by rw [hP]; exact mixed)) (fun X hP hn hp => loops_all _ (by
   have e : allLoops (Try.f48.body.getD .skip) = [] := by kernel_rfl
   rw [e]
   intro d hd
   exact absurd hd (List.not_mem_nil))) rfl (fun x => spec_DrawPutRows.ok k x)⟩
theorem impl_addNum.v (k : Nat) {X : Cx} (hP : X.P = Try.prog) (hn : X.nt = Try.f101.ntmps) (hp : X.np = 2) : EnvOk X (impl_addNum.n k) :=
 env_ok hP (Eq.trans (by kernel_rfl) hn.symm) (Eq.trans rfl hp.symm) rfl rfl tiOk eqOk (fun f en h => by cases h)
theorem impl_addNum_l2.s {X : Cx} (hP : X.P = Try.prog) (hn : X.nt = Try.f101.ntmps) (hp : X.np = 2) : ∀ k, LoopOk X (impl_addNum_l2.p k) (loopAt 2 (Try.f101.body.getD .skip)) :=
 loop_ok (f := fun k x => (impl_addNum_l2.p k).run x) (En' := impl_addNum.n) (fun x => rfl) (fun k x => impl_addNum_l2.ok k x) (fun k => impl_addNum.v k hP hn hp) (fun k => draw_ok (impl_addNum.v k hP hn hp) (by rw [hP]; exact mixed)) (fun k => loops_all _ (by
   have e : allLoops (loopAt 2 (Try.f101.body.getD .skip)) = [] := by kernel_rfl
   rw [e]
   intro d hd
   exact absurd hd (List.not_mem_nil)))
theorem impl_addNum.s (k : Nat) : CallOk Try.prog 101 (impl_addNum.e k) := ⟨⟨Try.f101, Try.func101, by kernel_rfl, by kernel_rfl⟩, body_sound (fn := Try.f101) (c := (Try.f101.body.getD .skip)) Try.func101 (by kernel_rfl) (Nat.le_of_ble_eq_true (by kernel_rfl)) (Nat.le_of_ble_eq_true (by kernel_rfl)) (fun X hP hn hp => impl_addNum.v k hP hn hp) (fun X hP hn hp => draw_ok (impl_addNum.v k hP hn hp) (by rw [hP]; exact mixed)) (fun X hP hn hp => loops_mk (b := (Try.f101.body.getD .skip)) [2] (by kernel_rfl) (by kernel_rfl) (by
   intro l hl L hL
   simp only [List.mem_cons, List.not_mem_nil, or_false] at hl
   rcases hl with rfl
   ·have e : (impl_addNum.n k).lp 2 = some (impl_addNum_l2.p k) := rfl
    rw [e] at hL
    cases hL
    exact impl_addNum_l2.s hP hn hp k)) rfl (fun x => impl_addNum.ok k x)⟩
theorem impl_bit.v (k : Nat) {X : Cx} (hP : X.P = Try.prog) (hn : X.nt = Try.f150.ntmps) (hp : X.np = 1) : EnvOk X (impl_bit.n k) :=
 env_ok hP (Eq.trans (by kernel_rfl) hn.symm) (Eq.trans rfl hp.symm) rfl rfl tiOk eqOk (fun f en h => by cases h)
theorem impl_bit.s (k : Nat) : CallOk Try.prog 150 (impl_bit.e k) := ⟨⟨Try.f150, Try.func150, by kernel_rfl, by kernel_rfl⟩, body_sound (fn := Try.f150) (c := (Try.f150.body.getD .skip)) Try.func150 (by kernel_rfl) (Nat.le_of_ble_eq_true (by kernel_rfl)) (Nat.le_of_ble_eq_true (by kernel_rfl)) (fun X hP hn hp => impl_bit.v k hP hn hp) (fun X hP hn hp => draw_ok (impl_bit.v k hP hn hp) (by rw [hP]; exact mixed)) (fun X hP hn hp => loops_all _ (by
   have e : allLoops (Try.f150.body.getD .skip) = [] := by kernel_rfl
   rw [e]
   intro d hd
   exact absurd hd (List.not_mem_nil))) rfl (fun x => impl_bit.ok k x)⟩
theorem impl_addStamp.v (k : Nat) {X : Cx} (hP : X.P = Try.prog) (hn : X.nt = Try.f102.ntmps) (hp : X.np = 3) : EnvOk X (impl_addStamp.n k) :=
 env_ok hP (Eq.trans (by kernel_rfl) hn.symm) (Eq.trans rfl hp.symm) rfl rfl tiOk eqOk (fun f en h => by
  have h : impl_addStamp.c k f = some en := h
  unfold impl_addStamp.c at h
  split at h
  ·cases h; exact impl_addNum.s k
  ·cases h; exact impl_bit.s k
  ·cases h)
theorem impl_addStamp.s (k : Nat) : CallOk Try.prog 102 (impl_addStamp.e k) := ⟨⟨Try.f102, Try.func102, by kernel_rfl, by kernel_rfl⟩, body_sound (fn := Try.f102) (c := (Try.f102.body.getD .skip)) Try.func102 (by kernel_rfl) (Nat.le_of_ble_eq_true (by kernel_rfl)) (Nat.le_of_ble_eq_true (by kernel_rfl)) (fun X hP hn hp => impl_addStamp.v k hP hn hp) (fun X hP hn hp => draw_ok (impl_addStamp.v k hP hn hp) (by rw [hP]; exact mixed)) (fun X hP hn hp => loops_all _ (by
   have e : allLoops (Try.f102.body.getD .skip) = [] := by kernel_rfl
   rw [e]
   intro d hd
   exact absurd hd (List.not_mem_nil))) rfl (fun x => impl_addStamp.ok k x)⟩
theorem impl_addText.v (k : Nat) {X : Cx} (hP : X.P = Try.prog) (hn : X.nt = Try.f103.ntmps) (hp : X.np = 2) : EnvOk X (impl_addText.n k) :=
 env_ok hP (Eq.trans (by kernel_rfl) hn.symm) (Eq.trans rfl hp.symm) rfl rfl tiOk eqOk (fun f en h => by
  have h : impl_addText.c k f = some en := h
  unfold impl_addText.c at h
  split at h
  ·cases h; exact impl_addNum.s k
  ·cases h)
theorem impl_addText.s (k : Nat) : CallOk Try.prog 103 (impl_addText.e k) := ⟨⟨Try.f103, Try.func103, by kernel_rfl, by kernel_rfl⟩, body_sound (fn := Try.f103) (c := (Try.f103.body.getD .skip)) Try.func103 (by kernel_rfl) (Nat.le_of_ble_eq_true (by kernel_rfl)) (Nat.le_of_ble_eq_true (by kernel_rfl)) (fun X hP hn hp => impl_addText.v k hP hn hp) (fun X hP hn hp => draw_ok (impl_addText.v k hP hn hp) (by rw [hP]; exact mixed)) (fun X hP hn hp => loops_all _ (by
   have e : allLoops (Try.f103.body.getD .skip) = [] := by kernel_rfl
   rw [e]
   intro d hd
   exact absurd hd (List.not_mem_nil))) rfl (fun x => impl_addText.ok k x)⟩
theorem impl_PutRows.v (k : Nat) {X : Cx} (hP : X.P = Try.prog) (hn : X.nt = Try.f49.ntmps) (hp : X.np = 1) : EnvOk X (impl_PutRows.n k) :=
 env_ok hP (Eq.trans (by kernel_rfl) hn.symm) (Eq.trans rfl hp.symm) rfl rfl tiOk eqOk (fun f en h => by
  have h : impl_PutRows.c k f = some en := h
  unfold impl_PutRows.c at h
  split at h
  ·cases h; exact impl_RowsOk.s k
  ·cases h; exact impl_addNum.s k
  ·cases h; exact impl_addStamp.s k
  ·cases h; exact impl_addText.s k
  ·cases h)
theorem impl_PutRows_l5.s {X : Cx} (hP : X.P = Try.prog) (hn : X.nt = Try.f49.ntmps) (hp : X.np = 1) : ∀ k, LoopOk X (impl_PutRows_l5.p k) (loopAt 5 (Try.f49.body.getD .skip)) :=
 loop_ok (f := fun k x => (impl_PutRows_l5.p k).run x) (En' := impl_PutRows.n) (fun x => rfl) (fun k x => impl_PutRows_l5.ok k x) (fun k => impl_PutRows.v k hP hn hp) (fun k => draw_ok (impl_PutRows.v k hP hn hp) (by rw [hP]; exact mixed)) (fun k => loops_all _ (by
   have e : allLoops (loopAt 5 (Try.f49.body.getD .skip)) = [] := by kernel_rfl
   rw [e]
   intro d hd
   exact absurd hd (List.not_mem_nil)))
theorem impl_PutRows.s (k : Nat) : CallOk Try.prog 49 (impl_PutRows.e k) := ⟨⟨Try.f49, Try.func49, by kernel_rfl, by kernel_rfl⟩, body_sound (fn := Try.f49) (c := (Try.f49.body.getD .skip)) Try.func49 (by kernel_rfl) (Nat.le_of_ble_eq_true (by kernel_rfl)) (Nat.le_of_ble_eq_true (by kernel_rfl)) (fun X hP hn hp => impl_PutRows.v k hP hn hp) (fun X hP hn hp => draw_ok (impl_PutRows.v k hP hn hp) (by rw [hP]; exact mixed)) (fun X hP hn hp => loops_mk (b := (Try.f49.body.getD .skip)) [5] (by kernel_rfl) (by kernel_rfl) (by
   intro l hl L hL
   simp only [List.mem_cons, List.not_mem_nil, or_false] at hl
   rcases hl with rfl
   ·have e : (impl_PutRows.n k).lp 5 = some (impl_PutRows_l5.p k) := rfl
    rw [e] at hL
    cases hL
    exact impl_PutRows_l5.s hP hn hp k)) rfl (fun x => impl_PutRows.ok k x)⟩
theorem spec_PutNum.v (k : Nat) {X : Cx} (hP : X.P = Try.prog) (hn : X.nt = Try.f151.ntmps) (hp : X.np = 2) : EnvOk X (spec_PutNum.n k) :=
 env_ok hP (Eq.trans (by kernel_rfl) hn.symm) (Eq.trans rfl hp.symm) rfl rfl tiOk eqOk (fun f en h => by cases h)
theorem spec_PutNum_l6.s {X : Cx} (hP : X.P = Try.prog) (hn : X.nt = Try.f151.ntmps) (hp : X.np = 2) : ∀ k, LoopOk X (spec_PutNum_l6.p k) (loopAt 6 (Try.f151.body.getD .skip)) :=
 loop_ok (f := fun k x => (spec_PutNum_l6.p k).run x) (En' := spec_PutNum.n) (fun x => rfl) (fun k x => spec_PutNum_l6.ok k x) (fun k => spec_PutNum.v k hP hn hp) (fun k => draw_ok (spec_PutNum.v k hP hn hp) (by rw [hP]; exact mixed)) (fun k => loops_all _ (by
   have e : allLoops (loopAt 6 (Try.f151.body.getD .skip)) = [] := by kernel_rfl
   rw [e]
   intro d hd
   exact absurd hd (List.not_mem_nil)))
theorem spec_PutNum.s (k : Nat) : CallOk Try.prog 151 (spec_PutNum.e k) := ⟨⟨Try.f151, Try.func151, by kernel_rfl, by kernel_rfl⟩, body_sound (fn := Try.f151) (c := (Try.f151.body.getD .skip)) Try.func151 (by kernel_rfl) (Nat.le_of_ble_eq_true (by kernel_rfl)) (Nat.le_of_ble_eq_true (by kernel_rfl)) (fun X hP hn hp => spec_PutNum.v k hP hn hp) (fun X hP hn hp => draw_ok (spec_PutNum.v k hP hn hp) (by rw [hP]; exact mixed)) (fun X hP hn hp => loops_mk (b := (Try.f151.body.getD .skip)) [6] (by kernel_rfl) (by kernel_rfl) (by
   intro l hl L hL
   simp only [List.mem_cons, List.not_mem_nil, or_false] at hl
   rcases hl with rfl
   ·have e : (spec_PutNum.n k).lp 6 = some (spec_PutNum_l6.p k) := rfl
    rw [e] at hL
    cases hL
    exact spec_PutNum_l6.s hP hn hp k)) rfl (fun x => spec_PutNum.ok k x)⟩
theorem spec_l8Stamp.v (k : Nat) {X : Cx} (hP : X.P = Try.prog) (hn : X.nt = Try.f152.ntmps) (hp : X.np = 2) : EnvOk X (spec_l8Stamp.n k) :=
 env_ok hP (Eq.trans (by kernel_rfl) hn.symm) (Eq.trans rfl hp.symm) rfl rfl tiOk eqOk (fun f en h => by
  have h : spec_l8Stamp.c k f = some en := h
  unfold spec_l8Stamp.c at h
  split at h
  ·cases h; exact spec_PutNum.s k
  ·cases h)
theorem spec_l8Stamp.s (k : Nat) : CallOk Try.prog 152 (spec_l8Stamp.e k) := ⟨⟨Try.f152, Try.func152, by kernel_rfl, by kernel_rfl⟩, body_sound (fn := Try.f152) (c := (Try.f152.body.getD .skip)) Try.func152 (by kernel_rfl) (Nat.le_of_ble_eq_true (by kernel_rfl)) (Nat.le_of_ble_eq_true (by kernel_rfl)) (fun X hP hn hp => spec_l8Stamp.v k hP hn hp) (fun X hP hn hp => draw_ok (spec_l8Stamp.v k hP hn hp) (by rw [hP]; exact mixed)) (fun X hP hn hp => loops_all _ (by
   have e : allLoops (Try.f152.body.getD .skip) = [] := by kernel_rfl
   rw [e]
   intro d hd
   exact absurd hd (List.not_mem_nil))) rfl (fun x => spec_l8Stamp.ok k x)⟩
theorem spec_PutText.v (k : Nat) {X : Cx} (hP : X.P = Try.prog) (hn : X.nt = Try.f153.ntmps) (hp : X.np = 2) : EnvOk X (spec_PutText.n k) :=
 env_ok hP (Eq.trans (by kernel_rfl) hn.symm) (Eq.trans rfl hp.symm) rfl rfl tiOk eqOk (fun f en h => by
  have h : spec_PutText.c k f = some en := h
  unfold spec_PutText.c at h
  split at h
  ·cases h; exact spec_PutNum.s k
  ·cases h)
theorem spec_PutText.s (k : Nat) : CallOk Try.prog 153 (spec_PutText.e k) := ⟨⟨Try.f153, Try.func153, by kernel_rfl, by kernel_rfl⟩, body_sound (fn := Try.f153) (c := (Try.f153.body.getD .skip)) Try.func153 (by kernel_rfl) (Nat.le_of_ble_eq_true (by kernel_rfl)) (Nat.le_of_ble_eq_true (by kernel_rfl)) (fun X hP hn hp => spec_PutText.v k hP hn hp) (fun X hP hn hp => draw_ok (spec_PutText.v k hP hn hp) (by rw [hP]; exact mixed)) (fun X hP hn hp => loops_all _ (by
   have e : allLoops (Try.f153.body.getD .skip) = [] := by kernel_rfl
   rw [e]
   intro d hd
   exact absurd hd (List.not_mem_nil))) rfl (fun x => spec_PutText.ok k x)⟩
theorem spec_l8Bool.v (k : Nat) {X : Cx} (hP : X.P = Try.prog) (hn : X.nt = Try.f154.ntmps) (hp : X.np = 1) : EnvOk X (spec_l8Bool.n k) :=
 env_ok hP (Eq.trans (by kernel_rfl) hn.symm) (Eq.trans rfl hp.symm) rfl rfl tiOk eqOk (fun f en h => by cases h)
theorem spec_l8Bool.s (k : Nat) : CallOk Try.prog 154 (spec_l8Bool.e k) := ⟨⟨Try.f154, Try.func154, by kernel_rfl, by kernel_rfl⟩, body_sound (fn := Try.f154) (c := (Try.f154.body.getD .skip)) Try.func154 (by kernel_rfl) (Nat.le_of_ble_eq_true (by kernel_rfl)) (Nat.le_of_ble_eq_true (by kernel_rfl)) (fun X hP hn hp => spec_l8Bool.v k hP hn hp) (fun X hP hn hp => draw_ok (spec_l8Bool.v k hP hn hp) (by rw [hP]; exact mixed)) (fun X hP hn hp => loops_all _ (by
   have e : allLoops (Try.f154.body.getD .skip) = [] := by kernel_rfl
   rw [e]
   intro d hd
   exact absurd hd (List.not_mem_nil))) rfl (fun x => spec_l8Bool.ok k x)⟩
theorem spec_PutRows.v (k : Nat) {X : Cx} (hP : X.P = Try.prog) (hn : X.nt = Try.f104.ntmps) (hp : X.np = 1) : EnvOk X (spec_PutRows.n k) :=
 env_ok hP (Eq.trans (by kernel_rfl) hn.symm) (Eq.trans rfl hp.symm) rfl rfl tiOk eqOk (fun f en h => by
  have h : spec_PutRows.c k f = some en := h
  unfold spec_PutRows.c at h
  split at h
  ·cases h; exact spec_RowsOk.s k
  ·cases h; exact spec_PutNum.s k
  ·cases h; exact spec_l8Stamp.s k
  ·cases h; exact spec_PutText.s k
  ·cases h; exact spec_l8Bool.s k
  ·cases h)
theorem spec_PutRows_l5.s {X : Cx} (hP : X.P = Try.prog) (hn : X.nt = Try.f104.ntmps) (hp : X.np = 1) : ∀ k, LoopOk X (spec_PutRows_l5.p k) (loopAt 5 (Try.f104.body.getD .skip)) :=
 loop_ok (f := fun k x => (spec_PutRows_l5.p k).run x) (En' := spec_PutRows.n) (fun x => rfl) (fun k x => spec_PutRows_l5.ok k x) (fun k => spec_PutRows.v k hP hn hp) (fun k => draw_ok (spec_PutRows.v k hP hn hp) (by rw [hP]; exact mixed)) (fun k => loops_all _ (by
   have e : allLoops (loopAt 5 (Try.f104.body.getD .skip)) = [] := by kernel_rfl
   rw [e]
   intro d hd
   exact absurd hd (List.not_mem_nil)))
theorem spec_PutRows.s (k : Nat) : CallOk Try.prog 104 (spec_PutRows.e k) := ⟨⟨Try.f104, Try.func104, by kernel_rfl, by kernel_rfl⟩, body_sound (fn := Try.f104) (c := (Try.f104.body.getD .skip)) Try.func104 (by kernel_rfl) (Nat.le_of_ble_eq_true (by kernel_rfl)) (Nat.le_of_ble_eq_true (by kernel_rfl)) (fun X hP hn hp => spec_PutRows.v k hP hn hp) (fun X hP hn hp => draw_ok (spec_PutRows.v k hP hn hp) (by rw [hP]; exact mixed)) (fun X hP hn hp => loops_mk (b := (Try.f104.body.getD .skip)) [5] (by kernel_rfl) (by kernel_rfl) (by
   intro l hl L hL
   simp only [List.mem_cons, List.not_mem_nil, or_false] at hl
   rcases hl with rfl
   ·have e : (spec_PutRows.n k).lp 5 = some (spec_PutRows_l5.p k) := rfl
    rw [e] at hL
    cases hL
    exact spec_PutRows_l5.s hP hn hp k)) rfl (fun x => spec_PutRows.ok k x)⟩
theorem spec_DrawGetRows.v (k : Nat) {X : Cx} (hP : X.P = Try.prog) (hn : X.nt = Try.f50.ntmps) (hp : X.np = 1) : EnvOk X (spec_DrawGetRows.n k) :=
 env_ok hP (Eq.trans (by kernel_rfl) hn.symm) (Eq.trans rfl hp.symm) rfl rfl tiOk eqOk (fun f en h => by
  have h : spec_DrawGetRows.c k f = some en := h
  unfold spec_DrawGetRows.c at h
  split at h
  ·cases h; exact spec_l1New.s k
  ·cases h; exact spec_l11Draw.s k
  ·cases h; exact spec_PutRows.s k
  ·cases h; exact spec_l1Below.s k
  ·cases h; exact spec_l1Int.s k
  ·cases h)
theorem spec_DrawGetRows.s (k : Nat) : CallOk Try.prog 50 (spec_DrawGetRows.e k) := ⟨⟨Try.f50, Try.func50, by kernel_rfl, by kernel_rfl⟩, body_sound (fn := Try.f50) (c := (Try.f50.body.getD .skip)) Try.func50 (by kernel_rfl) (Nat.le_of_ble_eq_true (by kernel_rfl)) (Nat.le_of_ble_eq_true (by kernel_rfl)) (fun X hP hn hp => spec_DrawGetRows.v k hP hn hp) (fun X hP hn hp => draw_ok (spec_DrawGetRows.v k hP hn hp) (by rw [hP]; exact mixed)) (fun X hP hn hp => loops_all _ (by
   have e : allLoops (Try.f50.body.getD .skip) = [] := by kernel_rfl
   rw [e]
   intro d hd
   exact absurd hd (List.not_mem_nil))) rfl (fun x => spec_DrawGetRows.ok k x)⟩
theorem impl_GetNum.v (k : Nat) {X : Cx} (hP : X.P = Try.prog) (hn : X.nt = Try.f156.ntmps) (hp : X.np = 2) : EnvOk X (impl_GetNum.n k) :=
 env_ok hP (Eq.trans (by kernel_rfl) hn.symm) (Eq.trans rfl hp.symm) rfl rfl tiOk eqOk (fun f en h => by cases h)
theorem impl_GetNum_l3.s {X : Cx} (hP : X.P = Try.prog) (hn : X.nt = Try.f156.ntmps) (hp : X.np = 2) : ∀ k, LoopOk X (impl_GetNum_l3.p k) (loopAt 3 (Try.f156.body.getD .skip)) :=
 loop_ok (f := fun k x => (impl_GetNum_l3.p k).run x) (En' := impl_GetNum.n) (fun x => rfl) (fun k x => impl_GetNum_l3.ok k x) (fun k => impl_GetNum.v k hP hn hp) (fun k => draw_ok (impl_GetNum.v k hP hn hp) (by rw [hP]; exact mixed)) (fun k => loops_all _ (by
   have e : allLoops (loopAt 3 (Try.f156.body.getD .skip)) = [] := by kernel_rfl
   rw [e]
   intro d hd
   exact absurd hd (List.not_mem_nil)))
theorem impl_GetNum.s (k : Nat) : CallOk Try.prog 156 (impl_GetNum.e k) := ⟨⟨Try.f156, Try.func156, by kernel_rfl, by kernel_rfl⟩, body_sound (fn := Try.f156) (c := (Try.f156.body.getD .skip)) Try.func156 (by kernel_rfl) (Nat.le_of_ble_eq_true (by kernel_rfl)) (Nat.le_of_ble_eq_true (by kernel_rfl)) (fun X hP hn hp => impl_GetNum.v k hP hn hp) (fun X hP hn hp => draw_ok (impl_GetNum.v k hP hn hp) (by rw [hP]; exact mixed)) (fun X hP hn hp => loops_mk (b := (Try.f156.body.getD .skip)) [3] (by kernel_rfl) (by kernel_rfl) (by
   intro l hl L hL
   simp only [List.mem_cons, List.not_mem_nil, or_false] at hl
   rcases hl with rfl
   ·have e : (impl_GetNum.n k).lp 3 = some (impl_GetNum_l3.p k) := rfl
    rw [e] at hL
    cases hL
    exact impl_GetNum_l3.s hP hn hp k)) rfl (fun x => impl_GetNum.ok k x)⟩
theorem impl_reader_num.v (k : Nat) {X : Cx} (hP : X.P = Try.prog) (hn : X.nt = Try.f107.ntmps) (hp : X.np = 1) : EnvOk X (impl_reader_num.n k) :=
 env_ok hP (Eq.trans (by kernel_rfl) hn.symm) (Eq.trans rfl hp.symm) rfl rfl tiOk eqOk (fun f en h => by
  have h : impl_reader_num.c k f = some en := h
  unfold impl_reader_num.c at h
  split at h
  ·cases h; exact impl_GetNum.s k
  ·cases h)
theorem impl_reader_num.s (k : Nat) : CallOk Try.prog 107 (impl_reader_num.e k) := ⟨⟨Try.f107, Try.func107, by kernel_rfl, by kernel_rfl⟩, body_sound (fn := Try.f107) (c := (Try.f107.body.getD .skip)) Try.func107 (by kernel_rfl) (Nat.le_of_ble_eq_true (by kernel_rfl)) (Nat.le_of_ble_eq_true (by kernel_rfl)) (fun X hP hn hp => impl_reader_num.v k hP hn hp) (fun X hP hn hp => draw_ok (impl_reader_num.v k hP hn hp) (by rw [hP]; exact mixed)) (fun X hP hn hp => loops_all _ (by
   have e : allLoops (Try.f107.body.getD .skip) = [] := by kernel_rfl
   rw [e]
   intro d hd
   exact absurd hd (List.not_mem_nil))) rfl (fun x => impl_reader_num.ok k x)⟩
theorem impl_GetText.v (k : Nat) {X : Cx} (hP : X.P = Try.prog) (hn : X.nt = Try.f157.ntmps) (hp : X.np = 2) : EnvOk X (impl_GetText.n k) :=
 env_ok hP (Eq.trans (by kernel_rfl) hn.symm) (Eq.trans rfl hp.symm) rfl rfl tiOk eqOk (fun f en h => by
  have h : impl_GetText.c k f = some en := h
  unfold impl_GetText.c at h
  split at h
  ·cases h; exact impl_GetNum.s k
  ·cases h)
theorem impl_GetText.s (k : Nat) : CallOk Try.prog 157 (impl_GetText.e k) := ⟨⟨Try.f157, Try.func157, by kernel_rfl, by kernel_rfl⟩, body_sound (fn := Try.f157) (c := (Try.f157.body.getD .skip)) Try.func157 (by kernel_rfl) (Nat.le_of_ble_eq_true (by kernel_rfl)) (Nat.le_of_ble_eq_true (by kernel_rfl)) (fun X hP hn hp => impl_GetText.v k hP hn hp) (fun X hP hn hp => draw_ok (impl_GetText.v k hP hn hp) (by rw [hP]; exact mixed)) (fun X hP hn hp => loops_all _ (by
   have e : allLoops (Try.f157.body.getD .skip) = [] := by kernel_rfl
   rw [e]
   intro d hd
   exact absurd hd (List.not_mem_nil))) rfl (fun x => impl_GetText.ok k x)⟩
theorem impl_reader_text.v (k : Nat) {X : Cx} (hP : X.P = Try.prog) (hn : X.nt = Try.f108.ntmps) (hp : X.np = 1) : EnvOk X (impl_reader_text.n k) :=
 env_ok hP (Eq.trans (by kernel_rfl) hn.symm) (Eq.trans rfl hp.symm) rfl rfl tiOk eqOk (fun f en h => by
  have h : impl_reader_text.c k f = some en := h
  unfold impl_reader_text.c at h
  split at h
  ·cases h; exact impl_GetText.s k
  ·cases h)
theorem impl_reader_text.s (k : Nat) : CallOk Try.prog 108 (impl_reader_text.e k) := ⟨⟨Try.f108, Try.func108, by kernel_rfl, by kernel_rfl⟩, body_sound (fn := Try.f108) (c := (Try.f108.body.getD .skip)) Try.func108 (by kernel_rfl) (Nat.le_of_ble_eq_true (by kernel_rfl)) (Nat.le_of_ble_eq_true (by kernel_rfl)) (fun X hP hn hp => impl_reader_text.v k hP hn hp) (fun X hP hn hp => draw_ok (impl_reader_text.v k hP hn hp) (by rw [hP]; exact mixed)) (fun X hP hn hp => loops_all _ (by
   have e : allLoops (Try.f108.body.getD .skip) = [] := by kernel_rfl
   rw [e]
   intro d hd
   exact absurd hd (List.not_mem_nil))) rfl (fun x => impl_reader_text.ok k x)⟩
theorem impl_reader_stamp.v (k : Nat) {X : Cx} (hP : X.P = Try.prog) (hn : X.nt = Try.f109.ntmps) (hp : X.np = 1) : EnvOk X (impl_reader_stamp.n k) :=
 env_ok hP (Eq.trans (by kernel_rfl) hn.symm) (Eq.trans rfl hp.symm) rfl rfl tiOk eqOk (fun f en h => by
  have h : impl_reader_stamp.c k f = some en := h
  unfold impl_reader_stamp.c at h
  split at h
  ·cases h; exact impl_reader_num.s k
  ·cases h)
theorem impl_reader_stamp.s (k : Nat) : CallOk Try.prog 109 (impl_reader_stamp.e k) := ⟨⟨Try.f109, Try.func109, by kernel_rfl, by kernel_rfl⟩, body_sound (fn := Try.f109) (c := (Try.f109.body.getD .skip)) Try.func109 (by kernel_rfl) (Nat.le_of_ble_eq_true (by kernel_rfl)) (Nat.le_of_ble_eq_true (by kernel_rfl)) (fun X hP hn hp => impl_reader_stamp.v k hP hn hp) (fun X hP hn hp => draw_ok (impl_reader_stamp.v k hP hn hp) (by rw [hP]; exact mixed)) (fun X hP hn hp => loops_all _ (by
   have e : allLoops (Try.f109.body.getD .skip) = [] := by kernel_rfl
   rw [e]
   intro d hd
   exact absurd hd (List.not_mem_nil))) rfl (fun x => impl_reader_stamp.ok k x)⟩
theorem impl_GetRows.v (k : Nat) {X : Cx} (hP : X.P = Try.prog) (hn : X.nt = Try.f51.ntmps) (hp : X.np = 1) : EnvOk X (impl_GetRows.n k) :=
 env_ok hP (Eq.trans (by kernel_rfl) hn.symm) (Eq.trans rfl hp.symm) rfl rfl tiOk eqOk (fun f en h => by
  have h : impl_GetRows.c k f = some en := h
  unfold impl_GetRows.c at h
  split at h
  ·cases h; exact impl_RowsOk.s k
  ·cases h; exact impl_reader_num.s k
  ·cases h; exact impl_reader_text.s k
  ·cases h; exact impl_reader_stamp.s k
  ·cases h)
theorem impl_GetRows_l5.s {X : Cx} (hP : X.P = Try.prog) (hn : X.nt = Try.f51.ntmps) (hp : X.np = 1) : ∀ k, LoopOk X (impl_GetRows_l5.p k) (loopAt 5 (Try.f51.body.getD .skip)) :=
 loop_ok (f := fun k x => (impl_GetRows_l5.p k).run x) (En' := impl_GetRows.n) (fun x => rfl) (fun k x => impl_GetRows_l5.ok k x) (fun k => impl_GetRows.v k hP hn hp) (fun k => draw_ok (impl_GetRows.v k hP hn hp) (by rw [hP]; exact mixed)) (fun k => loops_all _ (by
   have e : allLoops (loopAt 5 (Try.f51.body.getD .skip)) = [] := by kernel_rfl
   rw [e]
   intro d hd
   exact absurd hd (List.not_mem_nil)))
theorem impl_GetRows.s (k : Nat) : CallOk Try.prog 51 (impl_GetRows.e k) := ⟨⟨Try.f51, Try.func51, by kernel_rfl, by kernel_rfl⟩, body_sound (fn := Try.f51) (c := (Try.f51.body.getD .skip)) Try.func51 (by kernel_rfl) (Nat.le_of_ble_eq_true (by kernel_rfl)) (Nat.le_of_ble_eq_true (by kernel_rfl)) (fun X hP hn hp => impl_GetRows.v k hP hn hp) (fun X hP hn hp => draw_ok (impl_GetRows.v k hP hn hp) (by rw [hP]; exact mixed)) (fun X hP hn hp => loops_mk (b := (Try.f51.body.getD .skip)) [5] (by kernel_rfl) (by kernel_rfl) (by
   intro l hl L hL
   simp only [List.mem_cons, List.not_mem_nil, or_false] at hl
   rcases hl with rfl
   ·have e : (impl_GetRows.n k).lp 5 = some (impl_GetRows_l5.p k) := rfl
    rw [e] at hL
    cases hL
    exact impl_GetRows_l5.s hP hn hp k)) rfl (fun x => impl_GetRows.ok k x)⟩
theorem spec_GetNum.v (k : Nat) {X : Cx} (hP : X.P = Try.prog) (hn : X.nt = Try.f110.ntmps) (hp : X.np = 2) : EnvOk X (spec_GetNum.n k) :=
 env_ok hP (Eq.trans (by kernel_rfl) hn.symm) (Eq.trans rfl hp.symm) rfl rfl tiOk eqOk (fun f en h => by cases h)
theorem spec_GetNum_l3.s {X : Cx} (hP : X.P = Try.prog) (hn : X.nt = Try.f110.ntmps) (hp : X.np = 2) : ∀ k, LoopOk X (spec_GetNum_l3.p k) (loopAt 3 (Try.f110.body.getD .skip)) :=
 loop_ok (f := fun k x => (spec_GetNum_l3.p k).run x) (En' := spec_GetNum.n) (fun x => rfl) (fun k x => spec_GetNum_l3.ok k x) (fun k => spec_GetNum.v k hP hn hp) (fun k => draw_ok (spec_GetNum.v k hP hn hp) (by rw [hP]; exact mixed)) (fun k => loops_all _ (by
   have e : allLoops (loopAt 3 (Try.f110.body.getD .skip)) = [] := by kernel_rfl
   rw [e]
   intro d hd
   exact absurd hd (List.not_mem_nil)))
theorem spec_GetNum.s (k : Nat) : CallOk Try.prog 110 (spec_GetNum.e k) := ⟨⟨Try.f110, Try.func110, by kernel_rfl, by kernel_rfl⟩, body_sound (fn := Try.f110) (c := (Try.f110.body.getD .skip)) Try.func110 (by kernel_rfl) (Nat.le_of_ble_eq_true (by kernel_rfl)) (Nat.le_of_ble_eq_true (by kernel_rfl)) (fun X hP hn hp => spec_GetNum.v k hP hn hp) (fun X hP hn hp => draw_ok (spec_GetNum.v k hP hn hp) (by rw [hP]; exact mixed)) (fun X hP hn hp => loops_mk (b := (Try.f110.body.getD .skip)) [3] (by kernel_rfl) (by kernel_rfl) (by
   intro l hl L hL
   simp only [List.mem_cons, List.not_mem_nil, or_false] at hl
   rcases hl with rfl
   ·have e : (spec_GetNum.n k).lp 3 = some (spec_GetNum_l3.p k) := rfl
    rw [e] at hL
    cases hL
    exact spec_GetNum_l3.s hP hn hp k)) rfl (fun x => spec_GetNum.ok k x)⟩
theorem spec_GetText.v (k : Nat) {X : Cx} (hP : X.P = Try.prog) (hn : X.nt = Try.f111.ntmps) (hp : X.np = 2) : EnvOk X (spec_GetText.n k) :=
 env_ok hP (Eq.trans (by kernel_rfl) hn.symm) (Eq.trans rfl hp.symm) rfl rfl tiOk eqOk (fun f en h => by
  have h : spec_GetText.c k f = some en := h
  unfold spec_GetText.c at h
  split at h
  ·cases h; exact spec_GetNum.s k
  ·cases h)
theorem spec_GetText.s (k : Nat) : CallOk Try.prog 111 (spec_GetText.e k) := ⟨⟨Try.f111, Try.func111, by kernel_rfl, by kernel_rfl⟩, body_sound (fn := Try.f111) (c := (Try.f111.body.getD .skip)) Try.func111 (by kernel_rfl) (Nat.le_of_ble_eq_true (by kernel_rfl)) (Nat.le_of_ble_eq_true (by kernel_rfl)) (fun X hP hn hp => spec_GetText.v k hP hn hp) (fun X hP hn hp => draw_ok (spec_GetText.v k hP hn hp) (by rw [hP]; exact mixed)) (fun X hP hn hp => loops_all _ (by
   have e : allLoops (Try.f111.body.getD .skip) = [] := by kernel_rfl
   rw [e]
   intro d hd
   exact absurd hd (List.not_mem_nil))) rfl (fun x => spec_GetText.ok k x)⟩
theorem spec_l8GetStamp.v (k : Nat) {X : Cx} (hP : X.P = Try.prog) (hn : X.nt = Try.f112.ntmps) (hp : X.np = 2) : EnvOk X (spec_l8GetStamp.n k) :=
 env_ok hP (Eq.trans (by kernel_rfl) hn.symm) (Eq.trans rfl hp.symm) rfl rfl tiOk eqOk (fun f en h => by
  have h : spec_l8GetStamp.c k f = some en := h
  unfold spec_l8GetStamp.c at h
  split at h
  ·cases h; exact spec_GetNum.s k
  ·cases h)
theorem spec_l8GetStamp.s (k : Nat) : CallOk Try.prog 112 (spec_l8GetStamp.e k) := ⟨⟨Try.f112, Try.func112, by kernel_rfl, by kernel_rfl⟩, body_sound (fn := Try.f112) (c := (Try.f112.body.getD .skip)) Try.func112 (by kernel_rfl) (Nat.le_of_ble_eq_true (by kernel_rfl)) (Nat.le_of_ble_eq_true (by kernel_rfl)) (fun X hP hn hp => spec_l8GetStamp.v k hP hn hp) (fun X hP hn hp => draw_ok (spec_l8GetStamp.v k hP hn hp) (by rw [hP]; exact mixed)) (fun X hP hn hp => loops_all _ (by
   have e : allLoops (Try.f112.body.getD .skip) = [] := by kernel_rfl
   rw [e]
   intro d hd
   exact absurd hd (List.not_mem_nil))) rfl (fun x => spec_l8GetStamp.ok k x)⟩
theorem spec_GetRows.v (k : Nat) {X : Cx} (hP : X.P = Try.prog) (hn : X.nt = Try.f52.ntmps) (hp : X.np = 1) : EnvOk X (spec_GetRows.n k) :=
 env_ok hP (Eq.trans (by kernel_rfl) hn.symm) (Eq.trans rfl hp.symm) rfl rfl tiOk eqOk (fun f en h => by
  have h : spec_GetRows.c k f = some en := h
  unfold spec_GetRows.c at h
  split at h
  ·cases h; exact spec_RowsOk.s k
  ·cases h; exact spec_GetNum.s k
  ·cases h; exact spec_GetText.s k
  ·cases h; exact spec_l8GetStamp.s k
  ·cases h)
theorem spec_GetRows_l7.s {X : Cx} (hP : X.P = Try.prog) (hn : X.nt = Try.f52.ntmps) (hp : X.np = 1) : ∀ k, LoopOk X (spec_GetRows_l7.p k) (loopAt 7 (Try.f52.body.getD .skip)) :=
 loop_ok (f := fun k x => (spec_GetRows_l7.p k).run x) (En' := spec_GetRows.n) (fun x => rfl) (fun k x => spec_GetRows_l7.ok k x) (fun k => spec_GetRows.v k hP hn hp) (fun k => draw_ok (spec_GetRows.v k hP hn hp) (by rw [hP]; exact mixed)) (fun k => loops_all _ (by
   have e : allLoops (loopAt 7 (Try.f52.body.getD .skip)) = [] := by kernel_rfl
   rw [e]
   intro d hd
   exact absurd hd (List.not_mem_nil)))
theorem spec_GetRows.s (k : Nat) : CallOk Try.prog 52 (spec_GetRows.e k) := ⟨⟨Try.f52, Try.func52, by kernel_rfl, by kernel_rfl⟩, body_sound (fn := Try.f52) (c := (Try.f52.body.getD .skip)) Try.func52 (by kernel_rfl) (Nat.le_of_ble_eq_true (by kernel_rfl)) (Nat.le_of_ble_eq_true (by kernel_rfl)) (fun X hP hn hp => spec_GetRows.v k hP hn hp) (fun X hP hn hp => draw_ok (spec_GetRows.v k hP hn hp) (by rw [hP]; exact mixed)) (fun X hP hn hp => loops_mk (b := (Try.f52.body.getD .skip)) [7] (by kernel_rfl) (by kernel_rfl) (by
   intro l hl L hL
   simp only [List.mem_cons, List.not_mem_nil, or_false] at hl
   rcases hl with rfl
   ·have e : (spec_GetRows.n k).lp 7 = some (spec_GetRows_l7.p k) := rfl
    rw [e] at hL
    cases hL
    exact spec_GetRows_l7.s hP hn hp k)) rfl (fun x => spec_GetRows.ok k x)⟩
theorem laws_FnRowBytes.v (k : Nat) {X : Cx} (hP : X.P = Try.prog) (hn : X.nt = Try.f9.ntmps) (hp : X.np = 1) : EnvOk X (laws_FnRowBytes.n k) :=
 env_ok hP (Eq.trans (by kernel_rfl) hn.symm) (Eq.trans rfl hp.symm) rfl rfl tiOk eqOk (fun f en h => by
  have h : laws_FnRowBytes.c k f = some en := h
  unfold laws_FnRowBytes.c at h
  split at h
  ·cases h; exact laws_big.s k
  ·cases h; exact laws_sameRows.s k
  ·cases h; exact spec_RowsOk.s k
  ·cases h; exact laws_sameBytes.s k
  ·cases h; exact spec_DrawPutRows.s k
  ·cases h; exact impl_PutRows.s k
  ·cases h; exact spec_DrawGetRows.s k
  ·cases h; exact impl_GetRows.s k
  ·cases h; exact spec_GetRows.s k
  ·cases h)
theorem laws_FnRowBytes.s (k : Nat) : CallOk Try.prog 9 (laws_FnRowBytes.e k) := ⟨⟨Try.f9, Try.func9, by kernel_rfl, by kernel_rfl⟩, body_sound (fn := Try.f9) (c := (Try.f9.body.getD .skip)) Try.func9 (by kernel_rfl) (Nat.le_of_ble_eq_true (by kernel_rfl)) (Nat.le_of_ble_eq_true (by kernel_rfl)) (fun X hP hn hp => laws_FnRowBytes.v k hP hn hp) (fun X hP hn hp => draw_ok (laws_FnRowBytes.v k hP hn hp) (by rw [hP]; exact mixed)) (fun X hP hn hp => loops_all _ (by
   have e : allLoops (Try.f9.body.getD .skip) = [] := by kernel_rfl
   rw [e]
   intro d hd
   exact absurd hd (List.not_mem_nil))) rfl (fun x => laws_FnRowBytes.ok k x)⟩
theorem impl_namedOk.v (k : Nat) {X : Cx} (hP : X.P = Try.prog) (hn : X.nt = Try.f97.ntmps) (hp : X.np = 1) : EnvOk X (impl_namedOk.n k) :=
 env_ok hP (Eq.trans (by kernel_rfl) hn.symm) (Eq.trans rfl hp.symm) rfl rfl tiOk eqOk (fun f en h => by
  have h : impl_namedOk.c k f = some en := h
  unfold impl_namedOk.c at h
  split at h
  ·cases h; exact impl_NameOk.s k
  ·cases h)
theorem impl_namedOk_l2.s {X : Cx} (hP : X.P = Try.prog) (hn : X.nt = Try.f97.ntmps) (hp : X.np = 1) : ∀ k, LoopOk X (impl_namedOk_l2.p k) (loopAt 2 (Try.f97.body.getD .skip)) :=
 loop_ok (f := fun k x => (impl_namedOk_l2.p k).run x) (En' := impl_namedOk.n) (fun x => rfl) (fun k x => impl_namedOk_l2.ok k x) (fun k => impl_namedOk.v k hP hn hp) (fun k => draw_ok (impl_namedOk.v k hP hn hp) (by rw [hP]; exact mixed)) (fun k => loops_all _ (by
   have e : allLoops (loopAt 2 (Try.f97.body.getD .skip)) = [] := by kernel_rfl
   rw [e]
   intro d hd
   exact absurd hd (List.not_mem_nil)))
theorem impl_namedOk.s (k : Nat) : CallOk Try.prog 97 (impl_namedOk.e k) := ⟨⟨Try.f97, Try.func97, by kernel_rfl, by kernel_rfl⟩, body_sound (fn := Try.f97) (c := (Try.f97.body.getD .skip)) Try.func97 (by kernel_rfl) (Nat.le_of_ble_eq_true (by kernel_rfl)) (Nat.le_of_ble_eq_true (by kernel_rfl)) (fun X hP hn hp => impl_namedOk.v k hP hn hp) (fun X hP hn hp => draw_ok (impl_namedOk.v k hP hn hp) (by rw [hP]; exact mixed)) (fun X hP hn hp => loops_mk (b := (Try.f97.body.getD .skip)) [2] (by kernel_rfl) (by kernel_rfl) (by
   intro l hl L hL
   simp only [List.mem_cons, List.not_mem_nil, or_false] at hl
   rcases hl with rfl
   ·have e : (impl_namedOk.n k).lp 2 = some (impl_namedOk_l2.p k) := rfl
    rw [e] at hL
    cases hL
    exact impl_namedOk_l2.s hP hn hp k)) rfl (fun x => impl_namedOk.ok k x)⟩
theorem impl_DiskOk.v (k : Nat) {X : Cx} (hP : X.P = Try.prog) (hn : X.nt = Try.f44.ntmps) (hp : X.np = 1) : EnvOk X (impl_DiskOk.n k) :=
 env_ok hP (Eq.trans (by kernel_rfl) hn.symm) (Eq.trans rfl hp.symm) rfl rfl tiOk eqOk (fun f en h => by
  have h : impl_DiskOk.c k f = some en := h
  unfold impl_DiskOk.c at h
  split at h
  ·cases h; exact impl_namedOk.s k
  ·cases h)
theorem impl_DiskOk.s (k : Nat) : CallOk Try.prog 44 (impl_DiskOk.e k) := ⟨⟨Try.f44, Try.func44, by kernel_rfl, by kernel_rfl⟩, body_sound (fn := Try.f44) (c := (Try.f44.body.getD .skip)) Try.func44 (by kernel_rfl) (Nat.le_of_ble_eq_true (by kernel_rfl)) (Nat.le_of_ble_eq_true (by kernel_rfl)) (fun X hP hn hp => impl_DiskOk.v k hP hn hp) (fun X hP hn hp => draw_ok (impl_DiskOk.v k hP hn hp) (by rw [hP]; exact mixed)) (fun X hP hn hp => loops_all _ (by
   have e : allLoops (Try.f44.body.getD .skip) = [] := by kernel_rfl
   rw [e]
   intro d hd
   exact absurd hd (List.not_mem_nil))) rfl (fun x => impl_DiskOk.ok k x)⟩
theorem impl_copyBytes.v (k : Nat) {X : Cx} (hP : X.P = Try.prog) (hn : X.nt = Try.f86.ntmps) (hp : X.np = 1) : EnvOk X (impl_copyBytes.n k) :=
 env_ok hP (Eq.trans (by kernel_rfl) hn.symm) (Eq.trans rfl hp.symm) rfl rfl tiOk eqOk (fun f en h => by cases h)
theorem impl_copyBytes.s (k : Nat) : CallOk Try.prog 86 (impl_copyBytes.e k) := ⟨⟨Try.f86, Try.func86, by kernel_rfl, by kernel_rfl⟩, body_sound (fn := Try.f86) (c := (Try.f86.body.getD .skip)) Try.func86 (by kernel_rfl) (Nat.le_of_ble_eq_true (by kernel_rfl)) (Nat.le_of_ble_eq_true (by kernel_rfl)) (fun X hP hn hp => impl_copyBytes.v k hP hn hp) (fun X hP hn hp => draw_ok (impl_copyBytes.v k hP hn hp) (by rw [hP]; exact mixed)) (fun X hP hn hp => loops_all _ (by
   have e : allLoops (Try.f86.body.getD .skip) = [] := by kernel_rfl
   rw [e]
   intro d hd
   exact absurd hd (List.not_mem_nil))) rfl (fun x => impl_copyBytes.ok k x)⟩
theorem impl_copyNamed.v (k : Nat) {X : Cx} (hP : X.P = Try.prog) (hn : X.nt = Try.f96.ntmps) (hp : X.np = 1) : EnvOk X (impl_copyNamed.n k) :=
 env_ok hP (Eq.trans (by kernel_rfl) hn.symm) (Eq.trans rfl hp.symm) rfl rfl tiOk eqOk (fun f en h => by
  have h : impl_copyNamed.c k f = some en := h
  unfold impl_copyNamed.c at h
  split at h
  ·cases h; exact impl_copyBytes.s k
  ·cases h)
theorem impl_copyNamed_l3.s {X : Cx} (hP : X.P = Try.prog) (hn : X.nt = Try.f96.ntmps) (hp : X.np = 1) : ∀ k, LoopOk X (impl_copyNamed_l3.p k) (loopAt 3 (Try.f96.body.getD .skip)) :=
 loop_ok (f := fun k x => (impl_copyNamed_l3.p k).run x) (En' := impl_copyNamed.n) (fun x => rfl) (fun k x => impl_copyNamed_l3.ok k x) (fun k => impl_copyNamed.v k hP hn hp) (fun k => draw_ok (impl_copyNamed.v k hP hn hp) (by rw [hP]; exact mixed)) (fun k => loops_all _ (by
   have e : allLoops (loopAt 3 (Try.f96.body.getD .skip)) = [] := by kernel_rfl
   rw [e]
   intro d hd
   exact absurd hd (List.not_mem_nil)))
theorem impl_copyNamed.s (k : Nat) : CallOk Try.prog 96 (impl_copyNamed.e k) := ⟨⟨Try.f96, Try.func96, by kernel_rfl, by kernel_rfl⟩, body_sound (fn := Try.f96) (c := (Try.f96.body.getD .skip)) Try.func96 (by kernel_rfl) (Nat.le_of_ble_eq_true (by kernel_rfl)) (Nat.le_of_ble_eq_true (by kernel_rfl)) (fun X hP hn hp => impl_copyNamed.v k hP hn hp) (fun X hP hn hp => draw_ok (impl_copyNamed.v k hP hn hp) (by rw [hP]; exact mixed)) (fun X hP hn hp => loops_mk (b := (Try.f96.body.getD .skip)) [3] (by kernel_rfl) (by kernel_rfl) (by
   intro l hl L hL
   simp only [List.mem_cons, List.not_mem_nil, or_false] at hl
   rcases hl with rfl
   ·have e : (impl_copyNamed.n k).lp 3 = some (impl_copyNamed_l3.p k) := rfl
    rw [e] at hL
    cases hL
    exact impl_copyNamed_l3.s hP hn hp k)) rfl (fun x => impl_copyNamed.ok k x)⟩
theorem impl_copyDisk.v (k : Nat) {X : Cx} (hP : X.P = Try.prog) (hn : X.nt = Try.f82.ntmps) (hp : X.np = 1) : EnvOk X (impl_copyDisk.n k) :=
 env_ok hP (Eq.trans (by kernel_rfl) hn.symm) (Eq.trans rfl hp.symm) rfl rfl tiOk eqOk (fun f en h => by
  have h : impl_copyDisk.c k f = some en := h
  unfold impl_copyDisk.c at h
  split at h
  ·cases h; exact impl_copyNamed.s k
  ·cases h)
theorem impl_copyDisk.s (k : Nat) : CallOk Try.prog 82 (impl_copyDisk.e k) := ⟨⟨Try.f82, Try.func82, by kernel_rfl, by kernel_rfl⟩, body_sound (fn := Try.f82) (c := (Try.f82.body.getD .skip)) Try.func82 (by kernel_rfl) (Nat.le_of_ble_eq_true (by kernel_rfl)) (Nat.le_of_ble_eq_true (by kernel_rfl)) (fun X hP hn hp => impl_copyDisk.v k hP hn hp) (fun X hP hn hp => draw_ok (impl_copyDisk.v k hP hn hp) (by rw [hP]; exact mixed)) (fun X hP hn hp => loops_all _ (by
   have e : allLoops (Try.f82.body.getD .skip) = [] := by kernel_rfl
   rw [e]
   intro d hd
   exact absurd hd (List.not_mem_nil))) rfl (fun x => impl_copyDisk.ok k x)⟩
theorem impl_put.v (k : Nat) {X : Cx} (hP : X.P = Try.prog) (hn : X.nt = Try.f84.ntmps) (hp : X.np = 2) : EnvOk X (impl_put.n k) :=
 env_ok hP (Eq.trans (by kernel_rfl) hn.symm) (Eq.trans rfl hp.symm) rfl rfl tiOk eqOk (fun f en h => by cases h)
theorem impl_put_l2.s {X : Cx} (hP : X.P = Try.prog) (hn : X.nt = Try.f84.ntmps) (hp : X.np = 2) : ∀ k, LoopOk X (impl_put_l2.p k) (loopAt 2 (Try.f84.body.getD .skip)) :=
 loop_ok (f := fun k x => (impl_put_l2.p k).run x) (En' := impl_put.n) (fun x => rfl) (fun k x => impl_put_l2.ok k x) (fun k => impl_put.v k hP hn hp) (fun k => draw_ok (impl_put.v k hP hn hp) (by rw [hP]; exact mixed)) (fun k => loops_all _ (by
   have e : allLoops (loopAt 2 (Try.f84.body.getD .skip)) = [] := by kernel_rfl
   rw [e]
   intro d hd
   exact absurd hd (List.not_mem_nil)))
theorem impl_put.s (k : Nat) : CallOk Try.prog 84 (impl_put.e k) := ⟨⟨Try.f84, Try.func84, by kernel_rfl, by kernel_rfl⟩, body_sound (fn := Try.f84) (c := (Try.f84.body.getD .skip)) Try.func84 (by kernel_rfl) (Nat.le_of_ble_eq_true (by kernel_rfl)) (Nat.le_of_ble_eq_true (by kernel_rfl)) (fun X hP hn hp => impl_put.v k hP hn hp) (fun X hP hn hp => draw_ok (impl_put.v k hP hn hp) (by rw [hP]; exact mixed)) (fun X hP hn hp => loops_mk (b := (Try.f84.body.getD .skip)) [2] (by kernel_rfl) (by kernel_rfl) (by
   intro l hl L hL
   simp only [List.mem_cons, List.not_mem_nil, or_false] at hl
   rcases hl with rfl
   ·have e : (impl_put.n k).lp 2 = some (impl_put_l2.p k) := rfl
    rw [e] at hL
    cases hL
    exact impl_put_l2.s hP hn hp k)) rfl (fun x => impl_put.ok k x)⟩
theorem impl_at.v (k : Nat) {X : Cx} (hP : X.P = Try.prog) (hn : X.nt = Try.f92.ntmps) (hp : X.np = 2) : EnvOk X (impl_at.n k) :=
 env_ok hP (Eq.trans (by kernel_rfl) hn.symm) (Eq.trans rfl hp.symm) rfl rfl tiOk eqOk (fun f en h => by cases h)
theorem impl_at_l2.s {X : Cx} (hP : X.P = Try.prog) (hn : X.nt = Try.f92.ntmps) (hp : X.np = 2) : ∀ k, LoopOk X (impl_at_l2.p k) (loopAt 2 (Try.f92.body.getD .skip)) :=
 loop_ok (f := fun k x => (impl_at_l2.p k).run x) (En' := impl_at.n) (fun x => rfl) (fun k x => impl_at_l2.ok k x) (fun k => impl_at.v k hP hn hp) (fun k => draw_ok (impl_at.v k hP hn hp) (by rw [hP]; exact mixed)) (fun k => loops_all _ (by
   have e : allLoops (loopAt 2 (Try.f92.body.getD .skip)) = [] := by kernel_rfl
   rw [e]
   intro d hd
   exact absurd hd (List.not_mem_nil)))
theorem impl_at.s (k : Nat) : CallOk Try.prog 92 (impl_at.e k) := ⟨⟨Try.f92, Try.func92, by kernel_rfl, by kernel_rfl⟩, body_sound (fn := Try.f92) (c := (Try.f92.body.getD .skip)) Try.func92 (by kernel_rfl) (Nat.le_of_ble_eq_true (by kernel_rfl)) (Nat.le_of_ble_eq_true (by kernel_rfl)) (fun X hP hn hp => impl_at.v k hP hn hp) (fun X hP hn hp => draw_ok (impl_at.v k hP hn hp) (by rw [hP]; exact mixed)) (fun X hP hn hp => loops_mk (b := (Try.f92.body.getD .skip)) [2] (by kernel_rfl) (by kernel_rfl) (by
   intro l hl L hL
   simp only [List.mem_cons, List.not_mem_nil, or_false] at hl
   rcases hl with rfl
   ·have e : (impl_at.n k).lp 2 = some (impl_at_l2.p k) := rfl
    rw [e] at hL
    cases hL
    exact impl_at_l2.s hP hn hp k)) rfl (fun x => impl_at.ok k x)⟩
theorem impl_drop.v (k : Nat) {X : Cx} (hP : X.P = Try.prog) (hn : X.nt = Try.f85.ntmps) (hp : X.np = 2) : EnvOk X (impl_drop.n k) :=
 env_ok hP (Eq.trans (by kernel_rfl) hn.symm) (Eq.trans rfl hp.symm) rfl rfl tiOk eqOk (fun f en h => by
  have h : impl_drop.c k f = some en := h
  unfold impl_drop.c at h
  split at h
  ·cases h; exact impl_at.s k
  ·cases h)
theorem impl_drop.s (k : Nat) : CallOk Try.prog 85 (impl_drop.e k) := ⟨⟨Try.f85, Try.func85, by kernel_rfl, by kernel_rfl⟩, body_sound (fn := Try.f85) (c := (Try.f85.body.getD .skip)) Try.func85 (by kernel_rfl) (Nat.le_of_ble_eq_true (by kernel_rfl)) (Nat.le_of_ble_eq_true (by kernel_rfl)) (fun X hP hn hp => impl_drop.v k hP hn hp) (fun X hP hn hp => draw_ok (impl_drop.v k hP hn hp) (by rw [hP]; exact mixed)) (fun X hP hn hp => loops_all _ (by
   have e : allLoops (Try.f85.body.getD .skip) = [] := by kernel_rfl
   rw [e]
   intro d hd
   exact absurd hd (List.not_mem_nil))) rfl (fun x => impl_drop.ok k x)⟩
theorem impl_SyncName.v (k : Nat) {X : Cx} (hP : X.P = Try.prog) (hn : X.nt = Try.f37.ntmps) (hp : X.np = 2) : EnvOk X (impl_SyncName.n k) :=
 env_ok hP (Eq.trans (by kernel_rfl) hn.symm) (Eq.trans rfl hp.symm) rfl rfl tiOk eqOk (fun f en h => by
  have h : impl_SyncName.c k f = some en := h
  unfold impl_SyncName.c at h
  split at h
  ·cases h; exact impl_DiskOk.s k
  ·cases h; exact impl_copyDisk.s k
  ·cases h; exact impl_NameOk.s k
  ·cases h; exact impl_put.s k
  ·cases h; exact impl_drop.s k
  ·cases h; exact impl_copyBytes.s k
  ·cases h; exact impl_at.s k
  ·cases h)
theorem impl_SyncName.s (k : Nat) : CallOk Try.prog 37 (impl_SyncName.e k) := ⟨⟨Try.f37, Try.func37, by kernel_rfl, by kernel_rfl⟩, body_sound (fn := Try.f37) (c := (Try.f37.body.getD .skip)) Try.func37 (by kernel_rfl) (Nat.le_of_ble_eq_true (by kernel_rfl)) (Nat.le_of_ble_eq_true (by kernel_rfl)) (fun X hP hn hp => impl_SyncName.v k hP hn hp) (fun X hP hn hp => draw_ok (impl_SyncName.v k hP hn hp) (by rw [hP]; exact mixed)) (fun X hP hn hp => loops_all _ (by
   have e : allLoops (Try.f37.body.getD .skip) = [] := by kernel_rfl
   rw [e]
   intro d hd
   exact absurd hd (List.not_mem_nil))) rfl (fun x => impl_SyncName.ok k x)⟩
theorem spec_l3Any.v (k : Nat) {X : Cx} (hP : X.P = Try.prog) (hn : X.nt = Try.f99.ntmps) (hp : X.np = 1) : EnvOk X (spec_l3Any.n k) :=
 env_ok hP (Eq.trans (by kernel_rfl) hn.symm) (Eq.trans rfl hp.symm) rfl rfl tiOk eqOk (fun f en h => by
  have h : spec_l3Any.c k f = some en := h
  unfold spec_l3Any.c at h
  split at h
  ·cases h; exact spec_l1Once.s k
  ·cases h; exact spec_l3Name.s k
  ·cases h; exact spec_l1Str.s k
  ·cases h)
theorem spec_l3Any.s (k : Nat) : CallOk Try.prog 99 (spec_l3Any.e k) := ⟨⟨Try.f99, Try.func99, by kernel_rfl, by kernel_rfl⟩, body_sound (fn := Try.f99) (c := (Try.f99.body.getD .skip)) Try.func99 (by kernel_rfl) (Nat.le_of_ble_eq_true (by kernel_rfl)) (Nat.le_of_ble_eq_true (by kernel_rfl)) (fun X hP hn hp => spec_l3Any.v k hP hn hp) (fun X hP hn hp => draw_ok (spec_l3Any.v k hP hn hp) (by rw [hP]; exact mixed)) (fun X hP hn hp => loops_all _ (by
   have e : allLoops (Try.f99.body.getD .skip) = [] := by kernel_rfl
   rw [e]
   intro d hd
   exact absurd hd (List.not_mem_nil))) rfl (fun x => spec_l3Any.ok k x)⟩
theorem spec_l9CopyList.v (k : Nat) {X : Cx} (hP : X.P = Try.prog) (hn : X.nt = Try.f143.ntmps) (hp : X.np = 1) : EnvOk X (spec_l9CopyList.n k) :=
 env_ok hP (Eq.trans (by kernel_rfl) hn.symm) (Eq.trans rfl hp.symm) rfl rfl tiOk eqOk (fun f en h => by cases h)
theorem spec_l9CopyList_l3.s {X : Cx} (hP : X.P = Try.prog) (hn : X.nt = Try.f143.ntmps) (hp : X.np = 1) : ∀ k, LoopOk X (spec_l9CopyList_l3.p k) (loopAt 3 (Try.f143.body.getD .skip)) :=
 loop_ok (f := fun k x => (spec_l9CopyList_l3.p k).run x) (En' := spec_l9CopyList.n) (fun x => rfl) (fun k x => spec_l9CopyList_l3.ok k x) (fun k => spec_l9CopyList.v k hP hn hp) (fun k => draw_ok (spec_l9CopyList.v k hP hn hp) (by rw [hP]; exact mixed)) (fun k => loops_all _ (by
   have e : allLoops (loopAt 3 (Try.f143.body.getD .skip)) = [] := by kernel_rfl
   rw [e]
   intro d hd
   exact absurd hd (List.not_mem_nil)))
theorem spec_l9CopyList.s (k : Nat) : CallOk Try.prog 143 (spec_l9CopyList.e k) := ⟨⟨Try.f143, Try.func143, by kernel_rfl, by kernel_rfl⟩, body_sound (fn := Try.f143) (c := (Try.f143.body.getD .skip)) Try.func143 (by kernel_rfl) (Nat.le_of_ble_eq_true (by kernel_rfl)) (Nat.le_of_ble_eq_true (by kernel_rfl)) (fun X hP hn hp => spec_l9CopyList.v k hP hn hp) (fun X hP hn hp => draw_ok (spec_l9CopyList.v k hP hn hp) (by rw [hP]; exact mixed)) (fun X hP hn hp => loops_mk (b := (Try.f143.body.getD .skip)) [3] (by kernel_rfl) (by kernel_rfl) (by
   intro l hl L hL
   simp only [List.mem_cons, List.not_mem_nil, or_false] at hl
   rcases hl with rfl
   ·have e : (spec_l9CopyList.n k).lp 3 = some (spec_l9CopyList_l3.p k) := rfl
    rw [e] at hL
    cases hL
    exact spec_l9CopyList_l3.s hP hn hp k)) rfl (fun x => spec_l9CopyList.ok k x)⟩
theorem spec_l9Copy.v (k : Nat) {X : Cx} (hP : X.P = Try.prog) (hn : X.nt = Try.f78.ntmps) (hp : X.np = 1) : EnvOk X (spec_l9Copy.n k) :=
 env_ok hP (Eq.trans (by kernel_rfl) hn.symm) (Eq.trans rfl hp.symm) rfl rfl tiOk eqOk (fun f en h => by
  have h : spec_l9Copy.c k f = some en := h
  unfold spec_l9Copy.c at h
  split at h
  ·cases h; exact spec_l9CopyList.s k
  ·cases h)
theorem spec_l9Copy.s (k : Nat) : CallOk Try.prog 78 (spec_l9Copy.e k) := ⟨⟨Try.f78, Try.func78, by kernel_rfl, by kernel_rfl⟩, body_sound (fn := Try.f78) (c := (Try.f78.body.getD .skip)) Try.func78 (by kernel_rfl) (Nat.le_of_ble_eq_true (by kernel_rfl)) (Nat.le_of_ble_eq_true (by kernel_rfl)) (fun X hP hn hp => spec_l9Copy.v k hP hn hp) (fun X hP hn hp => draw_ok (spec_l9Copy.v k hP hn hp) (by rw [hP]; exact mixed)) (fun X hP hn hp => loops_all _ (by
   have e : allLoops (Try.f78.body.getD .skip) = [] := by kernel_rfl
   rw [e]
   intro d hd
   exact absurd hd (List.not_mem_nil))) rfl (fun x => spec_l9Copy.ok k x)⟩
theorem spec_l9Put.v (k : Nat) {X : Cx} (hP : X.P = Try.prog) (hn : X.nt = Try.f79.ntmps) (hp : X.np = 3) : EnvOk X (spec_l9Put.n k) :=
 env_ok hP (Eq.trans (by kernel_rfl) hn.symm) (Eq.trans rfl hp.symm) rfl rfl tiOk eqOk (fun f en h => by cases h)
theorem spec_l9Put_l5.s {X : Cx} (hP : X.P = Try.prog) (hn : X.nt = Try.f79.ntmps) (hp : X.np = 3) : ∀ k, LoopOk X (spec_l9Put_l5.p k) (loopAt 5 (Try.f79.body.getD .skip)) :=
 loop_ok (f := fun k x => (spec_l9Put_l5.p k).run x) (En' := spec_l9Put.n) (fun x => rfl) (fun k x => spec_l9Put_l5.ok k x) (fun k => spec_l9Put.v k hP hn hp) (fun k => draw_ok (spec_l9Put.v k hP hn hp) (by rw [hP]; exact mixed)) (fun k => loops_all _ (by
   have e : allLoops (loopAt 5 (Try.f79.body.getD .skip)) = [] := by kernel_rfl
   rw [e]
   intro d hd
   exact absurd hd (List.not_mem_nil)))
theorem spec_l9Put.s (k : Nat) : CallOk Try.prog 79 (spec_l9Put.e k) := ⟨⟨Try.f79, Try.func79, by kernel_rfl, by kernel_rfl⟩, body_sound (fn := Try.f79) (c := (Try.f79.body.getD .skip)) Try.func79 (by kernel_rfl) (Nat.le_of_ble_eq_true (by kernel_rfl)) (Nat.le_of_ble_eq_true (by kernel_rfl)) (fun X hP hn hp => spec_l9Put.v k hP hn hp) (fun X hP hn hp => draw_ok (spec_l9Put.v k hP hn hp) (by rw [hP]; exact mixed)) (fun X hP hn hp => loops_mk (b := (Try.f79.body.getD .skip)) [5] (by kernel_rfl) (by kernel_rfl) (by
   intro l hl L hL
   simp only [List.mem_cons, List.not_mem_nil, or_false] at hl
   rcases hl with rfl
   ·have e : (spec_l9Put.n k).lp 5 = some (spec_l9Put_l5.p k) := rfl
    rw [e] at hL
    cases hL
    exact spec_l9Put_l5.s hP hn hp k)) rfl (fun x => spec_l9Put.ok k x)⟩
theorem spec_l9List.v (k : Nat) {X : Cx} (hP : X.P = Try.prog) (hn : X.nt = Try.f165.ntmps) (hp : X.np = 1) : EnvOk X (spec_l9List.n k) :=
 env_ok hP (Eq.trans (by kernel_rfl) hn.symm) (Eq.trans rfl hp.symm) rfl rfl tiOk eqOk (fun f en h => by
  have h : spec_l9List.c k f = some en := h
  unfold spec_l9List.c at h
  split at h
  ·cases h; exact spec_NameOk.s k
  ·cases h)
theorem spec_l9List_l2.s {X : Cx} (hP : X.P = Try.prog) (hn : X.nt = Try.f165.ntmps) (hp : X.np = 1) : ∀ k, LoopOk X (spec_l9List_l2.p k) (loopAt 2 (Try.f165.body.getD .skip)) :=
 loop_ok (f := fun k x => (spec_l9List_l2.p k).run x) (En' := spec_l9List.n) (fun x => rfl) (fun k x => spec_l9List_l2.ok k x) (fun k => spec_l9List.v k hP hn hp) (fun k => draw_ok (spec_l9List.v k hP hn hp) (by rw [hP]; exact mixed)) (fun k => loops_all _ (by
   have e : allLoops (loopAt 2 (Try.f165.body.getD .skip)) = [] := by kernel_rfl
   rw [e]
   intro d hd
   exact absurd hd (List.not_mem_nil)))
theorem spec_l9List.s (k : Nat) : CallOk Try.prog 165 (spec_l9List.e k) := ⟨⟨Try.f165, Try.func165, by kernel_rfl, by kernel_rfl⟩, body_sound (fn := Try.f165) (c := (Try.f165.body.getD .skip)) Try.func165 (by kernel_rfl) (Nat.le_of_ble_eq_true (by kernel_rfl)) (Nat.le_of_ble_eq_true (by kernel_rfl)) (fun X hP hn hp => spec_l9List.v k hP hn hp) (fun X hP hn hp => draw_ok (spec_l9List.v k hP hn hp) (by rw [hP]; exact mixed)) (fun X hP hn hp => loops_mk (b := (Try.f165.body.getD .skip)) [2] (by kernel_rfl) (by kernel_rfl) (by
   intro l hl L hL
   simp only [List.mem_cons, List.not_mem_nil, or_false] at hl
   rcases hl with rfl
   ·have e : (spec_l9List.n k).lp 2 = some (spec_l9List_l2.p k) := rfl
    rw [e] at hL
    cases hL
    exact spec_l9List_l2.s hP hn hp k)) rfl (fun x => spec_l9List.ok k x)⟩
theorem spec_DiskOk.v (k : Nat) {X : Cx} (hP : X.P = Try.prog) (hn : X.nt = Try.f127.ntmps) (hp : X.np = 1) : EnvOk X (spec_DiskOk.n k) :=
 env_ok hP (Eq.trans (by kernel_rfl) hn.symm) (Eq.trans rfl hp.symm) rfl rfl tiOk eqOk (fun f en h => by
  have h : spec_DiskOk.c k f = some en := h
  unfold spec_DiskOk.c at h
  split at h
  ·cases h; exact spec_l9List.s k
  ·cases h)
theorem spec_DiskOk.s (k : Nat) : CallOk Try.prog 127 (spec_DiskOk.e k) := ⟨⟨Try.f127, Try.func127, by kernel_rfl, by kernel_rfl⟩, body_sound (fn := Try.f127) (c := (Try.f127.body.getD .skip)) Try.func127 (by kernel_rfl) (Nat.le_of_ble_eq_true (by kernel_rfl)) (Nat.le_of_ble_eq_true (by kernel_rfl)) (fun X hP hn hp => spec_DiskOk.v k hP hn hp) (fun X hP hn hp => draw_ok (spec_DiskOk.v k hP hn hp) (by rw [hP]; exact mixed)) (fun X hP hn hp => loops_all _ (by
   have e : allLoops (Try.f127.body.getD .skip) = [] := by kernel_rfl
   rw [e]
   intro d hd
   exact absurd hd (List.not_mem_nil))) rfl (fun x => spec_DiskOk.ok k x)⟩
theorem spec_l9Ends.v (k : Nat) {X : Cx} (hP : X.P = Try.prog) (hn : X.nt = Try.f80.ntmps) (hp : X.np = 3) : EnvOk X (spec_l9Ends.n k) :=
 env_ok hP (Eq.trans (by kernel_rfl) hn.symm) (Eq.trans rfl hp.symm) rfl rfl tiOk eqOk (fun f en h => by
  have h : spec_l9Ends.c k f = some en := h
  unfold spec_l9Ends.c at h
  split at h
  ·cases h; exact spec_l9Copy.s k
  ·cases h; exact spec_DiskOk.s k
  ·cases h; exact spec_NameOk.s k
  ·cases h)
theorem spec_l9Ends.s (k : Nat) : CallOk Try.prog 80 (spec_l9Ends.e k) := ⟨⟨Try.f80, Try.func80, by kernel_rfl, by kernel_rfl⟩, body_sound (fn := Try.f80) (c := (Try.f80.body.getD .skip)) Try.func80 (by kernel_rfl) (Nat.le_of_ble_eq_true (by kernel_rfl)) (Nat.le_of_ble_eq_true (by kernel_rfl)) (fun X hP hn hp => spec_l9Ends.v k hP hn hp) (fun X hP hn hp => draw_ok (spec_l9Ends.v k hP hn hp) (by rw [hP]; exact mixed)) (fun X hP hn hp => loops_all _ (by
   have e : allLoops (Try.f80.body.getD .skip) = [] := by kernel_rfl
   rw [e]
   intro d hd
   exact absurd hd (List.not_mem_nil))) rfl (fun x => spec_l9Ends.ok k x)⟩
theorem spec_WriteName.v (k : Nat) {X : Cx} (hP : X.P = Try.prog) (hn : X.nt = Try.f27.ntmps) (hp : X.np = 3) : EnvOk X (spec_WriteName.n k) :=
 env_ok hP (Eq.trans (by kernel_rfl) hn.symm) (Eq.trans rfl hp.symm) rfl rfl tiOk eqOk (fun f en h => by
  have h : spec_WriteName.c k f = some en := h
  unfold spec_WriteName.c at h
  split at h
  ·cases h; exact spec_l9Copy.s k
  ·cases h; exact spec_l9Put.s k
  ·cases h; exact spec_l9Ends.s k
  ·cases h)
theorem spec_WriteName.s (k : Nat) : CallOk Try.prog 27 (spec_WriteName.e k) := ⟨⟨Try.f27, Try.func27, by kernel_rfl, by kernel_rfl⟩, body_sound (fn := Try.f27) (c := (Try.f27.body.getD .skip)) Try.func27 (by kernel_rfl) (Nat.le_of_ble_eq_true (by kernel_rfl)) (Nat.le_of_ble_eq_true (by kernel_rfl)) (fun X hP hn hp => spec_WriteName.v k hP hn hp) (fun X hP hn hp => draw_ok (spec_WriteName.v k hP hn hp) (by rw [hP]; exact mixed)) (fun X hP hn hp => loops_all _ (by
   have e : allLoops (Try.f27.body.getD .skip) = [] := by kernel_rfl
   rw [e]
   intro d hd
   exact absurd hd (List.not_mem_nil))) rfl (fun x => spec_WriteName.ok k x)⟩
theorem spec_l9At.v (k : Nat) {X : Cx} (hP : X.P = Try.prog) (hn : X.nt = Try.f94.ntmps) (hp : X.np = 2) : EnvOk X (spec_l9At.n k) :=
 env_ok hP (Eq.trans (by kernel_rfl) hn.symm) (Eq.trans rfl hp.symm) rfl rfl tiOk eqOk (fun f en h => by cases h)
theorem spec_l9At_l2.s {X : Cx} (hP : X.P = Try.prog) (hn : X.nt = Try.f94.ntmps) (hp : X.np = 2) : ∀ k, LoopOk X (spec_l9At_l2.p k) (loopAt 2 (Try.f94.body.getD .skip)) :=
 loop_ok (f := fun k x => (spec_l9At_l2.p k).run x) (En' := spec_l9At.n) (fun x => rfl) (fun k x => spec_l9At_l2.ok k x) (fun k => spec_l9At.v k hP hn hp) (fun k => draw_ok (spec_l9At.v k hP hn hp) (by rw [hP]; exact mixed)) (fun k => loops_all _ (by
   have e : allLoops (loopAt 2 (Try.f94.body.getD .skip)) = [] := by kernel_rfl
   rw [e]
   intro d hd
   exact absurd hd (List.not_mem_nil)))
theorem spec_l9At.s (k : Nat) : CallOk Try.prog 94 (spec_l9At.e k) := ⟨⟨Try.f94, Try.func94, by kernel_rfl, by kernel_rfl⟩, body_sound (fn := Try.f94) (c := (Try.f94.body.getD .skip)) Try.func94 (by kernel_rfl) (Nat.le_of_ble_eq_true (by kernel_rfl)) (Nat.le_of_ble_eq_true (by kernel_rfl)) (fun X hP hn hp => spec_l9At.v k hP hn hp) (fun X hP hn hp => draw_ok (spec_l9At.v k hP hn hp) (by rw [hP]; exact mixed)) (fun X hP hn hp => loops_mk (b := (Try.f94.body.getD .skip)) [2] (by kernel_rfl) (by kernel_rfl) (by
   intro l hl L hL
   simp only [List.mem_cons, List.not_mem_nil, or_false] at hl
   rcases hl with rfl
   ·have e : (spec_l9At.n k).lp 2 = some (spec_l9At_l2.p k) := rfl
    rw [e] at hL
    cases hL
    exact spec_l9At_l2.s hP hn hp k)) rfl (fun x => spec_l9At.ok k x)⟩
theorem spec_ReadName.v (k : Nat) {X : Cx} (hP : X.P = Try.prog) (hn : X.nt = Try.f90.ntmps) (hp : X.np = 2) : EnvOk X (spec_ReadName.n k) :=
 env_ok hP (Eq.trans (by kernel_rfl) hn.symm) (Eq.trans rfl hp.symm) rfl rfl tiOk eqOk (fun f en h => by
  have h : spec_ReadName.c k f = some en := h
  unfold spec_ReadName.c at h
  split at h
  ·cases h; exact spec_l9At.s k
  ·cases h)
theorem spec_ReadName.s (k : Nat) : CallOk Try.prog 90 (spec_ReadName.e k) := ⟨⟨Try.f90, Try.func90, by kernel_rfl, by kernel_rfl⟩, body_sound (fn := Try.f90) (c := (Try.f90.body.getD .skip)) Try.func90 (by kernel_rfl) (Nat.le_of_ble_eq_true (by kernel_rfl)) (Nat.le_of_ble_eq_true (by kernel_rfl)) (fun X hP hn hp => spec_ReadName.v k hP hn hp) (fun X hP hn hp => draw_ok (spec_ReadName.v k hP hn hp) (by rw [hP]; exact mixed)) (fun X hP hn hp => loops_all _ (by
   have e : allLoops (Try.f90.body.getD .skip) = [] := by kernel_rfl
   rw [e]
   intro d hd
   exact absurd hd (List.not_mem_nil))) rfl (fun x => spec_ReadName.ok k x)⟩
theorem spec_l9Cut.v (k : Nat) {X : Cx} (hP : X.P = Try.prog) (hn : X.nt = Try.f91.ntmps) (hp : X.np = 2) : EnvOk X (spec_l9Cut.n k) :=
 env_ok hP (Eq.trans (by kernel_rfl) hn.symm) (Eq.trans rfl hp.symm) rfl rfl tiOk eqOk (fun f en h => by cases h)
theorem spec_l9Cut_l3.s {X : Cx} (hP : X.P = Try.prog) (hn : X.nt = Try.f91.ntmps) (hp : X.np = 2) : ∀ k, LoopOk X (spec_l9Cut_l3.p k) (loopAt 3 (Try.f91.body.getD .skip)) :=
 loop_ok (f := fun k x => (spec_l9Cut_l3.p k).run x) (En' := spec_l9Cut.n) (fun x => rfl) (fun k x => spec_l9Cut_l3.ok k x) (fun k => spec_l9Cut.v k hP hn hp) (fun k => draw_ok (spec_l9Cut.v k hP hn hp) (by rw [hP]; exact mixed)) (fun k => loops_all _ (by
   have e : allLoops (loopAt 3 (Try.f91.body.getD .skip)) = [] := by kernel_rfl
   rw [e]
   intro d hd
   exact absurd hd (List.not_mem_nil)))
theorem spec_l9Cut.s (k : Nat) : CallOk Try.prog 91 (spec_l9Cut.e k) := ⟨⟨Try.f91, Try.func91, by kernel_rfl, by kernel_rfl⟩, body_sound (fn := Try.f91) (c := (Try.f91.body.getD .skip)) Try.func91 (by kernel_rfl) (Nat.le_of_ble_eq_true (by kernel_rfl)) (Nat.le_of_ble_eq_true (by kernel_rfl)) (fun X hP hn hp => spec_l9Cut.v k hP hn hp) (fun X hP hn hp => draw_ok (spec_l9Cut.v k hP hn hp) (by rw [hP]; exact mixed)) (fun X hP hn hp => loops_mk (b := (Try.f91.body.getD .skip)) [3] (by kernel_rfl) (by kernel_rfl) (by
   intro l hl L hL
   simp only [List.mem_cons, List.not_mem_nil, or_false] at hl
   rcases hl with rfl
   ·have e : (spec_l9Cut.n k).lp 3 = some (spec_l9Cut_l3.p k) := rfl
    rw [e] at hL
    cases hL
    exact spec_l9Cut_l3.s hP hn hp k)) rfl (fun x => spec_l9Cut.ok k x)⟩
theorem spec_SyncName.v (k : Nat) {X : Cx} (hP : X.P = Try.prog) (hn : X.nt = Try.f36.ntmps) (hp : X.np = 2) : EnvOk X (spec_SyncName.n k) :=
 env_ok hP (Eq.trans (by kernel_rfl) hn.symm) (Eq.trans rfl hp.symm) rfl rfl tiOk eqOk (fun f en h => by
  have h : spec_SyncName.c k f = some en := h
  unfold spec_SyncName.c at h
  split at h
  ·cases h; exact spec_l9Copy.s k
  ·cases h; exact spec_l9Put.s k
  ·cases h; exact spec_l9Ends.s k
  ·cases h; exact spec_ReadName.s k
  ·cases h; exact spec_l9Cut.s k
  ·cases h)
theorem spec_SyncName.s (k : Nat) : CallOk Try.prog 36 (spec_SyncName.e k) := ⟨⟨Try.f36, Try.func36, by kernel_rfl, by kernel_rfl⟩, body_sound (fn := Try.f36) (c := (Try.f36.body.getD .skip)) Try.func36 (by kernel_rfl) (Nat.le_of_ble_eq_true (by kernel_rfl)) (Nat.le_of_ble_eq_true (by kernel_rfl)) (fun X hP hn hp => spec_SyncName.v k hP hn hp) (fun X hP hn hp => draw_ok (spec_SyncName.v k hP hn hp) (by rw [hP]; exact mixed)) (fun X hP hn hp => loops_all _ (by
   have e : allLoops (Try.f36.body.getD .skip) = [] := by kernel_rfl
   rw [e]
   intro d hd
   exact absurd hd (List.not_mem_nil))) rfl (fun x => spec_SyncName.ok k x)⟩
theorem spec_RemoveName.v (k : Nat) {X : Cx} (hP : X.P = Try.prog) (hn : X.nt = Try.f40.ntmps) (hp : X.np = 2) : EnvOk X (spec_RemoveName.n k) :=
 env_ok hP (Eq.trans (by kernel_rfl) hn.symm) (Eq.trans rfl hp.symm) rfl rfl tiOk eqOk (fun f en h => by
  have h : spec_RemoveName.c k f = some en := h
  unfold spec_RemoveName.c at h
  split at h
  ·cases h; exact spec_l9Copy.s k
  ·cases h; exact spec_l9Ends.s k
  ·cases h; exact spec_l9Cut.s k
  ·cases h; exact spec_l9At.s k
  ·cases h)
theorem spec_RemoveName.s (k : Nat) : CallOk Try.prog 40 (spec_RemoveName.e k) := ⟨⟨Try.f40, Try.func40, by kernel_rfl, by kernel_rfl⟩, body_sound (fn := Try.f40) (c := (Try.f40.body.getD .skip)) Try.func40 (by kernel_rfl) (Nat.le_of_ble_eq_true (by kernel_rfl)) (Nat.le_of_ble_eq_true (by kernel_rfl)) (fun X hP hn hp => spec_RemoveName.v k hP hn hp) (fun X hP hn hp => draw_ok (spec_RemoveName.v k hP hn hp) (by rw [hP]; exact mixed)) (fun X hP hn hp => loops_all _ (by
   have e : allLoops (Try.f40.body.getD .skip) = [] := by kernel_rfl
   rw [e]
   intro d hd
   exact absurd hd (List.not_mem_nil))) rfl (fun x => spec_RemoveName.ok k x)⟩
theorem spec_FileOk.v (k : Nat) {X : Cx} (hP : X.P = Try.prog) (hn : X.nt = Try.f129.ntmps) (hp : X.np = 1) : EnvOk X (spec_FileOk.n k) :=
 env_ok hP (Eq.trans (by kernel_rfl) hn.symm) (Eq.trans rfl hp.symm) rfl rfl tiOk eqOk (fun f en h => by
  have h : spec_FileOk.c k f = some en := h
  unfold spec_FileOk.c at h
  split at h
  ·cases h; exact spec_StampOk.s k
  ·cases h)
theorem spec_FileOk.s (k : Nat) : CallOk Try.prog 129 (spec_FileOk.e k) := ⟨⟨Try.f129, Try.func129, by kernel_rfl, by kernel_rfl⟩, body_sound (fn := Try.f129) (c := (Try.f129.body.getD .skip)) Try.func129 (by kernel_rfl) (Nat.le_of_ble_eq_true (by kernel_rfl)) (Nat.le_of_ble_eq_true (by kernel_rfl)) (fun X hP hn hp => spec_FileOk.v k hP hn hp) (fun X hP hn hp => draw_ok (spec_FileOk.v k hP hn hp) (by rw [hP]; exact mixed)) (fun X hP hn hp => loops_all _ (by
   have e : allLoops (Try.f129.body.getD .skip) = [] := by kernel_rfl
   rw [e]
   intro d hd
   exact absurd hd (List.not_mem_nil))) rfl (fun x => spec_FileOk.ok k x)⟩
theorem spec_Crc.v (k : Nat) {X : Cx} (hP : X.P = Try.prog) (hn : X.nt = Try.f166.ntmps) (hp : X.np = 1) : EnvOk X (spec_Crc.n k) :=
 env_ok hP (Eq.trans (by kernel_rfl) hn.symm) (Eq.trans rfl hp.symm) rfl rfl tiOk eqOk (fun f en h => by cases h)
theorem spec_Crc_l7.s {X : Cx} (hP : X.P = Try.prog) (hn : X.nt = Try.f166.ntmps) (hp : X.np = 1) : ∀ k, LoopOk X (spec_Crc_l7.p k) (loopAt 7 (Try.f166.body.getD .skip)) :=
 loop_ok (f := fun k x => (spec_Crc_l7.p k).run x) (En' := spec_Crc.n) (fun x => rfl) (fun k x => spec_Crc_l7.ok k x) (fun k => spec_Crc.v k hP hn hp) (fun k => draw_ok (spec_Crc.v k hP hn hp) (by rw [hP]; exact mixed)) (fun k => loops_all _ (by
   have e : allLoops (loopAt 7 (Try.f166.body.getD .skip)) = [] := by kernel_rfl
   rw [e]
   intro d hd
   exact absurd hd (List.not_mem_nil)))
theorem spec_Crc_l3.s {X : Cx} (hP : X.P = Try.prog) (hn : X.nt = Try.f166.ntmps) (hp : X.np = 1) : ∀ k, LoopOk X (spec_Crc_l3.p k) (loopAt 3 (Try.f166.body.getD .skip)) :=
 loop_ok (f := fun k x => (spec_Crc_l3.p k).run x) (En' := spec_Crc.n) (fun x => rfl) (fun k x => spec_Crc_l3.ok k x) (fun k => spec_Crc.v k hP hn hp) (fun k => draw_ok (spec_Crc.v k hP hn hp) (by rw [hP]; exact mixed)) (fun k => loops_mk (b := (Try.f166.body.getD .skip)) [7] (by kernel_rfl) (by kernel_rfl) (by
   intro l hl L hL
   simp only [List.mem_cons, List.not_mem_nil, or_false] at hl
   rcases hl with rfl
   ·have e : (spec_Crc.n k).lp 7 = some (spec_Crc_l7.p k) := rfl
    rw [e] at hL
    cases hL
    exact spec_Crc_l7.s hP hn hp k))
theorem spec_Crc.s (k : Nat) : CallOk Try.prog 166 (spec_Crc.e k) := ⟨⟨Try.f166, Try.func166, by kernel_rfl, by kernel_rfl⟩, body_sound (fn := Try.f166) (c := (Try.f166.body.getD .skip)) Try.func166 (by kernel_rfl) (Nat.le_of_ble_eq_true (by kernel_rfl)) (Nat.le_of_ble_eq_true (by kernel_rfl)) (fun X hP hn hp => spec_Crc.v k hP hn hp) (fun X hP hn hp => draw_ok (spec_Crc.v k hP hn hp) (by rw [hP]; exact mixed)) (fun X hP hn hp => loops_mk (b := (Try.f166.body.getD .skip)) [3] (by kernel_rfl) (by kernel_rfl) (by
   intro l hl L hL
   simp only [List.mem_cons, List.not_mem_nil, or_false] at hl
   rcases hl with rfl
   ·have e : (spec_Crc.n k).lp 3 = some (spec_Crc_l3.p k) := rfl
    rw [e] at hL
    cases hL
    exact spec_Crc_l3.s hP hn hp k)) rfl (fun x => spec_Crc.ok k x)⟩
theorem spec_PutFile.v (k : Nat) {X : Cx} (hP : X.P = Try.prog) (hn : X.nt = Try.f131.ntmps) (hp : X.np = 1) : EnvOk X (spec_PutFile.n k) :=
 env_ok hP (Eq.trans (by kernel_rfl) hn.symm) (Eq.trans rfl hp.symm) rfl rfl tiOk eqOk (fun f en h => by
  have h : spec_PutFile.c k f = some en := h
  unfold spec_PutFile.c at h
  split at h
  ·cases h; exact spec_FileOk.s k
  ·cases h; exact spec_PutNum.s k
  ·cases h; exact spec_l8Stamp.s k
  ·cases h; exact spec_PutText.s k
  ·cases h; exact spec_l8Bool.s k
  ·cases h; exact spec_Crc.s k
  ·cases h)
theorem spec_PutFile.s (k : Nat) : CallOk Try.prog 131 (spec_PutFile.e k) := ⟨⟨Try.f131, Try.func131, by kernel_rfl, by kernel_rfl⟩, body_sound (fn := Try.f131) (c := (Try.f131.body.getD .skip)) Try.func131 (by kernel_rfl) (Nat.le_of_ble_eq_true (by kernel_rfl)) (Nat.le_of_ble_eq_true (by kernel_rfl)) (fun X hP hn hp => spec_PutFile.v k hP hn hp) (fun X hP hn hp => draw_ok (spec_PutFile.v k hP hn hp) (by rw [hP]; exact mixed)) (fun X hP hn hp => loops_all _ (by
   have e : allLoops (Try.f131.body.getD .skip) = [] := by kernel_rfl
   rw [e]
   intro d hd
   exact absurd hd (List.not_mem_nil))) rfl (fun x => spec_PutFile.ok k x)⟩
theorem spec_l9Draw.v (k : Nat) {X : Cx} (hP : X.P = Try.prog) (hn : X.nt = Try.f148.ntmps) (hp : X.np = 1) : EnvOk X (spec_l9Draw.n k) :=
 env_ok hP (Eq.trans (by kernel_rfl) hn.symm) (Eq.trans rfl hp.symm) rfl rfl tiOk eqOk (fun f en h => by
  have h : spec_l9Draw.c k f = some en := h
  unfold spec_l9Draw.c at h
  split at h
  ·cases h; exact spec_WriteName.s k
  ·cases h; exact spec_SyncName.s k
  ·cases h; exact spec_RemoveName.s k
  ·cases h; exact spec_l1Below.s k
  ·cases h; exact spec_PutFile.s k
  ·cases h; exact spec_l3Name.s k
  ·cases h; exact spec_l8Draw.s k
  ·cases h)
theorem spec_l9Draw_l3.s {X : Cx} (hP : X.P = Try.prog) (hn : X.nt = Try.f148.ntmps) (hp : X.np = 1) : ∀ k, LoopOk X (spec_l9Draw_l3.p k) (loopAt 3 (Try.f148.body.getD .skip)) :=
 loop_ok (f := fun k x => (spec_l9Draw_l3.p k).run x) (En' := spec_l9Draw.n) (fun x => rfl) (fun k x => spec_l9Draw_l3.ok k x) (fun k => spec_l9Draw.v k hP hn hp) (fun k => draw_ok (spec_l9Draw.v k hP hn hp) (by rw [hP]; exact mixed)) (fun k => loops_all _ (by
   have e : allLoops (loopAt 3 (Try.f148.body.getD .skip)) = [] := by kernel_rfl
   rw [e]
   intro d hd
   exact absurd hd (List.not_mem_nil)))
theorem spec_l9Draw.s (k : Nat) : CallOk Try.prog 148 (spec_l9Draw.e k) := ⟨⟨Try.f148, Try.func148, by kernel_rfl, by kernel_rfl⟩, body_sound (fn := Try.f148) (c := (Try.f148.body.getD .skip)) Try.func148 (by kernel_rfl) (Nat.le_of_ble_eq_true (by kernel_rfl)) (Nat.le_of_ble_eq_true (by kernel_rfl)) (fun X hP hn hp => spec_l9Draw.v k hP hn hp) (fun X hP hn hp => draw_ok (spec_l9Draw.v k hP hn hp) (by rw [hP]; exact mixed)) (fun X hP hn hp => loops_mk (b := (Try.f148.body.getD .skip)) [3] (by kernel_rfl) (by kernel_rfl) (by
   intro l hl L hL
   simp only [List.mem_cons, List.not_mem_nil, or_false] at hl
   rcases hl with rfl
   ·have e : (spec_l9Draw.n k).lp 3 = some (spec_l9Draw_l3.p k) := rfl
    rw [e] at hL
    cases hL
    exact spec_l9Draw_l3.s hP hn hp k)) rfl (fun x => spec_l9Draw.ok k x)⟩
theorem spec_l9Any.v (k : Nat) {X : Cx} (hP : X.P = Try.prog) (hn : X.nt = Try.f98.ntmps) (hp : X.np = 1) : EnvOk X (spec_l9Any.n k) :=
 env_ok hP (Eq.trans (by kernel_rfl) hn.symm) (Eq.trans rfl hp.symm) rfl rfl tiOk eqOk (fun f en h => by
  have h : spec_l9Any.c k f = some en := h
  unfold spec_l9Any.c at h
  split at h
  ·cases h; exact spec_l3Any.s k
  ·cases h; exact spec_l1Below.s k
  ·cases h; exact spec_l9Draw.s k
  ·cases h)
theorem spec_l9Any.s (k : Nat) : CallOk Try.prog 98 (spec_l9Any.e k) := ⟨⟨Try.f98, Try.func98, by kernel_rfl, by kernel_rfl⟩, body_sound (fn := Try.f98) (c := (Try.f98.body.getD .skip)) Try.func98 (by kernel_rfl) (Nat.le_of_ble_eq_true (by kernel_rfl)) (Nat.le_of_ble_eq_true (by kernel_rfl)) (fun X hP hn hp => spec_l9Any.v k hP hn hp) (fun X hP hn hp => draw_ok (spec_l9Any.v k hP hn hp) (by rw [hP]; exact mixed)) (fun X hP hn hp => loops_all _ (by
   have e : allLoops (Try.f98.body.getD .skip) = [] := by kernel_rfl
   rw [e]
   intro d hd
   exact absurd hd (List.not_mem_nil))) rfl (fun x => spec_l9Any.ok k x)⟩
theorem spec_DrawReadName.v (k : Nat) {X : Cx} (hP : X.P = Try.prog) (hn : X.nt = Try.f93.ntmps) (hp : X.np = 1) : EnvOk X (spec_DrawReadName.n k) :=
 env_ok hP (Eq.trans (by kernel_rfl) hn.symm) (Eq.trans rfl hp.symm) rfl rfl tiOk eqOk (fun f en h => by
  have h : spec_DrawReadName.c k f = some en := h
  unfold spec_DrawReadName.c at h
  split at h
  ·cases h; exact spec_l1New.s k
  ·cases h; exact spec_l9Any.s k
  ·cases h; exact spec_l3Name.s k
  ·cases h)
theorem spec_DrawReadName.s (k : Nat) : CallOk Try.prog 93 (spec_DrawReadName.e k) := ⟨⟨Try.f93, Try.func93, by kernel_rfl, by kernel_rfl⟩, body_sound (fn := Try.f93) (c := (Try.f93.body.getD .skip)) Try.func93 (by kernel_rfl) (Nat.le_of_ble_eq_true (by kernel_rfl)) (Nat.le_of_ble_eq_true (by kernel_rfl)) (fun X hP hn hp => spec_DrawReadName.v k hP hn hp) (fun X hP hn hp => draw_ok (spec_DrawReadName.v k hP hn hp) (by rw [hP]; exact mixed)) (fun X hP hn hp => loops_all _ (by
   have e : allLoops (Try.f93.body.getD .skip) = [] := by kernel_rfl
   rw [e]
   intro d hd
   exact absurd hd (List.not_mem_nil))) rfl (fun x => spec_DrawReadName.ok k x)⟩
theorem spec_DrawRemoveName.v (k : Nat) {X : Cx} (hP : X.P = Try.prog) (hn : X.nt = Try.f38.ntmps) (hp : X.np = 1) : EnvOk X (spec_DrawRemoveName.n k) :=
 env_ok hP (Eq.trans (by kernel_rfl) hn.symm) (Eq.trans rfl hp.symm) rfl rfl tiOk eqOk (fun f en h => by
  have h : spec_DrawRemoveName.c k f = some en := h
  unfold spec_DrawRemoveName.c at h
  split at h
  ·cases h; exact spec_DrawReadName.s k
  ·cases h)
theorem spec_DrawRemoveName.s (k : Nat) : CallOk Try.prog 38 (spec_DrawRemoveName.e k) := ⟨⟨Try.f38, Try.func38, by kernel_rfl, by kernel_rfl⟩, body_sound (fn := Try.f38) (c := (Try.f38.body.getD .skip)) Try.func38 (by kernel_rfl) (Nat.le_of_ble_eq_true (by kernel_rfl)) (Nat.le_of_ble_eq_true (by kernel_rfl)) (fun X hP hn hp => spec_DrawRemoveName.v k hP hn hp) (fun X hP hn hp => draw_ok (spec_DrawRemoveName.v k hP hn hp) (by rw [hP]; exact mixed)) (fun X hP hn hp => loops_all _ (by
   have e : allLoops (Try.f38.body.getD .skip) = [] := by kernel_rfl
   rw [e]
   intro d hd
   exact absurd hd (List.not_mem_nil))) rfl (fun x => spec_DrawRemoveName.ok k x)⟩
theorem impl_RemoveName.v (k : Nat) {X : Cx} (hP : X.P = Try.prog) (hn : X.nt = Try.f39.ntmps) (hp : X.np = 2) : EnvOk X (impl_RemoveName.n k) :=
 env_ok hP (Eq.trans (by kernel_rfl) hn.symm) (Eq.trans rfl hp.symm) rfl rfl tiOk eqOk (fun f en h => by
  have h : impl_RemoveName.c k f = some en := h
  unfold impl_RemoveName.c at h
  split at h
  ·cases h; exact impl_DiskOk.s k
  ·cases h; exact impl_copyDisk.s k
  ·cases h; exact impl_drop.s k
  ·cases h; exact impl_at.s k
  ·cases h)
theorem impl_RemoveName.s (k : Nat) : CallOk Try.prog 39 (impl_RemoveName.e k) := ⟨⟨Try.f39, Try.func39, by kernel_rfl, by kernel_rfl⟩, body_sound (fn := Try.f39) (c := (Try.f39.body.getD .skip)) Try.func39 (by kernel_rfl) (Nat.le_of_ble_eq_true (by kernel_rfl)) (Nat.le_of_ble_eq_true (by kernel_rfl)) (fun X hP hn hp => impl_RemoveName.v k hP hn hp) (fun X hP hn hp => draw_ok (impl_RemoveName.v k hP hn hp) (by rw [hP]; exact mixed)) (fun X hP hn hp => loops_all _ (by
   have e : allLoops (Try.f39.body.getD .skip) = [] := by kernel_rfl
   rw [e]
   intro d hd
   exact absurd hd (List.not_mem_nil))) rfl (fun x => impl_RemoveName.ok k x)⟩
theorem laws_sameNamed.v (k : Nat) {X : Cx} (hP : X.P = Try.prog) (hn : X.nt = Try.f41.ntmps) (hp : X.np = 2) : EnvOk X (laws_sameNamed.n k) :=
 env_ok hP (Eq.trans (by kernel_rfl) hn.symm) (Eq.trans rfl hp.symm) rfl rfl tiOk eqOk (fun f en h => by
  have h : laws_sameNamed.c k f = some en := h
  unfold laws_sameNamed.c at h
  split at h
  ·cases h; exact laws_sameBytes.s k
  ·cases h)
theorem laws_sameNamed_l4.s {X : Cx} (hP : X.P = Try.prog) (hn : X.nt = Try.f41.ntmps) (hp : X.np = 2) : ∀ k, LoopOk X (laws_sameNamed_l4.p k) (loopAt 4 (Try.f41.body.getD .skip)) :=
 loop_ok (f := fun k x => (laws_sameNamed_l4.p k).run x) (En' := laws_sameNamed.n) (fun x => rfl) (fun k x => laws_sameNamed_l4.ok k x) (fun k => laws_sameNamed.v k hP hn hp) (fun k => draw_ok (laws_sameNamed.v k hP hn hp) (by rw [hP]; exact mixed)) (fun k => loops_all _ (by
   have e : allLoops (loopAt 4 (Try.f41.body.getD .skip)) = [] := by kernel_rfl
   rw [e]
   intro d hd
   exact absurd hd (List.not_mem_nil)))
theorem laws_sameNamed.s (k : Nat) : CallOk Try.prog 41 (laws_sameNamed.e k) := ⟨⟨Try.f41, Try.func41, by kernel_rfl, by kernel_rfl⟩, body_sound (fn := Try.f41) (c := (Try.f41.body.getD .skip)) Try.func41 (by kernel_rfl) (Nat.le_of_ble_eq_true (by kernel_rfl)) (Nat.le_of_ble_eq_true (by kernel_rfl)) (fun X hP hn hp => laws_sameNamed.v k hP hn hp) (fun X hP hn hp => draw_ok (laws_sameNamed.v k hP hn hp) (by rw [hP]; exact mixed)) (fun X hP hn hp => loops_mk (b := (Try.f41.body.getD .skip)) [4] (by kernel_rfl) (by kernel_rfl) (by
   intro l hl L hL
   simp only [List.mem_cons, List.not_mem_nil, or_false] at hl
   rcases hl with rfl
   ·have e : (laws_sameNamed.n k).lp 4 = some (laws_sameNamed_l4.p k) := rfl
    rw [e] at hL
    cases hL
    exact laws_sameNamed_l4.s hP hn hp k)) rfl (fun x => laws_sameNamed.ok k x)⟩
theorem impl_ReadName.v (k : Nat) {X : Cx} (hP : X.P = Try.prog) (hn : X.nt = Try.f42.ntmps) (hp : X.np = 2) : EnvOk X (impl_ReadName.n k) :=
 env_ok hP (Eq.trans (by kernel_rfl) hn.symm) (Eq.trans rfl hp.symm) rfl rfl tiOk eqOk (fun f en h => by
  have h : impl_ReadName.c k f = some en := h
  unfold impl_ReadName.c at h
  split at h
  ·cases h; exact impl_copyBytes.s k
  ·cases h; exact impl_at.s k
  ·cases h)
theorem impl_ReadName.s (k : Nat) : CallOk Try.prog 42 (impl_ReadName.e k) := ⟨⟨Try.f42, Try.func42, by kernel_rfl, by kernel_rfl⟩, body_sound (fn := Try.f42) (c := (Try.f42.body.getD .skip)) Try.func42 (by kernel_rfl) (Nat.le_of_ble_eq_true (by kernel_rfl)) (Nat.le_of_ble_eq_true (by kernel_rfl)) (fun X hP hn hp => impl_ReadName.v k hP hn hp) (fun X hP hn hp => draw_ok (impl_ReadName.v k hP hn hp) (by rw [hP]; exact mixed)) (fun X hP hn hp => loops_all _ (by
   have e : allLoops (Try.f42.body.getD .skip) = [] := by kernel_rfl
   rw [e]
   intro d hd
   exact absurd hd (List.not_mem_nil))) rfl (fun x => impl_ReadName.ok k x)⟩
theorem impl_withText.v (k : Nat) {X : Cx} (hP : X.P = Try.prog) (hn : X.nt = Try.f95.ntmps) (hp : X.np = 2) : EnvOk X (impl_withText.n k) :=
 env_ok hP (Eq.trans (by kernel_rfl) hn.symm) (Eq.trans rfl hp.symm) rfl rfl tiOk eqOk (fun f en h => by cases h)
theorem impl_withText_l2.s {X : Cx} (hP : X.P = Try.prog) (hn : X.nt = Try.f95.ntmps) (hp : X.np = 2) : ∀ k, LoopOk X (impl_withText_l2.p k) (loopAt 2 (Try.f95.body.getD .skip)) :=
 loop_ok (f := fun k x => (impl_withText_l2.p k).run x) (En' := impl_withText.n) (fun x => rfl) (fun k x => impl_withText_l2.ok k x) (fun k => impl_withText.v k hP hn hp) (fun k => draw_ok (impl_withText.v k hP hn hp) (by rw [hP]; exact mixed)) (fun k => loops_all _ (by
   have e : allLoops (loopAt 2 (Try.f95.body.getD .skip)) = [] := by kernel_rfl
   rw [e]
   intro d hd
   exact absurd hd (List.not_mem_nil)))
theorem impl_withText.s (k : Nat) : CallOk Try.prog 95 (impl_withText.e k) := ⟨⟨Try.f95, Try.func95, by kernel_rfl, by kernel_rfl⟩, body_sound (fn := Try.f95) (c := (Try.f95.body.getD .skip)) Try.func95 (by kernel_rfl) (Nat.le_of_ble_eq_true (by kernel_rfl)) (Nat.le_of_ble_eq_true (by kernel_rfl)) (fun X hP hn hp => impl_withText.v k hP hn hp) (fun X hP hn hp => draw_ok (impl_withText.v k hP hn hp) (by rw [hP]; exact mixed)) (fun X hP hn hp => loops_mk (b := (Try.f95.body.getD .skip)) [2] (by kernel_rfl) (by kernel_rfl) (by
   intro l hl L hL
   simp only [List.mem_cons, List.not_mem_nil, or_false] at hl
   rcases hl with rfl
   ·have e : (impl_withText.n k).lp 2 = some (impl_withText_l2.p k) := rfl
    rw [e] at hL
    cases hL
    exact impl_withText_l2.s hP hn hp k)) rfl (fun x => impl_withText.ok k x)⟩
theorem impl_FallDisk.v (k : Nat) {X : Cx} (hP : X.P = Try.prog) (hn : X.nt = Try.f43.ntmps) (hp : X.np = 2) : EnvOk X (impl_FallDisk.n k) :=
 env_ok hP (Eq.trans (by kernel_rfl) hn.symm) (Eq.trans rfl hp.symm) rfl rfl tiOk eqOk (fun f en h => by
  have h : impl_FallDisk.c k f = some en := h
  unfold impl_FallDisk.c at h
  split at h
  ·cases h; exact impl_DiskOk.s k
  ·cases h; exact impl_copyDisk.s k
  ·cases h; exact impl_at.s k
  ·cases h; exact impl_withText.s k
  ·cases h; exact impl_copyNamed.s k
  ·cases h)
theorem impl_FallDisk_l11.s {X : Cx} (hP : X.P = Try.prog) (hn : X.nt = Try.f43.ntmps) (hp : X.np = 2) : ∀ k, LoopOk X (impl_FallDisk_l11.p k) (loopAt 11 (Try.f43.body.getD .skip)) :=
 loop_ok (f := fun k x => (impl_FallDisk_l11.p k).run x) (En' := impl_FallDisk.n) (fun x => rfl) (fun k x => impl_FallDisk_l11.ok k x) (fun k => impl_FallDisk.v k hP hn hp) (fun k => draw_ok (impl_FallDisk.v k hP hn hp) (by rw [hP]; exact mixed)) (fun k => loops_all _ (by
   have e : allLoops (loopAt 11 (Try.f43.body.getD .skip)) = [] := by kernel_rfl
   rw [e]
   intro d hd
   exact absurd hd (List.not_mem_nil)))
theorem impl_FallDisk_l5.s {X : Cx} (hP : X.P = Try.prog) (hn : X.nt = Try.f43.ntmps) (hp : X.np = 2) : ∀ k, LoopOk X (impl_FallDisk_l5.p k) (loopAt 5 (Try.f43.body.getD .skip)) :=
 loop_ok (f := fun k x => (impl_FallDisk_l5.p k).run x) (En' := impl_FallDisk.n) (fun x => rfl) (fun k x => impl_FallDisk_l5.ok k x) (fun k => impl_FallDisk.v k hP hn hp) (fun k => draw_ok (impl_FallDisk.v k hP hn hp) (by rw [hP]; exact mixed)) (fun k => loops_all _ (by
   have e : allLoops (loopAt 5 (Try.f43.body.getD .skip)) = [] := by kernel_rfl
   rw [e]
   intro d hd
   exact absurd hd (List.not_mem_nil)))
theorem impl_FallDisk.s (k : Nat) : CallOk Try.prog 43 (impl_FallDisk.e k) := ⟨⟨Try.f43, Try.func43, by kernel_rfl, by kernel_rfl⟩, body_sound (fn := Try.f43) (c := (Try.f43.body.getD .skip)) Try.func43 (by kernel_rfl) (Nat.le_of_ble_eq_true (by kernel_rfl)) (Nat.le_of_ble_eq_true (by kernel_rfl)) (fun X hP hn hp => impl_FallDisk.v k hP hn hp) (fun X hP hn hp => draw_ok (impl_FallDisk.v k hP hn hp) (by rw [hP]; exact mixed)) (fun X hP hn hp => loops_mk (b := (Try.f43.body.getD .skip)) [5, 11] (by kernel_rfl) (by kernel_rfl) (by
   intro l hl L hL
   simp only [List.mem_cons, List.not_mem_nil, or_false] at hl
   rcases hl with rfl | rfl
   ·have e : (impl_FallDisk.n k).lp 5 = some (impl_FallDisk_l5.p k) := rfl
    rw [e] at hL
    cases hL
    exact impl_FallDisk_l5.s hP hn hp k
   ·have e : (impl_FallDisk.n k).lp 11 = some (impl_FallDisk_l11.p k) := rfl
    rw [e] at hL
    cases hL
    exact impl_FallDisk_l11.s hP hn hp k)) rfl (fun x => impl_FallDisk.ok k x)⟩
theorem laws_FnRemoved.v (k : Nat) {X : Cx} (hP : X.P = Try.prog) (hn : X.nt = Try.f7.ntmps) (hp : X.np = 1) : EnvOk X (laws_FnRemoved.n k) :=
 env_ok hP (Eq.trans (by kernel_rfl) hn.symm) (Eq.trans rfl hp.symm) rfl rfl tiOk eqOk (fun f en h => by
  have h : laws_FnRemoved.c k f = some en := h
  unfold laws_FnRemoved.c at h
  split at h
  ·cases h; exact laws_big.s k
  ·cases h; exact impl_SyncName.s k
  ·cases h; exact spec_DrawRemoveName.s k
  ·cases h; exact impl_RemoveName.s k
  ·cases h; exact spec_RemoveName.s k
  ·cases h; exact laws_sameNamed.s k
  ·cases h; exact impl_ReadName.s k
  ·cases h; exact impl_FallDisk.s k
  ·cases h; exact impl_DiskOk.s k
  ·cases h)
theorem laws_FnRemoved.s (k : Nat) : CallOk Try.prog 7 (laws_FnRemoved.e k) := ⟨⟨Try.f7, Try.func7, by kernel_rfl, by kernel_rfl⟩, body_sound (fn := Try.f7) (c := (Try.f7.body.getD .skip)) Try.func7 (by kernel_rfl) (Nat.le_of_ble_eq_true (by kernel_rfl)) (Nat.le_of_ble_eq_true (by kernel_rfl)) (fun X hP hn hp => laws_FnRemoved.v k hP hn hp) (fun X hP hn hp => draw_ok (laws_FnRemoved.v k hP hn hp) (by rw [hP]; exact mixed)) (fun X hP hn hp => loops_all _ (by
   have e : allLoops (Try.f7.body.getD .skip) = [] := by kernel_rfl
   rw [e]
   intro d hd
   exact absurd hd (List.not_mem_nil))) rfl (fun x => laws_FnRemoved.ok k x)⟩
theorem spec_DrawSyncName.v (k : Nat) {X : Cx} (hP : X.P = Try.prog) (hn : X.nt = Try.f45.ntmps) (hp : X.np = 1) : EnvOk X (spec_DrawSyncName.n k) :=
 env_ok hP (Eq.trans (by kernel_rfl) hn.symm) (Eq.trans rfl hp.symm) rfl rfl tiOk eqOk (fun f en h => by
  have h : spec_DrawSyncName.c k f = some en := h
  unfold spec_DrawSyncName.c at h
  split at h
  ·cases h; exact spec_l1New.s k
  ·cases h; exact spec_l9Any.s k
  ·cases h; exact spec_l3Any.s k
  ·cases h)
theorem spec_DrawSyncName.s (k : Nat) : CallOk Try.prog 45 (spec_DrawSyncName.e k) := ⟨⟨Try.f45, Try.func45, by kernel_rfl, by kernel_rfl⟩, body_sound (fn := Try.f45) (c := (Try.f45.body.getD .skip)) Try.func45 (by kernel_rfl) (Nat.le_of_ble_eq_true (by kernel_rfl)) (Nat.le_of_ble_eq_true (by kernel_rfl)) (fun X hP hn hp => spec_DrawSyncName.v k hP hn hp) (fun X hP hn hp => draw_ok (spec_DrawSyncName.v k hP hn hp) (by rw [hP]; exact mixed)) (fun X hP hn hp => loops_all _ (by
   have e : allLoops (Try.f45.body.getD .skip) = [] := by kernel_rfl
   rw [e]
   intro d hd
   exact absurd hd (List.not_mem_nil))) rfl (fun x => spec_DrawSyncName.ok k x)⟩
theorem spec_l9Keep.v (k : Nat) {X : Cx} (hP : X.P = Try.prog) (hn : X.nt = Try.f100.ntmps) (hp : X.np = 1) : EnvOk X (spec_l9Keep.n k) :=
 env_ok hP (Eq.trans (by kernel_rfl) hn.symm) (Eq.trans rfl hp.symm) rfl rfl tiOk eqOk (fun f en h => by
  have h : spec_l9Keep.c k f = some en := h
  unfold spec_l9Keep.c at h
  split at h
  ·cases h; exact spec_l1Below.s k
  ·cases h; exact spec_l1Once.s k
  ·cases h)
theorem spec_l9Keep_l3.s {X : Cx} (hP : X.P = Try.prog) (hn : X.nt = Try.f100.ntmps) (hp : X.np = 1) : ∀ k, LoopOk X (spec_l9Keep_l3.p k) (loopAt 3 (Try.f100.body.getD .skip)) :=
 loop_ok (f := fun k x => (spec_l9Keep_l3.p k).run x) (En' := spec_l9Keep.n) (fun x => rfl) (fun k x => spec_l9Keep_l3.ok k x) (fun k => spec_l9Keep.v k hP hn hp) (fun k => draw_ok (spec_l9Keep.v k hP hn hp) (by rw [hP]; exact mixed)) (fun k => loops_all _ (by
   have e : allLoops (loopAt 3 (Try.f100.body.getD .skip)) = [] := by kernel_rfl
   rw [e]
   intro d hd
   exact absurd hd (List.not_mem_nil)))
theorem spec_l9Keep.s (k : Nat) : CallOk Try.prog 100 (spec_l9Keep.e k) := ⟨⟨Try.f100, Try.func100, by kernel_rfl, by kernel_rfl⟩, body_sound (fn := Try.f100) (c := (Try.f100.body.getD .skip)) Try.func100 (by kernel_rfl) (Nat.le_of_ble_eq_true (by kernel_rfl)) (Nat.le_of_ble_eq_true (by kernel_rfl)) (fun X hP hn hp => spec_l9Keep.v k hP hn hp) (fun X hP hn hp => draw_ok (spec_l9Keep.v k hP hn hp) (by rw [hP]; exact mixed)) (fun X hP hn hp => loops_mk (b := (Try.f100.body.getD .skip)) [3] (by kernel_rfl) (by kernel_rfl) (by
   intro l hl L hL
   simp only [List.mem_cons, List.not_mem_nil, or_false] at hl
   rcases hl with rfl
   ·have e : (spec_l9Keep.n k).lp 3 = some (spec_l9Keep_l3.p k) := rfl
    rw [e] at hL
    cases hL
    exact spec_l9Keep_l3.s hP hn hp k)) rfl (fun x => spec_l9Keep.ok k x)⟩
theorem spec_DrawFallDisk.v (k : Nat) {X : Cx} (hP : X.P = Try.prog) (hn : X.nt = Try.f46.ntmps) (hp : X.np = 1) : EnvOk X (spec_DrawFallDisk.n k) :=
 env_ok hP (Eq.trans (by kernel_rfl) hn.symm) (Eq.trans rfl hp.symm) rfl rfl tiOk eqOk (fun f en h => by
  have h : spec_DrawFallDisk.c k f = some en := h
  unfold spec_DrawFallDisk.c at h
  split at h
  ·cases h; exact spec_l1New.s k
  ·cases h; exact spec_l9Any.s k
  ·cases h; exact spec_l9Keep.s k
  ·cases h)
theorem spec_DrawFallDisk.s (k : Nat) : CallOk Try.prog 46 (spec_DrawFallDisk.e k) := ⟨⟨Try.f46, Try.func46, by kernel_rfl, by kernel_rfl⟩, body_sound (fn := Try.f46) (c := (Try.f46.body.getD .skip)) Try.func46 (by kernel_rfl) (Nat.le_of_ble_eq_true (by kernel_rfl)) (Nat.le_of_ble_eq_true (by kernel_rfl)) (fun X hP hn hp => spec_DrawFallDisk.v k hP hn hp) (fun X hP hn hp => draw_ok (spec_DrawFallDisk.v k hP hn hp) (by rw [hP]; exact mixed)) (fun X hP hn hp => loops_all _ (by
   have e : allLoops (Try.f46.body.getD .skip) = [] := by kernel_rfl
   rw [e]
   intro d hd
   exact absurd hd (List.not_mem_nil))) rfl (fun x => spec_DrawFallDisk.ok k x)⟩
theorem laws_FnSynced.v (k : Nat) {X : Cx} (hP : X.P = Try.prog) (hn : X.nt = Try.f8.ntmps) (hp : X.np = 1) : EnvOk X (laws_FnSynced.n k) :=
 env_ok hP (Eq.trans (by kernel_rfl) hn.symm) (Eq.trans rfl hp.symm) rfl rfl tiOk eqOk (fun f en h => by
  have h : laws_FnSynced.c k f = some en := h
  unfold laws_FnSynced.c at h
  split at h
  ·cases h; exact laws_big.s k
  ·cases h; exact spec_SyncName.s k
  ·cases h; exact impl_SyncName.s k
  ·cases h; exact laws_sameNamed.s k
  ·cases h; exact impl_ReadName.s k
  ·cases h; exact impl_FallDisk.s k
  ·cases h; exact impl_DiskOk.s k
  ·cases h; exact spec_DrawSyncName.s k
  ·cases h; exact spec_DrawFallDisk.s k
  ·cases h; exact laws_sameBytes.s k
  ·cases h)
theorem laws_FnSynced.s (k : Nat) : CallOk Try.prog 8 (laws_FnSynced.e k) := ⟨⟨Try.f8, Try.func8, by kernel_rfl, by kernel_rfl⟩, body_sound (fn := Try.f8) (c := (Try.f8.body.getD .skip)) Try.func8 (by kernel_rfl) (Nat.le_of_ble_eq_true (by kernel_rfl)) (Nat.le_of_ble_eq_true (by kernel_rfl)) (fun X hP hn hp => laws_FnSynced.v k hP hn hp) (fun X hP hn hp => draw_ok (laws_FnSynced.v k hP hn hp) (by rw [hP]; exact mixed)) (fun X hP hn hp => loops_all _ (by
   have e : allLoops (Try.f8.body.getD .skip) = [] := by kernel_rfl
   rw [e]
   intro d hd
   exact absurd hd (List.not_mem_nil))) rfl (fun x => laws_FnSynced.ok k x)⟩
end Go.Proofs.Ytehkignjdbkeiaa.Vf
