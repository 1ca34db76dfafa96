/- An operation does the same wherever it reads the same: slices, builds, calls. -/
import Derived.Test.YtehkignjdbkeiaaWi
set_option linter.unusedVariables false
set_option linter.unusedSimpArgs false
namespace Go.Proofs.Ytehkignjdbkeiaa.Vf
open Go
attribute [local irreducible] C H

section
variable {E : En} {A A' : Ab} {F : List Nat} {o : Oper} {R : Type} {Kc : List Up → Option R} {r : R}

theorem loc_indexAddr {T : TypeId} {x i : Operand} {d : Nat} (ho : o.op = .indexAddr T x i) (hod : o.dst = some d) (hx : RX A F x) (hi : RX A F i) (h : step E o A Kc = some r) : Loc E o A F Kc r := by
  unfold step at h
  rw [ho, hod] at h
  simp only at h
  split at h
  · rename_i y k n hs hn
    have hal := (opT_one hx hs).al
    split at h
    · rename_i p v e r' xs hse
      cases hb : (isEl E T e && decide (0 ≤ n)) with
      | false => rw [hb] at h; simp at h
      | true =>
        rw [hb, cond_true] at h
        cases hl : decide (n < (xs.length : Int)) with
        | false => rw [hl] at h; simp at h
        | true =>
          rw [hl, cond_true] at h
          refine ⟨_, h, fun A' hA R' K' => ?_⟩
          unfold step
          rw [ho, hod]
          simp only [opT_ag hA hx, opT_ag hA hi, hs, hn, seen_ag hA hal, hse, hb, hl, cond_true]
    · rename_i e r' xs hse
      cases hb : (isEl E T e && decide (0 ≤ n)) with
      | false => rw [hb] at h; simp at h
      | true =>
        rw [hb, cond_true] at h
        cases hl : decide (n < (xs.length : Int)) with
        | false => rw [hl] at h; simp at h
        | true =>
          rw [hl, cond_true] at h
          refine ⟨_, h, fun A' hA R' K' => ?_⟩
          unfold step
          rw [ho, hod]
          simp only [opT_ag hA hx, opT_ag hA hi, hs, hn, seen_ag hA hal, hse, hb, hl, cond_true]
    · rename_i e r' xs hne hse
      split at h
      · rename_i t
        have ht : t ∈ F := hx.1
        cases hb : (isEl E T e && decide (0 ≤ n)) with
        | false => rw [hb] at h; simp at h
        | true =>
          rw [hb, cond_true] at h
          cases hl : decide (n < (xs.length : Int)) with
          | false => rw [hl] at h; simp at h
          | true =>
            rw [hl, cond_true] at h
            refine ⟨_, h, fun A' hA R' K' => ?_⟩
            unfold step
            rw [ho, hod]
            simp only [opT_ag hA hx, opT_ag hA hi, hs, hn, seen_ag hA hal, hse, hb, hl, cond_true, hA t ht]
      · cases h
    · cases h
  · cases h

theorem loc_index {T : TypeId} {x i : Operand} {d : Nat} (ho : o.op = .index T x i) (hod : o.dst = some d) (hx : RX A F x) (hi : RX A F i) (h : step E o A Kc = some r) : Loc E o A F Kc r := by
  unfold step at h
  rw [ho, hod] at h
  simp only at h
  split at h
  · rename_i s k n hs hn
    cases hb : (isStr E T && decide (0 ≤ n)) with
    | false => rw [hb] at h; simp at h
    | true =>
      rw [hb, cond_true] at h
      cases hl : decide (n < (s.size : Int)) with
      | false => rw [hl] at h; simp at h
      | true =>
        rw [hl, cond_true] at h
        refine ⟨_, h, fun A' hA R' K' => ?_⟩
        unfold step
        rw [ho, hod]
        simp only [opT_ag hA hx, opT_ag hA hi, hs, hn, hb, hl, cond_true]
  · cases h

theorem intOp_ag (hA : Ag A A' F) {x : Option Operand} (hx : ∀ y, x = some y → RX A F y) : intOp E A' x = intOp E A x := by
  cases x with
  | none => rfl
  | some y => simp only [intOp, opT_ag hA (hx y rfl)]

theorem loc_slice {T : TypeId} {x : Operand} {lo hi : Option Operand} {d : Nat} (ho : o.op = .slice T x lo hi none) (hod : o.dst = some d) (hx : RX A F x) (hlo : ∀ y, lo = some y → RX A F y) (hhi : ∀ y, hi = some y → RX A F y) (h : step E o A Kc = some r) : Loc E o A F Kc r := by
  unfold step at h
  rw [ho, hod] at h
  simp only at h
  split at h
  · rename_i s l u hs hl hu
    cases hq : isStr E T with
    | false => rw [hq] at h; simp at h
    | true =>
      rw [hq, cond_true] at h
      obtain ⟨h1, h2⟩ := bnds_par h
      refine ⟨_, h1, fun A' hA R' K' => ?_⟩
      unfold step
      rw [ho, hod]
      simp only [opT_ag hA hx, intOp_ag hA hlo, intOp_ag hA hhi, hs, hl, hu, hq, cond_true]
      exact h2 _
  · rename_i y l u hne hs hl hu
    have hal := (opT_one hx hs).al
    split at h
    · rename_i e0 r0 xs0 e r' xs hsn
      cases hq : isEl E T e with
      | false => rw [hq] at h; simp at h
      | true =>
        rw [hq, cond_true] at h
        split at h
        · obtain ⟨h1, h2⟩ := bnds_par h
          refine ⟨_, h1, fun A' hA R' K' => ?_⟩
          unfold step
          rw [ho, hod]
          simp only [opT_ag hA hx, intOp_ag hA hlo, intOp_ag hA hhi, hs, hl, hu, seen_ag hA hal, hsn, hq, cond_true]
          exact h2 _
        · obtain ⟨h1, h2⟩ := bnds_par h
          refine ⟨_, h1, fun A' hA R' K' => ?_⟩
          unfold step
          rw [ho, hod]
          simp only [opT_ag hA hx, intOp_ag hA hlo, intOp_ag hA hhi, hs, hl, hu, seen_ag hA hal, hsn, hq, cond_true]
          exact h2 _
    · rename_i e r' xs hno hsn
      cases hq : isEl E T e with
      | false => rw [hq] at h; simp at h
      | true =>
        rw [hq, cond_true] at h
        obtain ⟨h1, h2⟩ := bnds_par h
        refine ⟨_, h1, fun A' hA R' K' => ?_⟩
        unfold step
        rw [ho, hod]
        simp only [opT_ag hA hx, intOp_ag hA hlo, intOp_ag hA hhi, hs, hl, hu, seen_ag hA hal, hsn, hq, cond_true, cost_ag hA hal]
        exact h2 _
    · rename_i e r' xs hsn
      cases hq : isEl E T e with
      | false => rw [hq] at h; simp at h
      | true =>
        rw [hq, cond_true] at h
        obtain ⟨h1, h2⟩ := bnds_par h
        refine ⟨_, h1, fun A' hA R' K' => ?_⟩
        unfold step
        rw [ho, hod]
        simp only [opT_ag hA hx, intOp_ag hA hlo, intOp_ag hA hhi, hs, hl, hu, seen_ag hA hal, hsn, hq, cond_true]
        exact h2 _
    · cases h
  · cases h

theorem cost_calm {A : Ab} {y : Lf} : ∀ u ∈ cost A y, calmU u := by
  intro u hu
  unfold cost at hu
  split at hu
  · rename_i p v
    split at hu
    · rename_i n e r xs hg
      cases hb : Nat.beq n v with
      | false => rw [hb] at hu; simp at hu
      | true =>
        rw [hb] at hu
        simp only [cond_true, List.mem_singleton] at hu
        subst hu
        exact .inr ⟨e, r, xs, rfl⟩
    · simp at hu
  · simp at hu

theorem costs_calm {A : Ab} : ∀ {l : List Lf}, ∀ u ∈ costs A l, calmU u
  | [], u, hu => by simp [costs] at hu
  | y :: l, u, hu => by
    unfold costs at hu
    rcases List.mem_append.1 hu with hu | hu
    · exact cost_calm u hu
    · exact costs_calm u hu

theorem gone_calm {x : Operand} {s : Sv} : ∀ u ∈ gone x s, calmU u := by
  intro u hu
  unfold gone at hu
  split at hu
  · rename_i t
    cases hb : ownSv s with
    | false => rw [hb] at hu; simp at hu
    | true =>
      rw [hb] at hu
      simp only [cond_true, List.mem_singleton] at hu
      subst hu
      exact .inl rfl
  · simp at hu

theorem took_calm {y : Lf} {x : Operand} : ∀ u ∈ took y x, calmU u := by
  intro u hu
  unfold took at hu
  split at hu
  · simp only [List.mem_singleton] at hu; subst hu; exact .inl rfl
  · simp only [List.mem_singleton] at hu; subst hu; exact .inl rfl
  · simp at hu

theorem cg_calm {A : Ab} {l : List Lf} {x : Operand} {s : Sv} : ∀ u ∈ costs A l ++ gone x s, calmU u := fun u hu => (List.mem_append.1 hu).elim (costs_calm u) (gone_calm u)

theorem buildP_ag {T : TI} : ∀ {ps : List (Nat × Operand)} {A A' : Ab} {l : List Lf} {us : List Up}, Ag A A' F → (∀ p ∈ ps, RX A F p.2) → buildP E A' T l us ps = buildP E A T l us ps
  | [], _, _, _, _, _, _ => rfl
  | (i, x) :: ps, A, A', l, us, hA, hp => by
    have hx : RX A F x := hp (i, x) (by simp)
    have hps : ∀ p ∈ ps, RX A F p.2 := fun p hm => hp p (List.mem_cons_of_mem _ hm)
    have e0 : ∀ l us, buildP E A' T l us ps = buildP E A T l us ps := fun l us => buildP_ag hA hps
    unfold buildP
    cases hn : nth T.fo i with
    | none => rfl
    | some o =>
      obtain ⟨off, z, ag⟩ := o
      simp only [opT_ag hA hx]
      have gen : ∀ {s : Sv}, opT E 0 A x = some s → (let m := (parts s).map (kept A'); bif storable m && Nat.beq m.length z && Nat.ble (off + z) l.length then buildP E (ups A' (costs A' (parts s) ++ gone x s)) T (setAll l off m) (us ++ (costs A' (parts s) ++ gone x s)) ps else none) =
          (let m := (parts s).map (kept A); bif storable m && Nat.beq m.length z && Nat.ble (off + z) l.length then buildP E (ups A (costs A (parts s) ++ gone x s)) T (setAll l off m) (us ++ (costs A (parts s) ++ gone x s)) ps else none) := by
        intro s hs
        have hal := RL.als (opT_RL hx hs)
        simp only [keptM_ag hA hal, costs_ag hA hal]
        rw [buildP_ag (hA.ups (U := costs A (parts s) ++ gone x s)) (fun p hm => (hps p hm).ups cg_calm)]
      split
      · cases Nat.beq z 1 with
        | false => rfl
        | true =>
          simp only [cond_true]
          split
          · exact e0 _ _
          · rfl
      · cases hs : opT E 0 A x with
        | none => rfl
        | some s => exact gen hs

theorem loc_build {T : TypeId} {ps : Array (Nat × Operand)} {d : Nat} (ho : o.op = .build T ps) (hod : o.dst = some d) (hp : ∀ p ∈ ps.toList, RX A F p.2) (h : step E o A Kc = some r) : Loc E o A F Kc r := by
  unfold step at h
  rw [ho, hod] at h
  simp only at h
  split at h
  · rename_i ti hT
    split at h
    · rename_i l us hb
      cases ha : ti.ag with
      | false => rw [ha] at h; simp at h
      | true =>
        rw [ha, cond_true] at h
        refine ⟨_, h, fun A' hA R' K' => ?_⟩
        unfold step
        rw [ho, hod]
        simp only [hT, buildP_ag hA hp, hb, ha, cond_true]
    · cases h
  · cases h

theorem rowsP_ag {e : TypeId} {t : Ty} : ∀ {ps : List (Nat × Operand)} {A A' : Ab} {i : Nat}, Ag A A' F → (∀ p ∈ ps, RX A F p.2) → rowsP E A' e t i ps = rowsP E A e t i ps
  | [], _, _, _, _, _ => rfl
  | (j, x) :: ps, A, A', i, hA, hp => by
    have hx : RX A F x := hp (j, x) (by simp)
    have hps : ∀ p ∈ ps, RX A F p.2 := fun p hm => hp p (List.mem_cons_of_mem _ hm)
    unfold rowsP
    cases Nat.beq i j with
    | false => rfl
    | true =>
      simp only [cond_true, opT_ag hA hx]
      cases hs : opT E e A x with
      | none => rfl
      | some s =>
        have hal := RL.als (opT_RL hx hs)
        simp only [keptM_ag hA hal, calmM_ag hA hal, costs_ag hA hal]
        rw [rowsP_ag (hA.ups (U := costs A (parts s) ++ gone x s)) (fun p hm => (hps p hm).ups cg_calm)]

theorem loc_buildSlice {T : TypeId} {n : Nat} {ps : Array (Nat × Operand)} {d : Nat} (ho : o.op = .buildSlice T n ps) (hod : o.dst = some d) (hp : ∀ p ∈ ps.toList, RX A F p.2) (h : step E o A Kc = some r) : Loc E o A F Kc r := by
  unfold step at h
  rw [ho, hod] at h
  simp only at h
  split at h
  · rename_i e r' b f hT
    cases hb : (Nat.beq n ps.size && Nat.ble (n * r'.sz) 16777216 && (E.ti e).isSome) with
    | false => rw [hb] at h; simp at h
    | true =>
      rw [hb, cond_true] at h
      split at h
      · rename_i ys us hr
        refine ⟨_, h, fun A' hA R' K' => ?_⟩
        unfold step
        rw [ho, hod]
        simp only [hT, hb, cond_true, rowsP_ag hA hp, hr]
      · cases h
  · cases h

theorem loc_makeSlice {T : TypeId} {x y : Operand} {d : Nat} (ho : o.op = .makeSlice T x y) (hod : o.dst = some d) (hx : RX A F x) (hy : RX A F y) (h : step E o A Kc = some r) : Loc E o A F Kc r := by
  unfold step at h
  rw [ho, hod] at h
  simp only at h
  split at h
  · rename_i e r' b f n m hT hs hm
    split at h
    · rename_i te he
      cases hb : (zsame te.ty r' && decide (n = m)) with
      | false => rw [hb] at h; simp at h
      | true =>
        rw [hb, cond_true] at h
        cases h0 : decide (0 ≤ n) with
        | false => rw [h0] at h; simp at h
        | true =>
          rw [h0, cond_true] at h
          cases h1 : decide (n * te.by_ ≤ 140737488355328) with
          | false => rw [h1] at h; simp at h
          | true =>
            rw [h1, cond_true] at h
            refine ⟨_, h, fun A' hA R' K' => ?_⟩
            unfold step
            rw [ho, hod]
            simp only [hT, opT_ag hA hx, opT_ag hA hy, hs, hm, he, hb, h0, h1, cond_true]
    · cases h
  · cases h

theorem opsT_ag (hA : Ag A A' F) : ∀ {xs : List Operand} {Ts : List TypeId}, (∀ x ∈ xs, RX A F x) → opsT E Ts A' xs = opsT E Ts A xs
  | [], _, _ => by simp only [opsT]
  | x :: xs, [], _ => by simp only [opsT]
  | x :: xs, T :: Ts, hx => by
    unfold opsT
    simp only [opT_ag hA (hx x (by simp)), opsT_ag hA (xs := xs) (Ts := Ts) (fun y hy => hx y (List.mem_cons_of_mem _ hy))]

theorem opsT_RL : ∀ {xs : List Operand} {Ts : List TypeId} {ss : List Sv}, (∀ x ∈ xs, RX A F x) → opsT E Ts A xs = some ss → ∀ s ∈ ss, ∀ y ∈ parts s, RL A F y
  | [], _, ss, _, h => by
    simp only [opsT, Option.some.injEq] at h
    subst h
    intro s hs
    simp at hs
  | x :: xs, [], ss, _, h => by simp [opsT] at h
  | x :: xs, T :: Ts, ss, hx, h => by
    simp only [opsT] at h
    split at h
    · rename_i s hs
      split at h
      · rename_i ss' hss
        simp only [Option.some.injEq] at h
        subst h
        intro s' hs' y hy
        rcases List.mem_cons.1 hs' with rfl | hs'
        · exact opT_RL (hx x (by simp)) hs y hy
        · exact opsT_RL (fun y hy => hx y (List.mem_cons_of_mem _ hy)) hss s' hs' y hy
      · cases h
    · cases h

theorem loc_len {c : Call} (ho : o.op = .call c) (hc : c.callee = .builtin .len) (hx : ∀ x ∈ c.args.toList, RX A F x) (h : step E o A Kc = some r) : Loc E o A F Kc r := by
  unfold step at h
  rw [ho] at h
  simp only [hc] at h
  split at h
  · rename_i T x d hT hxs hod
    have hx0 : RX A F x := hx x (by rw [hxs]; simp)
    split at h
    · rename_i y hs
      have hal := (opT_one hx0 hs).al
      split at h
      · rename_i s hse
        cases hb : isStr E T with
        | false => rw [hb] at h; simp at h
        | true =>
          rw [hb, cond_true] at h
          refine ⟨_, h, fun A' hA R' K' => ?_⟩
          unfold step
          rw [ho, hod]
          simp only [hc, hT, hxs, opT_ag hA hx0, hs, seen_ag hA hal, hse, hb, cond_true]
      · rename_i e r' xs hse
        cases hb : isEl E T e with
        | false => rw [hb] at h; simp at h
        | true =>
          rw [hb, cond_true] at h
          refine ⟨_, h, fun A' hA R' K' => ?_⟩
          unfold step
          rw [ho, hod]
          simp only [hc, hT, hxs, opT_ag hA hx0, hs, seen_ag hA hal, hse, hb, cond_true]
      · rename_i e r' xs hse
        cases hb : isEl E T e with
        | false => rw [hb] at h; simp at h
        | true =>
          rw [hb, cond_true] at h
          refine ⟨_, h, fun A' hA R' K' => ?_⟩
          unfold step
          rw [ho, hod]
          simp only [hc, hT, hxs, opT_ag hA hx0, hs, seen_ag hA hal, hse, hb, cond_true]
      · cases h
    · cases h
  · cases h

theorem loc_min {c : Call} (ho : o.op = .call c) (hc : c.callee = .builtin .min) (hx : ∀ x ∈ c.args.toList, RX A F x) (h : step E o A Kc = some r) : Loc E o A F Kc r := by
  unfold step at h
  rw [ho] at h
  simp only [hc] at h
  split at h
  · rename_i k n l d hs hod
    obtain ⟨v, h1, h2⟩ := minMax_par h
    refine ⟨_, h1, fun A' hA R' K' => ?_⟩
    unfold step
    rw [ho, hod]
    simp only [hc, opsT_ag hA hx, hs]
    exact h2 _
  · cases h

theorem loc_max {c : Call} (ho : o.op = .call c) (hc : c.callee = .builtin .max) (hx : ∀ x ∈ c.args.toList, RX A F x) (h : step E o A Kc = some r) : Loc E o A F Kc r := by
  unfold step at h
  rw [ho] at h
  simp only [hc] at h
  split at h
  · rename_i k n l d hs hod
    obtain ⟨v, h1, h2⟩ := minMax_par h
    refine ⟨_, h1, fun A' hA R' K' => ?_⟩
    unfold step
    rw [ho, hod]
    simp only [hc, opsT_ag hA hx, hs]
    exact h2 _
  · cases h

theorem loc_append {c : Call} (ho : o.op = .call c) (hc : c.callee = .builtin .append) (hx : ∀ x ∈ c.args.toList, RX A F x) (h : step E o A Kc = some r) : Loc E o A F Kc r := by
  unfold step at h
  rw [ho] at h
  simp only [hc] at h
  split at h
  · rename_i T T' x y d hT hxs hod
    have hx0 : RX A F x := hx x (by rw [hxs]; simp)
    have hy0 : RX A F y := hx y (by rw [hxs]; simp)
    split at h
    · rename_i u w hsu hsw
      have hau := (opT_one hx0 hsu).al
      have haw := (opT_one hy0 hsw).al
      split at h
      · rename_i e r' xs hsu'
        split at h
        · rename_i e' r'' ys hasl
          split at h
          · rename_i ys' te hcast hte
            cases hq : (Nat.beq e e' && isEl E T e && Nat.beq T T') with
            | false => rw [hq] at h; simp at h
            | true =>
              rw [hq, cond_true] at h
              cases hq2 : Nat.ble ((xs.length + ys'.length) * te.by_) 140737488355328 with
              | false => rw [hq2] at h; simp at h
              | true =>
                rw [hq2, cond_true] at h
                refine ⟨_, h, fun A' hA R' K' => ?_⟩
                unfold step
                rw [ho, hod]
                simp only [hc, hT, hxs, opT_ag hA hx0, opT_ag hA hy0, hsu, hsw, seen_ag hA hau, seen_ag hA haw, hsu', hasl, hcast, hte, hq, hq2, cond_true]
          · cases h
        · rename_i hasl
          split at h
          · rename_i s hse
            split at h
            · rename_i ys' f hcast hte
              cases hq : (isEl E T e && isStr E T' && Nat.ble ((xs.length + s.size) * 1) 140737488355328) with
              | false => rw [hq] at h; simp at h
              | true =>
                rw [hq, cond_true] at h
                refine ⟨_, h, fun A' hA R' K' => ?_⟩
                unfold step
                rw [ho, hod]
                simp only [hc, hT, hxs, opT_ag hA hx0, opT_ag hA hy0, hsu, hsw, seen_ag hA hau, seen_ag hA haw, hsu', hse, asSl, hcast, hte, hq, cond_true]
            · cases h
          · cases h
      · cases h
    · cases h
  · cases h

theorem lentOf_ag (hA : Ag A A' F) : ∀ {ps : List Par} {ss : List Sv}, (∀ s ∈ ss, ∀ y ∈ parts s, RL A F y) → lentOf A' ps ss = lentOf A ps ss
  | [], [], _ => rfl
  | [], _ :: _, _ => rfl
  | .val _ _ :: _, [], _ => rfl
  | .ptr _ _ :: _, [], _ => rfl
  | .ptr _ _ :: _, _ :: _, _ => rfl
  | .val ag t :: ps, s :: ss, hs => by
    unfold lentOf
    rw [seenM_ag hA (RL.als (hs s (by simp))), lentOf_ag hA (fun s' hs' => hs s' (List.mem_cons_of_mem _ hs'))]

theorem argOf_ag (hA : Ag A A' F) {x : Operand} {p : Par} {s : Sv} (hs : ∀ y ∈ parts s, RL A F y) : argOf A' x p s = argOf A x p s ∧ ∀ l u b, argOf A x p s = some (l, u, b) → ∀ v ∈ u, calmU v := by
  have hal := RL.als hs
  constructor
  · unfold argOf
    split
    · rename_i y
      rw [seen_ag hA ((hs y (by simp [parts])).al)]
    · simp only [keptM_ag hA hal, costs_ag hA hal]
    · rename_i t t' b v
      obtain ⟨h1, h2⟩ : RL A F (.bp b v 0) := hs _ (by simp [parts])
      rw [hA _ h1]
      split
      · rename_i n m hg
        have hcell : ∀ i, i < m → C b (0 + i) ∈ F ∧ ∀ p v, (get A (C b (0 + i))).2 = .one (.al p v) → p ∈ F := fun i hi => by
          rw [Nat.zero_add]
          exact h2 m (by rw [hg]) i hi
        have hac := cellsOf_AL hcell
        have e1 : cellsOf A' b 0 m = cellsOf A b 0 m := cellsOf_ag hA (fun i hi => (hcell i hi).1)
        rw [e1, keptM_ag hA hac, costs_ag hA hac]
      · rfl
    · rfl
  · intro l u b h v hv
    unfold argOf at h
    split at h
    · split at h
      · simp only [Option.some.injEq, Prod.mk.injEq] at h
        obtain ⟨_, rfl, _⟩ := h
        exact took_calm v hv
      · cases h
    · rename_i s0 ag t _
      generalize (noOw t && formOk ag s && storable ((parts s).map (kept A))) = bb at h
      cases bb with
      | false => simp at h
      | true =>
        simp only [cond_true, Option.some.injEq, Prod.mk.injEq] at h
        obtain ⟨_, rfl, _⟩ := h
        exact cg_calm v hv
    · rename_i t t' b' v'
      split at h
      · rename_i n m hg
        generalize (noOw t && noOw t' && Nat.beq n v' && Nat.beq m t.sz && Nat.beq m t'.sz && storable ((cellsOf A b' 0 m).map (kept A))) = bb at h
        cases bb with
        | false => simp at h
        | true =>
          simp only [cond_true, Option.some.injEq, Prod.mk.injEq] at h
          obtain ⟨_, rfl, _⟩ := h
          exact costs_calm v hv
      · cases h
    · cases h

theorem argsOf_ag : ∀ {ps : List Par} {Ts : List TypeId} {xs : List Operand} {A A' : Ab}, Ag A A' F → (∀ x ∈ xs, RX A F x) → argsOf E Ts A' xs ps = argsOf E Ts A xs ps
  | [], Ts, [], _, _, _, _ => by cases Ts <;> rfl
  | [], Ts, _ :: _, _, _, _, _ => by cases Ts <;> rfl
  | _ :: _, Ts, [], _, _, _, _ => by cases Ts <;> rfl
  | _ :: _, [], _ :: _, _, _, _, _ => rfl
  | p :: ps, T :: Ts, x :: xs, A, A', hA, hx => by
    have hx0 : RX A F x := hx x (by simp)
    unfold argsOf
    rw [opT_ag hA hx0]
    cases hs : opT E T A x with
    | none => rfl
    | some s =>
      simp only
      obtain ⟨h1, h2⟩ := argOf_ag hA (x := x) (p := p) (opT_RL hx0 hs)
      rw [h1]
      cases ha : argOf A x p s with
      | none => rfl
      | some q =>
        obtain ⟨l, u, b⟩ := q
        simp only
        rw [argsOf_ag (hA.ups (U := u)) (fun y hy => (hx y (List.mem_cons_of_mem _ hy)).ups (h2 l u b ha))]

theorem resUp_ag {rs : List (RK × Ty)} {ls : List (List Lf)} {d : Option Nat} (hA : ∀ d', d = some d' → get A' (H d') = get A (H d')) : resUp A' rs ls d = resUp A rs ls d := by
  unfold resUp
  split <;> first | rfl | skip
  · rename_i d _ _ _ _ _
    unfold ptrRes
    rw [hA _ rfl]

theorem loc_callF {c : Call} {f : FuncId} (ho : o.op = .call c) (hc : c.callee = .value (.func f)) (hd : ∀ d, o.dst = some d → H d ∈ F) (hx : ∀ x ∈ c.args.toList, RX A F x) (h : step E o A Kc = some r) : Loc E o A F Kc r := by
  unfold step at h
  rw [ho] at h
  simp only [hc] at h
  split at h
  · rename_i en ss he hss
    have hrl := opsT_RL hx hss
    unfold callF at h
    cases hb : (lends en.ps && news en.rs) with
    | true =>
      rw [hb, cond_true] at h
      split at h
      · cases h
      · rename_i ls hl
        split at h
        · cases h
        · rename_i x hm
          cases hr : en.run x with
          | none => rw [hr] at h; simp at h
          | some y =>
            rw [hr] at h
            simp only [Option.bind_some] at h
            split at h
            · cases h
            · rename_i rs hrs
              refine ⟨_, h, fun A' hA R' K' => ?_⟩
              unfold step
              rw [ho]
              simp only [hc, he, opsT_ag hA hx, hss]
              unfold callF
              simp only [hb, cond_true, lentOf_ag hA hrl, hl, hm, hr, Option.bind_some, resUp_ag (A := A) (A' := A') (fun d' hd' => hA _ (hd d' hd')), hrs]
    | false =>
      rw [hb, cond_false] at h
      cases hb2 : (Nat.ble (ptrs en.ps) 1 && okPtr E en.rs o.dst) with
      | false => rw [hb2] at h; simp at h
      | true =>
        rw [hb2, cond_true] at h
        split at h
        · cases h
        · rename_i ls us bs hl
          split at h
          · cases h
          · rename_i x hm
            cases hr : en.run x with
            | none => rw [hr] at h; simp at h
            | some y =>
              rw [hr] at h
              simp only [Option.bind_some] at h
              split at h
              · cases h
              · rename_i ws hws
                split at h
                · cases h
                · rename_i rs hrs
                  refine ⟨_, h, fun A' hA R' K' => ?_⟩
                  have hA2 := (hA.ups (U := us)).ups (U := ws)
                  unfold step
                  rw [ho]
                  simp only [hc, he, opsT_ag hA hx, hss]
                  unfold callF
                  simp only [hb, hb2, cond_true, cond_false, argsOf_ag hA hx, hl, hm, hr, Option.bind_some, hws, resUp_ag (A := ups (ups A us) ws) (A' := ups (ups A' us) ws) (fun d' hd' => hA2 _ (hd d' hd')), hrs]
  · cases h

/-- Every operation. -/
theorem step_loc (hF : ∀ p ∈ rds A o, p ∈ F) (h : step E o A Kc = some r) : Loc E o A F Kc r := by
  have hD : ∀ d, o.dst = some d → d ∈ F ∧ H d ∈ F := fun d hd => by
    unfold rds at hF
    rw [hd] at hF
    exact ⟨hF d (by simp [rdD]), hF (H d) (by simp [rdD])⟩
  have hO : ∀ p ∈ rdOp A o.op, p ∈ F := fun p hp => hF p (by unfold rds; exact List.mem_append_right _ hp)
  have hX : rdOp A o.op = rdOs A (opsOf o.op) → ∀ x ∈ opsOf o.op, RX A F x := fun e => rdOs_RX (by rw [← e]; exact hO)
  cases ho : o.op with
  | call c =>
    have hx := hX (by rw [ho]; rfl)
    rw [ho] at hx
    have hx : ∀ x ∈ c.args.toList, RX A F x := hx
    cases hc : c.callee with
    | builtin b =>
      cases b with
      | len => exact loc_len ho hc hx h
      | min => exact loc_min ho hc hx h
      | max => exact loc_max ho hc hx h
      | append => exact loc_append ho hc hx h
      | _ => unfold step at h; rw [ho] at h; simp only [hc] at h; cases h
    | value f =>
      cases f with
      | func f => exact loc_callF ho hc (fun d hd => (hD d hd).2) hx h
      | _ => unfold step at h; rw [ho] at h; simp only [hc] at h; cases h
    | invoke x m => unfold step at h; rw [ho] at h; simp only [hc] at h; cases h
  | store T x y =>
    have hx := hX (by rw [ho]; rfl)
    rw [ho] at hx
    cases hod : o.dst with
    | none => exact loc_store ho hod (hx x (by simp [opsOf])) (hx y (by simp [opsOf])) h
    | some d => unfold step at h; rw [ho, hod] at h; cases h
  | move x => cases hod : o.dst with
    | none => unfold step at h; rw [ho, hod] at h; cases h
    | some d =>
      refine loc_move ho hod (fun t e => ?_) h
      subst e
      exact hO t (by rw [ho]; simp [rdOp, rdT])
  | assign x => cases hod : o.dst with
    | none => unfold step at h; rw [ho, hod] at h; cases h
    | some d =>
      have hx := hX (by rw [ho]; rfl)
      rw [ho] at hx
      exact loc_assign ho hod (hx x (by simp [opsOf])) h
  | pick c x y => cases hod : o.dst with
    | none => unfold step at h; rw [ho, hod] at h; cases h
    | some d =>
      have hx := hX (by rw [ho]; rfl)
      rw [ho] at hx
      exact loc_pick ho hod (hx c (by simp [opsOf])) (hx x (by simp [opsOf])) (hx y (by simp [opsOf])) h
  | binOp op T x y T' => cases hod : o.dst with
    | none => unfold step at h; rw [ho, hod] at h; cases h
    | some d =>
      have hx := hX (by rw [ho]; rfl)
      rw [ho] at hx
      exact loc_binOp ho hod (hx x (by simp [opsOf])) (hx y (by simp [opsOf])) h
  | unOp op T x => cases hod : o.dst with
    | none => unfold step at h; rw [ho, hod] at h; cases h
    | some d =>
      have hx := hX (by rw [ho]; rfl)
      rw [ho] at hx
      exact loc_unOp ho hod (hx x (by simp [opsOf])) h
  | convert T T' x => cases hod : o.dst with
    | none => unfold step at h; rw [ho, hod] at h; cases h
    | some d =>
      have hx := hX (by rw [ho]; rfl)
      rw [ho] at hx
      exact loc_convert ho hod (hx x (by simp [opsOf])) h
  | nilCheck x => cases hod : o.dst with
    | none => unfold step at h; rw [ho, hod] at h; cases h
    | some d => exact loc_nilCheck ho hod (rdP_RP (fun p hp => hO p (by rw [ho]; exact hp))) h
  | extract x j => cases hod : o.dst with
    | none => unfold step at h; rw [ho, hod] at h; cases x <;> cases h
    | some d => cases x with
      | tmp t =>
        have hx := hX (by rw [ho]; rfl)
        rw [ho] at hx
        exact loc_extract ho hod (hx (.tmp t) (by simp [opsOf])).1 h
      | _ => unfold step at h; rw [ho, hod] at h; cases h
  | field T x j => cases hod : o.dst with
    | none => unfold step at h; rw [ho, hod] at h; cases x <;> cases h
    | some d => cases x with
      | tmp t =>
        have hx := hX (by rw [ho]; rfl)
        rw [ho] at hx
        exact loc_field ho hod (hx (.tmp t) (by simp [opsOf])).1 h
      | _ => unfold step at h; rw [ho, hod] at h; cases h
  | build T ps => cases hod : o.dst with
    | none => unfold step at h; rw [ho, hod] at h; cases h
    | some d =>
      have hx := hX (by rw [ho]; rfl)
      rw [ho] at hx
      exact loc_build ho hod (fun p hp => hx p.2 (List.mem_map_of_mem hp)) h
  | alloc T => cases hod : o.dst with
    | none => unfold step at h; rw [ho, hod] at h; cases h
    | some d => exact loc_alloc ho hod (hD d hod).2 h
  | box T x => cases hod : o.dst with
    | none => unfold step at h; rw [ho, hod] at h; cases h
    | some d =>
      have hx := hX (by rw [ho]; rfl)
      rw [ho] at hx
      exact loc_box ho hod (hD d hod).2 (hx x (by simp [opsOf])) h
  | load T x => cases hod : o.dst with
    | none => unfold step at h; rw [ho, hod] at h; cases h
    | some d =>
      have hx := hX (by rw [ho]; rfl)
      rw [ho] at hx
      exact loc_load ho hod (hx x (by simp [opsOf])) h
  | fieldAddr T x j => cases hod : o.dst with
    | none => unfold step at h; rw [ho, hod] at h; cases h
    | some d => exact loc_fieldAddr ho hod (rdP_RP (fun p hp => hO p (by rw [ho]; exact hp))) h
  | indexAddr T x i => cases hod : o.dst with
    | none => unfold step at h; rw [ho, hod] at h; cases h
    | some d =>
      have hx := hX (by rw [ho]; rfl)
      rw [ho] at hx
      exact loc_indexAddr ho hod (hx x (by simp [opsOf])) (hx i (by simp [opsOf])) h
  | index T x i => cases hod : o.dst with
    | none => unfold step at h; rw [ho, hod] at h; cases h
    | some d =>
      have hx := hX (by rw [ho]; rfl)
      rw [ho] at hx
      exact loc_index ho hod (hx x (by simp [opsOf])) (hx i (by simp [opsOf])) h
  | slice T x lo hi mx => cases hod : o.dst with
    | none => unfold step at h; rw [ho, hod] at h; cases mx <;> cases h
    | some d => cases mx with
      | none =>
        have hx := hX (by rw [ho]; rfl)
        rw [ho] at hx
        exact loc_slice ho hod (hx x (by simp [opsOf])) (fun y hy => hx y (by simp [opsOf, hy])) (fun y hy => hx y (by simp [opsOf, hy])) h
      | some m => unfold step at h; rw [ho, hod] at h; cases h
  | buildSlice T n ps => cases hod : o.dst with
    | none => unfold step at h; rw [ho, hod] at h; cases h
    | some d =>
      have hx := hX (by rw [ho]; rfl)
      rw [ho] at hx
      exact loc_buildSlice ho hod (fun p hp => hx p.2 (List.mem_map_of_mem hp)) h
  | makeSlice T x y => cases hod : o.dst with
    | none => unfold step at h; rw [ho, hod] at h; cases h
    | some d =>
      have hx := hX (by rw [ho]; rfl)
      rw [ho] at hx
      exact loc_makeSlice ho hod (hx x (by simp [opsOf])) (hx y (by simp [opsOf])) h
  | _ => unfold step at h; rw [ho] at h; cases hod : o.dst <;> (rw [hod] at h; cases h)
end
end Go.Proofs.Ytehkignjdbkeiaa.Vf
