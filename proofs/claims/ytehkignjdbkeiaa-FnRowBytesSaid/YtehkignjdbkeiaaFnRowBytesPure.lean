/- The law FnRowBytes, in plain Lean: rows put as bytes are read back the same; what is read has these bytes; both readers agree. -/
import Derived.Test.YtehkignjdbkeiaaXs
import Derived.Test.YtehkignjdbkeiaaYj
set_option linter.unusedVariables false
namespace Go.Proofs.Ytehkignjdbkeiaa.Pure
open Go Go.RowKit Go.Proofs.Ytehkignjdbkeiaa.Vf

theorem putRows_len {l : List Row} : (putRows l).length ≤ 3005 := by
  unfold putRows
  cases h : rowsOk l with
  | false => simp
  | true =>
    obtain ⟨_, h2, h3⟩ := rowsOk_iff.1 h
    have h4 := encRs_len l (fun r hr => rowOk_name (h2 r hr))
    have h5 := (encN_len (clampN (l.length : Int))).1
    rw [cond_true, List.length_append]
    omega

theorem bytes_set {l : List Int} (h : BytesOk l) (i : Nat) {v : Int} (hv : 0 ≤ v ∧ v ≤ 255) : BytesOk (l.set i v) := by
  intro x hx
  rcases List.mem_or_eq_of_mem_set hx with hx | rfl
  · exact h x hx
  · exact hv

theorem drawGet_tot (a0 : List Int) (hb : (a0.length : Int) ≤ 1048576) : Tot (fun k => spec_DrawGetRows k a0) (fun r => BytesOk r ∧ r.length ≤ 3005) := by
  unfold spec_DrawGetRows
  refine Tot.bind (l1New_tot a0 (by omega)) (fun c hc => ?_)
  refine Tot.bind (l11Draw_tot c hc) (fun r hr => ?_)
  obtain ⟨k1, hr1, hl⟩ := hr
  have hsh : AllShort r.1 := fun q hq => (drawn_short q.1 (hr1.2 q hq).1).1
  refine Tot.bind (specPut r.1 (by unfold Few; omega) hsh) ?_
  rintro b rfl
  have hpb := putRows_bytes r.1
  have hpl : (putRows r.1).length ≤ 3005 := putRows_len
  have hp0 : 0 < (putRows r.1).length := by
    unfold putRows
    have hok : rowsOk r.1 = true := rowsOk_iff.2 ⟨hr1.1, fun q hq => rowIn_ok (hr1.2 q hq), by omega⟩
    have h5 := (encN_len (clampN (r.1.length : Int))).2
    rw [hok, cond_true, List.length_append]
    omega
  obtain ⟨x, c', e, _, _, _, k2⟩ := l1Below_ok r.2 k1 5 (by decide)
  refine Tot.bind (Tot.of (Q := fun r => r = (x, c')) e rfl) ?_
  rintro y rfl
  refine Tot.ite (fun _ => ?_) (fun _ => ?_)
  · obtain ⟨y, c2, e2, y0, y1, _, k3⟩ := l1Below_ok c' k2 ((putRows r.1).length : Int) (by omega)
    have y2 := y1 (by omega)
    refine Tot.bind (Tot.of (Q := fun r => r = (y, c2)) e2 rfl) ?_
    rintro z rfl
    obtain ⟨v, c3, e3, _, k4⟩ := l1Int_ok c2 k3 [0, 1, 2, 97, 128] (by decide) (by decide)
    refine Tot.bind (Tot.of (Q := fun r => r = (v, c3)) e3 rfl) ?_
    rintro z rfl
    refine Tot.dec y0 (Tot.dec y2 (Tot.pure ⟨bytes_set hpb _ (w8_bounds _), ?_⟩))
    rw [List.length_set]
    exact hpl
  · refine Tot.ite (fun _ => ?_) (fun _ => Tot.pure ⟨hpb, hpl⟩)
    obtain ⟨y, c2, e2, y0, y1, _, k3⟩ := l1Below_ok c' k2 ((putRows r.1).length : Int) (by omega)
    have y2 := y1 (by omega)
    refine Tot.bind (Tot.of (Q := fun r => r = (y, c2)) e2 rfl) ?_
    rintro z rfl
    refine Tot.dec y0 (Tot.dec (by show y ≤ _; omega) (Tot.pure ⟨fun x hx => hpb x (List.mem_of_mem_take hx), ?_⟩))
    have := List.length_take_le' (Int.toNat y) (putRows r.1)
    show (List.take (Int.toNat y) (putRows r.1)).length ≤ 3005
    omega

theorem FnRowBytes : ∀ (a0 : List Int), Ty.fit ti (.sl 5 (.i .u8)) a0 → ∃ k, laws_FnRowBytes k a0 = some true := by
  intro a0 _
  refine Tot.law (f := fun k => laws_FnRowBytes k a0) ?_
  unfold laws_FnRowBytes laws_big
  refine Tot.bind (Tot.pure (Q := fun b => b = decide ((List.length a0 : Int) > 1048576)) rfl) ?_
  rintro b rfl
  refine Tot.dite (fun _ => Tot.pure rfl) (fun hb => ?_)
  have hd : Tot (fun k => spec_DrawPutRows k a0) (fun r => r.length ≤ 6 ∧ AllShort r) := by
    unfold spec_DrawPutRows
    refine Tot.bind (l1New_tot a0 (by omega)) (fun c hc => ?_)
    exact Tot.bind (l11Any_short c hc) (fun r hr => Tot.pure hr.2)
  refine Tot.bind hd (fun l hl => ?_)
  obtain ⟨hl1, hl2⟩ := hl
  have hfew : Few l := by unfold Few; omega
  refine Tot.bind (implPut l hfew hl2) ?_
  rintro b rfl
  refine Tot.bind (drawGet_tot a0 (by omega)) (fun g hg => ?_)
  obtain ⟨hg1, hg2⟩ := hg
  refine Tot.bind (implGet g hg1 (by omega)) ?_
  rintro r rfl
  refine Tot.bind (specGet g hg1 (by omega)) ?_
  rintro r rfl
  refine Tot.no (by rw [beq_self_eq_true]; rfl) ?_
  have hpl : (putRows l).length ≤ 3005 := putRows_len
  have fin : Tot (fun k => (spec_RowsOk k l).bind fun r9 => cond (!r9) (some ((List.length (putRows l) : Int) == 0)) ((impl_GetRows k (putRows l)).bind fun r10 => cond r10.2 ((laws_sameRows k r10.1 l).bind fun r11 => some r11) (some false))) (fun b => b = true) := by
    refine Tot.bind (specRows l hfew hl2) ?_
    rintro o rfl
    refine Tot.ite (fun h => ?_) (fun h => ?_)
    · rw [Bool.not_eq_true'] at h
      refine Tot.pure ?_
      unfold putRows
      rw [h]
      rfl
    · rw [Bool.not_eq_false'] at h
      refine Tot.bind (implGet (putRows l) (putRows_bytes l) (by omega)) ?_
      rintro r rfl
      have e : rowsR (putRows l) = (l, true) := by unfold rowsR; rw [getRows_put h]
      rw [e]
      refine Tot.yes rfl ?_
      refine Tot.bind (sameRows_tot l l hfew hfew) ?_
      rintro b rfl
      exact Tot.pure (decide_eq_true rfl)
  unfold rowsR
  cases h : getRows g with
  | none => exact Tot.no rfl fin
  | some rs =>
    refine Tot.yes rfl ?_
    obtain ⟨h1, h2⟩ := getRows_ok hg1 h
    obtain ⟨_, h3, h4⟩ := rowsOk_iff.1 h2
    have hsh : AllShort rs := fun r hr => by
      have := nameOk_size (rowOk_name (h3 r hr))
      unfold Short
      omega
    refine Tot.bind (implPut rs (by unfold Few; omega) hsh) ?_
    rintro b rfl
    rw [h1]
    refine Tot.bind (sameBytes_tot g g (by omega)) ?_
    rintro b rfl
    exact Tot.no (by rw [decide_eq_true rfl]; rfl) fin

end Go.Proofs.Ytehkignjdbkeiaa.Pure
