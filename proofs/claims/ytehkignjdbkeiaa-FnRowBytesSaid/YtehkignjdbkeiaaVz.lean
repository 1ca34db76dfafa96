/- Every operation; regions in text order. -/
import Derived.Test.YtehkignjdbkeiaaVy
set_option linter.unusedVariables false
set_option linter.unusedSimpArgs false
namespace Go.Proofs.Ytehkignjdbkeiaa.Vf
open Go
attribute [local irreducible] C H

structure EnvOk (X : Cx) (E : En) : Prop where
  en : EnOk X E
  call : ∀ f en, E.call f = some en → CallOk X.P f en

section
variable {X : Cx} {S S1 S2 : Sit} {a : Act} {E : En} {A : Ab} {o : Oper} {R : Type} {Kc : List Up → Option R} {r : R}

theorem step_ok (hV : EnvOk X E) (K : Okay X S a) (hg : S.g = get A) (hd : ∀ d, o.dst = some d → d < X.nt) (h : step E o A Kc = some r) : After X o a S.w A Kc r := by
  have hE := hV.en
  cases ho : o.op with
  | call c =>
    cases hc : c.callee with
    | builtin b =>
      cases b with
      | len => exact st_len hE K hg ho hc hd h
      | min => exact st_minMax hE K hg false ho hc hd h
      | max => exact st_minMax hE K hg true ho hc hd h
      | append => exact st_append hE K hg ho hc hd h
      | _ => unfold step at h; rw [ho] at h; simp only [hc] at h; cases h
    | value f =>
      cases f with
      | func f => exact st_call hE hV.call K hg ho hc hd h
      | _ => unfold step at h; rw [ho] at h; simp only [hc] at h; cases h
    | invoke x m => unfold step at h; rw [ho] at h; simp only [hc] at h; cases h
  | store T x y =>
    cases hod : o.dst with
    | none => exact st_store hE K hg ho hod h
    | some d => unfold step at h; rw [ho, hod] at h; cases h
  | move x => cases hod : o.dst with
    | none => unfold step at h; rw [ho, hod] at h; cases h
    | some d => exact st_move hE K hg ho hod (hd d hod) h
  | assign x => cases hod : o.dst with
    | none => unfold step at h; rw [ho, hod] at h; cases h
    | some d => exact st_assign hE K hg ho hod (hd d hod) h
  | pick c x y => cases hod : o.dst with
    | none => unfold step at h; rw [ho, hod] at h; cases h
    | some d => exact st_pick hE K hg ho hod (hd d hod) h
  | binOp op T x y T' => cases hod : o.dst with
    | none => unfold step at h; rw [ho, hod] at h; cases h
    | some d => exact st_binOp hE K hg ho hod (hd d hod) h
  | unOp op T x => cases hod : o.dst with
    | none => unfold step at h; rw [ho, hod] at h; cases h
    | some d => exact st_unOp hE K hg ho hod (hd d hod) h
  | convert T T' x => cases hod : o.dst with
    | none => unfold step at h; rw [ho, hod] at h; cases h
    | some d => exact st_convert hE K hg ho hod (hd d hod) h
  | nilCheck x => cases hod : o.dst with
    | none => unfold step at h; rw [ho, hod] at h; cases h
    | some d => exact st_nilCheck hE K hg ho hod (hd d hod) h
  | extract x j => cases hod : o.dst with
    | none => unfold step at h; rw [ho, hod] at h; cases x <;> cases h
    | some d => cases x with
      | tmp t => exact st_extract hE K hg ho hod (hd d hod) h
      | _ => unfold step at h; rw [ho, hod] at h; cases h
  | field T x j => cases hod : o.dst with
    | none => unfold step at h; rw [ho, hod] at h; cases x <;> cases h
    | some d => cases x with
      | tmp t => exact st_field hE K hg ho hod (hd d hod) h
      | _ => unfold step at h; rw [ho, hod] at h; cases h
  | build T ps => cases hod : o.dst with
    | none => unfold step at h; rw [ho, hod] at h; cases h
    | some d => exact st_build hE K hg ho hod (hd d hod) h
  | alloc T => cases hod : o.dst with
    | none => unfold step at h; rw [ho, hod] at h; cases h
    | some d => exact st_alloc hE K hg ho hod (hd d hod) h
  | box T x => cases hod : o.dst with
    | none => unfold step at h; rw [ho, hod] at h; cases h
    | some d => exact st_box hE K hg ho hod (hd d hod) h
  | load T x => cases hod : o.dst with
    | none => unfold step at h; rw [ho, hod] at h; cases h
    | some d => exact st_load hE K hg ho hod (hd d hod) h
  | fieldAddr T x j => cases hod : o.dst with
    | none => unfold step at h; rw [ho, hod] at h; cases h
    | some d => exact st_fieldAddr hE K hg ho hod (hd d hod) h
  | indexAddr T x i => cases hod : o.dst with
    | none => unfold step at h; rw [ho, hod] at h; cases h
    | some d => exact st_indexAddr hE K hg ho hod (hd d hod) h
  | index T x i => cases hod : o.dst with
    | none => unfold step at h; rw [ho, hod] at h; cases h
    | some d => exact st_index hE K hg ho hod (hd d hod) h
  | slice T x lo hi mx => cases hod : o.dst with
    | none => unfold step at h; rw [ho, hod] at h; cases mx <;> cases h
    | some d => cases mx with
      | none => exact st_slice hE K hg ho hod (hd d hod) h
      | some m => unfold step at h; rw [ho, hod] at h; cases h
  | buildSlice T n ps => cases hod : o.dst with
    | none => unfold step at h; rw [ho, hod] at h; cases h
    | some d => exact st_buildSlice hE K hg ho hod (hd d hod) h
  | makeSlice T x y => cases hod : o.dst with
    | none => unfold step at h; rw [ho, hod] at h; cases h
    | some d => exact st_makeSlice hE K hg ho hod (hd d hod) h
  | _ => unfold step at h; rw [ho] at h; cases hod : o.dst <;> (rw [hod] at h; cases h)

/-- An operation that is skipped. -/
theorem put_un (hE : EnOk X E) (K : Okay X S a) (hg : S.g = get A) (hd : dstIn E o = true) : ∃ S', Okay X S' (a.put o.dst undef) ∧ S'.g = get (skipO o A) ∧ S'.w = S.w := by
  unfold skipO
  unfold dstIn at hd
  cases hod : o.dst with
  | none => exact ⟨S, K, hg, rfl⟩
  | some d =>
    rw [hod] at hd
    have hdl : d < X.nt := hE.nt ▸ (Nat.le_of_ble_eq_true hd : d + 1 ≤ E.nt)
    refine ⟨_, K.put0 hdl (.one .un) undef 0 rfl rfl, ?_, rfl⟩
    show upd S.g d _ = _
    rw [get_up, ← hg]
    rfl

def Done (X : Cx) (Q : Exit → Act → World → Prop) (K : Ab → Option R) (r : R) : Prop := ∀ S a A, Okay X S a → S.g = get A → K A = some r → Q .normal a S.w

theorem get_lit {A : Ab} {d n : Nat} {v : Bool} (h : get A d = (n, .one (.sc (.bool v)))) : get (lit A d n v) = get A := by
  funext k
  unfold lit
  simp only [get]
  by_cases hk : k = d
  · subst hk; simp [h]
  · have : Nat.beq d k = false := by
      cases hb : Nat.beq d k with
      | false => rfl
      | true => exact absurd (Nat.eq_of_beq_eq_true hb).symm hk
    simp [this]

theorem evOps_ok (hV : EnvOk X E) {ops : Array Oper} {Q : Exit → Act → World → Prop} : ∀ (l : List Nat) {S : Sit} {a : Act} {A : Ab} {K : Ab → Option R} {r : R}, Okay X S a → S.g = get A → evOps E ops.toList l A K = some r → Done X Q K r → wpOps X.P ops Q l a S.w
  | [], S, a, A, K, r, hK, hg, h, hQ => hQ S a A hK hg h
  | i :: l, S, a, A, K, r, hK, hg, h, hQ => by
    rw [wpOps_cons]
    unfold evOps at h
    rw [nth_eq] at h
    unfold wpOp
    split at h
    · cases h
    · rename_i o ho
      have ho' : ops[i]? = some o := by simpa using ho
      rw [ho']
      simp only
      cases hd : dstIn E o with
      | false => rw [hd] at h; simp at h
      | true =>
        rw [hd, cond_true] at h
        have hdl : ∀ d, o.dst = some d → d < X.nt := fun d hod => by
          unfold dstIn at hd
          rw [hod] at hd
          exact hV.en.nt ▸ (Nat.le_of_ble_eq_true hd : d + 1 ≤ E.nt)
        have go : ∀ {A : Ab}, S.g = get A → step E o A (fun U => evOps E ops.toList l (ups A U) K) = some r → o.wp X.P a S.w (wpOps X.P ops Q l) Q := by
          intro A hg h
          obtain ⟨U, hU, hgo⟩ := step_ok hV hK hg hdl h
          exact hgo _ _ (fun S' a' K' g' => evOps_ok hV l K' g' hU hQ)
        have skip : ∀ {A : Ab}, S.g = get A → evOps E ops.toList l (skipO o A) K = some r → wpOps X.P ops Q l (a.put o.dst undef) S.w := by
          intro A hg h
          obtain ⟨S', K', g', w'⟩ := put_un hV.en hK hg hd
          rw [← w']
          exact evOps_ok hV l K' g' h hQ
        split at h
        · rename_i hgd
          have hw : Region.wanted o (yielded ops a.tmps) = true := by unfold Region.wanted; rw [hgd]
          rw [if_pos hw]
          exact .inl (go hg h)
        · rename_i j want hgd
          split at h
          · cases h
          · rename_i dj hdj
            have hdj' : (ops[j]?).bind (·.dst) = some dj := by
              unfold dstAt at hdj
              rw [nth_eq] at hdj
              have : ops.toList[j]? = ops[j]? := by simp
              rw [this] at hdj
              cases hj : ops[j]? with
              | none => rw [hj] at hdj; cases hdj
              | some oj => rw [hj] at hdj; simpa using hdj
            cases hb : Nat.blt dj E.nt with
            | false => rw [hb] at h; simp at h
            | true =>
              rw [hb, cond_true] at h
              have hjl : dj < X.nt := hV.en.nt ▸ (Nat.le_of_ble_eq_true hb : dj + 1 ≤ E.nt)
              have htm : a.tmps[dj]? = some (S.ph dj) := by
                have h1 := hK.sl dj hjl
                have h2 : dj < a.tmps.size := by rw [hK.sz]; exact hjl
                rw [← h1, Array.getD_eq_getD_getElem?, Array.getElem?_eq_getElem h2]
                rfl
              have hy : yielded ops a.tmps j = (match S.ph dj with | .bool b => some b | _ => none) := by
                unfold yielded
                rw [hdj', Option.bind_some, htm]
                cases S.ph dj <;> rfl
              have hwd : Region.wanted o (yielded ops a.tmps) = ((match S.ph dj with | .bool b => some b | _ => none) == some want) := by
                unfold Region.wanted
                rw [hgd]
                simp only
                rw [hy]
              split at h
              · rename_i n b hgt
                have hph : S.ph dj = .bool b := by
                  have := hK.at_ dj
                  rw [hg, hgt] at this
                  exact this.1
                rw [hph] at hwd
                have hgl : S.g = get (lit A dj n b) := by rw [get_lit hgt]; exact hg
                cases b with
                | true =>
                  rw [cond_true] at h
                  cases want with
                  | true =>
                    rw [cond_true] at h
                    rw [if_pos (by rw [hwd]; rfl)]
                    exact .inl (go hgl h)
                  | false =>
                    rw [cond_false] at h
                    rw [if_neg (by rw [hwd]; decide)]
                    exact skip hgl h
                | false =>
                  rw [cond_false] at h
                  cases want with
                  | true =>
                    rw [cond_true] at h
                    rw [if_neg (by rw [hwd]; decide)]
                    exact skip hgl h
                  | false =>
                    rw [cond_false] at h
                    rw [if_pos (by rw [hwd]; rfl)]
                    exact .inl (go hgl h)
              · rename_i n hgt
                have hph : S.ph dj = undef := by
                  have := hK.at_ dj
                  rw [hg, hgt] at this
                  exact this
                rw [hph] at hwd
                rw [if_neg (by rw [hwd]; simp [undef])]
                exact skip hg h
              · cases h
end
end Go.Proofs.Ytehkignjdbkeiaa.Vf
