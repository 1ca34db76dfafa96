/- Calls. -/
import Derived.Test.YtehkignjdbkeiaaVv
set_option linter.unusedVariables false
set_option linter.unusedSimpArgs false
namespace Go.Proofs.Ytehkignjdbkeiaa.Vf
open Go
attribute [local irreducible] C H

section
variable {X : Cx} {S S' : Sit} {a : Act} {E : En} {A : Ab} {o : Oper} {R : Type} {Kc : List Up → Option R} {r : R}

theorem run_enter {P : Program} {w : World} {c : Call} {f : FuncId} {en : Ent} (ho : o.op = .call c) (hc : c.callee = .value (.func f)) (hf : CallOk P f en) : (execOp a.eval o).run P w = .ok (.enter f (c.args.toList.map a.eval).toArray) w := by
  obtain ⟨fn, h1, h2, h3⟩ := hf.fn
  have e1 : c.args.map a.eval = (c.args.toList.map a.eval).toArray := by
    apply Array.ext'
    simp
  unfold execOp
  simp only [ho, resolve, hc, Act.eval, Deferred.ofValue, Sem.run_bind, Sem.run_pure, Result.andThen_ok, invoke, callFunc, run_program, h1]
  rw [if_neg (by rw [h2]; simp), if_neg (by rw [h3]; simp)]
  simp only [Sem.run_pure, Array.append_empty, Array.empty_append]
  rw [e1]

theorem goes_enter {f : FuncId} {args : Array Value} {w : World} {A' : Ab} (hr : (execOp a.eval o).run X.P w = .ok (.enter f args) w)
    (h : Calls X.P f args w (fun e w' => ∃ v, e = .returned v ∧ ∃ S', S'.w = w' ∧ Okay X S' (a.put o.dst v) ∧ S'.g = get A')) : Goes X o a w A' := by
  intro next Q hn
  unfold Oper.wp
  rw [hr, Oper.upon_enter]
  intro cs
  obtain ⟨e, w', fr, ⟨v, rfl, S', hw, K', hg'⟩, rest⟩ := h cs
  refine ⟨_, w', fr, ?_, rest⟩
  rw [← hw]
  exact hn S' _ K' hg'

theorem calls_mono {P : Program} {f : FuncId} {args : Array Value} {w : World} {R1 R2 : Ending → World → Prop} (h : Calls P f args w R1) (hi : ∀ e w', R1 e w' → R2 e w') : Calls P f args w R2 := by
  intro cs
  obtain ⟨e, w', fr, hr, rest⟩ := h cs
  exact ⟨e, w', fr, hi _ _ hr, rest⟩

theorem lends_outs : ∀ ps : List Par, lends ps = true → ptrOuts ps = []
  | [], _ => rfl
  | .val _ _ :: ps, h => by
    simp only [lends, Bool.and_eq_true] at h
    exact lends_outs ps h.2
  | .ptr _ _ :: _, h => by simp [lends] at h

theorem news_all {ts : List Ty} {rs : List (RK × Ty)} (he : ts = rs.map Prod.snd) (x : Den ts) (h : news rs = true) : ∀ l ∈ leavesD ts x, ∀ y ∈ l, newLeaf y = true := by
  subst he
  exact news_leaves rs x h

theorem news_noPtr : ∀ rs : List (RK × Ty), news rs = true → anyPtr rs = false
  | [], _ => rfl
  | (k, t) :: rs, h => by
    cases k with
    | ptr => simp [news] at h
    | one => simp only [news, Bool.and_eq_true] at h; exact news_noPtr rs h.2
    | agg => simp only [news, Bool.and_eq_true] at h; exact news_noPtr rs h.2

/-- A call that only reads what it is given. -/
theorem st_lend (hE : EnOk X E) (hcall : ∀ f en, E.call f = some en → CallOk X.P f en) (K : Okay X S a) (hg : S.g = get A) {c : Call} {f : FuncId} {en : Ent} {ss : List Sv} (ho : o.op = .call c) (hc : c.callee = .value (.func f)) (hd : ∀ d, o.dst = some d → d < X.nt)
    (he : E.call f = some en) (hss : opsT E c.argTypes.toList A c.args.toList = some ss) (hl : lends en.ps = true) (hn : news en.rs = true)
    (h : (match lentOf A en.ps ss with
    | none => none
    | some ls => match mkDen _ ls with
      | none => none
      | some x => (en.run x).bind fun r =>
        match resUp A en.rs (leavesD _ r) o.dst with
        | none => none
        | some rs => Kc rs) = some r) : After X o a S.w A Kc r := by
  split at h
  · cases h
  · rename_i ls hls
    split at h
    · cases h
    · rename_i x hx
      cases hrun : en.run x with
      | none => rw [hrun] at h; simp at h
      | some y =>
        rw [hrun] at h
        simp only [Option.bind_some] at h
        split at h
        · cases h
        · rename_i us hus
          have hco := hcall f en he
          have hargs := lent_args (i := 0) hE K hg (fun _ => (0, 0)) en.ps (opsT_ok hE K hg hss) hls (mkDen_mk _ _ _ hx) hl
          have hs := hco.sound x y hrun S.w (lendO S) (fun _ => (0, 0)) _ (fun k hk => K.lt k (fun e => hk (by simp [lendO, e]))) (fun k b hk => by unfold lendO at hk; split at hk <;> cases hk) hargs
          refine ⟨us, h, goes_enter (run_enter ho hc hco) (calls_mono hs ?_)⟩
          rintro e w' ⟨v, O', rfl, hF, hlt, hres, _⟩
          refine ⟨v, rfl, ?_⟩
          -- nothing that was there has changed
          have hsame : ∀ k, k < S.w.heap.size → w'.heap[k]? = S.w.heap[k]? ∧ (O' k = .no ∨ O' k = .fz) := fun k hk => by
            by_cases h0 : S.O k = .no
            · have := hF.no k hk (by simp [lendO, h0])
              exact ⟨this.2, .inl this.1⟩
            · have := hF.fz k hk (by simp [lendO, h0])
              exact ⟨this.2, .inr this.1⟩
          let O2 : Nat → Lab := fun k => if k < S.w.heap.size then S.O k else O' k
          obtain ⟨K1, L1⟩ := K.world (w' := w') (O' := O2) (fun k hk _ => ⟨if_pos hk, (hsame k hk).1⟩) hF.os hF.tape hF.out hF.size (fun k hk => by
            by_cases hkl : k < S.w.heap.size
            · exact Nat.lt_of_lt_of_le hkl hF.size
            · exact hlt k (by simpa [O2, hkl] using hk))
          have htm : ∀ k i q, O' k = .tm i q → O2 k = .tm i q := fun k i q hk => by
            have : ¬ k < S.w.heap.size := fun hkl => by
              rcases (hsame k hkl).2 with h | h <;> rw [h] at hk <;> cases hk
            simp [O2, this, hk]
          have hnews := news_all (by rw [lends_outs en.ps hl, List.append_nil]) y hn
          have hres1 : Results X.P (groS S w' O2) S.w.heap.size en.rs (leavesD _ y) v := Results.imp (S1 := bare O' w') (S2 := groS S w' O2) rfl (fun k i hk => htm k i [] hk) (fun l hl' z hz i q u hu => new_lf (S1 := bare O' w') (S2 := groS S w' O2) (hnews l hl' z hz) rfl (fun k hk => htm k i q hk) hu) hres
          obtain ⟨S2, K2, w2, g2⟩ := put_res K1 (A1 := A) hg hd K.fr.size (leavesD_solid _ y) (fun d' _ h => by rw [news_noPtr _ hn] at h; cases h) hres1 hus
          exact ⟨S2, w2, K2, g2⟩
end
end Go.Proofs.Ytehkignjdbkeiaa.Vf
