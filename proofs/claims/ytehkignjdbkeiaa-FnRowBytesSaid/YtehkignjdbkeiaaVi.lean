/- Steps by which something changes hands without memory being touched: field, addresses, slices, conversions. -/
import Derived.Test.YtehkignjdbkeiaaVh
import Derived.Laws.Slices
import Derived.Laws.BytesArg
set_option linter.unusedVariables false
set_option linter.unusedSimpArgs false
namespace Go.Proofs.Ytehkignjdbkeiaa.Vf
open Go

theorem add_none (k o n : Nat) : Addr.add ⟨k, o, none⟩ n = ⟨k, o + n, none⟩ := Addr.add_lit k o n

section
variable {P : Program} {w : World}

theorem info_size {t : TypeId} {n : Nat} (h : (P.info? t).map (fun i => i.size) = some n) : (sizeOf t).run P w = .ok n w := by
  cases hi : P.info? t with
  | none => simp [hi] at h
  | some i =>
    simp [hi] at h
    simp [sizeOf, typeInfo, hi, h]

theorem struct_of {T : TypeId} {t : TI} (h : TOk P T t) (ha : t.ag = true) : ∃ fs, P.underlying T = some (.struct fs) ∧ fieldsB P fs.toList t.fo = true := by
  have := h.desc
  unfold descB at this
  split at this <;> first | (simp_all; done) | skip

theorem fields_get : ∀ {fs : List Field} {os : List (Nat × Nat × Bool)} {j : Nat} {o : Nat × Nat × Bool}, fieldsB P fs os = true → nth os j = some o →
    ∃ f, fs[j]? = some f ∧ f.offset = o.1 ∧ (P.info? f.type).map (fun i => i.size) = some o.2.1 ∧ 0 < o.2.1 ∧ isAggD (P.underlying f.type) = o.2.2 ∧ ∃ d, P.underlying f.type = some d
  | [], [], j, o, _, h => by simp [nth] at h
  | [], _ :: _, _, _, h, _ => by simp [fieldsB] at h
  | _ :: _, [], _, _, h, _ => by simp [fieldsB] at h
  | f :: fs, o' :: os, j, o, h, hn => by
    simp only [fieldsB, Bool.and_eq_true] at h
    obtain ⟨⟨⟨⟨⟨h1, h2⟩, h3⟩, h4⟩, h6⟩, h5⟩ := h
    cases j with
    | zero =>
      simp [nth] at hn
      subst hn
      refine ⟨f, rfl, by simpa using h1, by simpa using h2, ?_, by simpa using h4, Option.isSome_iff_exists.mp h6⟩
      have : Nat.ble 1 o'.2.1 = true := h3
      exact Nat.le_of_ble_eq_true this
    | succ j => exact fields_get (fs := fs) h5 (by simpa [nth] using hn)

theorem isAgg_of {t : TypeId} {b : Bool} {d : TypeDesc} (hd : P.underlying t = some d) (h : isAggD (P.underlying t) = b) : (isAgg t).run P w = .ok b w := by
  rw [hd] at h
  unfold isAgg
  rw [Sem.run_bind, run_underlying hd]
  cases d <;> simp_all [isAggD]
end

section
variable {X : Cx} {S : Sit} {a : Act} {E : En} {A : Ab} {o : Oper} {R : Type} {Kc : List Up → Option R} {r : R}

theorem st_nilCheck (hE : EnOk X E) (K : Okay X S a) (hg : S.g = get A) {x : Operand} {d : Nat} (ho : o.op = .nilCheck x) (hod : o.dst = some d) (hd : d < X.nt) (h : step E o A Kc = some r) : After X o a S.w A Kc r := by
  unfold step at h
  rw [ho, hod] at h
  simp only at h
  split at h
  · rename_i y hs
    obtain ⟨l, hl⟩ := opT_ex hE K hg hs
    have key : (∃ ad, a.eval x = .pointer (some ad)) → ownSv (.one y) = false → Kc [⟨d, false, .one y⟩] = some r → After X o a S.w A Kc r := by
      intro ⟨ad, he⟩ ho' hk
      have K2 := K.put0 hd (.one y) (a.eval x) l ho' hl
      refine ⟨_, hk, goes_value (S := putS S (fun _ _ => none) d (.one y) (a.eval x)) ?_ (by rw [hod]; exact K2) ?_⟩
      · show _ = Result.ok _ S.w
        unfold execOp
        simp [ho, he]
      · show upd S.g d _ = _
        rw [get_ups1, ← hg]
    cases hlv : liveP A y with
    | false => rw [hlv] at h; simp at h
    | true =>
      rw [hlv, cond_true] at h
      unfold liveP at hlv
      split at hlv
      · rename_i b v n
        exact key ⟨_, hl.2 (by rw [hg]; simpa using hlv)⟩ rfl h
      · rename_i p v i n
        split at hlv
        · rename_i m e r' xs hp
          have : m = v := by simpa using hlv
          subst this
          obtain ⟨_, _, k, cap, _, e2⟩ := hl.2 e r' xs (by rw [hg, hp])
          exact key ⟨_, e2⟩ rfl h
        · cases hlv
      · obtain ⟨k, o', cs, e, _⟩ := hl
        exact key ⟨_, e⟩ rfl h
      · cases hlv
  · cases h

theorem run_fieldAddr {P : Program} {w : World} {T : TypeId} {x : Operand} {j : Nat} {t : TI} {f : Nat × Nat × Bool} (ht : TOk P T t) (ha : t.ag = true) (hf : nth t.fo j = some f) (ho : o.op = .fieldAddr T x j) {k off : Nat} (he : a.eval x = .pointer (some ⟨k, off, none⟩)) :
    (execOp a.eval o).run P w = .ok (.value (.pointer (some ⟨k, off + f.1, none⟩))) w := by
  obtain ⟨fs, hu, hfs⟩ := struct_of ht ha
  obtain ⟨fd, h1, h2, h3, h4, h5, _⟩ := fields_get hfs hf
  have h1' : fs[j]? = some fd := by simpa using h1
  unfold execOp
  simp only [ho, he, Sem.run_bind]
  unfold Instr.fieldAt
  rw [Sem.run_bind, run_underlying hu]
  simp only [Result.andThen_ok, h1', Instr.sureAddr, Sem.run_bind, Sem.run_pure, fieldPlace, info_size h3]
  rw [if_neg (by omega)]
  simp only [Sem.run_pure, Result.andThen_ok, add_none, h2]

theorem st_fieldAddr (hE : EnOk X E) (K : Okay X S a) (hg : S.g = get A) {T : TypeId} {x : Operand} {j d : Nat} (ho : o.op = .fieldAddr T x j) (hod : o.dst = some d) (hd : d < X.nt) (h : step E o A Kc = some r) : After X o a S.w A Kc r := by
  unfold step at h
  rw [ho, hod] at h
  simp only at h
  split at h
  · rename_i ti y hti hs
    obtain ⟨l, hl⟩ := opT_ex hE K hg hs
    split at h
    · rename_i f hf
      cases hq : (ti.ag && liveP A y) with
      | false => rw [hq] at h; simp at h
      | true =>
        rw [hq, cond_true] at h
        simp only [Bool.and_eq_true] at hq
        obtain ⟨ha, hlv⟩ := hq
        have key : ∀ (k off : Nat), a.eval x = .pointer (some ⟨k, off, none⟩) → ownSv (.one (addOff y f.1)) = false → SvOk X.P S l (.one (addOff y f.1)) (.pointer (some ⟨k, off + f.1, none⟩)) → After X o a S.w A Kc r := by
          intro k off he ho' hsv
          have K2 := K.put0 hd _ _ l ho' hsv
          refine ⟨_, h, goes_value (S := putS S (fun _ _ => none) d _ _) ?_ (by rw [hod]; exact K2) ?_⟩
          · exact run_fieldAddr (hE.ti _ _ hti) ha hf ho he
          · show upd S.g d _ = _
            rw [get_ups1, ← hg]
        unfold liveP at hlv
        split at hlv
        · rename_i b v n
          refine key _ _ (hl.2 (by rw [hg]; simpa using hlv)) rfl ⟨hl.1, fun hv => ?_⟩
          rw [Nat.add_assoc]
        · rename_i p v i n
          split at hlv
          · rename_i m e r' xs hp
            have : m = v := by simpa using hlv
            subst this
            obtain ⟨_, _, k, cap, _, e2⟩ := hl.2 e r' xs (by rw [hg, hp])
            refine key _ _ e2 rfl ⟨hl.1, fun e1 r1 xs1 hv => ?_⟩
            obtain ⟨g1, g2, k', cap', g3, g4⟩ := hl.2 e1 r1 xs1 hv
            rw [e2] at g4
            simp only [Value.pointer.injEq, Option.some.injEq, Addr.mk.injEq, and_true] at g4
            obtain ⟨rfl, g5⟩ := g4
            refine ⟨g1, g2, _, cap', g3, ?_⟩
            congr 3
            omega
          · cases hlv
        · obtain ⟨k, o', cs, e, h1, h2, h3⟩ := hl
          refine key _ _ e rfl ⟨k, o', cs, ?_, h1, h2, h3⟩
          rw [Nat.add_assoc]
        · cases hlv
    · cases h
  · cases h

/-- An element's cells stand one behind the other. -/
theorem rows_at {α : Type} {R' : α → List Value → Prop} {n : Nat} (hn : ∀ x c, R' x c → c.length = n) {xs : List α} {cs : List Value} (h : Rows R' xs cs) {k o i : Nat} {x : α} (hx : xs[i]? = some x) (hc : CellsAt S.w k o cs) :
    ∃ c, R' x c ∧ CellsAt S.w k (o + i * n) c := by
  refine ⟨_, h.get hn i x hx, fun j u hu => ?_⟩
  rw [List.getElem?_take] at hu
  split at hu
  · rw [List.getElem?_drop] at hu
    rw [Nat.add_assoc]
    exact hc _ _ hu
  · cases hu

theorem run_indexAddr {P : Program} {w : World} {T e : TypeId} {x i : Operand} {k : IntKind} {n : Int} {b off len cap sz : Nat} (hu : P.underlying T = some (.slice e)) (hs : SzOk P e sz) (ho : o.op = .indexAddr T x i)
    (he : a.eval x = .slice (some ⟨b, off, none⟩) len cap) (hi : a.eval i = .int k n) (h0 : 0 ≤ n) (h1 : n < (len : Int)) :
    (execOp a.eval o).run P w = .ok (.value (.pointer (some ⟨b, off + n.toNat * sz, none⟩))) w := by
  unfold execOp
  simp only [ho, he, hi, Sem.run_bind]
  unfold Instr.indexAt
  simp [asIntOf, run_underlying hu, h0, h1, info_size hs, add_none]

theorem seen_own {y : Lf} {e : TypeId} {r' : Ty} {xs : List r'.den} (h : seen A y = .own e r' xs) (hn : ∀ p v, y = .al p v → False) : y = .own e r' xs := by
  cases y <;> first | exact h | skip
  exact (hn _ _ rfl).elim

theorem st_indexAddr (hE : EnOk X E) (K : Okay X S a) (hg : S.g = get A) {T : TypeId} {x i : Operand} {d : Nat} (ho : o.op = .indexAddr T x i) (hod : o.dst = some d) (hd : d < X.nt) (h : step E o A Kc = some r) : After X o a S.w A Kc r := by
  unfold step at h
  rw [ho, hod] at h
  simp only at h
  split at h
  · rename_i y k n hs hn
    have ei := (opT_sc hE K hg hn).1
    obtain ⟨l, hl⟩ := opT_ex hE K hg hs
    -- an owned place
    have keyO : ∀ (p v e : Nat) (r' : Ty) (xs : List r'.den), S.g p = (v, .one (.own e r' xs)) → a.eval x = S.ph p →
        (bif isEl E T e && decide (0 ≤ n) then (bif decide (n < (xs.length : Int)) then Kc [⟨d, false, .one (.ep p v n 0)⟩] else none) else none) = some r → After X o a S.w A Kc r := by
      intro p v e r' xs hp he hk
      cases hq : (isEl E T e && decide (0 ≤ n)) with
      | false => rw [hq] at hk; simp at hk
      | true =>
        rw [hq, cond_true] at hk
        simp only [Bool.and_eq_true, decide_eq_true_eq] at hq
        by_cases hlt : n < (xs.length : Int)
        · simp only [hlt, decide_true, cond_true] at hk
          have hown : OwnOk X.P S.O S.w (.pl p []) e r' xs (S.ph p) := by have := K.at_ p; rw [hp] at this; exact this
          obtain ⟨hsz, cs, hrow, _⟩ := hown
          rcases own_nil_or hrow with ⟨_, hm, _⟩ | ⟨k', cap, cur, e1, _⟩
          · omega
          · have hr := run_indexAddr (w := S.w) (desc_el hq.1 hE.ti) hsz ho (he.trans e1) ei hq.2 hlt
            rw [Nat.zero_add] at hr
            have hsv : SvOk X.P S 0 (.one (.ep p v n 0)) (.pointer (some ⟨k', n.toNat * r'.sz, none⟩)) := by
              refine ⟨by rw [hp]; exact Nat.le_refl _, fun e2 r2 xs2 hp2 => ?_⟩
              rw [hp] at hp2
              cases hp2
              exact ⟨hq.2, by omega, k', cap, e1, by rw [Nat.add_zero]⟩
            have K2 := K.put0 hd _ _ 0 rfl hsv
            refine ⟨_, hk, goes_value (S := putS S (fun _ _ => none) d _ _) hr (by rw [hod]; exact K2) ?_⟩
            show upd S.g d _ = _
            rw [get_ups1, ← hg]
        · simp [hlt] at hk
    -- a frozen one
    have keyF : ∀ (e : Nat) (r' : Ty) (xs : List r'.den) (lab : Lab), LfOk X.P S lab (.fz e r' xs) (a.eval x) →
        (bif isEl E T e && decide (0 ≤ n) then (bif decide (n < (xs.length : Int)) then Kc [⟨d, false, .one (.fp r' (xs.getD n.toNat r'.dflt) 0)⟩] else none) else none) = some r → After X o a S.w A Kc r := by
      intro e r' xs lab hf hk
      cases hq : (isEl E T e && decide (0 ≤ n)) with
      | false => rw [hq] at hk; simp at hk
      | true =>
        rw [hq, cond_true] at hk
        simp only [Bool.and_eq_true, decide_eq_true_eq] at hq
        by_cases hlt : n < (xs.length : Int)
        · simp only [hlt, decide_true, cond_true] at hk
          obtain ⟨v, e1, hsz, ad, cap, cs, e2, hc, hrows, hne⟩ := hf
          cases e1
          have hnn : xs ≠ [] := by intro e3; subst e3; simp at hlt; omega
          obtain ⟨k', o', rfl, hk', hcs⟩ := hne hnn
          have hr := run_indexAddr (w := S.w) (desc_el hq.1 hE.ti) hsz ho e2 ei hq.2 hlt
          have hi' : n.toNat < xs.length := by omega
          obtain ⟨c, hc1, hc2⟩ := rows_at (S := S) (Ty.rep_len r') hrows (i := n.toNat) (x := xs.getD n.toNat r'.dflt) (by rw [List.getD_eq_getElem?_getD, List.getElem?_eq_getElem hi']; rfl) hcs
          have hsv : SvOk X.P S 0 (.one (.fp r' (xs.getD n.toNat r'.dflt) 0)) (.pointer (some ⟨k', o' + n.toNat * r'.sz, none⟩)) := ⟨k', _, c, rfl, hk', hc1, hc2⟩
          have K2 := K.put0 hd _ _ 0 rfl hsv
          refine ⟨_, hk, goes_value (S := putS S (fun _ _ => none) d _ _) hr (by rw [hod]; exact K2) ?_⟩
          show upd S.g d _ = _
          rw [get_ups1, ← hg]
        · simp [hlt] at hk
    have hl' : LfOk X.P S (.pl l []) y (a.eval x) := hl
    split at h
    · rename_i p v e r' xs hsn
      simp only [seen] at hsn
      split at hsn
      · rename_i n' e' r'' xs' hp
        cases hb : Nat.beq n' v with
        | false => rw [hb] at hsn; simp at hsn
        | true =>
          rw [hb, cond_true] at hsn
          cases hsn
          have : n' = v := by simpa using hb
          subst this
          exact keyO p n' e r' xs (by rw [hg, hp]) (hl'.2 (by rw [hg, hp])) h
      · rename_i n' e' r'' xs' hp
        cases hb : Nat.beq n' v <;> rw [hb] at hsn <;> simp at hsn
      · cases hsn
    · rename_i e r' xs hsn
      obtain ⟨lab', hl2⟩ := seen_ok K hg hl'
      rw [hsn] at hl2
      exact keyF e r' xs lab' hl2 h
    · rename_i e r' xs hne hsn
      split at h
      · rename_i t
        rcases opT_ok hE K hg hs with ⟨t', ht', htl, hst, het, _⟩ | ⟨hnt, _⟩
        · cases ht'
          have hy := seen_own hsn hne
          rw [hy] at hst
          exact keyO t (get A t).1 e r' xs (by rw [← hg, hst]) het h
        · exact absurd rfl (hnt t)
      · cases h
    · cases h
  · cases h
end
end Go.Proofs.Ytehkignjdbkeiaa.Vf
