/- Footprints: what does not touch the same places may change places. -/
import Derived.Test.YtehkignjdbkeiaaWk
set_option linter.unusedVariables false
set_option linter.unusedSimpArgs false
namespace Go.Proofs.Ytehkignjdbkeiaa.Vf
open Go
attribute [local irreducible] C H

theorem memN_iff {p : Nat} : ∀ {l : List Nat}, memN p l = true ↔ p ∈ l
  | [] => by simp [memN]
  | q :: l => by
    simp only [memN, Bool.or_eq_true, List.mem_cons, memN_iff (l := l)]
    constructor
    · rintro (h | h)
      · exact .inl (Nat.eq_of_beq_eq_true h).symm
      · exact .inr h
    · rintro (rfl | h)
      · exact .inl (by simp)
      · exact .inr h

theorem disj_iff {m : List Nat} : ∀ {l : List Nat}, disj l m = true ↔ ∀ p ∈ l, p ∉ m
  | [] => by simp [disj]
  | q :: l => by
    simp only [disj, Bool.and_eq_true, Bool.not_eq_true', List.mem_cons, disj_iff (l := l)]
    constructor
    · rintro ⟨h1, h2⟩ p (rfl | h) hm
      · rw [memN_iff.2 hm] at h1; cases h1
      · exact h2 p h hm
    · intro h
      refine ⟨?_, fun p hp => h p (.inr hp)⟩
      cases hc : memN q m with
      | false => rfl
      | true => exact (h q (.inl rfl) (memN_iff.1 hc)).elim

/-- A place's components, one of them given away. -/
def tupS (s : Sv) (j : Nat) : Sv := match s with
  | .tup vs => .tup (vs.set j (false, [.dead]))
  | s => s

/-- What an extraction asks and makes. -/
structure Ext (x : Ak) (t j d : Nat) : Prop where
  N : ∃ ag l, ∀ g, x.N g ↔ ∃ vs, (g t).2 = .tup vs ∧ nth vs j = some (ag, l)
  e : d ≠ t → ∃ (w : Bool) (s : Sv), ∀ g p, x.e g p = if p = d then ((g p).1 + 1, s) else if w = true ∧ p = t then ((g p).1 + 1, tupS (g p).2 j) else g p

structure Fits (y : Lg) (x : Ak) : Prop where
  WF : ∀ p ∈ y.W, p ∈ y.F
  N : ∀ g g', (∀ p ∈ y.F, g p = g' p) → x.N g → x.N g'
  out : ∀ g p, p ∉ y.W → x.e g p = g p
  loc : ∀ g g' p, p ∈ y.W → g p = g' p → x.e g p = x.e g' p
  ex : ∀ t j d, y.ex = some (t, j, d) → Ext x t j d

theorem Fits.ind {y y' : Lg} {x x' : Ak} (h : Fits y x) (h' : Fits y' x') (hi : indep y y' = true) : Ind x x' := by
  unfold indep at hi
  simp only [Bool.or_eq_true, Bool.and_eq_true] at hi
  rcases hi with ⟨d1, d2⟩ | hi
  · have d1 := disj_iff.1 d1
    have d2 := disj_iff.1 d2
    have o1 : ∀ g, ∀ p ∈ y'.F, x.e g p = g p := fun g p hp => h.out g p (fun hw => d1 p hw hp)
    have o2 : ∀ g, ∀ p ∈ y.F, x'.e g p = g p := fun g p hp => h'.out g p (fun hw => d2 p hw hp)
    refine ⟨fun g _ hn => h'.N _ _ (o1 g) hn, fun g _ hn => h.N _ _ (fun p hp => (o2 g p hp).symm) hn, fun g _ _ => ?_⟩
    funext p
    by_cases hp : p ∈ y.W
    · have hp' : p ∉ y'.W := fun hw => d2 p hw (h.WF p hp)
      rw [h'.out (x.e g) p hp', h.loc (x'.e g) g p hp (o2 g p (h.WF p hp))]
    · rw [h.out (x'.e g) p hp]
      by_cases hp' : p ∈ y'.W
      · exact h'.loc g (x.e g) p hp' (o1 g p (h'.WF p hp')).symm
      · rw [h'.out _ p hp', h'.out _ p hp', h.out _ p hp]
  · split at hi
    · rename_i t j d t' j' d' e1 e2
      simp only [Bool.and_eq_true, Bool.not_eq_true'] at hi
      obtain ⟨⟨⟨⟨q1, q2⟩, q3⟩, q4⟩, q5⟩ := hi
      have ht : t = t' := Nat.eq_of_beq_eq_true q1
      subst ht
      have hj : j ≠ j' := fun e => by subst e; simp at q2
      have hd : d ≠ d' := fun e => by subst e; simp at q3
      have hdt : d ≠ t := fun e => by subst e; simp at q4
      have hdt' : d' ≠ t := fun e => by subst e; simp at q5
      obtain ⟨⟨ag, l, hN⟩, he⟩ := h.ex t j d e1
      obtain ⟨⟨ag', l', hN'⟩, he'⟩ := h'.ex t j' d' e2
      obtain ⟨w, s, he⟩ := he hdt
      obtain ⟨w', s', he'⟩ := he' hdt'
      have et : ∀ g, (x.e g t).2 = if w = true then tupS (g t).2 j else (g t).2 := fun g => by
        rw [he, if_neg (Ne.symm hdt)]
        cases w <;> simp
      have et' : ∀ g, (x'.e g t).2 = if w' = true then tupS (g t).2 j' else (g t).2 := fun g => by
        rw [he', if_neg (Ne.symm hdt')]
        cases w' <;> simp
      refine ⟨fun g hn hn' => ?_, fun g hn' hn => ?_, fun g hn hn' => ?_⟩
      · obtain ⟨vs, g1, g2⟩ := (hN g).1 hn
        obtain ⟨vs', g1', g2'⟩ := (hN' _).1 hn'
        refine (hN' g).2 ⟨vs, g1, ?_⟩
        rw [et, g1] at g1'
        cases w with
        | false =>
          simp only [Bool.false_eq_true, if_false, Sv.tup.injEq] at g1'
          rw [g1']; exact g2'
        | true =>
          simp only [if_true, tupS, Sv.tup.injEq] at g1'
          rw [← g1', nth_eq, List.getElem?_set_ne hj] at g2'
          rw [nth_eq]; exact g2'
      · obtain ⟨vs, g1, g2⟩ := (hN g).1 hn
        refine (hN _).2 ?_
        cases w' with
        | false => exact ⟨vs, by rw [et', g1]; simp, g2⟩
        | true =>
          refine ⟨vs.set j' (false, [.dead]), by rw [et', g1]; simp [tupS], ?_⟩
          rw [nth_eq, List.getElem?_set_ne (Ne.symm hj), ← nth_eq]
          exact g2
      · funext p
        by_cases p1 : p = d
        · subst p1
          simp [he, he', hd, hdt]
        · by_cases p2 : p = d'
          · subst p2
            simp [he, he', p1, hdt']
          · by_cases p3 : p = t
            · subst p3
              obtain ⟨vs, g1, g2⟩ := (hN g).1 hn
              cases w <;> cases w' <;> simp [he, he', p1, p2, g1, tupS]
              exact List.set_comm _ _ (Ne.symm hj)
            · simp [he, he', p1, p2, p3]
    · cases hi

/-! ### Ancestors as bits -/
theorem ancAt_ok {ops : Array Oper} : ∀ {lg : List Lg}, (∀ y ∈ lg, ∀ k, Nat.testBit y.anc k = true → Anc ops k y.i) → ∀ j k, Nat.testBit (ancAt lg j) k = true → Anc ops k j
  | [], _, j, k, h => by simp [ancAt] at h
  | y :: lg, hl, j, k, h => by
    unfold ancAt at h
    cases hb : Nat.beq y.i j with
    | true =>
      rw [hb, cond_true] at h
      rw [← Nat.eq_of_beq_eq_true hb]
      exact hl y (by simp) k h
    | false =>
      rw [hb, cond_false] at h
      exact ancAt_ok (fun z hz => hl z (List.mem_cons_of_mem _ hz)) j k h

theorem ancL_ok {ops : Array Oper} {lg : List Lg} (hl : ∀ y ∈ lg, ∀ k, Nat.testBit y.anc k = true → Anc ops k y.i) {i : Nat} {o : Oper} (ho : ops[i]? = some o) : ∀ {l : List Nat}, (∀ j ∈ l, j ∈ aft o) → ∀ k, Nat.testBit (ancL lg l) k = true → Anc ops k i
  | [], _, k, h => by simp [ancL] at h
  | j :: l, hj, k, h => by
    unfold ancL at h
    simp only [Nat.testBit_or, Bool.or_eq_true] at h
    rcases h with (h | h) | h
    · rw [Nat.testBit_two_pow] at h
      simp only [decide_eq_true_eq] at h
      subst h
      exact .dir ho (hj _ (by simp))
    · exact .tr ho (hj j (by simp)) (ancAt_ok hl j k h)
    · exact ancL_ok hl ho (fun m hm => hj m (List.mem_cons_of_mem _ hm)) k h

section
variable {X : Cx} {E : En} {ops : Array Oper} {Q : Exit → Act → World → Prop}

/-- Whether a guarded operation is wanted. -/
theorem guard_ok {S : Sit} {a : Act} (hE : EnOk X E) (hK : Okay X S a) {o : Oper} {j dj : Nat} {want : Bool} (hgd : o.guard = some (j, want)) (hdj : dstAt ops.toList j = some dj) (hb : Nat.blt dj E.nt = true) :
    (∀ b, (S.g dj).2 = .one (.sc (.bool b)) → Region.wanted o (yielded ops a.tmps) = (b == want)) ∧ ((S.g dj).2 = .one .un → Region.wanted o (yielded ops a.tmps) = false) := by
  have hdj' : (ops[j]?).bind (·.dst) = some dj := by
    unfold dstAt at hdj
    rw [nth_eq] at hdj
    have : ops.toList[j]? = ops[j]? := by simp
    rw [this] at hdj
    cases hj : ops[j]? with
    | none => rw [hj] at hdj; cases hdj
    | some oj => rw [hj] at hdj; simpa using hdj
  have hjl : dj < X.nt := hE.nt ▸ (Nat.le_of_ble_eq_true hb : dj + 1 ≤ E.nt)
  have htm : a.tmps[dj]? = some (S.ph dj) := by
    have h1 := hK.sl dj hjl
    have h2 : dj < a.tmps.size := by rw [hK.sz]; exact hjl
    rw [← h1, Array.getD_eq_getD_getElem?, Array.getElem?_eq_getElem h2]
    rfl
  have hy : yielded ops a.tmps j = (match S.ph dj with | .bool b => some b | _ => none) := by
    unfold yielded
    rw [hdj', Option.bind_some, htm]
    cases S.ph dj <;> rfl
  have hwd : Region.wanted o (yielded ops a.tmps) = ((match S.ph dj with | .bool b => some b | _ => none) == some want) := by
    unfold Region.wanted
    rw [hgd]
    simp only
    rw [hy]
  have hat := hK.at_ dj
  constructor
  · intro b hs
    rw [hs] at hat
    have hph : S.ph dj = .bool b := hat.1
    rw [hwd, hph]
    cases b <;> cases want <;> rfl
  · intro hs
    rw [hs] at hat
    have hph : S.ph dj = undef := hat
    rw [hwd, hph]
    simp [undef]

def akOf (F : List Nat) (A : Ab) (U : List Up) : Ak := ⟨fun g => ∀ p ∈ F, g p = get A p, fun g => gups g U⟩

theorem akOf_fits {y : Lg} {A : Ab} {U : List Up} {F : List Nat} (hF : y.F = F ++ U.map Up.l) (hW : y.W = U.map Up.l) (hex : y.ex = none) : Fits y (akOf y.F A U) := by
  refine ⟨fun p hp => ?_, fun g g' h hn p hp => by rw [← h p hp]; exact hn p hp, fun g p hp => gups_out U g p (by rw [← hW]; exact hp), fun g g' p _ h => gups_same U g g' p h, fun t j d h => by rw [hex] at h; cases h⟩
  rw [hF, List.mem_append]
  exact .inr (by rw [← hW]; exact hp)

/-- An operation, wherever it reads the same. -/
theorem op_ok (hV : EnvOk X E) {i : Nat} {o : Oper} (hi : ops[i]? = some o) (hd : dstIn E o = true) {x : Ak} (hw : ∀ S a, Okay X S a → x.N S.g → Region.wanted o (yielded ops a.tmps) = true)
    (hU : ∀ A', x.N (get A') → ∃ U, step E o A' some = some U ∧ gups (get A') U = x.e (get A')) : OpOk X ops Q i x := by
  intro S a A' K hg hn Kn hk
  have hdl : ∀ d, o.dst = some d → d < X.nt := fun d hod => by
    unfold dstIn at hd
    rw [hod] at hd
    exact hV.en.nt ▸ (Nat.le_of_ble_eq_true hd : d + 1 ≤ E.nt)
  obtain ⟨U, hU1, hU2⟩ := hU A' hn
  obtain ⟨U', hU', hgo⟩ := step_ok hV K hg hdl hU1
  simp only [Option.some.injEq] at hU'
  subst hU'
  unfold wpOp
  rw [hi]
  simp only
  rw [if_pos (hw S a K (by rw [hg]; exact hn))]
  exact .inl (hgo _ _ (fun S' a' K' g' => hk S' a' _ K' g' ((get_gups U' A').trans hU2)))

/-- An operation that is skipped. -/
theorem skip_ok (hV : EnvOk X E) {i : Nat} {o : Oper} (hi : ops[i]? = some o) (hd : dstIn E o = true) {N : Gs → Prop} (hw : ∀ S a, Okay X S a → N S.g → Region.wanted o (yielded ops a.tmps) = false) :
    OpOk X ops Q i ⟨N, fun g => gups g (match o.dst with | some d => [⟨d, false, .one .un⟩] | none => [])⟩ := by
  intro S a A' K hg hn Kn hk
  unfold wpOp
  rw [hi]
  simp only
  rw [if_neg (by rw [hw S a K (by rw [hg]; exact hn)]; decide)]
  obtain ⟨S', K', g', w'⟩ := put_un hV.en K hg hd
  rw [← w']
  refine hk S' _ _ K' g' ?_
  unfold skipO
  cases o.dst with
  | none => rfl
  | some d => exact get_gups [⟨d, false, .one .un⟩] A'

/-- An extraction. -/
def extU (t j d : Nat) (l : List Lf) (s : Sv) (vs : List (Bool × List Lf)) : List Up := bif ownIn l then [⟨t, false, .tup (vs.set j (false, [.dead]))⟩, ⟨d, false, s⟩] else [⟨d, false, s⟩]

theorem ext_step {R : Type} {Kc : List Up → Option R} {r : R} {A : Ab} {o : Oper} {t j d : Nat} (ho : o.op = .extract (.tmp t) j) (hod : o.dst = some d) (h : step E o A Kc = some r) :
    ∃ vs ag l s, (get A t).2 = .tup vs ∧ nth vs j = some (ag, l) ∧ Kc (extU t j d l s vs) = some r ∧ ∀ A' vs', (get A' t).2 = .tup vs' → nth vs' j = some (ag, l) → step E o A' some = some (extU t j d l s vs') := by
  unfold step at h
  rw [ho, hod] at h
  simp only at h
  cases hb : Nat.blt t E.nt with
  | false => rw [hb] at h; simp at h
  | true =>
    rw [hb, cond_true] at h
    split at h
    · rename_i vs hg
      split at h
      · rename_i ag l hn
        split at h
        · rename_i s hs
          refine ⟨vs, ag, l, s, hg, hn, ?_, fun A' vs' hg' hn' => ?_⟩
          · rw [← h]
            unfold extU
            cases ownIn l <;> rfl
          · unfold step
            rw [ho, hod]
            simp only [hb, cond_true, hg', hn', hs]
            unfold extU
            cases ownIn l <;> rfl
        · cases h
      · cases h
    · cases h

def extAk (t j d : Nat) (ag : Bool) (l : List Lf) (s : Sv) : Ak :=
  ⟨fun g => ∃ vs, (g t).2 = .tup vs ∧ nth vs j = some (ag, l), fun g => gups g (bif ownIn l then [⟨t, false, tupS (g t).2 j⟩, ⟨d, false, s⟩] else [⟨d, false, s⟩])⟩

theorem ext_fits {o : Oper} {i : Nat} {lg : List Lg} {A : Ab} {t j d : Nat} {ag : Bool} {l : List Lf} {s : Sv} {vs : List (Bool × List Lf)} (ho : o.op = .extract (.tmp t) j) (hod : o.dst = some d) :
    Fits (lgOf o i lg [] A (extU t j d l s vs)) (extAk t j d ag l s) := by
  have ht : t ∈ (lgOf o i lg [] A (extU t j d l s vs)).F := by
    show t ∈ [] ++ rds A o ++ _
    simp [rds, rdOp, ho, opsOf, rdOs, rdO]
  have hW : (lgOf o i lg [] A (extU t j d l s vs)).W = bif ownIn l then [t, d] else [d] := by
    show (extU t j d l s vs).map Up.l = _
    unfold extU
    cases ownIn l <;> rfl
  refine ⟨fun p hp => List.mem_append_right _ hp, fun g g' hF hn => ?_, fun g p hp => ?_, fun g g' p hp h => ?_, fun t' j' d' h => ?_⟩
  · obtain ⟨vs', h1, h2⟩ := hn
    exact ⟨vs', by rw [← hF t ht]; exact h1, h2⟩
  · rw [hW] at hp
    unfold extAk
    cases hl : ownIn l with
    | true =>
      rw [hl] at hp
      exact gups_out _ _ _ hp
    | false =>
      rw [hl] at hp
      exact gups_out _ _ _ hp
  · rw [hW] at hp
    unfold extAk
    cases hl : ownIn l with
    | false => exact gups_same _ _ _ p h
    | true =>
      rw [hl] at hp
      simp only [cond_true]
      show gup (gup g _) _ p = gup (gup g' _) _ p
      unfold gup
      by_cases e1 : p = d
      · subst e1
        by_cases e2 : p = t
        · subst e2; simp [h]
        · simp [e2, h]
      · rcases List.mem_cons.1 hp with e2 | e2
        · subst e2; simp [e1, h]
        · exact (e1 (by simpa using e2)).elim
  · have hex : (lgOf o i lg [] A (extU t j d l s vs)).ex = some (t, j, d) := by
      show (bif List.isEmpty ([] : List Nat) then exOf o else none) = _
      simp [exOf, ho, hod]
    rw [hex] at h
    cases h
    refine ⟨⟨ag, l, fun g => Iff.rfl⟩, fun hdt => ⟨ownIn l, s, fun g p => ?_⟩⟩
    unfold extAk
    cases hl : ownIn l with
    | false =>
      show gup g _ p = _
      unfold gup
      by_cases e1 : p = d
      · subst e1; simp
      · simp [e1]
    | true =>
      simp only [cond_true]
      show gup (gup g _) _ p = _
      unfold gup
      by_cases e1 : p = d
      · subst e1; simp [hdt]
      · simp [e1]
        by_cases e2 : p = t
        · subst e2; simp
        · simp [e2]
end
end Go.Proofs.Ytehkignjdbkeiaa.Vf
