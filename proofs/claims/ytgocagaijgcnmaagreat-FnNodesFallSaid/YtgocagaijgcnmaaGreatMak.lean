import Derived.Test.YtgocagaijgcnmaaGreatMaj
import Derived.ChangeArms
import Derived.SizedLaws
import Derived.DataReads
import Derived.Laws.StructEq
import Derived.Below
section
set_option linter.unusedVariables false
set_option linter.unusedSimpArgs false
namespace Go.Proofs.YtgocagaijgcnmaaGreat.Vf
open Go
attribute [local irreducible] C H
theorem memN_iff {p : Nat} : ∀ {l : List Nat}, memN p l = true ↔ p ∈ l
 | [] => by simp [memN]
 | q :: l => by
  simp only [memN, Bool.or_eq_true, List.mem_cons, memN_iff (l := l)]
  constructor
  ·rintro (h | h)
   ·exact .inl (Nat.eq_of_beq_eq_true h).symm
   ·exact .inr h
  ·rintro (rfl | h)
   ·exact .inl (by simp)
   ·exact .inr h
theorem disj_iff {m : List Nat} : ∀ {l : List Nat}, disj l m = true ↔ ∀ p ∈ l, p ∉ m
 | [] => by simp [disj]
 | q :: l => by
  simp only [disj, Bool.and_eq_true, Bool.not_eq_true', List.mem_cons, disj_iff (l := l)]
  constructor
  ·rintro ⟨h1, h2⟩ p (rfl | h) hm
   ·rw [memN_iff.2 hm] at h1; cases h1
   ·exact h2 p h hm
  ·intro h
   refine ⟨?_, fun p hp => h p (.inr hp)⟩
   cases hc : memN q m with
   | false => rfl
   | true => exact (h q (.inl rfl) (memN_iff.1 hc)).elim
def tupS (s : Sv) (j : Nat) : Sv := match s with
 | .tup vs => .tup (vs.set j (false, [.dead]))
 | s => s
structure Ext (x : Ak) (t j d : Nat) : Prop where
 N : ∃ ag l, ∀ g, x.N g ↔ ∃ vs, (g t).2 = .tup vs ∧ nth vs j = some (ag, l)
 e : d ≠ t → ∃ (w : Bool) (s : Sv), ∀ g p, x.e g p = if p = d then ((g p).1 + 1, s) else if w = true ∧ p = t then ((g p).1 + 1, tupS (g p).2 j) else g p
structure FitsF (y : Lg) (x : Ak) : Prop where
 WF : ∀ p ∈ y.W, p ∈ y.F
 N : ∀ g g', (∀ p ∈ y.F, g p = g' p) → x.N g → x.N g'
 out : ∀ g p, p ∉ y.W → x.e g p = g p
 loc : ∀ g g' p, p ∈ y.W → g p = g' p → x.e g p = x.e g' p
 ex : ∀ t j d, y.ex = some (t, j, d) → Ext x t j d
theorem FitsF.ind {y y' : Lg} {x x' : Ak} (h : FitsF y x) (h' : FitsF y' x') (hi : indep y y' = true) : Ind x x' := by
 unfold indep at hi
 simp only [Bool.or_eq_true, Bool.and_eq_true] at hi
 rcases hi with ⟨d1, d2⟩ | hi
 ·have d1 := disj_iff.1 d1
  have d2 := disj_iff.1 d2
  have o1 : ∀ g, ∀ p ∈ y'.F, x.e g p = g p := fun g p hp => h.out g p (fun hw => d1 p hw hp)
  have o2 : ∀ g, ∀ p ∈ y.F, x'.e g p = g p := fun g p hp => h'.out g p (fun hw => d2 p hw hp)
  refine ⟨fun g _ hn => h'.N _ _ (o1 g) hn, fun g _ hn => h.N _ _ (fun p hp => (o2 g p hp).symm) hn, fun g _ _ => ?_⟩
  funext p
  by_cases hp : p ∈ y.W
  ·have hp' : p ∉ y'.W := fun hw => d2 p hw (h.WF p hp)
   rw [h'.out (x.e g) p hp', h.loc (x'.e g) g p hp (o2 g p (h.WF p hp))]
  ·rw [h.out (x'.e g) p hp]
   by_cases hp' : p ∈ y'.W
   ·exact h'.loc g (x.e g) p hp' (o1 g p (h'.WF p hp')).symm
   ·rw [h'.out _ p hp', h'.out _ p hp', h.out _ p hp]
 ·split at hi
  ·rename_i t j d t' j' d' e1 e2
   simp only [Bool.and_eq_true, Bool.not_eq_true'] at hi
   obtain ⟨⟨⟨⟨q1, q2⟩, q3⟩, q4⟩, q5⟩ := hi
   have ht : t = t' := Nat.eq_of_beq_eq_true q1
   subst ht
   have hj : j ≠ j' := fun e => by subst e; simp at q2
   have hd : d ≠ d' := fun e => by subst e; simp at q3
   have hdt : d ≠ t := fun e => by subst e; simp at q4
   have hdt' : d' ≠ t := fun e => by subst e; simp at q5
   obtain ⟨⟨ag, l, hN⟩, he⟩ := h.ex t j d e1
   obtain ⟨⟨ag', l', hN'⟩, he'⟩ := h'.ex t j' d' e2
   obtain ⟨w, s, he⟩ := he hdt
   obtain ⟨w', s', he'⟩ := he' hdt'
   have et : ∀ g, (x.e g t).2 = if w = true then tupS (g t).2 j else (g t).2 := fun g => by
    rw [he, if_neg (Ne.symm hdt)]
    cases w <;> simp
   have et' : ∀ g, (x'.e g t).2 = if w' = true then tupS (g t).2 j' else (g t).2 := fun g => by
    rw [he', if_neg (Ne.symm hdt')]
    cases w' <;> simp
   refine ⟨fun g hn hn' => ?_, fun g hn' hn => ?_, fun g hn hn' => ?_⟩
   ·obtain ⟨vs, g1, g2⟩ := (hN g).1 hn
    obtain ⟨vs', g1', g2'⟩ := (hN' _).1 hn'
    refine (hN' g).2 ⟨vs, g1, ?_⟩
    rw [et, g1] at g1'
    cases w with
    | false =>
     simp only [Bool.false_eq_true, if_false, Sv.tup.injEq] at g1'
     rw [g1']; exact g2'
    | true =>
     simp only [if_true, tupS, Sv.tup.injEq] at g1'
     rw [← g1', nth_eq, List.getElem?_set_ne hj] at g2'
     rw [nth_eq]; exact g2'
   ·obtain ⟨vs, g1, g2⟩ := (hN g).1 hn
    refine (hN _).2 ?_
    cases w' with
    | false => exact ⟨vs, by rw [et', g1]; simp, g2⟩
    | true =>
     refine ⟨vs.set j' (false, [.dead]), by rw [et', g1]; simp [tupS], ?_⟩
     rw [nth_eq, List.getElem?_set_ne (Ne.symm hj), ← nth_eq]
     exact g2
   ·funext p
    by_cases p1 : p = d
    ·subst p1
     simp [he, he', hd, hdt]
    ·by_cases p2 : p = d'
     ·subst p2
      simp [he, he', p1, hdt']
     ·by_cases p3 : p = t
      ·subst p3
       obtain ⟨vs, g1, g2⟩ := (hN g).1 hn
       cases w <;> cases w' <;> simp [he, he', p1, p2, g1, tupS]
       exact List.set_comm _ _ (Ne.symm hj)
      ·simp [he, he', p1, p2, p3]
  ·cases hi
theorem ancAt_ok {ops : Array Oper} : ∀ {lg : List Lg}, (∀ y ∈ lg, ∀ k, Nat.testBit y.anc k = true → Anc ops k y.i) → ∀ j k, Nat.testBit (ancAt lg j) k = true → Anc ops k j
 | [], _, j, k, h => by simp [ancAt] at h
 | y :: lg, hl, j, k, h => by
  unfold ancAt at h
  cases hb : Nat.beq y.i j with
  | true =>
   rw [hb, cond_true] at h
   rw [← Nat.eq_of_beq_eq_true hb]
   exact hl y (by simp) k h
  | false =>
   rw [hb, cond_false] at h
   exact ancAt_ok (fun z hz => hl z (List.mem_cons_of_mem _ hz)) j k h
theorem ancL_ok {ops : Array Oper} {lg : List Lg} (hl : ∀ y ∈ lg, ∀ k, Nat.testBit y.anc k = true → Anc ops k y.i) {i : Nat} {o : Oper} (ho : ops[i]? = some o) : ∀ {l : List Nat}, (∀ j ∈ l, j ∈ aft o) → ∀ k, Nat.testBit (ancL lg l) k = true → Anc ops k i
 | [], _, k, h => by simp [ancL] at h
 | j :: l, hj, k, h => by
  unfold ancL at h
  simp only [Nat.testBit_or, Bool.or_eq_true] at h
  rcases h with (h | h) | h
  ·rw [Nat.testBit_two_pow] at h
   simp only [decide_eq_true_eq] at h
   subst h
   exact .dir ho (hj _ (by simp))
  ·exact .tr ho (hj j (by simp)) (ancAt_ok hl j k h)
  ·exact ancL_ok hl ho (fun m hm => hj m (List.mem_cons_of_mem _ hm)) k h
section
variable {X : Cx} {E : En} {ops : Array Oper} {Q : Exit → Act → World → Prop}
theorem guard_ok {S : Sit} {a : Act} (hE : EnOk X E) (hK : Okay X S a) {o : Oper} {j dj : Nat} {want : Bool} (hgd : o.guard = some (j, want)) (hdj : dstAt ops.toList j = some dj) (hb : Nat.blt dj E.nt = true) :
  (∀ b, (S.g dj).2 = .one (.sc (.bool b)) → Region.wanted o (yielded ops a.tmps) = (b == want)) ∧ ((S.g dj).2 = .one .un → Region.wanted o (yielded ops a.tmps) = false) := by
 have hdj' : (ops[j]?).bind (·.dst) = some dj := by
  unfold dstAt at hdj
  rw [nth_eq] at hdj
  have : ops.toList[j]? = ops[j]? := by simp
  rw [this] at hdj
  cases hj : ops[j]? with
  | none => rw [hj] at hdj; cases hdj
  | some oj => rw [hj] at hdj; simpa using hdj
 have hjl : dj < X.nt := hE.nt ▸ (Nat.le_of_ble_eq_true hb : dj + 1 ≤ E.nt)
 have htm : a.tmps[dj]? = some (S.ph dj) := by
  have h1 := hK.sl dj hjl
  have h2 : dj < a.tmps.size := by rw [hK.sz]; exact hjl
  rw [← h1, Array.getD_eq_getD_getElem?, Array.getElem?_eq_getElem h2]
  rfl
 have hy : yielded ops a.tmps j = (match S.ph dj with | .bool b => some b | _ => none) := by
  unfold yielded
  rw [hdj', Option.bind_some, htm]
  cases S.ph dj <;> rfl
 have hwd : Region.wanted o (yielded ops a.tmps) = ((match S.ph dj with | .bool b => some b | _ => none) == some want) := by
  unfold Region.wanted
  rw [hgd]
  simp only
  rw [hy]
 have hat := hK.at_ dj
 constructor
 ·intro b hs
  rw [hs] at hat
  have hph : S.ph dj = .bool b := hat.1
  rw [hwd, hph]
  cases b <;> cases want <;> rfl
 ·intro hs
  rw [hs] at hat
  have hph : S.ph dj = undef := hat
  rw [hwd, hph]
  simp [undef]
def akOf (F : List Nat) (A : Ab) (U : List Up) : Ak := ⟨fun g => ∀ p ∈ F, g p = get A p, fun g => gups g U⟩
theorem akOf_fits {y : Lg} {A : Ab} {U : List Up} {F : List Nat} (hF : y.F = F ++ U.map Up.l) (hW : y.W = U.map Up.l) (hex : y.ex = none) : FitsF y (akOf y.F A U) := by
 refine ⟨fun p hp => ?_, fun g g' h hn p hp => by rw [← h p hp]; exact hn p hp, fun g p hp => gups_out U g p (by rw [← hW]; exact hp), fun g g' p _ h => gups_same U g g' p h, fun t j d h => by rw [hex] at h; cases h⟩
 rw [hF, List.mem_append]
 exact .inr (by rw [← hW]; exact hp)
theorem op_ok (hV : EnvOk X E) {i : Nat} {o : Oper} (hi : ops[i]? = some o) (hd : dstIn E o = true) {x : Ak} (hw : ∀ S a, Okay X S a → x.N S.g → Region.wanted o (yielded ops a.tmps) = true)
  (hU : ∀ A', x.N (get A') → ∃ U, step E o A' some = some U ∧ gups (get A') U = x.e (get A')) : OpOk X ops Q i x := by
 intro S a A' K hg hn Kn hk
 have hdl : ∀ d, o.dst = some d → d < X.nt := fun d hod => by
  unfold dstIn at hd
  rw [hod] at hd
  exact hV.en.nt ▸ (Nat.le_of_ble_eq_true hd : d + 1 ≤ E.nt)
 obtain ⟨U, hU1, hU2⟩ := hU A' hn
 obtain ⟨U', hU', hgo⟩ := step_ok hV K hg hdl hU1
 simp only [Option.some.injEq] at hU'
 subst hU'
 unfold wpOp
 rw [hi]
 simp only
 rw [if_pos (hw S a K (by rw [hg]; exact hn))]
 exact .inl (hgo _ _ (fun S' a' K' g' => hk S' a' _ K' g' ((get_gups U' A').trans hU2)))
theorem skip_ok (hV : EnvOk X E) {i : Nat} {o : Oper} (hi : ops[i]? = some o) (hd : dstIn E o = true) {N : Gs → Prop} (hw : ∀ S a, Okay X S a → N S.g → Region.wanted o (yielded ops a.tmps) = false) :
  OpOk X ops Q i ⟨N, fun g => gups g (match o.dst with | some d => [⟨d, false, .one .un⟩] | none => [])⟩ := by
 intro S a A' K hg hn Kn hk
 unfold wpOp
 rw [hi]
 simp only
 rw [if_neg (by rw [hw S a K (by rw [hg]; exact hn)]; decide)]
 obtain ⟨S', K', g', w'⟩ := put_un hV.en K hg hd
 rw [← w']
 refine hk S' _ _ K' g' ?_
 unfold skipO
 cases o.dst with
 | none => rfl
 | some d => exact get_gups [⟨d, false, .one .un⟩] A'
def extU (t j d : Nat) (l : List Lf) (s : Sv) (vs : List (Bool × List Lf)) : List Up := bif ownIn l then [⟨t, false, .tup (vs.set j (false, [.dead]))⟩, ⟨d, false, s⟩] else [⟨d, false, s⟩]
theorem ext_step {R : Type} {Kc : List Up → Option R} {r : R} {A : Ab} {o : Oper} {t j d : Nat} (ho : o.op = .extract (.tmp t) j) (hod : o.dst = some d) (h : step E o A Kc = some r) :
  ∃ vs ag l s, (get A t).2 = .tup vs ∧ nth vs j = some (ag, l) ∧ Kc (extU t j d l s vs) = some r ∧ ∀ A' vs', (get A' t).2 = .tup vs' → nth vs' j = some (ag, l) → step E o A' some = some (extU t j d l s vs') := by
 unfold step at h
 rw [ho, hod] at h
 simp only at h
 cases hb : Nat.blt t E.nt with
 | false => rw [hb] at h; simp at h
 | true =>
  rw [hb, cond_true] at h
  split at h
  ·rename_i vs hg
   split at h
   ·rename_i ag l hn
    split at h
    ·rename_i s hs
     refine ⟨vs, ag, l, s, hg, hn, ?_, fun A' vs' hg' hn' => ?_⟩
     ·rw [← h]
      unfold extU
      cases ownIn l <;> rfl
     ·unfold step
      rw [ho, hod]
      simp only [hb, cond_true, hg', hn', hs]
      unfold extU
      cases ownIn l <;> rfl
    ·cases h
   ·cases h
  ·cases h
def extAk (t j d : Nat) (ag : Bool) (l : List Lf) (s : Sv) : Ak :=
 ⟨fun g => ∃ vs, (g t).2 = .tup vs ∧ nth vs j = some (ag, l), fun g => gups g (bif ownIn l then [⟨t, false, tupS (g t).2 j⟩, ⟨d, false, s⟩] else [⟨d, false, s⟩])⟩
theorem ext_fits {o : Oper} {i : Nat} {lg : List Lg} {A : Ab} {t j d : Nat} {ag : Bool} {l : List Lf} {s : Sv} {vs : List (Bool × List Lf)} (ho : o.op = .extract (.tmp t) j) (hod : o.dst = some d) :
  FitsF (lgOf o i lg [] A (extU t j d l s vs)) (extAk t j d ag l s) := by
 have ht : t ∈ (lgOf o i lg [] A (extU t j d l s vs)).F := by
  show t ∈ [] ++ rds A o ++ _
  simp [rds, rdOp, ho, opsOf, rdOs, rdO]
 have hW : (lgOf o i lg [] A (extU t j d l s vs)).W = bif ownIn l then [t, d] else [d] := by
  show (extU t j d l s vs).map Up.l = _
  unfold extU
  cases ownIn l <;> rfl
 refine ⟨fun p hp => List.mem_append_right _ hp, fun g g' hF hn => ?_, fun g p hp => ?_, fun g g' p hp h => ?_, fun t' j' d' h => ?_⟩
 ·obtain ⟨vs', h1, h2⟩ := hn
  exact ⟨vs', by rw [← hF t ht]; exact h1, h2⟩
 ·rw [hW] at hp
  unfold extAk
  cases hl : ownIn l with
  | true =>
   rw [hl] at hp
   exact gups_out _ _ _ hp
  | false =>
   rw [hl] at hp
   exact gups_out _ _ _ hp
 ·rw [hW] at hp
  unfold extAk
  cases hl : ownIn l with
  | false => exact gups_same _ _ _ p h
  | true =>
   rw [hl] at hp
   simp only [cond_true]
   show gup (gup g _) _ p = gup (gup g' _) _ p
   unfold gup
   by_cases e1 : p = d
   ·subst e1
    by_cases e2 : p = t
    ·subst e2; simp [h]
    ·simp [e2, h]
   ·rcases List.mem_cons.1 hp with e2 | e2
    ·subst e2; simp [e1, h]
    ·exact (e1 (by simpa using e2)).elim
 ·have hex : (lgOf o i lg [] A (extU t j d l s vs)).ex = some (t, j, d) := by
   show (bif List.isEmpty ([] : List Nat) then exOf o else none) = _
   simp [exOf, ho, hod]
  rw [hex] at h
  cases h
  refine ⟨⟨ag, l, fun g => Iff.rfl⟩, fun hdt => ⟨ownIn l, s, fun g p => ?_⟩⟩
  unfold extAk
  cases hl : ownIn l with
  | false =>
   show gup g _ p = _
   unfold gup
   by_cases e1 : p = d
   ·subst e1; simp
   ·simp [e1]
  | true =>
   simp only [cond_true]
   show gup (gup g _) _ p = _
   unfold gup
   by_cases e1 : p = d
   ·subst e1; simp [hdt]
   ·simp [e1]
    by_cases e2 : p = t
    ·subst e2; simp
    ·simp [e2]
end
end Go.Proofs.YtgocagaijgcnmaaGreat.Vf
end

section
set_option linter.unusedVariables false
set_option linter.unusedSimpArgs false
namespace Go.Proofs.YtgocagaijgcnmaaGreat.Vf
open Go
attribute [local irreducible] C H
section
variable {X : Cx} {E : En} {ops : Array Oper} {Q : Exit → Act → World → Prop}
structure Told (X : Cx) (ops : Array Oper) (Q : Exit → Act → World → Prop) (l : List Nat) (lg : List Lg) (g : Gs) (f : Gs) (L : List (Lg × Ak)) : Prop where
 ix : L.map (fun z => z.1.i) = l
 runs : Runs (L.map Prod.snd) g f
 fits : ∀ z ∈ L, FitsF z.1 z.2 ∧ OpOk X ops Q z.1.i z.2
 old : ∀ y ∈ lg, ∀ z ∈ L, Nat.testBit z.1.anc y.i = true ∨ indep y z.1 = true
 pair : L.Pairwise (fun y z => Nat.testBit z.1.anc y.1.i = true ∨ indep y.1 z.1 = true)
 anc : ∀ z ∈ L, ∀ k, Nat.testBit z.1.anc k = true → Anc ops k z.1.i
 lt : ∀ i ∈ l, ∃ o, ops[i]? = some o ∧ ∀ j ∈ aft o, j < i
theorem Told.cons {l : List Nat} {lg : List Lg} {g g1 f : Gs} {L : List (Lg × Ak)} {y : Lg} {x : Ak} {i : Nat} (h : Told X ops Q l (y :: lg) g1 f L) (hi : y.i = i) (hn : x.N g) (he : x.e g = g1) (hf : FitsF y x) (ho : OpOk X ops Q i x) (hok : lgOk lg y = true)
  (ha : ∀ k, Nat.testBit y.anc k = true → Anc ops k i) (hl : ∃ o, ops[i]? = some o ∧ ∀ j ∈ aft o, j < i) : Told X ops Q (i :: l) lg g f ((y, x) :: L) := by
 refine ⟨by simp [hi, h.ix], ⟨hn, by rw [he]; exact h.runs⟩, ?_, ?_, ?_, ?_, ?_⟩
 ·intro z hz
  rcases List.mem_cons.1 hz with rfl | hz
  ·exact ⟨hf, by rw [hi]; exact ho⟩
  ·exact h.fits z hz
 ·intro y' hy' z hz
  rcases List.mem_cons.1 hz with rfl | hz
  ·unfold lgOk at hok
   rw [List.all_eq_true] at hok
   have := hok y' hy'
   simpa using this
  ·exact h.old y' (List.mem_cons_of_mem _ hy') z hz
 ·exact List.pairwise_cons.2 ⟨fun z hz => h.old y (by simp) z hz, h.pair⟩
 ·intro z hz k hk
  rcases List.mem_cons.1 hz with rfl | hz
  ·rw [hi]; exact ha k hk
  ·exact h.anc z hz k hk
 ·intro j hj
  rcases List.mem_cons.1 hj with rfl | hj
  ·exact hl
  ·exact h.lt j hj
theorem draw_run (hV : EnvOk X E) {R : Type} : ∀ (l : List Nat) (lg : List Lg) (A : Ab) (K : Ab → Option R) (r : R), (∀ y ∈ lg, ∀ k, Nat.testBit y.anc k = true → Anc ops k y.i) → evDrawOps E ops.toList l lg A K = some r →
  ∃ (L : List (Lg × Ak)) (A' : Ab), K A' = some r ∧ Told X ops Q l lg (get A) (get A') L
 | [], lg, A, K, r, _, h => ⟨[], A, h, rfl, rfl, by simp, by simp, .nil, by simp, by simp⟩
 | i :: l, lg, A, K, r, hlg, h => by
  unfold evDrawOps at h
  rw [nth_eq] at h
  split at h
  ·cases h
  ·rename_i o ho
   have hi : ops[i]? = some o := by simpa using ho
   cases hb0 : (dstIn E o && (aft o).all (fun j => Nat.blt j i)) with
   | false => rw [hb0] at h; simp at h
   | true =>
    rw [hb0, cond_true] at h
    simp only [Bool.and_eq_true, List.all_eq_true] at hb0
    obtain ⟨hd, hlt0⟩ := hb0
    have hlt : ∃ o, ops[i]? = some o ∧ ∀ j ∈ aft o, j < i := ⟨o, hi, fun j hj => by
     have := hlt0 j hj
     exact Nat.le_of_ble_eq_true this⟩
    have hanc : ∀ k, Nat.testBit (ancL lg (aft o)) k = true → Anc ops k i := ancL_ok hlg hi (fun j hj => hj)
    have next : ∀ {y : Lg} {x : Ak} {A1 : Ab}, y.i = i → y.anc = ancL lg (aft o) → x.N (get A) → x.e (get A) = get A1 → FitsF y x → OpOk X ops Q i x → lgOk lg y = true → evDrawOps E ops.toList l (y :: lg) A1 K = some r →
      ∃ (L : List (Lg × Ak)) (A' : Ab), K A' = some r ∧ Told X ops Q (i :: l) lg (get A) (get A') L := by
     intro y x A1 e1 e2 hn he hf hop hok hev
     obtain ⟨L, A', h1, h2⟩ := draw_run hV l (y :: lg) A1 K r (fun z hz k hk => by
      rcases List.mem_cons.1 hz with rfl | hz
      ·rw [e1]; exact hanc k (by rw [← e2]; exact hk)
      ·exact hlg z hz k hk) hev
     exact ⟨_, A', h1, h2.cons e1 hn he hf hop hok (by rw [e2]; exact hanc) hlt⟩
    have cnd : ∀ {b : Bool} {z : Option R}, (bif b then z else none) = some r → b = true ∧ z = some r := by
     intro b z hz
     cases b with
     | false => simp at hz
     | true => exact ⟨rfl, hz⟩
    have exec : ∀ (B : Ab) (gd : List Nat), get B = get A → (∀ S a, Okay X S a → (∀ p ∈ gd, S.g p = get A p) → Region.wanted o (yielded ops a.tmps) = true) →
      step E o B (fun U => bif lgOk lg (lgOf o i lg gd B U) then evDrawOps E ops.toList l (lgOf o i lg gd B U :: lg) (ups B U) K else none) = some r →
      ∃ (L : List (Lg × Ak)) (A' : Ab), K A' = some r ∧ Told X ops Q (i :: l) lg (get A) (get A') L := by
     intro B gd hBA hw hs
     have generic : (lgOf o i lg gd B [] ).ex = none → ∃ (L : List (Lg × Ak)) (A' : Ab), K A' = some r ∧ Told X ops Q (i :: l) lg (get A) (get A') L := by
      intro hex
      obtain ⟨U, h1, h2⟩ := step_loc (F := rds B o) (fun p hp => hp) hs
      obtain ⟨hok, hev⟩ := cnd h1
      have hfit : FitsF (lgOf o i lg gd B U) (akOf (lgOf o i lg gd B U).F B U) := akOf_fits (F := gd ++ rds B o) rfl rfl hex
      refine next (y := lgOf o i lg gd B U) (x := akOf (lgOf o i lg gd B U).F B U) (A1 := ups B U) rfl rfl (fun p _ => by rw [hBA]) ?_ hfit ?_ hok hev
      ·show gups (get A) U = _
       rw [get_gups, hBA]
      ·refine op_ok hV hi hd (fun S a hS hN => hw S a hS (fun p hp => ?_)) (fun A' hN => ⟨U, ?_, rfl⟩)
       ·rw [← hBA]
        exact hN p (by show p ∈ gd ++ rds B o ++ _; simp [hp])
       ·exact h2 A' (fun p hp => hN p (by show p ∈ gd ++ rds B o ++ _; simp [hp])) some
     cases hgd : gd with
     | cons p0 gd' => subst hgd; exact generic (by simp [lgOf])
     | nil =>
      subst hgd
      cases hexo : exOf o with
      | none => exact generic (by simp [lgOf, hexo])
      | some q =>
       obtain ⟨t, j, d⟩ := q
       have : o.op = .extract (.tmp t) j ∧ o.dst = some d := by
        unfold exOf at hexo
        split at hexo
        ·rename_i e1 e2
         cases hexo
         exact ⟨e1, e2⟩
        ·cases hexo
       obtain ⟨hop, hod⟩ := this
       obtain ⟨vs, ag, lf, s, hg, hn, h1, h2⟩ := ext_step hop hod hs
       obtain ⟨hok, hev⟩ := cnd h1
       have hex : ∀ A' vs', (get A' t).2 = .tup vs' → gups (get A') (extU t j d lf s vs') = (extAk t j d ag lf s).e (get A') := by
        intro A' vs' hv
        unfold extU extAk
        simp only
        rw [hv]
        rfl
       refine next (y := lgOf o i lg [] B (extU t j d lf s vs)) (x := extAk t j d ag lf s) (A1 := ups B (extU t j d lf s vs)) rfl rfl ⟨vs, by rw [← hBA]; exact hg, hn⟩ ?_ (ext_fits hop hod) ?_ hok hev
       ·rw [← hBA, get_gups]
        exact (hex B vs hg).symm
       ·refine op_ok hV hi hd (fun S a hS _ => hw S a hS (by simp)) (fun A' hN => ?_)
        obtain ⟨vs', g1, g2⟩ := hN
        exact ⟨_, h2 A' vs' g1 g2, hex A' vs' g1⟩
    have skip : ∀ (B : Ab) (dj : Nat), get B = get A → (∀ S a, Okay X S a → S.g dj = get A dj → Region.wanted o (yielded ops a.tmps) = false) →
      (bif lgOk lg (lgSkip o i lg [dj]) then evDrawOps E ops.toList l (lgSkip o i lg [dj] :: lg) (skipO o B) K else none) = some r →
      ∃ (L : List (Lg × Ak)) (A' : Ab), K A' = some r ∧ Told X ops Q (i :: l) lg (get A) (get A') L := by
     intro B dj hBA hw hs
     obtain ⟨hok, hev⟩ := cnd hs
     have hsk : gups (get A) (match o.dst with | some d => [⟨d, false, .one .un⟩] | none => []) = get (skipO o B) := by
      unfold skipO
      cases o.dst with
      | none => exact hBA.symm
      | some d => rw [← hBA]; exact (get_gups [⟨d, false, .one .un⟩] B).symm
     refine next (y := lgSkip o i lg [dj]) (x := ⟨fun g => g dj = get A dj, fun g => gups g (match o.dst with | some d => [⟨d, false, .one .un⟩] | none => [])⟩) (A1 := skipO o B) rfl rfl rfl hsk ?_ (skip_ok hV hi hd (fun S a hS hN => hw S a hS hN)) hok hev
     have hmap : (match o.dst with | some d => [(⟨d, false, .one .un⟩ : Up)] | none => []).map Up.l = o.dst.toList := by cases o.dst <;> rfl
     refine ⟨fun p hp => List.mem_append_right _ hp, fun g g' h hn => by show g' dj = get A dj; rw [← h dj (by show dj ∈ [dj] ++ _; simp)]; exact hn, fun g p hp => gups_out _ g p (by rw [hmap]; exact hp), fun g g' p _ h => gups_same _ g g' p h, fun t j d h => by cases h⟩
    split at h
    ·rename_i hgd
     exact exec A [] rfl (fun S a _ _ => by unfold Region.wanted; rw [hgd]) h
    ·rename_i j want hgd
     split at h
     ·cases h
     ·rename_i dj hdj
      cases hb : Nat.blt dj E.nt with
      | false => rw [hb] at h; simp at h
      | true =>
       rw [hb, cond_true] at h
       split at h
       ·rename_i n b hgt
        have hwant : ∀ (S : Sit) (a : Act), Okay X S a → S.g dj = get A dj → Region.wanted o (yielded ops a.tmps) = (b == want) := fun S a hS hs => (guard_ok hV.en hS hgd hdj hb).1 b (by rw [hs, hgt])
        cases b with
        | true =>
         rw [cond_true] at h
         cases want with
         | true =>
          rw [cond_true] at h
          exact exec (lit A dj n true) [dj] (get_lit hgt) (fun S a hS hs => hwant S a hS (hs dj (by simp))) h
         | false =>
          rw [cond_false] at h
          exact skip (lit A dj n true) dj (get_lit hgt) (fun S a hS hs => hwant S a hS hs) h
        | false =>
         rw [cond_false] at h
         cases want with
         | true =>
          rw [cond_true] at h
          exact skip (lit A dj n false) dj (get_lit hgt) (fun S a hS hs => hwant S a hS hs) h
         | false =>
          rw [cond_false] at h
          exact exec (lit A dj n false) [dj] (get_lit hgt) (fun S a hS hs => hwant S a hS (hs dj (by simp))) h
       ·rename_i n hgt
        exact skip A dj rfl (fun S a hS hs => (guard_ok hV.en hS hgd hdj hb).2 (by rw [hs, hgt])) h
       ·cases h
theorem draw_ok (hV : EnvOk X E) (hm : X.P.follows .mixedOrders = true) : DrawOk X E := by
 intro R id ops Q S a A K r hK hg h hQ
 refine wp_region_any hm ?_
 obtain ⟨L, A', hA', T⟩ := draw_run (X := X) (ops := ops) (Q := Q) hV _ [] A K r (by simp) h
 have hlen : L.length = ops.size := by
  have := congrArg List.length T.ix
  simpa using this
 have hmem : ∀ z ∈ L, z.1.i < ops.size := by
  intro z hz
  have : z.1.i ∈ L.map (fun z => z.1.i) := List.mem_map_of_mem hz
  rw [T.ix] at this
  simpa using this
 have K2 := (hK.world (w' := { S.w with drawn := S.w.drawn + 1 }) (O' := S.O) (fun k _ _ => ⟨rfl, rfl⟩) rfl rfl rfl (Nat.le_refl _) hK.lt).1
 refine any_ok (X := X) (f := get A') ?_ (fun S' a' A2 K' g' e' => hQ S' a' A' K' (by rw [g', e']) hA') ops.size (L.map fun z => (z.1.i, z.2)) _ (groS S { S.w with drawn := S.w.drawn + 1 } S.O) a A (by simp [hlen]) (by simp) ?_ ?_ ?_ ?_ ?_ ?_ K2 hg ?_
 ·intro i o hi j hj
  have hil : i < ops.size := (Array.getElem?_eq_some_iff.1 hi).1
  obtain ⟨o', h1, h2⟩ := T.lt i (by simpa using hil)
  rw [hi] at h1
  cases h1
  exact h2 j hj
 ·rw [List.pairwise_map]
  have hp : (L.map (fun z => z.1.i)).Pairwise (· < ·) := by rw [T.ix]; exact List.pairwise_lt_range
  rw [List.pairwise_map] at hp
  exact hp
 ·intro i hi
  constructor
  ·intro _
   have : i ∈ L.map (fun z => z.1.i) := by rw [T.ix]; simpa using hi
   obtain ⟨z, hz, hzi⟩ := List.mem_map.1 this
   exact ⟨(z.1.i, z.2), List.mem_map_of_mem hz, hzi⟩
  ·intro _
   simp [Array.getD_eq_getD_getElem?, hi]
 ·rw [List.pairwise_map]
  refine List.Pairwise.imp_of_mem ?_ T.pair
  intro y z hy hz h
  rcases h with h | h
  ·exact .inl (T.anc z hz _ h)
  ·exact .inr ((T.fits y hy).1.ind (T.fits z hz).1 h)
 ·intro x hx
  obtain ⟨z, hz, rfl⟩ := List.mem_map.1 hx
  exact (T.fits z hz).2
 ·intro x hx
  obtain ⟨z, hz, rfl⟩ := List.mem_map.1 hx
  exact hmem z hz
 ·intro i o hi hl
  have hil : i < ops.size := (Array.getElem?_eq_some_iff.1 hi).1
  simp [Array.getD_eq_getD_getElem?, hil] at hl
 ·have : (L.map fun z => (z.1.i, z.2)).map Prod.snd = L.map Prod.snd := by simp
  rw [this]
  exact T.runs
end
end Go.Proofs.YtgocagaijgcnmaaGreat.Vf
end

section
set_option linter.unusedVariables false
set_option linter.unusedSimpArgs false
namespace Go.Proofs.YtgocagaijgcnmaaGreat.Vf
open Go
attribute [local irreducible] C H
def Ty.fit (ti : TypeId → Option TI) : (t : Ty) → t.den → Prop
 | .i k, n => (Lit.int k n).wf = true
 | .b, _ => True
 | .s, x => x.size ≤ 140737488351232
 | .sl e r, xs => (∀ te, ti e = some te → xs.length * te.by_ ≤ 140737488351232) ∧ ∀ x ∈ xs, r.fit ti x
 | .ow e r, xs => (∀ te, ti e = some te → xs.length * te.by_ ≤ 140737488351232) ∧ ∀ x ∈ xs, r.fit ti x
 | .pr x y, p => x.fit ti p.1 ∧ y.fit ti p.2
def isTy (ti : TypeId → Option TI) (T : TypeId) (ty : Ty) : Bool := match ti T with
 | some t => decide (t.ty = ty)
 | none => false
def prodB (ti : TypeId → Option TI) : List Field → Nat → Ty → Bool
 | [], _, _ => false
 | [f], o, ty => Nat.beq f.offset o && isTy ti f.type ty
 | f :: g :: fs, o, .pr x y => Nat.beq f.offset o && isTy ti f.type x && prodB ti (g :: fs) (o + x.sz) y
 | _, _, _ => false
def closeB (P : Program) (ti : TypeId → Option TI) (T : TypeId) : Bool := match ti T, P.underlying T with
 | none, _ => true
 | some t, some (.struct fs) => t.ag && prodB ti fs.toList 0 t.ty
 | some ⟨.sl e r, false, _, _⟩, some (.slice e') => Nat.beq e e' && isTy ti e r
 | some ⟨.i k, false, _, _⟩, some (.int k') => decide (k = k')
 | some ⟨.b, false, _, _⟩, some .bool => true
 | some ⟨.s, false, _, _⟩, some .string => true
 | _, _ => false
section
variable {H' : Type} {enc : TypeId × Value → H'} {P : Program} {w : World} {base : Nat} {spare : Nat → Bool} {held : Bool} {ti : TypeId → Option TI}
theorem isTy_some {T : TypeId} {ty : Ty} (h : isTy ti T ty = true) : ∃ t, ti T = some t ∧ t.ty = ty := by
 unfold isTy at h
 split at h
 ·rename_i t ht
  exact ⟨t, ht, of_decide_eq_true h⟩
 ·cases h
theorem tok_cells {T : TypeId} {t : TI} (h : TOk P T t) : P.cellsOf T = t.ty.sz := by
 unfold Program.cellsOf
 rw [tok_size h]
 rfl
theorem tok_bytes {T : TypeId} {t : TI} (h : TOk P T t) : P.bytesOf T = t.by_ := by
 obtain ⟨i, h1, _, h2, _⟩ := h.info
 unfold Program.bytesOf
 rw [h1]
 exact h2
theorem rows_of {α : Type} {R : α → List Value → Prop} {Fit : α → Prop} {k o n : Nat} : ∀ (len : Nat), (∀ i, i < len → ∃ x c, R x c ∧ Fit x ∧ c.length = n ∧ CellsAt w k (o + i * n) c) →
  ∃ (xs : List α) (cs : List Value), xs.length = len ∧ Rows R xs cs ∧ (∀ x ∈ xs, Fit x) ∧ cs.length = len * n ∧ CellsAt w k o cs
 | 0, _ => ⟨[], [], rfl, rfl, by simp, by simp, by intro j u hj; simp at hj⟩
 | len + 1, h => by
  obtain ⟨xs, cs, h1, h2, h3, h4, h5⟩ := rows_of len (fun i hi => h i (by omega))
  obtain ⟨x, c, g1, g2, g3, g4⟩ := h len (by omega)
  refine ⟨xs ++ [x], cs ++ c, by simp [h1], Rows.append h2 ⟨c, [], by simp, g1, rfl⟩, ?_, ?_, ?_⟩
  ·intro y hy
   rcases List.mem_append.1 hy with hy | hy
   ·exact h3 y hy
   ·simp at hy; subst hy; exact g2
  ·rw [List.length_append, h4, g3, Nat.add_mul, Nat.one_mul]
  ·intro j u hj
   by_cases hlt : j < cs.length
   ·rw [List.getElem?_append_left hlt] at hj
    exact h5 j u hj
   ·rw [List.getElem?_append_right (by omega)] at hj
    have := g4 (j - cs.length) u hj
    rw [h4] at this hlt
    rwa [show o + len * n + (j - len * n) = o + j by omega] at this
theorem cells_at {a : Addr} {n : Nat} {cs : List Value} (h : w.cells? base a n = some cs) (hn : 0 < n) : a.spot = none ∧ a.block < w.heap.size ∧ cs.length = n ∧ CellsAt w a.block a.off cs := by
 unfold World.cells? at h
 split at h
 ·have hl := mapM_some_length h
  have hg := fun i hi => mapM_some_get h i i hi
  simp only [List.length_range] at hl
  have h0 : w.cell? (a.add 0) = cs[0]? := hg 0 (by simp [hn])
  have hc0 : ∃ v, cs[0]? = some v := ⟨_, List.getElem?_eq_getElem (by omega)⟩
  obtain ⟨v, hv⟩ := hc0
  rw [hv] at h0
  have hspot : a.spot = none ∧ a.block < w.heap.size := by
   unfold World.cell? at h0
   split at h0
   ·rename_i c e f hb
    refine ⟨?_, (Array.getElem?_eq_some_iff.1 hb).1⟩
    cases hs : a.spot with
    | none => rfl
    | some s => simp [Addr.add, hs] at h0
   ·cases h0
  refine ⟨hspot.1, hspot.2, hl, fun j u hj => ?_⟩
  have hjl : j < n := by have := (List.getElem?_eq_some_iff.1 hj).1; omega
  have := hg j (by simp [hjl])
  rw [hj] at this
  obtain ⟨b, off, sp⟩ := a
  have hsp : sp = none := hspot.1
  subst hsp
  rw [add_none] at this
  exact this
 ·cases h
theorem weights_all {T : TypeId} : ∀ {ds : List (DataW H')} {m : Nat}, m ∈ DataW.weightsAll P T ds ↔ ∃ d ∈ ds, m ∈ d.weights P T
 | [], m => by simp [DataW.weightsAll]
 | d :: ds, m => by
  simp only [DataW.weightsAll, List.mem_append, List.mem_cons, weights_all (ds := ds)]
  constructor
  ·rintro (h | ⟨d', h1, h2⟩)
   ·exact ⟨d, .inl rfl, h⟩
   ·exact ⟨d', .inr h1, h2⟩
  ·rintro ⟨d', rfl | h1, h2⟩
   ·exact .inl h2
   ·exact .inr ⟨d', h1, h2⟩
def Opens (enc : TypeId × Value → H') (P : Program) (w : World) (base : Nat) (spare : Nat → Bool) (held : Bool) (ti : TypeId → Option TI) (n : Nat) : Prop :=
 ∀ T t cs y, ti T = some t → DataW.trod enc P w base spare held n T cs = some y → (∀ m ∈ y.1.weights P T, m ≤ 140737488351232) → ∃ X : t.ty.den, t.ty.rep P (fun k => k < w.heap.size) w X cs ∧ t.ty.fit ti X
theorem open_fields (htok : ∀ T t, ti T = some t → TOk P T t) {n : Nat} (ih : Opens enc P w base spare held ti n) {cs : List Value} : ∀ (fs : List Field) (o : Nat) (ty : Ty) (xs : List (DataW H' × List MemPlace)), prodB ti fs o ty = true → xs.length = fs.length →
  (∀ (i : Nat) (f : Field), fs[i]? = some f → DataW.trod enc P w base spare held n f.type ((cs.drop f.offset).take (P.cellsOf f.type)) = xs[i]?) → (∀ m ∈ DataW.weightsEach P (fs.map (·.type)) (xs.map (·.1)), m ≤ 140737488351232) → o + ty.sz ≤ cs.length →
  ∃ X : ty.den, ty.rep P (fun k => k < w.heap.size) w X ((cs.drop o).take ty.sz) ∧ ty.fit ti X
 | [], o, ty, xs, hp, _, _, _, _ => by cases ty <;> simp [prodB] at hp
 | [f], o, ty, xs, hp, hl, ht, hw, hs => by
  simp only [prodB, Bool.and_eq_true] at hp
  obtain ⟨t, h1, h2⟩ := isTy_some hp.2
  have ho : f.offset = o := Nat.eq_of_beq_eq_true hp.1
  subst h2
  have e := ht 0 f rfl
  cases xs with
  | nil => simp at hl
  | cons y xs =>
   have e' : DataW.trod enc P w base spare held n f.type ((cs.drop f.offset).take (P.cellsOf f.type)) = some y := by simpa using e
   rw [tok_cells (htok _ _ h1), ho] at e'
   exact ih f.type t _ y h1 e' (fun m hm => hw m (by simp [DataW.weightsEach, hm]))
 | f :: g :: fs, o, ty, xs, hp, hl, ht, hw, hs => by
  cases ty <;> first | (simp [prodB] at hp; done) | skip
  rename_i x y
  simp only [prodB, Bool.and_eq_true] at hp
  obtain ⟨⟨h0, h1a⟩, hp⟩ := hp
  obtain ⟨t, h1, h2⟩ := isTy_some h1a
  have ho : f.offset = o := Nat.eq_of_beq_eq_true h0
  subst h2
  have e := ht 0 f rfl
  cases xs with
  | nil => simp at hl
  | cons z xs =>
   have e' : DataW.trod enc P w base spare held n f.type ((cs.drop f.offset).take (P.cellsOf f.type)) = some z := by simpa using e
   rw [tok_cells (htok _ _ h1), ho] at e'
   have hsz : o + (t.ty.sz + y.sz) ≤ cs.length := hs
   obtain ⟨X, r1, f1⟩ := ih f.type t _ z h1 e' (fun m hm => hw m (by simp [DataW.weightsEach, hm]))
   obtain ⟨Y, r2, f2⟩ := open_fields htok ih (g :: fs) (o + t.ty.sz) y xs hp (by simpa using hl) (fun i f' hf' => by have := ht (i + 1) f' hf'; simpa using this) (fun m hm => hw m (by
    simp only [List.map_cons, DataW.weightsEach, List.mem_append]
    exact .inr hm)) (by omega)
   refine ⟨(X, Y), ⟨_, _, ?_, r1, r2⟩, f1, f2⟩
   show (cs.drop o).take (t.ty.sz + y.sz) = _
   rw [List.take_add, List.drop_drop]
theorem open_rep (htok : ∀ T t, ti T = some t → TOk P T t) (hcl : ∀ T, closeB P ti T = true) : ∀ n, Opens enc P w base spare held ti n
 | 0 => by
  intro T t cs y _ h
  simp [DataW.trod] at h
 | n + 1 => by
  intro T t cs y hT h hw
  have hc := hcl T
  have hk := htok T t hT
  unfold closeB at hc
  rw [hT] at hc
  split at hc
  ·rename_i e; cases e
  ·-- a struct
   rename_i t0 fs e1 hu
   cases e1
   simp only [Bool.and_eq_true] at hc
   obtain ⟨xs, n', e1, rfl, hl, hxl, hx⟩ := DataW.trod_struct hu h
   have : n' = n := by omega
   subst this
   rw [tok_cells hk] at hl
   have hw' : ∀ m ∈ DataW.weightsEach P (fs.toList.map (·.type)) (xs.map (·.1)), m ≤ 140737488351232 := fun m hm => hw m (by simp only [DataW.weights, hu]; exact hm)
   obtain ⟨X, r, f⟩ := open_fields htok (open_rep htok hcl n') fs.toList 0 t.ty xs hc.2 (by simpa using hxl) (fun i f hf => hx i f (by simpa using hf)) hw' (by omega)
   rw [List.drop_zero, ← hl, List.take_length] at r
   exact ⟨X, r, f⟩
  ·-- a slice
   rename_i e r by_ fo e' e1 hu
   cases e1
   simp only [Bool.and_eq_true] at hc
   obtain ⟨te, hte, hty⟩ := isTy_some hc.2
   have he : e = e' := Nat.eq_of_beq_eq_true hc.1
   subst he
   subst hty
   have hke := htok e te hte
   have hsz : SzOk P e te.ty.sz := tok_size hke
   rcases DataW.trod_slice hu h with ⟨rfl, rfl⟩ | ⟨a, len, cap, elems, rest, n', e1, rfl, rfl, hb, hl, hm, hlen, hel, hsp, hns⟩
   ·exact ⟨[], ⟨_, rfl, hsz, none, 0, [], rfl, Nat.le_refl _, rfl, fun h => (h rfl).elim⟩, by simp, by simp⟩
   ·have : n' = n := by omega
    subst this
    have hlw : (elems.map (·.1)).length + (rest.map (·.1)).length = elems.length + rest.length := by simp
    have hw0 : (elems.length + rest.length) * P.bytesOf e ≤ 140737488351232 := hw _ (by simp only [DataW.weights, hu]; simp)
    rw [tok_bytes hke] at hw0
    rw [tok_cells hke] at hel
    have hpos := sz_pos te.ty
    have each : ∀ i, i < len → ∃ x c, te.ty.rep P (fun k => k < w.heap.size) w x c ∧ te.ty.fit ti x ∧ c.length = te.ty.sz ∧ ((i = 0 → a.spot = none) ∧ a.block < w.heap.size) ∧ CellsAt w a.block (a.off + i * te.ty.sz) c := by
     intro i hi
     have e1 := hel i hi
     rw [List.getElem?_eq_getElem (by omega)] at e1
     simp only [Option.bind_eq_some_iff] at e1
     obtain ⟨c, hc1, hc2⟩ := e1
     obtain ⟨g1, g2, g3, g4⟩ := cells_at hc1 hpos
     obtain ⟨X, r1, f1⟩ := open_rep htok hcl n' e te c _ hte hc2 (fun m hm => hw m (by
      simp only [DataW.weights, hu, List.mem_cons, List.mem_append]
      exact .inr (.inl (weights_all.2 ⟨_, List.mem_map_of_mem (List.getElem_mem (l := elems) (n := i) (by omega)), hm⟩))))
     have hblk : (a.add (i * te.ty.sz)).block = a.block ∧ (a.add (i * te.ty.sz)).off = a.off + i * te.ty.sz := by
      unfold Addr.add
      split
      ·rename_i h0; exact ⟨rfl, by omega⟩
      ·exact ⟨rfl, rfl⟩
     rw [hblk.1, hblk.2] at g4
     rw [hblk.1] at g2
     refine ⟨X, c, r1, f1, g3, ⟨fun h0 => ?_, g2⟩, g4⟩
     subst h0
     rw [Nat.zero_mul] at g1
     exact g1
    obtain ⟨xs, cs, h1, h2, h3, h4, h5⟩ := rows_of (w := w) (k := a.block) (o := a.off) (n := te.ty.sz) (R := fun x c => te.ty.rep P (fun k => k < w.heap.size) w x c) (Fit := te.ty.fit ti) len (fun i hi => by
     obtain ⟨x, c, q1, q2, q3, q4, q5⟩ := each i hi
     exact ⟨x, c, q1, q2, q3, q5⟩)
    refine ⟨xs, ⟨_, rfl, hsz, some a, cap, cs, by rw [h1], by omega, h2, fun hne => ?_⟩, fun te' ht' => ?_, h3⟩
    ·have hpos : 0 < len := by rw [← h1]; cases xs with | nil => exact (hne rfl).elim | cons => simp
     obtain ⟨x, c, q1, q2, q3, q4, q5⟩ := each 0 hpos
     refine ⟨a.block, a.off, ?_, q4.2, h5⟩
     obtain ⟨b, off, sp⟩ := a
     have hsp : sp = none := q4.1 rfl
     rw [hsp]
    ·rw [hte] at ht'
     cases ht'
     rw [h1, ← hlen]
     exact Nat.le_trans (Nat.mul_le_mul_right _ (Nat.le_add_right _ _)) hw0
  ·rename_i k by_ fo k' e1 hu
   cases e1
   have : k = k' := of_decide_eq_true hc
   subst this
   obtain ⟨m, rfl, rfl, hwf⟩ := DataW.trod_int hu h
   exact ⟨m, rfl, hwf⟩
  ·rename_i by_ fo e1 hu
   cases e1
   obtain ⟨b, rfl, rfl⟩ := DataW.trod_bool hu h
   exact ⟨b, rfl, trivial⟩
  ·rename_i by_ fo e1 hu
   cases e1
   obtain ⟨s, rfl, rfl, hs⟩ := DataW.trod_string hu h
   refine ⟨s, rfl, ?_⟩
   have := hw s.data.toList.length (by rw [show (DataW.lit (.string s.data.toList) : DataW H').weights P T = [s.data.toList.length] from by simp only [DataW.weights]]; exact List.mem_singleton.2 rfl)
   have e : s.data.toList.length = s.size := Array.length_toList
   rw [e] at this
   exact this
  ·cases hc
end
end Go.Proofs.YtgocagaijgcnmaaGreat.Vf
end

section
set_option linter.unusedVariables false
set_option linter.unusedSimpArgs false
namespace Go.Proofs.YtgocagaijgcnmaaGreat.Vf
open Go
attribute [local irreducible] C H
def eq1 : Lf → Lf → Option Bool
 | .sc (.int k x), .sc (.int k' y) => if k = k' then some (x == y) else none
 | .sc (.bool x), .sc (.bool y) => some (x == y)
 | .sc (.string x), .sc (.string y) => some (x == y)
 | _, _ => none
theorem eqL_cons (a a' : Lf) (l l' : List Lf) {b : Bool} (h : eqLeaves (a :: l) (a' :: l') = some b) : ∃ b1 b2, eq1 a a' = some b1 ∧ eqLeaves l l' = some b2 ∧ b = (b1 && b2) := by
 unfold eqLeaves at h
 split at h
 ·rename_i e _; cases e
 ·rename_i k x k' y e1 e2
  cases e1; cases e2
  by_cases hk : k = k'
  ·simp only [hk, decide_true, cond_true, Option.some.injEq] at h
   exact ⟨x == y, true, by simp only [eq1, hk, if_true], rfl, by simp [h]⟩
  ·simp [hk] at h
 ·rename_i x y e1 e2
  cases e1; cases e2
  simp only [Option.some.injEq] at h
  exact ⟨_, true, rfl, rfl, by simp [h]⟩
 ·rename_i x y e1 e2
  cases e1; cases e2
  simp only [Option.some.injEq] at h
  exact ⟨_, true, rfl, rfl, by simp [h]⟩
 ·rename_i k x l k' y l' _ e1 e2
  cases e1; cases e2
  by_cases hk : k = k'
  ·simp only [hk, decide_true, cond_true] at h
   split at h
   ·rename_i b2 hb
    simp only [Option.some.injEq] at h
    exact ⟨_, b2, by simp only [eq1, hk, if_true], hb, h.symm⟩
   ·cases h
  ·simp [hk] at h
 ·rename_i x l y l' _ e1 e2
  cases e1; cases e2
  split at h
  ·rename_i b2 hb
   simp only [Option.some.injEq] at h
   exact ⟨_, b2, rfl, hb, h.symm⟩
  ·cases h
 ·rename_i x l y l' _ e1 e2
  cases e1; cases e2
  split at h
  ·rename_i b2 hb
   simp only [Option.some.injEq] at h
   exact ⟨_, b2, rfl, hb, h.symm⟩
  ·cases h
 ·cases h
theorem eqL_append : ∀ (l m l' m' : List Lf) (b : Bool), l.length = l'.length → eqLeaves (l ++ m) (l' ++ m') = some b → ∃ b1 b2, eqLeaves l l' = some b1 ∧ eqLeaves m m' = some b2 ∧ b = (b1 && b2)
 | [], m, [], m', b, _, h => ⟨true, b, rfl, h, by simp⟩
 | [], _, _ :: _, _, _, hl, _ => by simp at hl
 | _ :: _, _, [], _, _, hl, _ => by simp at hl
 | a :: l, m, a' :: l', m', b, hl, h => by
  obtain ⟨b1, b2, h1, h2, rfl⟩ := eqL_cons a a' (l ++ m) (l' ++ m') h
  obtain ⟨b3, b4, h3, h4, rfl⟩ := eqL_append l m l' m' b2 (by simpa using hl) h2
  refine ⟨b1 && b3, b4, ?_, h4, by simp [Bool.and_assoc]⟩
  cases a with
  | sc u =>
   cases a' with
   | sc u' =>
    cases u <;> first | (simp [eq1] at h1; done) | skip
    all_goals (cases u' <;> first | (simp [eq1] at h1; done) | skip)
    ·rename_i x y
     simp only [eq1, Option.some.injEq] at h1
     cases l <;> cases l' <;> first | (simp at hl; done) | skip
     ·simp only [eqLeaves, Option.some.injEq] at h3
      simp only [eqLeaves]
      rw [← h3, ← h1, Bool.and_true]
     ·simp only [eqLeaves, h3]
      rw [← h1]
    ·rename_i k x k' y
     simp only [eq1] at h1
     by_cases hk : k = k'
     ·rw [if_pos hk] at h1
      simp only [Option.some.injEq] at h1
      cases l <;> cases l' <;> first | (simp at hl; done) | skip
      ·simp only [eqLeaves, Option.some.injEq] at h3
       simp only [eqLeaves, hk, decide_true, cond_true]
       rw [← h3, ← h1, Bool.and_true]
      ·simp only [eqLeaves, hk, decide_true, cond_true, h3]
       rw [← h1]
     ·rw [if_neg hk] at h1; cases h1
    ·rename_i x y
     simp only [eq1, Option.some.injEq] at h1
     cases l <;> cases l' <;> first | (simp at hl; done) | skip
     ·simp only [eqLeaves, Option.some.injEq] at h3
      simp only [eqLeaves]
      rw [← h3, ← h1, Bool.and_true]
     ·simp only [eqLeaves, h3]
      rw [← h1]
   | _ => cases u <;> simp [eq1] at h1
  | _ => simp [eq1] at h1
def eqB (P : Program) (ti : TypeId → Option TI) : Nat → TypeId → Bool
 | 0, _ => false
 | n + 1, T => match ti T, P.underlying T with
  | some t, some (.struct fs) => t.ag && !(P.stoodInHeld T) && prodB ti fs.toList 0 t.ty && fs.toList.all (fun f => !(f.name == "_") && eqB P ti n f.type)
  | some ⟨.i _, false, _, _⟩, some (.int _) => true
  | some ⟨.b, false, _, _⟩, some .bool => true
  | some ⟨.s, false, _, _⟩, some .string => true
  | _, _ => false
section
variable {P : Program} {ti : TypeId → Option TI} {G : Nat → Prop} {w : World}
def EqAll (P : Program) (ti : TypeId → Option TI) (G : Nat → Prop) (w : World) (n : Nat) : Prop :=
 ∀ T t d (X Y : t.ty.den) (us vs : List Value) (x y : Value) (b : Bool) (w' : World), n ≤ d → eqB P ti n T = true → ti T = some t → All2 (LfRep P G w) (leaves t.ty X) us → All2 (LfRep P G w) (leaves t.ty Y) vs → eqLeaves (leaves t.ty X) (leaves t.ty Y) = some b →
  (if t.ag then x = .agg us.toArray else us = [x]) → (if t.ag then y = .agg vs.toArray else vs = [y]) → (Op.equalIn d T x y).run P w' = .ok b w'
theorem run_part {T : TypeId} {t : TI} (hk : TOk P T t) {us : List Value} {off : Nat} (hl : off + t.ty.sz ≤ us.length) (w' : World) :
  ∃ u, (part T us.toArray off).run P w' = .ok u w' ∧ (if t.ag then u = .agg ((us.drop off).take t.ty.sz).toArray else (us.drop off).take t.ty.sz = [u]) := by
 obtain ⟨d, hd, hagg⟩ := tok_agg hk
 cases ha : t.ag with
 | true =>
  rw [ha] at hagg
  refine ⟨.agg (us.toArray.extract off (off + t.ty.sz)), ?_, ?_⟩
  ·unfold part
   simp only [Sem.run_bind, isAgg_of hd hagg, Result.andThen_ok, if_true, info_size (tok_size hk), Sem.run_pure]
  ·simp only [if_true]
   congr 1
   apply Array.ext'
   rw [Array.toList_extract]
   simp [List.extract]
 | false =>
  rw [ha] at hagg
  have h1 := tok_one hk ha
  have hlt : off < us.length := by omega
  refine ⟨us[off], ?_, ?_⟩
  ·unfold part
   simp only [Sem.run_bind, isAgg_of hd hagg, Result.andThen_ok, Bool.false_eq_true, if_false]
   have : us.toArray[off]? = some us[off] := by simp [hlt]
   rw [this]
   rfl
  ·simp only [Bool.false_eq_true, if_false]
   rw [h1, List.drop_eq_getElem_cons hlt]
   rfl
theorem eq_fields (htok : ∀ T t, ti T = some t → TOk P T t) {n : Nat} (ih : EqAll P ti G w n) {d : Nat} (hd : n ≤ d) {us vs : List Value} (w' : World) :
  ∀ (fs : List Field) (o : Nat) (ty : Ty) (X Y : ty.den) (b : Bool), prodB ti fs o ty = true → fs.all (fun f => !(f.name == "_") && eqB P ti n f.type) = true → o + ty.sz ≤ us.length → o + ty.sz ≤ vs.length →
   All2 (LfRep P G w) (leaves ty X) ((us.drop o).take ty.sz) → All2 (LfRep P G w) (leaves ty Y) ((vs.drop o).take ty.sz) →
   eqLeaves (leaves ty X) (leaves ty Y) = some b → (Op.eqFields d us.toArray vs.toArray fs).run P w' = .ok b w'
 | [], o, ty, X, Y, b, hp, _, _, _, _, _, _ => by cases ty <;> simp [prodB] at hp
 | [f], o, ty, X, Y, b, hp, ha, hl, hl', h0, h0', he => by
  simp only [prodB, Bool.and_eq_true] at hp
  simp only [List.all_cons, Bool.and_eq_true, Bool.not_eq_true', beq_eq_false_iff_ne] at ha
  obtain ⟨⟨a1, a2⟩, _⟩ := ha
  obtain ⟨t, h1, h2⟩ := isTy_some hp.2
  have ho : f.offset = o := Nat.eq_of_beq_eq_true hp.1
  subst h2
  subst ho
  obtain ⟨x, hx1, hx2⟩ := run_part (htok _ _ h1) hl w'
  obtain ⟨y, hy1, hy2⟩ := run_part (htok _ _ h1) hl' w'
  have hr := ih f.type t d X Y _ _ x y b w' hd a2 h1 h0 h0' he hx2 hy2
  simp only [Op.eqFields, ne_eq, a1, not_false_eq_true, if_true, Sem.run_bind, hx1, hy1, hr, Result.andThen_ok]
  cases b <;> rfl
 | f :: g :: fs, o, ty, X, Y, b, hp, ha, hl, hl', h0, h0', he => by
  cases ty <;> first | (simp [prodB] at hp; done) | skip
  rename_i tx tyy
  simp only [prodB, Bool.and_eq_true] at hp
  obtain ⟨⟨q0, q1⟩, hp⟩ := hp
  rw [List.all_cons, Bool.and_eq_true] at ha
  obtain ⟨ha0, ha⟩ := ha
  simp only [Bool.and_eq_true, Bool.not_eq_true', beq_eq_false_iff_ne] at ha0
  obtain ⟨a1, a2⟩ := ha0
  obtain ⟨t, h1, h2⟩ := isTy_some q1
  have ho : f.offset = o := Nat.eq_of_beq_eq_true q0
  subst h2
  subst ho
  have hl2 : f.offset + (t.ty.sz + tyy.sz) ≤ us.length := hl
  have hl2' : f.offset + (t.ty.sz + tyy.sz) ≤ vs.length := hl'
  have he2 : eqLeaves (leaves t.ty X.1 ++ leaves tyy X.2) (leaves t.ty Y.1 ++ leaves tyy Y.2) = some b := he
  have r0 : All2 (LfRep P G w) (leaves t.ty X.1 ++ leaves tyy X.2) ((us.drop f.offset).take (t.ty.sz + tyy.sz)) := h0
  have r0' : All2 (LfRep P G w) (leaves t.ty Y.1 ++ leaves tyy Y.2) ((vs.drop f.offset).take (t.ty.sz + tyy.sz)) := h0'
  have k1 := r0.take t.ty.sz
  have k2 := r0.drop t.ty.sz
  have k1' := r0'.take t.ty.sz
  have k2' := r0'.drop t.ty.sz
  have c1 := leaves_len t.ty X.1
  have c1' := leaves_len t.ty Y.1
  rw [← c1, List.take_left, c1, List.take_take, Nat.min_eq_left (by omega)] at k1
  rw [← c1', List.take_left, c1', List.take_take, Nat.min_eq_left (by omega)] at k1'
  have c2 : ∀ l : List Value, List.drop t.ty.sz (List.take (t.ty.sz + tyy.sz) l) = List.take tyy.sz (List.drop t.ty.sz l) := fun l => by rw [List.drop_take]; congr 1; omega
  rw [c2, List.drop_drop] at k2 k2'
  rw [show List.drop t.ty.sz (leaves t.ty X.1 ++ leaves tyy X.2) = leaves tyy X.2 by rw [← c1, List.drop_left]] at k2
  rw [show List.drop t.ty.sz (leaves t.ty Y.1 ++ leaves tyy Y.2) = leaves tyy Y.2 by rw [← c1', List.drop_left]] at k2'
  obtain ⟨b1, b2, e1, e2, rfl⟩ := eqL_append _ _ _ _ b (by rw [c1, c1']) he2
  obtain ⟨x, hx1, hx2⟩ := run_part (htok _ _ h1) (us := us) (off := f.offset) (by omega) w'
  obtain ⟨y, hy1, hy2⟩ := run_part (htok _ _ h1) (us := vs) (off := f.offset) (by omega) w'
  have hr := ih f.type t d X.1 Y.1 _ _ x y b1 w' hd a2 h1 k1 k1' e1 hx2 hy2
  have hr2 := eq_fields htok ih hd w' (g :: fs) (f.offset + t.ty.sz) tyy X.2 Y.2 b2 hp ha (by omega) (by omega) k2 k2' e2
  rw [Op.eqFields]
  simp only [ne_eq, a1, not_false_eq_true, if_true, Sem.run_bind, hx1, hy1, hr, Result.andThen_ok]
  cases b1
  ·rfl
  ·simpa using hr2
theorem eq_all (htok : ∀ T t, ti T = some t → TOk P T t) : ∀ n, EqAll P ti G w n
 | 0 => by
  intro T t d X Y us vs x y b w' _ h
  simp [eqB] at h
 | n + 1 => by
  intro T t d X Y us vs x y b w' hd h hT hl hl' he hx hy
  obtain ⟨d, rfl⟩ : ∃ m, d = m + 1 := ⟨d - 1, by omega⟩
  have one : ∀ {us : List Value} {x : Value} {z : Lf}, us = [x] → All2 (LfRep P G w) [z] us → LfRep P G w z x := by
   intro us x z e h
   subst e
   cases h with
   | cons a h => exact a
  unfold eqB at h
  rw [hT] at h
  split at h
  ·rename_i t0 fs e1 hu
   cases e1
   simp only [Bool.and_eq_true, Bool.not_eq_true'] at h
   obtain ⟨⟨⟨h1, h2⟩, h3⟩, h4⟩ := h
   rw [h1] at hx hy
   simp only [if_true] at hx hy
   subst hx hy
   have hfs : P.fieldsOf T = fs := by unfold Program.fieldsOf; rw [hu]
   rw [run_equalIn_struct w' d T _ _ (by rw [hfs]; exact hu) h2, hfs]
   have e1 := hl.len
   have e2 := hl'.len
   rw [leaves_len] at e1 e2
   exact eq_fields htok (eq_all htok n) (by omega) w' fs.toList 0 t.ty X Y b h3 h4 (by omega) (by omega) (by rw [List.drop_zero, ← e1, List.take_length]; exact hl) (by rw [List.drop_zero, ← e2, List.take_length]; exact hl') he
  ·rename_i k by_ fo k' e1 hu
   cases e1
   simp only [Bool.false_eq_true, if_false] at hx hy
   have hz := (one hx hl).1
   have hz' := (one hy hl').1
   subst hz hz'
   have he' : (X == Y) = b := by simpa [leaves, eqLeaves] using he
   rw [← he']
   simp [Op.equalIn, run_underlying hu]
  ·rename_i by_ fo e1 hu
   cases e1
   simp only [Bool.false_eq_true, if_false] at hx hy
   have hz := (one hx hl).1
   have hz' := (one hy hl').1
   subst hz hz'
   have he' : (X == Y) = b := by simpa [leaves, eqLeaves] using he
   rw [← he']
   simp [Op.equalIn, run_underlying hu]
  ·rename_i by_ fo e1 hu
   cases e1
   simp only [Bool.false_eq_true, if_false] at hx hy
   have hz := (one hx hl).1
   have hz' := (one hy hl').1
   subst hz hz'
   have he' : (X == Y) = b := by simpa [leaves, eqLeaves] using he
   rw [← he']
   simp [Op.equalIn, run_underlying hu]
  ·cases h
end
theorem mkT_sc : ∀ (t : Ty) (l l' : List Lf) (x : t.den), allSc l = true → mkT t l = some (x, l') → l = leaves t x ++ l' ∧ allSc l' = true := by
 intro t
 induction t with
 | pr p q ihp ihq =>
  intro l l' x h hm
  simp only [mkT] at hm
  split at hm
  ·rename_i y l1 h1
   split at hm
   ·rename_i z l2 h2
    simp only [Option.some.injEq, Prod.mk.injEq] at hm
    obtain ⟨rfl, rfl⟩ := hm
    obtain ⟨e1, a1⟩ := ihp _ _ _ h h1
    obtain ⟨e2, a2⟩ := ihq _ _ _ a1 h2
    refine ⟨?_, a2⟩
    rw [e1, e2, ← List.append_assoc]
    rfl
   ·cases hm
  ·cases hm
 | _ =>
  intro l l' x h hm
  cases l with
  | nil => simp [mkT] at hm
  | cons z l =>
   cases z <;> first | (simp [allSc] at h; done) | skip
   rename_i v
   cases v <;> first | (simp [mkT] at hm; done) | skip
   all_goals
    simp only [allSc] at h
    simp only [mkT] at hm
    first
     | (simp only [Option.some.injEq, Prod.mk.injEq] at hm; obtain ⟨rfl, rfl⟩ := hm; exact ⟨rfl, h⟩)
     | (
       rename_i k k' n
       by_cases hk : k = k'
       ·subst hk
        simp only [decide_true, cond_true, Option.some.injEq, Prod.mk.injEq] at hm
        obtain ⟨rfl, rfl⟩ := hm
        exact ⟨rfl, h⟩
       ·simp [hk] at hm)
theorem eq_ok {P : Program} {ti : TypeId → Option TI} (htok : ∀ T t, ti T = some t → TOk P T t) {T : TypeId} (h : eqB P ti 9 T = true) (hag : (match ti T with | some t => t.ag | none => false) = true) (hg : P.eqGuardType P.depth T = false) (G : Nat → Prop) (w w' : World) (x y : Operand) (l l' : List Lf) (us vs : List Value) (b : Bool)
  (h1 : All2 (LfRep P G w) l us) (h2 : All2 (LfRep P G w) l' vs) (he : eqLeaves l l' = some b) (ha : allSc l = true) (ha' : allSc l' = true) (hk : kindsOk (ti T) l = true) (hk' : kindsOk (ti T) l' = true) :
  (Op.equal T (.agg us.toArray) (.agg vs.toArray)).run P w' = .ok b w' ∧ (eqGuard .eql T x y (.agg us.toArray) (.agg vs.toArray)).run P w' = .ok () w' ∧ (eqGuard .neq T x y (.agg us.toArray) (.agg vs.toArray)).run P w' = .ok () w' := by
 refine ⟨?_, run_eqGuard_agg w' _ T x y _ _ hg, run_eqGuard_agg w' _ T x y _ _ hg⟩
 unfold kindsOk at hk hk'
 split at hk
 ·rename_i t hT
  rw [hT] at hk' hag
  simp only at hk' hag
  have key : ∀ {l : List Lf}, allSc l = true → (mkW t.ty l).isSome = true → ∃ X, l = leaves t.ty X := by
   intro l ha hk
   obtain ⟨X, hX⟩ := Option.isSome_iff_exists.1 hk
   unfold mkW at hX
   split at hX
   ·rename_i z hz
    cases hX
    obtain ⟨e1, _⟩ := mkT_sc t.ty l [] _ ha hz
    exact ⟨_, by rw [e1, List.append_nil]⟩
   ·cases hX
  obtain ⟨X, rfl⟩ := key ha hk
  obtain ⟨Y, rfl⟩ := key ha' hk'
  exact eq_all htok 9 T t Op.maxDepth X Y us vs _ _ b w' (by decide) h hT h1 h2 he (by rw [hag]; rfl) (by rw [hag]; rfl)
 ·cases hk
end Go.Proofs.YtgocagaijgcnmaaGreat.Vf
end

section
set_option linter.unusedVariables false
set_option linter.unusedSimpArgs false
namespace Go.Proofs.YtgocagaijgcnmaaGreat.Vf
open Go Go.RowKit
attribute [local irreducible] C H
def allLoops : Code → List Code
 | .seq a b => allLoops a ++ allLoops b
 | .cond _ a b => allLoops a ++ allLoops b
 | .block _ c => allLoops c
 | .loop c => [c]
 | _ => []
theorem loops_all {X : Cx} {E : En} : ∀ (c : Code), (∀ d ∈ allLoops c, ∀ L, E.lp (first d) = some L → LoopOk X L d) → LoopsOk X E c := by
 intro c
 induction c with
 | seq a b iha ihb => exact fun h => ⟨iha fun d hd => h d (List.mem_append_left _ hd), ihb fun d hd => h d (List.mem_append_right _ hd)⟩
 | cond x a b iha ihb => exact fun h => ⟨iha fun d hd => h d (List.mem_append_left _ hd), ihb fun d hd => h d (List.mem_append_right _ hd)⟩
 | block i c ih => exact fun h => ih h
 | loop c ih => exact fun h => h c (by simp [allLoops])
 | _ => exact fun h => trivial
theorem loops_mk {X : Cx} {E : En} {c b : Code} (ids : List Nat) (h1 : allLoops c = ids.map fun l => loopAt l b) (h2 : (ids.map fun l => first (loopAt l b)) = ids) (h3 : ∀ l ∈ ids, ∀ L, E.lp l = some L → LoopOk X L (loopAt l b)) : LoopsOk X E c := by
 refine loops_all c fun d hd L hL => ?_
 rw [h1] at hd
 obtain ⟨l, hl, rfl⟩ := List.mem_map.1 hd
 have : first (loopAt l b) = l := by
  have key : ∀ (is : List Nat), (is.map fun l => first (loopAt l b)) = is → ∀ l ∈ is, first (loopAt l b) = l := by
   intro is
   induction is with
   | nil => intro _ l hl; simp at hl
   | cons i is ih =>
    intro e l hl
    simp only [List.map_cons, List.cons.injEq] at e
    rcases List.mem_cons.1 hl with rfl | hl
    ·exact e.1
    ·exact ih e.2 l hl
  exact key ids h2 l hl
 rw [this] at hL
 exact h3 l hl L hL
theorem env_ok {P : Program} {X : Cx} {E : En} {ti : TypeId → Option TI} {eqs : TypeId → Bool} (hP : X.P = P) (h1 : E.nt = X.nt) (h2 : E.np = X.np) (h3 : E.ti = ti) (h4 : E.eq = eqs) (htok : ∀ T t, ti T = some t → TOk P T t)
  (heq : ∀ T, eqs T = true → eqB P ti 9 T = true ∧ (match ti T with | some t => t.ag | none => false) = true ∧ P.eqGuardType P.depth T = false) (hc : ∀ f en, E.call f = some en → CallOk P f en) : EnvOk X E := by
 refine ⟨⟨h1, h2, fun T t h => ?_, fun T h G w w' x y l l' us vs b => ?_⟩, fun f en h => ?_⟩
 ·rw [hP]; rw [h3] at h; exact htok T t h
 ·rw [hP, h3]
  rw [h4] at h
  obtain ⟨e1, e2, e3⟩ := heq T h
  exact eq_ok htok e1 e2 e3 G w w' x y l l' us vs b
 ·rw [hP]; exact hc f en h
def consD {t : Ty} : {ts : List Ty} → t.den → Den ts → Den (t :: ts)
 | [], x, _ => x
 | _ :: _, x, y => (x, y)
theorem leavesD_cons {t : Ty} {ts : List Ty} {x : t.den} {y : Den ts} : leavesD (t :: ts) (consD x y) = leaves t x :: leavesD ts y := by
 cases ts <;> rfl
inductive Came (P : Program) (w : World) : (ps : List Par) → Den (ps.map Par.ty) → List Value → Prop
 | nil : Came P w [] () []
 | cons {ag : Bool} {t : Ty} {ps : List Par} {X : t.den} {Y : Den (ps.map Par.ty)} {u : Value} {us vs : List Value} (hn : noOw t = true) (hu : if ag then u = .agg vs.toArray else vs = [u])
   (hr : t.rep P (fun k => k < w.heap.size) w X vs) (h : Came P w ps Y us) : Came P w (.val ag t :: ps) (consD (t := t) (ts := ps.map Par.ty) X Y) (u :: us)
def oldO (w : World) : Nat → Lab := fun k => if k < w.heap.size then .fz else .no
theorem came_len {P : Program} {w : World} : ∀ {ps : List Par} {x : Den (ps.map Par.ty)} {us : List Value}, Came P w ps x us → us.length = ps.length := by
 intro ps x us h
 induction h with
 | nil => rfl
 | cons _ _ _ _ ih => simp [ih]
theorem came_args {P : Program} {w : World} {rg : Nat → Nat × Nat} {nv : Nat} {hs : List Value} : ∀ {ps : List Par} {x : Den (ps.map Par.ty)} {us : List Value} (i : Nat), Came P w ps x us → ArgsOk P (bare (oldO w) w) rg nv hs i ps (leavesD _ x) us := by
 intro ps x us i h
 induction h generalizing i with
 | nil => trivial
 | @cons ag t ps X Y u us vs hn hu hr h ih =>
  show ArgsOk P (bare (oldO w) w) rg nv hs i (.val ag t :: ps) (leavesD (t :: ps.map Par.ty) (consD X Y)) (u :: us)
  rw [leavesD_cons]
  refine ⟨⟨vs, hu, ?_⟩, ih (i + 1)⟩
  have h1 := lvs_rep (P := P) (G := fun k => oldO w k = .fz) (w := w) t X vs (Ty.rep_mono (fun k hk => by unfold oldO; rw [if_pos hk]) (fun _ _ => rfl) t X vs hr)
  rw [noOw_leaves t X hn]
  exact LfsOk.ofRep (S := bare (oldO w) w) h1 _ _
theorem law_walk {P : Program} {f : FuncId} {en : Ent} (hs : Sound P f en) {w : World} {us : List Value} {x : Den (en.ps.map Par.ty)} (hc : Came P w en.ps x us) (hnv : Nat.ble en.ps.length en.nv = true) {r : Den (en.rs.map Prod.snd ++ ptrOuts en.ps)} (hr : en.run x = some r)
  (hrs : en.rs = [(.one, .b)]) (hl : ∃ ls, leavesD _ r = [.sc (.bool true)] :: ls) : Calls P f us.toArray w (fun e w' => e = .returned (.bool true) ∧ Below w.heap.size w w') := by
 have htk : us.take en.nv = us := List.take_of_length_le (by rw [came_len hc]; exact Nat.le_of_ble_eq_true hnv)
 have hcalls := hs x r hr w (oldO w) (fun _ => (0, 0)) us (fun k hk => by
  unfold oldO at hk
  split at hk
  ·assumption
  ·exact (hk rfl).elim) (fun k b hk => by
  unfold oldO at hk
  split at hk <;> cases hk) (came_args 0 hc)
 rw [htk] at hcalls
 refine calls_mono hcalls ?_
 rintro e w' ⟨v, O', rfl, hF, _, hR, _⟩
 obtain ⟨ls, hl⟩ := hl
 rw [hl] at hR
 rw [hrs] at hR
 obtain ⟨l, ls', e1, h1⟩ := hR
 cases e1
 have h2 : LfsOk P (bare O' w') (fun _ => .tm 1 []) 0 [.sc (.bool true)] [v] := h1
 have hv : v = .bool true := h2.1.1
 subst hv
 exact ⟨rfl, hF.os, hF.tape, hF.out, hF.size, fun k hk => (hF.fz k hk (by unfold oldO; rw [if_pos hk])).2⟩
theorem open_arg {H' : Type} {enc : TypeId × Value → H'} {P : Program} {w : World} {base : Nat} {spare : Nat → Bool} {held : Bool} {ti : TypeId → Option TI} (htok : ∀ T t, ti T = some t → TOk P T t) (hcl : ∀ T, closeB P ti T = true)
  {T : TypeId} {t : TI} (hT : ti T = some t) {v : Value} {d : DataW H'} {p : List MemPlace} {b0 : Nat} (hv : Value.okWide P w .any b0 T v) (h : DataW.Trod enc P w base spare held T v d p)
  {ts : List TypeId} {ds : List (DataW H')} (hw : (DataW.weightsEach P ts ds).all (· ≤ reachBytes) = true) {j : Nat} (hj : ts[j]? = some T) (hd : ds[j]? = some d) :
  ∃ (X : t.ty.den) (vs : List Value), (if t.ag then v = .agg vs.toArray else vs = [v]) ∧ t.ty.rep P (fun k => k < w.heap.size) w X vs ∧ t.ty.fit ti X := by
 obtain ⟨n, hn⟩ := h
 obtain ⟨X, r, f⟩ := open_rep htok hcl n T t _ _ hT hn (fun m hm => by
  have := List.all_eq_true.1 hw m (DataW.weights_mem_each hj hd m hm)
  exact of_decide_eq_true this)
 refine ⟨X, _, ?_, r, f⟩
 have hc := hcl T
 unfold closeB at hc
 rw [hT] at hc
 unfold Value.okWide at hv
 split at hc
 ·rename_i e; cases e
 ·rename_i t0 fs e1 hu
  cases e1
  simp only [Bool.and_eq_true] at hc
  rw [hc.1]
  rw [hu] at hv
  obtain ⟨cs, rfl, _⟩ := hv
  simp [Value.cells]
 all_goals first
  | (cases hc; done)
  | (rename_i hu; rw [hu] at hv; simp only [Cell.okWide, hu] at hv; rename_i e1; cases e1; simp only [Bool.false_eq_true, if_false]; have hsz := Ty.rep_len _ _ _ r; cases v <;> first | (simp [Value.cells]; done) | (simp only [Cell.ok, hu] at hv; done) | (simp [Cell.ok, hu] at hv; done))
end Go.Proofs.YtgocagaijgcnmaaGreat.Vf
end

section
set_option linter.unusedVariables false
set_option linter.unusedSimpArgs false
namespace Go.Proofs.YtgocagaijgcnmaaGreat.Vf
open Go Go.RowKit
attribute [local irreducible] C H
def lk {α : Type} : List (Nat × α) → Nat → Option α
 | [], _ => none
 | (i, a) :: l, n => bif Nat.beq n i then some a else lk l n
structure LF where
 ins : Live
 alts : List (Ex × Live)
 f : Nat → ins.den → Option (AltD alts)
@[reducible] def LF.at (p : LF) (k : Nat) : Lp := ⟨p.ins, p.alts, p.f k⟩
structure Fd where
 nt : Nat
 nv : Nat
 nm : List Nat
 res : List Nat
 cs : Nat → List (FuncId × Ent) := fun _ => []
 ls : List (Nat × LF) := []
 hint : List (Nat × Ty) := []
 mv : List Nat := []
 gh : List (Nat × List Gh) := []
 opn : List Nat := []
 sh : Bool := false
 rf : Bool := false
def Fd.n (D : Fd) (ti : TypeId → Option TI) (eqs : TypeId → Bool) (k : Nat) : En :=
 ⟨D.nt, ti, eqs, D.nm.contains, D.res.contains, lk (D.cs k), fun l => match lk D.ls l with | some p => some (p.at k) | none => none, D.nv, lk D.hint, D.mv.contains, fun n => (lk D.gh n).getD [], D.opn.contains, fun _ => D.sh, D.rf⟩
theorem lk_mem {α : Type} : ∀ {l : List (Nat × α)} {n : Nat} {a : α}, lk l n = some a → n ∈ l.map Prod.fst
 | [], _, _, h => by cases h
 | (i, b) :: l, n, a, h => by
  unfold lk at h
  cases hb : Nat.beq n i with
  | true => rw [Nat.eq_of_beq_eq_true hb]; simp
  | false =>
   rw [hb, cond_false] at h
   exact List.mem_cons_of_mem _ (lk_mem h)
def AllC (P : Program) : List (FuncId × Ent) → Prop
 | [] => True
 | c :: l => CallOk P c.1 c.2 ∧ AllC P l
theorem allC_lk {P : Program} : ∀ {l : List (FuncId × Ent)} {f : FuncId} {en : Ent}, AllC P l → lk l f = some en → CallOk P f en
 | [], _, _, _, h => by cases h
 | (i, a) :: l, f, en, hc, h => by
  unfold lk at h
  cases hb : Nat.beq f i with
  | true =>
   rw [hb, cond_true] at h
   cases h
   rw [Nat.eq_of_beq_eq_true hb]
   exact hc.1
  | false => rw [hb, cond_false] at h; exact allC_lk hc.2 h
@[reducible] def bo (fn : Func) : Code := fn.body.getD .skip
structure SeatOk (P : Program) (ti : TypeId → Option TI) (eqs : TypeId → Bool) : Prop where
 tok : ∀ T t, ti T = some t → TOk P T t
 eq : ∀ T, eqs T = true → eqB P ti 9 T = true ∧ (match ti T with | some t => t.ag | none => false) = true ∧ P.eqGuardType P.depth T = false
 mix : P.follows .mixedOrders = true
def LK (P : Program) (fn : Func) (D : Fd) (l : Nat) (p : LF) : Prop := ∀ X : Cx, X.P = P → X.nt = fn.ntmps → X.np = D.nv → ∀ k, LoopOk X (p.at k) (loopAt l (bo fn))
def AllI (P : Program) (fn : Func) (D : Fd) : List Nat → Prop
 | [] => True
 | l :: r => (match lk D.ls l with | some p => LK P fn D l p | none => True) ∧ AllI P fn D r
theorem allI_lk {P : Program} {fn : Func} {D : Fd} {l : Nat} {p : LF} (hp : lk D.ls l = some p) : ∀ {r : List Nat}, AllI P fn D r → l ∈ r → LK P fn D l p
 | [], _, h => by cases h
 | i :: r, ha, h => by
  rcases List.mem_cons.1 h with rfl | h
  ·have := ha.1
   rw [hp] at this
   exact this
  ·exact allI_lk hp ha.2 h
section
variable {P : Program} {ti : TypeId → Option TI} {eqs : TypeId → Bool} {fn : Func}
theorem envK (hS : SeatOk P ti eqs) {D : Fd} {k : Nat} (hn : Nat.beq D.nt fn.ntmps = true) (hc : AllC P (D.cs k)) {X : Cx} (hP : X.P = P) (hx : X.nt = fn.ntmps) (hp : X.np = D.nv) : EnvOk X (D.n ti eqs k) :=
 env_ok hP ((Nat.eq_of_beq_eq_true hn).trans hx.symm) hp.symm rfl rfl hS.tok hS.eq (fun _ _ h => allC_lk hc h)
theorem drawK (hS : SeatOk P ti eqs) {D : Fd} {k : Nat} (hn : Nat.beq D.nt fn.ntmps = true) (hc : AllC P (D.cs k)) {X : Cx} (hP : X.P = P) (hx : X.nt = fn.ntmps) (hp : X.np = D.nv) : DrawOk X (D.n ti eqs k) :=
 draw_ok (envK hS hn hc hP hx hp) (by rw [hP]; exact hS.mix)
theorem loopsK {D : Fd} {k : Nat} {c : Code} {ids : List Nat} (h : (allLoops c, ids.map fun l => first (loopAt l (bo fn))) = (ids.map fun l => loopAt l (bo fn), ids)) (hi : AllI P fn D ids) {X : Cx} (hP : X.P = P) (hx : X.nt = fn.ntmps) (hp : X.np = D.nv) : LoopsOk X (D.n ti eqs k) c := by
 rw [Prod.mk.injEq] at h
 refine loops_mk (b := bo fn) ids h.1 h.2 fun l hl L hL => ?_
 have hL' : (match lk D.ls l with | some p => some (p.at k) | none => none) = some L := hL
 cases hp' : lk D.ls l with
 | none => rw [hp'] at hL'; cases hL'
 | some p =>
  rw [hp'] at hL'
  cases hL'
  exact allI_lk hp' hi hl X hP hx hp k
@[reducible] def LRow (ti : TypeId → Option TI) (eqs : TypeId → Bool) (fn : Func) (D : Fd) (l : Nat) (p : LF) : Prop := ∀ k x, evLoop (D.n ti eqs k) (p.at k) (loopAt l (bo fn)) x = p.f (k + 1) x
theorem mkL (hS : SeatOk P ti eqs) {D : Fd} {l : Nat} {p : LF} (ids : List Nat) (hn : Nat.beq D.nt fn.ntmps = true) (hc : ∀ k, AllC P (D.cs k)) (hi : AllI P fn D ids) (h : (allLoops (loopAt l (bo fn)), ids.map fun l => first (loopAt l (bo fn))) = (ids.map fun l => loopAt l (bo fn), ids)) (h0 : ∀ x, p.f 0 x = none) (hs : LRow ti eqs fn D l p) : LK P fn D l p :=
 fun X hP hx hp => loop_ok (ins := p.ins) (alts := p.alts) (f := p.f) (En' := D.n ti eqs) h0 hs (fun k => envK hS hn (hc k) hP hx hp) (fun k => drawK hS hn (hc k) hP hx hp) (fun k => loopsK h hi hP hx hp)
def chkF (fn : Func) (D : Fd) (en : Ent) : Bool := Nat.beq D.nt fn.ntmps && (Nat.ble fn.ntmps 1000 && (Nat.ble en.nv fn.ntmps && (Nat.beq en.nv D.nv && (fn.body.isSome && (!(fn.name == "runtime.NumGoroutine") && parsFit en)))))
theorem mkS (hS : SeatOk P ti eqs) {f : FuncId} {D : Fd} {k : Nat} {en : Ent} (ids : List Nat) (hf : P.funcs[f]? = some fn) (hc : AllC P (D.cs k)) (hi : AllI P fn D ids) (hk : chkF fn D en = true) (h : (allLoops (bo fn), ids.map fun l => first (loopAt l (bo fn))) = (ids.map fun l => loopAt l (bo fn), ids))
  (hr : ∀ x, evBody (D.n ti eqs k) (bo fn) fn.results.toList en x = en.run x) : CallOk P f en := by
 unfold chkF at hk
 simp only [Bool.and_eq_true, Bool.not_eq_true'] at hk
 obtain ⟨h1, h2, h3, h4, h5, h6, h7⟩ := hk
 have h4 := Nat.eq_of_beq_eq_true h4
 have hb : fn.body = some (bo fn) := by
  unfold bo
  cases hb : fn.body with
  | none => rw [hb] at h5; cases h5
  | some c => rfl
 refine ⟨⟨fn, hf, h6, by rw [hb]; rfl⟩, body_sound hf hb (Nat.le_of_ble_eq_true h2) (Nat.le_of_ble_eq_true h3) (fun X hP hx hp => ?_) (fun X hP hx hp => ?_) (fun X hP hx hp => ?_) h7 hr⟩
 ·exact envK hS h1 hc hP hx (hp.trans h4)
 ·exact drawK hS h1 hc hP hx (hp.trans h4)
 ·exact loopsK h hi hP hx (hp.trans h4)
theorem seatK {keys eqsL : List Nat} (hk : ∀ {T t}, ti T = some t → T ∈ keys) (h1 : (keys.all fun T => (match ti T with | some t => tokB P T t | none => true) && closeB P ti T) = true)
  (h2 : (eqsL.all fun T => eqB P ti 9 T && (match ti T with | some t => t.ag | none => false) && !(P.eqGuardType P.depth T)) = true) (he : eqs = fun T => eqsL.contains T) (hm : P.follows .mixedOrders = true) : SeatOk P ti eqs ∧ ∀ T, closeB P ti T = true := by
 refine ⟨⟨fun T t h => ?_, fun T h => ?_, hm⟩, fun T => ?_⟩
 ·have h3 := List.all_eq_true.1 h1 T (hk h)
  rw [Bool.and_eq_true, h] at h3
  exact tok_of _ _ _ h3.1
 ·rw [he] at h
  have h3 := List.all_eq_true.1 h2 T (List.elem_iff.1 h)
  simp only [Bool.and_eq_true, Bool.not_eq_true'] at h3
  exact ⟨h3.1.1, h3.1.2, h3.2⟩
 ·cases h : ti T with
  | none => unfold closeB; rw [h]
  | some t =>
   have h3 := List.all_eq_true.1 h1 T (hk h)
   rw [Bool.and_eq_true] at h3
   exact h3.2
end
end Go.Proofs.YtgocagaijgcnmaaGreat.Vf
end
