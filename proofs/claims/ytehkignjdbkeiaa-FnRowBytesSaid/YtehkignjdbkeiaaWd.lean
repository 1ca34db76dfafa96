/- A function's start. -/
import Derived.Test.YtehkignjdbkeiaaWc
set_option linter.unusedVariables false
set_option linter.unusedSimpArgs false
namespace Go.Proofs.Ytehkignjdbkeiaa.Vf
open Go

def bbS (us : List Value) : Nat → Nat × Nat := fun i => match us[i]? with
  | some (.pointer (some ad)) => (ad.block, ad.off)
  | _ => (0, 0)
def phS (us : List Value) (w : World) : Nat → Value := fun p => if p < 1000 then us.getD p undef else (w.cell? ⟨(bbS us (p / 1000 - 1)).1, (bbS us (p / 1000 - 1)).2 + p % 1000, none⟩).getD undef
def S0 (ps : List Par) (ls : List (List Lf)) (us : List Value) (O : Nat → Lab) (w : World) : Sit := ⟨O, bbS us, get (startP 0 ps ls), phS us w, w⟩

theorem C_div {b j : Nat} (h : j < 999) : C b j / 1000 - 1 = b ∧ C b j % 1000 = j ∧ ¬ C b j < 1000 := by unfold C; omega

theorem ups_mem : ∀ (b j : Nat) (l : List Lf) (A : Ab), ∀ e ∈ ups A (putCells b j l), e ∈ A ∨ ∃ n v x, l[n]? = some x ∧ e = (C b (j + n), v, .one x)
  | b, j, [], A, e, h => .inl h
  | b, j, x :: l, A, e, h => by
    rcases ups_mem b (j + 1) l (up A ⟨C b j, false, .one x⟩) e h with h | ⟨n, v, y, h1, h2⟩
    · rcases List.mem_cons.1 h with h | h
      · exact .inr ⟨0, _, x, rfl, by rw [Nat.add_zero]; exact h⟩
      · exact .inl h
    · exact .inr ⟨n + 1, v, y, by simpa using h1, by rw [show j + (n + 1) = j + 1 + n by omega]; exact h2⟩

/-- What a start's entries are. -/
theorem start_mem {P : Program} {S : Sit} {rg : Nat → Nat × Nat} : ∀ (ps : List Par) (i : Nat) (ls : List (List Lf)) (us : List Value), ArgsOk P S rg i ps ls us → ∀ e ∈ startP i ps ls,
    ∃ j p l u, us[j]? = some u ∧ j < ps.length ∧ l ∈ ls ∧ ArgOk P S rg (i + j) p l u ∧
      ((∃ ag t, p = .val ag t ∧ e = (i + j, 0, (bif ag then .agg l else .one (oneL l)))) ∨
       (∃ t t', p = .ptr t t' ∧ (e = (i + j, 0, .one (.bp (i + j) 0 0)) ∨ e = (H (i + j), 0, .one (.hd t.sz)) ∨ ∃ n v x, l[n]? = some x ∧ e = (C (i + j) n, v, .one x))))
  | [], i, [], [], _, e, he => by simp [startP] at he
  | [], i, [], _ :: _, h, _, _ => h.elim
  | [], i, _ :: _, _, h, _, _ => h.elim
  | _ :: _, i, [], _, h, _, _ => h.elim
  | _ :: _, i, _ :: _, [], h, _, _ => h.elim
  | p :: ps, i, l :: ls, u :: us, h, e, he => by
    obtain ⟨h1, h2⟩ := h
    have rest : e ∈ startP (i + 1) ps ls → ∃ j p' l' u', (u :: us)[j]? = some u' ∧ j < (p :: ps).length ∧ l' ∈ l :: ls ∧ ArgOk P S rg (i + j) p' l' u' ∧
      ((∃ ag t, p' = .val ag t ∧ e = (i + j, 0, (bif ag then .agg l' else .one (oneL l')))) ∨
       (∃ t t', p' = .ptr t t' ∧ (e = (i + j, 0, .one (.bp (i + j) 0 0)) ∨ e = (H (i + j), 0, .one (.hd t.sz)) ∨ ∃ n v x, l'[n]? = some x ∧ e = (C (i + j) n, v, .one x)))) := fun he => by
      obtain ⟨j, p', l', u', g1, g2, g3, g4, g5⟩ := start_mem ps (i + 1) ls us h2 e he
      refine ⟨j + 1, p', l', u', by simpa using g1, by simp only [List.length_cons]; omega, List.mem_cons_of_mem _ g3, ?_⟩
      rw [show i + (j + 1) = i + 1 + j by omega]
      exact ⟨g4, g5⟩
    cases p with
    | val ag t =>
      have he' : e = (i, 0, (bif ag then .agg l else .one (oneL l))) ∨ e ∈ startP (i + 1) ps ls := List.mem_cons.1 he
      rcases he' with he | he
      · exact ⟨0, .val ag t, l, u, rfl, by simp, by simp, h1, .inl ⟨ag, t, rfl, he⟩⟩
      · exact rest he
    | ptr t t' =>
      have he' : e ∈ (i, 0, .one (.bp i 0 0)) :: (H i, 0, .one (.hd t.sz)) :: (ups [] (putCells i 0 l) ++ startP (i + 1) ps ls) := he
      rcases List.mem_cons.1 he' with he | he
      · exact ⟨0, .ptr t t', l, u, rfl, by simp, by simp, h1, .inr ⟨t, t', rfl, .inl he⟩⟩
      · rcases List.mem_cons.1 he with he | he
        · exact ⟨0, .ptr t t', l, u, rfl, by simp, by simp, h1, .inr ⟨t, t', rfl, .inr (.inl he)⟩⟩
        · rcases List.mem_append.1 he with he | he
          · rcases ups_mem i 0 l [] e he with he | ⟨n, v, x, g1, g2⟩
            · cases he
            · exact ⟨0, .ptr t t', l, u, rfl, by simp, by simp, h1, .inr ⟨t, t', rfl, .inr (.inr ⟨n, v, x, g1, by rw [g2, Nat.zero_add, Nat.add_zero]⟩)⟩⟩
          · exact rest he

theorem args_len {P : Program} {S : Sit} {rg : Nat → Nat × Nat} : ∀ (ps : List Par) (i : Nat) (ls : List (List Lf)) (us : List Value), ArgsOk P S rg i ps ls us → us.length = ps.length
  | [], i, [], [], _ => rfl
  | [], i, [], _ :: _, h => h.elim
  | [], i, _ :: _, _, h => h.elim
  | _ :: _, i, [], _, h => h.elim
  | _ :: _, i, _ :: _, [], h => h.elim
  | _ :: ps, i, _ :: ls, _ :: us, h => by simp [args_len ps (i + 1) ls us h.2]

theorem LfsOk.get {P : Program} {S : Sit} {f : Nat → Lab} {l : List Lf} {us : List Value} {n : Nat} {x : Lf} (h : LfsOk P S f 0 l us) (hx : l[n]? = some x) : ∃ u, us[n]? = some u ∧ LfOk P S (f n) x u := by
  have hn : n < l.length := (List.getElem?_eq_some_iff.1 hx).1
  obtain ⟨x', u', e1, _, e3, e4⟩ := h.at n hn
  rw [List.getD_eq_getElem?_getD, hx] at e1
  simp only [Option.getD_some] at e1
  subst e1
  rw [Nat.zero_add] at e4
  exact ⟨u', e3, e4⟩

/-- A header among a start's entries is a pointer's. -/
theorem head_mem {P : Program} {O : Nat → Lab} {w : World} {rg : Nat → Nat × Nat} {ps : List Par} {ls : List (List Lf)} {us : List Value}
    (hmem : ∀ e ∈ startP 0 ps ls, ∃ j p l u, us[j]? = some u ∧ j < ps.length ∧ l ∈ ls ∧ ArgOk P (bare O w) rg (0 + j) p l u ∧
      ((∃ ag t, p = .val ag t ∧ e = (0 + j, 0, (bif ag then .agg l else .one (oneL l)))) ∨
       (∃ t t', p = .ptr t t' ∧ (e = (0 + j, 0, .one (.bp (0 + j) 0 0)) ∨ e = (H (0 + j), 0, .one (.hd t.sz)) ∨ ∃ n v x, l[n]? = some x ∧ e = (C (0 + j) n, v, .one x)))))
    (hsol : ∀ l ∈ ls, ∀ y ∈ l, solid y = true) (e : Nat × Nat × Sv) (he : e ∈ startP 0 ps ls) (b n : Nat) (hb : e.1 = H b) (hn : e.2.2 = .one (.hd n)) :
    ∃ (k o : Nat) (c : Array Value) (e0 : TypeId) (vs : List Value), bbS us b = (k, o) ∧ w.heap[k]? = some (.cells c e0 (0, 0)) ∧ O k = .bx b ∧ rg b = (o, n) ∧ o + n ≤ c.size ∧ n < 999 ∧ (∀ i, i < n → c[o + i]? = vs[i]?) ∧ n ≤ vs.length := by
  obtain ⟨j, p, l, u, g1, g2, g3, g4, g5⟩ := hmem e he
  simp only [Nat.zero_add] at g4 g5
  rcases g5 with ⟨ag, t, rfl, rfl⟩ | ⟨t, t', rfl, g5⟩
  · cases ag with
    | true => cases hn
    | false =>
      simp only [cond_false, Sv.one.injEq] at hn
      cases l with
      | nil => cases hn
      | cons x l =>
        cases l with
        | cons y l => cases hn
        | nil =>
          have := hsol _ g3 x (by simp)
          have hx : x = .hd n := hn
          rw [hx] at this
          simp [solid] at this
  · obtain ⟨k, o, c, e0, vs, rfl, f2, f3, f4, f5, f6, f7, f8, f9⟩ := g4
    have hbb : bbS us j = (k, o) := by unfold bbS; rw [g1]
    rcases g5 with rfl | rfl | ⟨i, v, x, hx, rfl⟩
    · cases hn
    · have hjb : j = b := H_inj hb
      subst hjb
      simp only [Sv.one.injEq, Lf.hd.injEq] at hn
      subst hn
      have hvl := f9.len
      exact ⟨k, o, c, e0, vs, hbb, f2, f3, f4, f5, f6, f8, by omega⟩
    · have := hsol _ g3 x (List.mem_of_getElem? hx)
      simp only [Sv.one.injEq] at hn
      rw [hn] at this
      simp [solid] at this

theorem start_ok {P : Program} {O : Nat → Lab} {w : World} {rg : Nat → Nat × Nat} {nt np : Nat} {ps : List Par} {ls : List (List Lf)} {us : List Value} (hnt : nt ≤ 1000) (hlt : ∀ k, O k ≠ .no → k < w.heap.size) (hbx : ∀ k b, O k = .bx b → b < ps.length ∧ ∃ c e f, w.heap[k]? = some (.cells c e f))
    (hargs : ArgsOk P (bare O w) rg 0 ps ls us) (hsol : ∀ l ∈ ls, ∀ y ∈ l, solid y = true) (hps : ps.length ≤ nt) :
    Okay ⟨P, O, w, rg, nt, np⟩ (S0 ps ls us O w) ⟨us.toArray ++ Array.replicate (nt - us.toArray.size) undef, []⟩ := by
  have hul := args_len ps 0 ls us hargs
  have hmem := start_mem ps 0 ls us hargs
  have hph : ∀ t, t < 1000 → phS us w t = us.getD t undef := fun t ht => by unfold phS; rw [if_pos ht]
  have hus : ∀ {j : Nat} {u : Value}, us[j]? = some u → us.getD j undef = u := fun h => by rw [List.getD_eq_getElem?_getD, h]; rfl
  refine ⟨hnt, hlt, ?_, ?_, ?_, fun t ht => ?_, ?_, rfl, ⟨rfl, rfl, rfl, Nat.le_refl _, fun k _ h => ⟨h, rfl⟩, fun k _ h => ⟨h, rfl⟩, fun k b hk h => ?_⟩⟩
  · refine get_all (Q := fun l s => SvOk P (S0 ps ls us O w) l s.2 (phS us w l)) (fun l => trivial) _ (fun e he => ?_)
    obtain ⟨j, p, l, u, g1, g2, g3, g4, g5⟩ := hmem e he
    simp only [Nat.zero_add] at g4 g5
    have hj : j < 1000 := by omega
    have hpj : phS us w j = u := by rw [hph j hj]; exact hus g1
    rcases g5 with ⟨ag, t, rfl, rfl⟩ | ⟨t, t', rfl, g5⟩
    · obtain ⟨vs, e1, e2⟩ := g4
      show SvOk P (S0 ps ls us O w) j _ (phS us w j)
      rw [hpj]
      have e3 := LfsOk.impM (S1 := bare O w) (S2 := S0 ps ls us O w) (f' := fun n => .pl j (if ag then [n] else [])) (fun x hx n u hu => LfOk.bare (S1 := bare O w) (S2 := S0 ps ls us O w) (hsol l g3 x hx) rfl (fun k hk => hk) (fun k hk => hk) hu) e2
      cases ag with
      | true => exact ⟨vs, e1, e3⟩
      | false =>
        simp only [Bool.false_eq_true, if_false] at e1
        subst e1
        cases l with
        | nil => exact e3.elim
        | cons x l =>
          cases l with
          | nil => exact e3.1
          | cons y l => exact e3.2.elim
    · obtain ⟨k, o, c, e0, vs, rfl, f2, f3, f4, f5, f6, f7, f8, f9⟩ := g4
      have hbb : bbS us j = (k, o) := by unfold bbS; rw [g1]
      rcases g5 with rfl | rfl | ⟨n, v, x, hx, rfl⟩
      · show LfOk P (S0 ps ls us O w) (.pl j []) (.bp j 0 0) (phS us w j)
        refine ⟨Nat.zero_le _, fun _ => ?_⟩
        rw [hpj]
        show _ = Value.pointer (some ⟨(bbS us j).1, (bbS us j).2 + 0, none⟩)
        rw [hbb]
        rfl
      · trivial
      · have hn : n < t.sz := by have := (List.getElem?_eq_some_iff.1 hx).1; omega
        obtain ⟨d1, d2, d3⟩ := C_div (b := j) (j := n) (by omega)
        obtain ⟨v', h1, h2⟩ := f9.get hx
        have hpc : phS us w (C j n) = v' := by
          unfold phS
          rw [if_neg d3, d1, d2, hbb]
          have f2' : w.heap[k]? = some (.cells c e0) := f2
          simp [World.cell?, f2', f8 n hn, h1]
        show LfOk P (S0 ps ls us O w) _ x (phS us w (C j n))
        rw [hpc]
        exact LfOk.bare (S1 := bare O w) (S2 := S0 ps ls us O w) (lab := .pl (C j n) []) (lab' := .pl (C j n) []) (hsol l g3 x (List.mem_of_getElem? hx)) rfl (fun k hk => hk) (fun k hk => hk) h2
  · have key := get_all (Q := fun l s => ∀ b n, l = H b → s.2 = .one (.hd n) → n < 999 ∧ ∃ c e, w.heap[(bbS us b).1]? = some (.cells c e (0, 0)) ∧ O (bbS us b).1 = .bx b ∧ (bbS us b).2 + n ≤ c.size ∧ ∀ j, j < n → c[(bbS us b).2 + j]? = some (phS us w (C b j)))
      (fun l b n _ h => by cases h) (startP 0 ps ls) (fun e he b n hb hn => by
        obtain ⟨k, o, c, e0, vs, k1, f2, f3, f4, f5, f6, f8, hvl⟩ := head_mem hmem hsol e he b n hb hn
        refine ⟨f6, c, e0, by rw [k1]; exact f2, by rw [k1]; exact f3, by rw [k1]; exact f5, fun i hi => ?_⟩
        obtain ⟨d1, d2, d3⟩ := C_div (b := b) (j := i) (by omega)
        have : phS us w (C b i) = vs.getD i undef := by
          unfold phS
          rw [if_neg d3, d1, d2, k1]
          simp [World.cell?, f2, f8 i hi]
        rw [this, k1, f8 i hi, List.getD_eq_getElem?_getD, List.getElem?_eq_getElem (by omega)]
        rfl)
    exact fun b n h => key (H b) b n rfl h
  · have key := get_all (Q := fun l s => ∀ b n, l = H b → s.2 = .one (.hd n) → ((bbS us b).1 < w.heap.size → O (bbS us b).1 = .bx b ∧ (rg b).1 ≤ (bbS us b).2 ∧ (bbS us b).2 + n ≤ (rg b).1 + (rg b).2) ∧ (b < np → (bbS us b).1 < w.heap.size))
      (fun l b n _ h => by cases h) (startP 0 ps ls) (fun e he b n hb hn => by
        obtain ⟨k, o, c, e0, vs, k1, f2, f3, f4, f5, f6, f8, hvl⟩ := head_mem hmem hsol e he b n hb hn
        rw [k1, f4]
        exact ⟨fun _ => ⟨f3, Nat.le_refl _, Nat.le_refl _⟩, fun _ => (Array.getElem?_eq_some_iff.1 f2).1⟩)
    exact fun b n h => key (H b) b n rfl h
  · show (us.toArray ++ Array.replicate (nt - us.toArray.size) undef).getD t undef = phS us w t
    have ht' : t < nt := ht
    rw [hph t (by omega)]
    by_cases h : t < us.length
    · simp [Array.getD_eq_getD_getElem?, Array.getElem?_append, h, List.getD_eq_getElem?_getD]
    · have h2 : us.getD t undef = undef := by rw [List.getD_eq_getElem?_getD, List.getElem?_eq_none (by omega)]; rfl
      rw [h2]
      simp [Array.getD_eq_getD_getElem?, Array.getElem?_append, h, Array.getElem?_replicate]
      split <;> rfl
  · simp; omega
  · obtain ⟨_, c, e, f, h1⟩ := hbx k b h
    exact ⟨h, c, c, e, f, h1, h1, rfl, fun _ _ => rfl⟩
end Go.Proofs.Ytehkignjdbkeiaa.Vf
