/- Rows: equal lists, drawn lists. -/
import Derived.Test.YtehkignjdbkeiaaYc
set_option linter.unusedVariables false
set_option linter.unusedSimpArgs false
namespace Go.Proofs.Ytehkignjdbkeiaa.Vf
open Go

theorem barr_beq (a b : ByteArray) : (a == b) = teq a b := beq_toListBytes a b

def reqB (a b : Row) : Bool := (a.1 == b.1) && ((a.2.1.1 == b.2.1.1) && ((a.2.1.2.1 == b.2.1.2.1) && ((a.2.1.2.2 == b.2.1.2.2) && ((a.2.2.1 == b.2.2.1) && (a.2.2.2 == b.2.2.2)))))

theorem reqB_iff {a b : Row} : reqB a b = true ↔ a = b := by
  unfold reqB
  simp only [Bool.and_eq_true, beq_iff_eq, barr_beq, teq_iff]
  constructor
  · rintro ⟨h1, h2, h3, h4, h5, h6⟩
    obtain ⟨n, ⟨t, s, d⟩, b1, z⟩ := a
    obtain ⟨n', ⟨t', s', d'⟩, b1', z'⟩ := b
    simp only at h1 h2 h3 h4 h5 h6
    subst h1 h2 h3 h4 h5 h6
    rfl
  · rintro rfl
    exact ⟨rfl, rfl, rfl, rfl, rfl, rfl⟩

theorem sameRows_l4 (a b : List Row) (hl : a.length = b.length) (hf : Few a) : ∀ (n i : Nat), a.length - i = n → i ≤ a.length →
    Tot (fun k => laws_sameRows_l4 k a b (i : Int)) (fun r => r = bif decide (a.drop i = b.drop i) then .inr () else .inl false) := by
  unfold Few at hf
  intro n
  induction n with
  | zero =>
    intro i hn hi
    refine Tot.succ ?_
    simp only [laws_sameRows_l4]
    refine Tot.ndec (by omega) (Tot.pure ?_)
    rw [List.drop_of_length_le (by omega), List.drop_of_length_le (by omega)]
    rfl
  | succ n ih =>
    intro i hn hi
    have hlt : i < a.length := by omega
    refine Tot.succ ?_
    simp only [laws_sameRows_l4]
    rw [show Int.toNat (i : Int) = i from Int.toNat_natCast i]
    refine Tot.dec (by omega) (Tot.dec (by omega) (Tot.dec (by omega) (Tot.dec (by omega) (Tot.dec (by omega) ?_))))
    rw [drop_cons (d := row0) hlt, drop_cons (d := row0) (show i < b.length by omega)]
    refine Tot.ite (fun h => ?_) (fun h => ?_)
    · have h' : reqB (a.getD i row0) (b.getD i row0) = false := (Bool.not_eq_true' _).mp h
      have hne : a.getD i row0 ≠ b.getD i row0 := fun e => by rw [reqB_iff.2 e] at h'; cases h'
      refine Tot.pure ?_
      rw [decide_eq_false (by intro e; exact hne (List.cons.inj e).1)]
      rfl
    · have h' : reqB (a.getD i row0) (b.getD i row0) = true := by
        have h2 : (!(reqB (a.getD i row0) (b.getD i row0))) = false := h
        cases hb : reqB (a.getD i row0) (b.getD i row0) with
        | true => rfl
        | false => rw [hb] at h2; cases h2
      have he := reqB_iff.1 h'
      rw [w64 (n := (i : Int) + 1) (by omega) (by omega)]
      refine (ih (i + 1) (by omega) (by omega)).mono ?_
      rintro r rfl
      rw [he]
      have : (b.getD i row0 :: a.drop (i + 1) = b.getD i row0 :: b.drop (i + 1)) ↔ (a.drop (i + 1) = b.drop (i + 1)) := by simp
      simp only [this]

theorem sameRows_tot (a b : List Row) (hf : Few a) (hf2 : Few b) : Tot (fun k => laws_sameRows k a b) (fun r => r = decide (a = b)) := by
  unfold laws_sameRows
  refine Tot.ite (fun h => ?_) (fun h => ?_)
  · refine Tot.pure ?_
    have : a ≠ b := fun e => by subst e; simp at h
    rw [decide_eq_false this]
  · have hl : a.length = b.length := by
      simp only [bne_eq_false_iff_eq] at h
      omega
    refine Tot.bind (sameRows_l4 a b hl hf _ 0 rfl (Nat.zero_le _)) ?_
    rintro r rfl
    rw [List.drop_zero, List.drop_zero]
    cases decide (a = b) with
    | true => exact Tot.pure rfl
    | false => exact Tot.pure rfl

/-! ### What is merged -/
theorem findN_none {s : ByteArray} : ∀ (l : List Row) (i : Nat), findN s l i = none → ∀ r ∈ l, r.1 ≠ s
  | [], _, _, r, hr => by simp at hr
  | a :: l, i, h, r, hr => by
    unfold findN at h
    cases ht : teq a.1 s with
    | true => rw [ht] at h; simp at h
    | false =>
      rw [ht] at h
      rcases List.mem_cons.1 hr with rfl | hr
      · intro e
        rw [teq_iff.2 e] at ht
        cases ht
      · exact findN_none l (i + 1) h r hr

theorem mrg_len (l : List Row) (x : Row) : l.length ≤ (mrg l x).length ∧ (mrg l x).length ≤ l.length + 1 := by
  unfold mrg
  have hc := cutN_le l x.1 l.length
  split
  · cases rless (l.getD _ row0) x <;> simp
  · simp only [List.length_append, List.length_take, List.length_cons, List.length_drop]
    omega

theorem mem_mrg {l : List Row} {x r : Row} (h : r ∈ mrg l x) : r = x ∨ r ∈ l := by
  unfold mrg at h
  split at h
  · rename_i j hj
    cases hb : rless (l.getD j row0) x with
    | false => rw [hb] at h; exact .inr h
    | true =>
      rw [hb, cond_true] at h
      rcases List.mem_or_eq_of_mem_set h with h | h
      · exact .inr h
      · exact .inl h
  · rcases List.mem_append.1 h with h | h
    · exact .inr (List.mem_of_mem_take h)
    · rcases List.mem_cons.1 h with h | h
      · exact .inl h
      · exact .inr (List.mem_of_mem_drop h)

theorem sle_irrefl (a : Stp) : sle a a = false := by
  cases h : sle a a with
  | false => rfl
  | true => rw [sle_iff] at h; omega

theorem rless_stamp {a b : Row} (h : rless a b = false) : sle a.2.1 b.2.1 = false := by
  unfold rless at h
  cases hs : (!((a.2.1.1 == b.2.1.1) && ((a.2.1.2.1 == b.2.1.2.1) && (a.2.1.2.2 == b.2.1.2.2)))) with
  | true => rw [hs] at h; exact h
  | false =>
    simp only [Bool.not_eq_false', Bool.and_eq_true, beq_iff_eq] at hs
    cases hl : sle a.2.1 b.2.1 with
    | false => rfl
    | true => rw [sle_iff] at hl; omega

/-- The row is there, or a later one of its name. -/
theorem mrg_has (l : List Row) (x : Row) : ∃ r ∈ mrg l x, r.1 = x.1 ∧ sle r.2.1 x.2.1 = false := by
  unfold mrg
  split
  · rename_i j hj
    obtain ⟨_, h2, h3⟩ := findN_drop l 0 j hj
    rw [Nat.sub_zero] at h3
    have hjl : j < l.length := by omega
    cases hb : rless (l.getD j row0) x with
    | true => exact ⟨x, by rw [cond_true]; exact List.mem_set hjl x, rfl, sle_irrefl _⟩
    | false =>
      refine ⟨l.getD j row0, ?_, teq_iff.1 h3, rless_stamp hb⟩
      rw [cond_false, List.getD_eq_getElem?_getD, List.getElem?_eq_getElem hjl]
      exact List.getElem_mem hjl
  · exact ⟨x, by simp, rfl, sle_irrefl _⟩

/-! ### Drawn rows -/
def RowsSorted (l : List Row) : Prop := l.Pairwise (fun a b => tlt a.1 b.1 = true)

theorem cutN_spec {l : List Row} {s : ByteArray} (hs : RowsSorted l) (hn : ∀ r ∈ l, r.1 ≠ s) : ∀ k, k ≤ l.length → (∀ i, i < cutN l s k → tlt (l.getD i row0).1 s = true) ∧ (∀ i, cutN l s k ≤ i → i < k → tlt s (l.getD i row0).1 = true)
  | 0, _ => ⟨fun i hi => by simp [cutN] at hi, fun i _ hi => by omega⟩
  | k + 1, hk => by
    unfold cutN
    cases ht : tlt s (l.getD k row0).1 with
    | true =>
      simp only [cond_true]
      obtain ⟨h1, h2⟩ := cutN_spec hs hn k (by omega)
      refine ⟨h1, fun i hi hik => ?_⟩
      by_cases e : i = k
      · subst e; exact ht
      · exact h2 i hi (by omega)
    | false =>
      simp only [cond_false]
      refine ⟨fun i hi => ?_, fun i hi hik => by omega⟩
      have hget : ∀ j (hj : j < l.length), l.getD j row0 = l[j] := fun j hj => by rw [List.getD_eq_getElem?_getD, List.getElem?_eq_getElem hj]; rfl
      have hkl : k < l.length := by omega
      have hks : tlt (l.getD k row0).1 s = true := by
        cases h : tlt (l.getD k row0).1 s with
        | true => rfl
        | false =>
          exfalso
          exact hn (l.getD k row0) (by rw [hget k hkl]; exact List.getElem_mem hkl) (tlt_tri h ht)
      by_cases e : i = k
      · subst e; exact hks
      · have h3 := (List.pairwise_iff_getElem.1 hs) i k (by omega) hkl (by omega)
        rw [hget i (by omega)]
        rw [hget k hkl] at hks
        exact tlt_trans h3 hks

theorem mrg_sorted {l : List Row} {x : Row} (hs : RowsSorted l) : RowsSorted (mrg l x) := by
  have hget : ∀ j (hj : j < l.length), l.getD j row0 = l[j] := fun j hj => by rw [List.getD_eq_getElem?_getD, List.getElem?_eq_getElem hj]; rfl
  unfold mrg
  split
  · rename_i j hj
    obtain ⟨_, h2, h3⟩ := findN_drop l 0 j hj
    rw [Nat.sub_zero] at h3
    have hjl : j < l.length := by omega
    have hname : l[j].1 = x.1 := by rw [← hget j hjl]; exact teq_iff.1 h3
    cases hb : rless (l.getD j row0) x with
    | false => exact hs
    | true =>
      rw [cond_true]
      unfold RowsSorted
      rw [List.pairwise_iff_getElem]
      intro a b ha hb hab
      rw [List.length_set] at ha hb
      have := (List.pairwise_iff_getElem.1 hs) a b ha hb hab
      rw [List.getElem_set, List.getElem_set]
      by_cases e1 : j = a
      · subst e1
        rw [if_pos rfl, if_neg (by omega), ← hname]
        exact this
      · rw [if_neg e1]
        by_cases e2 : j = b
        · subst e2
          rw [if_pos rfl, ← hname]
          exact this
        · rw [if_neg e2]
          exact this
  · rename_i hj
    have hn := findN_none l 0 hj
    obtain ⟨c1, c2⟩ := cutN_spec hs hn l.length (Nat.le_refl _)
    have hc := cutN_le l x.1 l.length
    unfold RowsSorted
    rw [List.pairwise_append, List.pairwise_cons]
    refine ⟨List.Pairwise.sublist (List.take_sublist _ _) hs, ⟨fun r hr => ?_, List.Pairwise.sublist (List.drop_sublist _ _) hs⟩, fun r hr q hq => ?_⟩
    · obtain ⟨i, hi, rfl⟩ := List.getElem_of_mem hr
      rw [List.length_drop] at hi
      rw [List.getElem_drop, ← hget _ (by omega)]
      exact c2 _ (by omega) (by omega)
    · obtain ⟨i, hi, rfl⟩ := List.getElem_of_mem hr
      rw [List.length_take] at hi
      have h1 : tlt (List.take (cutN l x.1 l.length) l)[i].1 x.1 = true := by
        rw [List.getElem_take, ← hget _ (by omega)]
        exact c1 i (by omega)
      rcases List.mem_cons.1 hq with rfl | hq
      · exact h1
      · refine tlt_trans h1 ?_
        obtain ⟨m, hm, rfl⟩ := List.getElem_of_mem hq
        rw [List.length_drop] at hm
        rw [List.getElem_drop, ← hget _ (by omega)]
        exact c2 _ (by omega) (by omega)

/-- A drawn listing that is right. -/
def RowsIn (l : List Row) : Prop := RowsSorted l ∧ (∀ r ∈ l, RowIn r)

theorem l11Draw_loop : ∀ (n : Nat) (l : List Row) (i : Int) (c : Cur), CurOk c → 0 ≤ i → i = n → RowsIn l → l.length + n ≤ 5 →
    Tot (fun k => spec_l11Draw_l3 k l i c.1 c.2.1 c.2.2) (fun r => CurOk r.2 ∧ RowsIn r.1 ∧ r.1.length ≤ 5) := by
  intro n
  induction n with
  | zero =>
    intro l i c hc h0 hi hr hl
    refine Tot.succ ?_
    simp only [spec_l11Draw_l3]
    exact Tot.ndec (by omega) (Tot.pure ⟨hc, hr, by show l.length ≤ 5; omega⟩)
  | succ n ih =>
    intro l i c hc h0 hi hr hl
    refine Tot.succ ?_
    simp only [spec_l11Draw_l3]
    refine Tot.dec (by omega) ?_
    refine Tot.bind (l11One_tot c hc) (fun r h => ?_)
    refine Tot.bind (specMerge l r.1 (by unfold Few; omega)) ?_
    rintro m rfl
    rw [w64 (n := i - 1) (by omega) (by omega)]
    refine ih _ _ r.2 h.2 (by omega) (by omega) ⟨mrg_sorted hr.1, fun y hy => ?_⟩ (by have := (mrg_len l r.1).2; omega)
    rcases mem_mrg hy with rfl | hy
    · exact h.1
    · exact hr.2 y hy

theorem l11Draw_tot (c : Cur) (hc : CurOk c) : Tot (fun k => spec_l11Draw k c) (fun r => CurOk r.2 ∧ RowsIn r.1 ∧ r.1.length ≤ 5) := by
  unfold spec_l11Draw
  obtain ⟨x, c', e, x0, x1, _, k⟩ := l1Below_ok c hc 6 (by decide)
  have x1 := x1 (by decide)
  refine Tot.bind (Tot.of (Q := fun r => r = (x, c')) e rfl) ?_
  rintro r rfl
  refine Tot.bind (l11Draw_loop x.toNat [] x c' k x0 (by omega) ⟨List.Pairwise.nil, by simp⟩ (by simp only [List.length_nil]; omega)) (fun r hr => Tot.pure hr)

theorem l11Any_tot (c : Cur) (hc : CurOk c) : Tot (fun k => spec_l11Any k c) (fun r => CurOk r.2 ∧ r.1.length ≤ 6) := by
  unfold spec_l11Any
  refine Tot.bind (l11Draw_tot c hc) (fun r hr => ?_)
  obtain ⟨k1, hr1, hl⟩ := hr
  obtain ⟨x, c', e, _, _, _, k2⟩ := l1Below_ok r.2 k1 8 (by decide)
  refine Tot.bind (Tot.of (Q := fun r => r = (x, c')) e rfl) ?_
  rintro y rfl
  refine Tot.ite (fun _ => ?_) (fun _ => ?_)
  · refine Tot.bind (l11One_tot c' k2) (fun z hz => ?_)
    refine Tot.ble (by simp only [List.length_cons, List.length_nil]; omega) (Tot.pure ⟨hz.2, ?_⟩)
    show (r.1 ++ [z.1]).length ≤ 6
    simp only [List.length_append, List.length_cons, List.length_nil]
    omega
  · refine Tot.ite (fun _ => ?_) (fun _ => Tot.pure ⟨k2, by show r.1.length ≤ 6; omega⟩)
    refine Tot.dite (fun h => ?_) (fun h => Tot.pure ⟨k2, by show r.1.length ≤ 6; omega⟩)
    obtain ⟨v, c3, e3, _, k3⟩ := l1Int_ok c' k2 [(-1), 201, 200] (by decide) (by decide)
    refine Tot.bind (Tot.of (Q := fun r => r = (v, c3)) e3 rfl) ?_
    rintro z rfl
    refine Tot.dec (by omega) (Tot.pure ⟨k3, ?_⟩)
    show (List.set r.1 _ _).length ≤ 6
    rw [List.length_set]
    omega
end Go.Proofs.Ytehkignjdbkeiaa.Vf
