/- What comes in, of whatever type: a value that reads so. -/
import Derived.Test.YtehkignjdbkeiaaWm
import Derived.ChangeArms
import Derived.SizedLaws
import Derived.DataReads
set_option linter.unusedVariables false
set_option linter.unusedSimpArgs false
namespace Go.Proofs.Ytehkignjdbkeiaa.Vf
open Go
attribute [local irreducible] C H

/-- Of a type's values: those that can come in. -/
def Ty.fit (ti : TypeId → Option TI) : (t : Ty) → t.den → Prop
  | .i k, n => (Lit.int k n).wf = true
  | .b, _ => True
  | .s, x => x.size ≤ 140737488351232
  | .sl e r, xs => (∀ te, ti e = some te → xs.length * te.by_ ≤ 140737488351232) ∧ ∀ x ∈ xs, r.fit ti x
  | .ow e r, xs => (∀ te, ti e = some te → xs.length * te.by_ ≤ 140737488351232) ∧ ∀ x ∈ xs, r.fit ti x
  | .pr x y, p => x.fit ti p.1 ∧ y.fit ti p.2

def isTy (ti : TypeId → Option TI) (T : TypeId) (ty : Ty) : Bool := match ti T with
  | some t => decide (t.ty = ty)
  | none => false

def prodB (ti : TypeId → Option TI) : List Field → Nat → Ty → Bool
  | [], _, _ => false
  | [f], o, ty => Nat.beq f.offset o && isTy ti f.type ty
  | f :: g :: fs, o, .pr x y => Nat.beq f.offset o && isTy ti f.type x && prodB ti (g :: fs) (o + x.sz) y
  | _, _, _ => false

def closeB (P : Program) (ti : TypeId → Option TI) (T : TypeId) : Bool := match ti T, P.underlying T with
  | none, _ => true
  | some t, some (.struct fs) => t.ag && prodB ti fs.toList 0 t.ty
  | some ⟨.sl e r, false, _, _⟩, some (.slice e') => Nat.beq e e' && isTy ti e r
  | some ⟨.i k, false, _, _⟩, some (.int k') => decide (k = k')
  | some ⟨.b, false, _, _⟩, some .bool => true
  | some ⟨.s, false, _, _⟩, some .string => true
  | _, _ => false

section
variable {H' : Type} {enc : TypeId × Value → H'} {P : Program} {w : World} {base : Nat} {spare : Nat → Bool} {held : Bool} {ti : TypeId → Option TI}

theorem isTy_some {T : TypeId} {ty : Ty} (h : isTy ti T ty = true) : ∃ t, ti T = some t ∧ t.ty = ty := by
  unfold isTy at h
  split at h
  · rename_i t ht
    exact ⟨t, ht, of_decide_eq_true h⟩
  · cases h

theorem tok_cells {T : TypeId} {t : TI} (h : TOk P T t) : P.cellsOf T = t.ty.sz := by
  unfold Program.cellsOf
  rw [tok_size h]
  rfl

theorem tok_bytes {T : TypeId} {t : TI} (h : TOk P T t) : P.bytesOf T = t.by_ := by
  obtain ⟨i, h1, _, h2, _⟩ := h.info
  unfold Program.bytesOf
  rw [h1]
  exact h2

/-- Rows out of their elements. -/
theorem rows_of {α : Type} {R : α → List Value → Prop} {Fit : α → Prop} {k o n : Nat} : ∀ (len : Nat), (∀ i, i < len → ∃ x c, R x c ∧ Fit x ∧ c.length = n ∧ CellsAt w k (o + i * n) c) →
    ∃ (xs : List α) (cs : List Value), xs.length = len ∧ Rows R xs cs ∧ (∀ x ∈ xs, Fit x) ∧ cs.length = len * n ∧ CellsAt w k o cs
  | 0, _ => ⟨[], [], rfl, rfl, by simp, by simp, by intro j u hj; simp at hj⟩
  | len + 1, h => by
    obtain ⟨xs, cs, h1, h2, h3, h4, h5⟩ := rows_of len (fun i hi => h i (by omega))
    obtain ⟨x, c, g1, g2, g3, g4⟩ := h len (by omega)
    refine ⟨xs ++ [x], cs ++ c, by simp [h1], Rows.append h2 ⟨c, [], by simp, g1, rfl⟩, ?_, ?_, ?_⟩
    · intro y hy
      rcases List.mem_append.1 hy with hy | hy
      · exact h3 y hy
      · simp at hy; subst hy; exact g2
    · rw [List.length_append, h4, g3, Nat.add_mul, Nat.one_mul]
    · intro j u hj
      by_cases hlt : j < cs.length
      · rw [List.getElem?_append_left hlt] at hj
        exact h5 j u hj
      · rw [List.getElem?_append_right (by omega)] at hj
        have := g4 (j - cs.length) u hj
        rw [h4] at this hlt
        rwa [show o + len * n + (j - len * n) = o + j by omega] at this

theorem cells_at {a : Addr} {n : Nat} {cs : List Value} (h : w.cells? base a n = some cs) (hn : 0 < n) : a.spot = none ∧ a.block < w.heap.size ∧ cs.length = n ∧ CellsAt w a.block a.off cs := by
  unfold World.cells? at h
  split at h
  · have hl := mapM_some_length h
    have hg := fun i hi => mapM_some_get h i i hi
    simp only [List.length_range] at hl
    have h0 : w.cell? (a.add 0) = cs[0]? := hg 0 (by simp [hn])
    have hc0 : ∃ v, cs[0]? = some v := ⟨_, List.getElem?_eq_getElem (by omega)⟩
    obtain ⟨v, hv⟩ := hc0
    rw [hv] at h0
    have hspot : a.spot = none ∧ a.block < w.heap.size := by
      unfold World.cell? at h0
      split at h0
      · rename_i c e f hb
        refine ⟨?_, (Array.getElem?_eq_some_iff.1 hb).1⟩
        cases hs : a.spot with
        | none => rfl
        | some s => simp [Addr.add, hs] at h0
      · cases h0
    refine ⟨hspot.1, hspot.2, hl, fun j u hj => ?_⟩
    have hjl : j < n := by have := (List.getElem?_eq_some_iff.1 hj).1; omega
    have := hg j (by simp [hjl])
    rw [hj] at this
    obtain ⟨b, off, sp⟩ := a
    have hsp : sp = none := hspot.1
    subst hsp
    rw [add_none] at this
    exact this
  · cases h

theorem weights_all {T : TypeId} : ∀ {ds : List (DataW H')} {m : Nat}, m ∈ DataW.weightsAll P T ds ↔ ∃ d ∈ ds, m ∈ d.weights P T
  | [], m => by simp [DataW.weightsAll]
  | d :: ds, m => by
    simp only [DataW.weightsAll, List.mem_append, List.mem_cons, weights_all (ds := ds)]
    constructor
    · rintro (h | ⟨d', h1, h2⟩)
      · exact ⟨d, .inl rfl, h⟩
      · exact ⟨d', .inr h1, h2⟩
    · rintro ⟨d', rfl | h1, h2⟩
      · exact .inl h2
      · exact .inr ⟨d', h1, h2⟩

/-- A type's reading, for fuel. -/
def Opens (enc : TypeId × Value → H') (P : Program) (w : World) (base : Nat) (spare : Nat → Bool) (held : Bool) (ti : TypeId → Option TI) (n : Nat) : Prop :=
  ∀ T t cs y, ti T = some t → DataW.trod enc P w base spare held n T cs = some y → (∀ m ∈ y.1.weights P T, m ≤ 140737488351232) → ∃ X : t.ty.den, t.ty.rep P (fun k => k < w.heap.size) w X cs ∧ t.ty.fit ti X

theorem open_fields (htok : ∀ T t, ti T = some t → TOk P T t) {n : Nat} (ih : Opens enc P w base spare held ti n) {cs : List Value} : ∀ (fs : List Field) (o : Nat) (ty : Ty) (xs : List (DataW H' × List MemPlace)), prodB ti fs o ty = true → xs.length = fs.length →
    (∀ (i : Nat) (f : Field), fs[i]? = some f → DataW.trod enc P w base spare held n f.type ((cs.drop f.offset).take (P.cellsOf f.type)) = xs[i]?) → (∀ m ∈ DataW.weightsEach P (fs.map (·.type)) (xs.map (·.1)), m ≤ 140737488351232) → o + ty.sz ≤ cs.length →
    ∃ X : ty.den, ty.rep P (fun k => k < w.heap.size) w X ((cs.drop o).take ty.sz) ∧ ty.fit ti X
  | [], o, ty, xs, hp, _, _, _, _ => by cases ty <;> simp [prodB] at hp
  | [f], o, ty, xs, hp, hl, ht, hw, hs => by
    simp only [prodB, Bool.and_eq_true] at hp
    obtain ⟨t, h1, h2⟩ := isTy_some hp.2
    have ho : f.offset = o := Nat.eq_of_beq_eq_true hp.1
    subst h2
    have e := ht 0 f rfl
    cases xs with
    | nil => simp at hl
    | cons y xs =>
      have e' : DataW.trod enc P w base spare held n f.type ((cs.drop f.offset).take (P.cellsOf f.type)) = some y := by simpa using e
      rw [tok_cells (htok _ _ h1), ho] at e'
      exact ih f.type t _ y h1 e' (fun m hm => hw m (by simp [DataW.weightsEach, hm]))
  | f :: g :: fs, o, ty, xs, hp, hl, ht, hw, hs => by
    cases ty <;> first | (simp [prodB] at hp; done) | skip
    rename_i x y
    simp only [prodB, Bool.and_eq_true] at hp
    obtain ⟨⟨h0, h1a⟩, hp⟩ := hp
    obtain ⟨t, h1, h2⟩ := isTy_some h1a
    have ho : f.offset = o := Nat.eq_of_beq_eq_true h0
    subst h2
    have e := ht 0 f rfl
    cases xs with
    | nil => simp at hl
    | cons z xs =>
      have e' : DataW.trod enc P w base spare held n f.type ((cs.drop f.offset).take (P.cellsOf f.type)) = some z := by simpa using e
      rw [tok_cells (htok _ _ h1), ho] at e'
      have hsz : o + (t.ty.sz + y.sz) ≤ cs.length := hs
      obtain ⟨X, r1, f1⟩ := ih f.type t _ z h1 e' (fun m hm => hw m (by simp [DataW.weightsEach, hm]))
      obtain ⟨Y, r2, f2⟩ := open_fields htok ih (g :: fs) (o + t.ty.sz) y xs hp (by simpa using hl) (fun i f' hf' => by have := ht (i + 1) f' hf'; simpa using this) (fun m hm => hw m (by
        simp only [List.map_cons, DataW.weightsEach, List.mem_append]
        exact .inr hm)) (by omega)
      refine ⟨(X, Y), ⟨_, _, ?_, r1, r2⟩, f1, f2⟩
      show (cs.drop o).take (t.ty.sz + y.sz) = _
      rw [List.take_add, List.drop_drop]

theorem open_rep (htok : ∀ T t, ti T = some t → TOk P T t) (hcl : ∀ T, closeB P ti T = true) : ∀ n, Opens enc P w base spare held ti n
  | 0 => by
    intro T t cs y _ h
    simp [DataW.trod] at h
  | n + 1 => by
    intro T t cs y hT h hw
    have hc := hcl T
    have hk := htok T t hT
    unfold closeB at hc
    rw [hT] at hc
    split at hc
    · rename_i e; cases e
    · -- a struct
      rename_i t0 fs e1 hu
      cases e1
      simp only [Bool.and_eq_true] at hc
      obtain ⟨xs, n', e1, rfl, hl, hxl, hx⟩ := DataW.trod_struct hu h
      have : n' = n := by omega
      subst this
      rw [tok_cells hk] at hl
      have hw' : ∀ m ∈ DataW.weightsEach P (fs.toList.map (·.type)) (xs.map (·.1)), m ≤ 140737488351232 := fun m hm => hw m (by simp only [DataW.weights, hu]; exact hm)
      obtain ⟨X, r, f⟩ := open_fields htok (open_rep htok hcl n') fs.toList 0 t.ty xs hc.2 (by simpa using hxl) (fun i f hf => hx i f (by simpa using hf)) hw' (by omega)
      rw [List.drop_zero, ← hl, List.take_length] at r
      exact ⟨X, r, f⟩
    · -- a slice
      rename_i e r by_ fo e' e1 hu
      cases e1
      simp only [Bool.and_eq_true] at hc
      obtain ⟨te, hte, hty⟩ := isTy_some hc.2
      have he : e = e' := Nat.eq_of_beq_eq_true hc.1
      subst he
      subst hty
      have hke := htok e te hte
      have hsz : SzOk P e te.ty.sz := tok_size hke
      rcases DataW.trod_slice hu h with ⟨rfl, rfl⟩ | ⟨a, len, cap, elems, rest, n', e1, rfl, rfl, hb, hl, hm, hlen, hel, hsp, hns⟩
      · exact ⟨[], ⟨_, rfl, hsz, none, 0, [], rfl, Nat.le_refl _, rfl, fun h => (h rfl).elim⟩, by simp, by simp⟩
      · have : n' = n := by omega
        subst this
        have hlw : (elems.map (·.1)).length + (rest.map (·.1)).length = elems.length + rest.length := by simp
        have hw0 : (elems.length + rest.length) * P.bytesOf e ≤ 140737488351232 := hw _ (by simp only [DataW.weights, hu]; simp)
        rw [tok_bytes hke] at hw0
        rw [tok_cells hke] at hel
        have hpos := sz_pos te.ty
        have each : ∀ i, i < len → ∃ x c, te.ty.rep P (fun k => k < w.heap.size) w x c ∧ te.ty.fit ti x ∧ c.length = te.ty.sz ∧ ((i = 0 → a.spot = none) ∧ a.block < w.heap.size) ∧ CellsAt w a.block (a.off + i * te.ty.sz) c := by
          intro i hi
          have e1 := hel i hi
          rw [List.getElem?_eq_getElem (by omega)] at e1
          simp only [Option.bind_eq_some_iff] at e1
          obtain ⟨c, hc1, hc2⟩ := e1
          obtain ⟨g1, g2, g3, g4⟩ := cells_at hc1 hpos
          obtain ⟨X, r1, f1⟩ := open_rep htok hcl n' e te c _ hte hc2 (fun m hm => hw m (by
            simp only [DataW.weights, hu, List.mem_cons, List.mem_append]
            exact .inr (.inl (weights_all.2 ⟨_, List.mem_map_of_mem (List.getElem_mem (l := elems) (n := i) (by omega)), hm⟩))))
          have hblk : (a.add (i * te.ty.sz)).block = a.block ∧ (a.add (i * te.ty.sz)).off = a.off + i * te.ty.sz := by
            unfold Addr.add
            split
            · rename_i h0; exact ⟨rfl, by omega⟩
            · exact ⟨rfl, rfl⟩
          rw [hblk.1, hblk.2] at g4
          rw [hblk.1] at g2
          refine ⟨X, c, r1, f1, g3, ⟨fun h0 => ?_, g2⟩, g4⟩
          subst h0
          rw [Nat.zero_mul] at g1
          exact g1
        obtain ⟨xs, cs, h1, h2, h3, h4, h5⟩ := rows_of (w := w) (k := a.block) (o := a.off) (n := te.ty.sz) (R := fun x c => te.ty.rep P (fun k => k < w.heap.size) w x c) (Fit := te.ty.fit ti) len (fun i hi => by
          obtain ⟨x, c, q1, q2, q3, q4, q5⟩ := each i hi
          exact ⟨x, c, q1, q2, q3, q5⟩)
        refine ⟨xs, ⟨_, rfl, hsz, some a, cap, cs, by rw [h1], by omega, h2, fun hne => ?_⟩, fun te' ht' => ?_, h3⟩
        · have hpos : 0 < len := by rw [← h1]; cases xs with | nil => exact (hne rfl).elim | cons => simp
          obtain ⟨x, c, q1, q2, q3, q4, q5⟩ := each 0 hpos
          refine ⟨a.block, a.off, ?_, q4.2, h5⟩
          obtain ⟨b, off, sp⟩ := a
          have hsp : sp = none := q4.1 rfl
          rw [hsp]
        · rw [hte] at ht'
          cases ht'
          rw [h1, ← hlen]
          exact Nat.le_trans (Nat.mul_le_mul_right _ (Nat.le_add_right _ _)) hw0
    · rename_i k by_ fo k' e1 hu
      cases e1
      have : k = k' := of_decide_eq_true hc
      subst this
      obtain ⟨m, rfl, rfl, hwf⟩ := DataW.trod_int hu h
      exact ⟨m, rfl, hwf⟩
    · rename_i by_ fo e1 hu
      cases e1
      obtain ⟨b, rfl, rfl⟩ := DataW.trod_bool hu h
      exact ⟨b, rfl, trivial⟩
    · rename_i by_ fo e1 hu
      cases e1
      obtain ⟨s, rfl, rfl, hs⟩ := DataW.trod_string hu h
      refine ⟨s, rfl, ?_⟩
      have := hw s.data.toList.length (by rw [show (DataW.lit (.string s.data.toList) : DataW H').weights P T = [s.data.toList.length] from by simp only [DataW.weights]]; exact List.mem_singleton.2 rfl)
      have e : s.data.toList.length = s.size := Array.length_toList
      rw [e] at this
      exact this
    · cases hc
end
end Go.Proofs.Ytehkignjdbkeiaa.Vf
