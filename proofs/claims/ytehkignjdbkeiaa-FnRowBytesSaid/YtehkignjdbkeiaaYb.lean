/- Draws: what is drawn lies where it may. -/
import Derived.Test.YtehkignjdbkeiaaYa
set_option linter.unusedVariables false
set_option linter.unusedSimpArgs false
namespace Go.Proofs.Ytehkignjdbkeiaa.Vf
open Go

abbrev Cur := List Int × Int × Int

/-- A cursor that is right. -/
def CurOk (c : Cur) : Prop := (c.1.length : Int) ≤ 1048576 ∧ 0 ≤ c.2.1 ∧ c.2.1 ≤ 1048576

theorem l1New_loop (b : List Int) (hb : (b.length : Int) ≤ 1048576) : ∀ (n : Nat) (h i : Int), 0 ≤ i → i + n = 4001 → Tot (fun k => spec_l1New_l3 k b h i) (fun r => r.1 = b) := by
  intro n
  induction n with
  | zero =>
    intro h i h0 hi
    refine Tot.succ ?_
    simp only [spec_l1New_l3]
    refine Tot.dite (fun h1 => ?_) (fun h1 => Tot.pure rfl)
    exact Tot.ndec (by omega) (Tot.pure rfl)
  | succ n ih =>
    intro h i h0 hi
    refine Tot.succ ?_
    simp only [spec_l1New_l3]
    refine Tot.dite (fun h1 => ?_) (fun h1 => Tot.pure rfl)
    refine Tot.dite (fun h2 => ?_) (fun h2 => Tot.pure rfl)
    refine Tot.dec h0 (Tot.dec h1 ?_)
    rw [w64 (n := i + 1) (by omega) (by omega)]
    exact ih _ _ (by omega) (by omega)

theorem l1New_tot (b : List Int) (hb : (b.length : Int) ≤ 1048576) : Tot (fun k => spec_l1New k b) CurOk := by
  unfold spec_l1New
  refine Tot.bind (l1New_loop b hb 4001 _ 0 (by omega) (by omega)) (fun r hr => ?_)
  exact Tot.pure ⟨by rw [hr]; exact hb, Int.le_refl 0, by show (0 : Int) ≤ 1048576; omega⟩

theorem l1Byte_ok (c : Cur) (hc : CurOk c) : ∃ x c', spec_l1Byte c = some (x, c') ∧ 0 ≤ x ∧ x ≤ 255 ∧ CurOk c' := by
  obtain ⟨h1, h2, h3⟩ := hc
  unfold spec_l1Byte
  by_cases hlt : c.2.1 < (c.1.length : Int)
  · simp only [hlt, h2, decide_true, cond_true]
    obtain ⟨a1, a2⟩ := and_mask (IntKind.wrap .i64 ((IntKind.wrap .i64 ((BitVec.ofInt (IntKind.bits .i64) (IntKind.wrap .i64 ((BitVec.ofInt (IntKind.bits .i64) (Int.fdiv (IntKind.wrap .i64 ((IntKind.wrap .i64 (c.2.2 * 6364136223846793005)) + 1442695040888963407)) (2 ^ (min (Int.toNat 33) (IntKind.bits .i64)))) ^^^ BitVec.ofInt (IntKind.bits .i64) (Int.fdiv (IntKind.wrap .i64 ((IntKind.wrap .i64 (c.2.2 * 6364136223846793005)) + 1442695040888963407)) (2 ^ (min (Int.toNat 47) (IntKind.bits .i64))))).toNat)) &&& BitVec.ofInt (IntKind.bits .i64) 255).toNat)) + (IntKind.wrap .i64 (List.getD c.1 (Int.toNat c.2.1) (0 : Int))))) 255 (by omega) (by omega)
    refine ⟨_, _, rfl, a1, a2, h1, ?_, ?_⟩
    · show 0 ≤ IntKind.wrap .i64 (c.2.1 + 1)
      rw [w64 (by omega) (by omega)]
      omega
    · show IntKind.wrap .i64 (c.2.1 + 1) ≤ 1048576
      rw [w64 (by omega) (by omega)]
      omega
  · simp only [hlt, decide_false, cond_false]
    obtain ⟨a1, a2⟩ := and_mask (IntKind.wrap .i64 ((BitVec.ofInt (IntKind.bits .i64) (Int.fdiv (IntKind.wrap .i64 ((IntKind.wrap .i64 (c.2.2 * 6364136223846793005)) + 1442695040888963407)) (2 ^ (min (Int.toNat 33) (IntKind.bits .i64)))) ^^^ BitVec.ofInt (IntKind.bits .i64) (Int.fdiv (IntKind.wrap .i64 ((IntKind.wrap .i64 (c.2.2 * 6364136223846793005)) + 1442695040888963407)) (2 ^ (min (Int.toNat 47) (IntKind.bits .i64))))).toNat)) 255 (by omega) (by omega)
    exact ⟨_, _, rfl, a1, a2, h1, h2, h3⟩

/-- 0 .. n - 1 -/
theorem l1Below_ok (c : Cur) (hc : CurOk c) (n : Int) (hn : n ≤ 1000000000) : ∃ x c', spec_l1Below c n = some (x, c') ∧ 0 ≤ x ∧ (0 < n → x < n) ∧ (n ≤ 0 → x = 0) ∧ CurOk c' := by
  unfold spec_l1Below
  by_cases h0 : n ≤ 0
  · exact ⟨0, c, by simp only [h0, decide_true, cond_true], by omega, by omega, fun _ => rfl, hc⟩
  · by_cases h1 : n ≤ 256
    · obtain ⟨x, c', e, b0, b1, k⟩ := l1Byte_ok c hc
      have hz : ¬ n = 0 := by omega
      have := tmod_lt b0 (show 0 < n by omega)
      exact ⟨Int.tmod x n, c', by simp only [h0, h1, hz, decide_true, decide_false, cond_true, cond_false, e, Option.bind_some], this.1, fun _ => this.2, fun h => by omega, k⟩
    · obtain ⟨x, c1, e1, b0, b1, k1⟩ := l1Byte_ok c hc
      obtain ⟨y, c2, e2, b2, b3, k2⟩ := l1Byte_ok c1 k1
      obtain ⟨z, c3, e3, b4, b5, k3⟩ := l1Byte_ok c2 k2
      have hz : ¬ n = 0 := by omega
      have := tmod_lt (show 0 ≤ x * 65536 + y * 256 + z by omega) (show 0 < n by omega)
      refine ⟨Int.tmod (x * 65536 + y * 256 + z) n, c3, ?_, this.1, fun _ => this.2, fun h => by omega, k3⟩
      simp only [h0, h1, hz, decide_false, cond_false, e1, e2, e3, Option.bind_some]
      rw [w64 (n := x * 65536) (by omega) (by omega), w64 (n := y * 256) (by omega) (by omega), w64 (n := x * 65536 + y * 256) (by omega) (by omega), w64 (n := x * 65536 + y * 256 + z) (by omega) (by omega)]

theorem getD_mem {α : Type} {l : List α} {i : Int} {d : α} (h0 : 0 ≤ i) (h1 : i < (l.length : Int)) : l.getD i.toNat d ∈ l := by
  have h : i.toNat < l.length := by omega
  rw [List.getD_eq_getElem?_getD, List.getElem?_eq_getElem h]
  exact List.getElem_mem h

theorem l1Int_ok (c : Cur) (hc : CurOk c) (l : List Int) (hl : 0 < l.length) (hm : l.length ≤ 1000) : ∃ x c', spec_l1Int c l = some (x, c') ∧ x ∈ l ∧ CurOk c' := by
  obtain ⟨i, c', e, b0, b1, _, k⟩ := l1Below_ok c hc (l.length : Int) (by omega)
  have b1 := b1 (by omega)
  refine ⟨l.getD i.toNat 0, c', ?_, getD_mem b0 b1, k⟩
  unfold spec_l1Int
  simp only [e, Option.bind_some, b0, b1, decide_true, cond_true]

theorem l1Str_ok (c : Cur) (hc : CurOk c) (l : List ByteArray) (hl : 0 < l.length) (hm : l.length ≤ 1000) : ∃ x c', spec_l1Str c l = some (x, c') ∧ x ∈ l ∧ CurOk c' := by
  obtain ⟨i, c', e, b0, b1, _, k⟩ := l1Below_ok c hc (l.length : Int) (by omega)
  have b1 := b1 (by omega)
  refine ⟨l.getD i.toNat (⟨#[]⟩ : ByteArray), c', ?_, getD_mem b0 b1, k⟩
  unfold spec_l1Str
  simp only [e, Option.bind_some, b0, b1, decide_true, cond_true]

/-- Bytes. -/
def BytesOk (l : List Int) : Prop := ∀ x ∈ l, 0 ≤ x ∧ x ≤ 255

theorem l1Bytes_loop (m : Int) (hm : m ≤ 1000) : ∀ (n : Nat) (l : List Int) (i : Int) (c : Cur), CurOk c → 0 ≤ i → i ≤ max m 0 → (max m 0) - i = n → (l.length : Int) = i → BytesOk l →
    Tot (fun k => spec_l1Bytes_l3 k m l i c.1 c.2.1 c.2.2) (fun r => CurOk r.2 ∧ BytesOk r.1 ∧ (r.1.length : Int) = max m 0) := by
  intro n
  induction n with
  | zero =>
    intro l i c hc h0 h1 hn hl hb
    refine Tot.succ ?_
    simp only [spec_l1Bytes_l3]
    refine Tot.ndec (by omega) (Tot.pure ⟨hc, hb, by show (l.length : Int) = _; omega⟩)
  | succ n ih =>
    intro l i c hc h0 h1 hn hl hb
    refine Tot.succ ?_
    simp only [spec_l1Bytes_l3]
    refine Tot.dec (by omega) ?_
    obtain ⟨x, c', e, b0, b1, k⟩ := l1Byte_ok c hc
    refine Tot.bind (Tot.of (Q := fun r => r = (x, c')) e rfl) ?_
    rintro r rfl
    refine Tot.ble (by simp only [List.length_cons, List.length_nil]; omega) ?_
    rw [w64 (n := i + 1) (by omega) (by omega)]
    refine ih _ _ c' k (by omega) (by omega) (by omega) (by simp only [List.length_append, List.length_cons, List.length_nil]; omega) ?_
    intro y hy
    rcases List.mem_append.1 hy with hy | hy
    · exact hb y hy
    · simp only [List.mem_singleton] at hy
      subst hy
      exact w8_bounds _

theorem l1Some_tot (c : Cur) (hc : CurOk c) : Tot (fun k => spec_l1Some k c) (fun r => CurOk r.2 ∧ BytesOk r.1 ∧ (r.1.length : Int) ≤ 9) := by
  unfold spec_l1Some
  obtain ⟨x, c', e, hx, k⟩ := l1Int_ok c hc [0, 1, 2, 5, 9] (by decide) (by decide)
  have hx' : 0 ≤ x ∧ x ≤ 9 := by
    simp only [List.mem_cons, List.not_mem_nil, or_false] at hx
    omega
  refine Tot.bind (Tot.of (Q := fun r => r = (x, c')) e rfl) ?_
  rintro r rfl
  refine Tot.bind (Q := fun r => CurOk r.2 ∧ BytesOk r.1 ∧ (r.1.length : Int) ≤ 9) ?_ (fun r hr => Tot.pure hr)
  unfold spec_l1Bytes
  refine Tot.bind (l1Bytes_loop x (by omega) (max x 0 - 0).toNat [] 0 c' k (by omega) (by omega) (by omega) rfl (by intro y hy; simp at hy)) (fun r hr => Tot.pure ?_)
  exact ⟨hr.1, hr.2.1, by show (r.1.length : Int) ≤ 9; rw [hr.2.2]; omega⟩

theorem l1Once_ok (c : Cur) (hc : CurOk c) (n : Int) (hn : n ≤ 1000000000) : ∃ x c', spec_l1Once c n = some (x, c') ∧ CurOk c' := by
  obtain ⟨x, c', e, _, _, _, k⟩ := l1Below_ok c hc n hn
  exact ⟨x == 0, c', by unfold spec_l1Once; simp only [e, Option.bind_some], k⟩

/-! ### Names, stamps, files, rows -/
abbrev Stp := Int × Int × Int
abbrev Row := ByteArray × Stp × Bool × Int
abbrev Fil := Stp × Bool × List Int

def StampIn (s : Stp) : Prop := 0 ≤ s.1 ∧ s.1 ≤ 1000000000 ∧ 0 ≤ s.2.1 ∧ s.2.1 ≤ 1000000 ∧ 0 ≤ s.2.2 ∧ s.2.2 ≤ 20

def drawnNames : List ByteArray := [(⟨#[97]⟩ : ByteArray), (⟨#[98]⟩ : ByteArray), (⟨#[99, 97, 116, 47, 49]⟩ : ByteArray), (⟨#[99, 97, 116, 47, 50]⟩ : ByteArray), (⟨#[100, 111, 103]⟩ : ByteArray), (⟨#[120, 45, 49]⟩ : ByteArray)]

theorem l3Name_ok (c : Cur) (hc : CurOk c) : ∃ x c', spec_l3Name c = some (x, c') ∧ x ∈ drawnNames ∧ CurOk c' := by
  obtain ⟨x, c', e, hx, k⟩ := l1Str_ok c hc drawnNames (by decide) (by decide)
  exact ⟨x, c', by unfold spec_l3Name; unfold drawnNames at e; simp only [e, Option.bind_some], hx, k⟩

theorem l2Draw_ok (c : Cur) (hc : CurOk c) : ∃ x c', spec_l2Draw c = some (x, c') ∧ StampIn x ∧ CurOk c' := by
  obtain ⟨x, c1, e1, hx, k1⟩ := l1Int_ok c hc [0, 1, 2, 3, 1000000000] (by decide) (by decide)
  obtain ⟨y, c2, e2, y0, y1, _, k2⟩ := l1Below_ok c1 k1 3 (by decide)
  obtain ⟨z, c3, e3, z0, z1, _, k3⟩ := l1Below_ok c2 k2 3 (by decide)
  have y1 := y1 (by decide)
  have z1 := z1 (by decide)
  simp only [List.mem_cons, List.not_mem_nil, or_false] at hx
  exact ⟨(x, y, z), c3, by unfold spec_l2Draw; simp only [e1, e2, e3, Option.bind_some], ⟨by show 0 ≤ x; omega, by show x ≤ _; omega, y0, by show y ≤ _; omega, z0, by show z ≤ _; omega⟩, k3⟩

/-- A file that is right, and small. -/
def FileIn (f : Fil) : Prop := StampIn f.1 ∧ BytesOk f.2.2 ∧ (f.2.2.length : Int) ≤ 9 ∧ (f.2.1 = true → f.2.2 = [])

theorem l8Draw_tot (c : Cur) (hc : CurOk c) : Tot (fun k => spec_l8Draw k c) (fun r => FileIn r.1 ∧ CurOk r.2) := by
  unfold spec_l8Draw
  obtain ⟨s, c1, e1, hs, k1⟩ := l2Draw_ok c hc
  obtain ⟨b, c2, e2, k2⟩ := l1Once_ok c1 k1 4 (by decide)
  refine Tot.bind (Tot.of (Q := fun r => r = (s, c1)) e1 rfl) ?_
  rintro r rfl
  refine Tot.bind (Tot.of (Q := fun r => r = (b, c2)) e2 rfl) ?_
  rintro r rfl
  refine Tot.ite (fun hb => ?_) (fun hb => Tot.pure ⟨⟨hs, by intro y hy; simp at hy, by show ((([] : List Int).length : Nat) : Int) ≤ 9; decide, fun _ => rfl⟩, k2⟩)
  refine Tot.bind (l1Some_tot c2 k2) (fun r hr => Tot.pure ⟨⟨hs, hr.2.1, hr.2.2, fun h => ?_⟩, hr.1⟩)
  simp only [Bool.not_eq_true'] at hb
  have h' : b = true := h
  rw [hb] at h'
  cases h'

/-- A row of a file that is right. -/
def RowIn (x : Row) : Prop := x.1 ∈ drawnNames ∧ StampIn x.2.1 ∧ 0 ≤ x.2.2.2 ∧ x.2.2.2 ≤ 9 ∧ (x.2.2.1 = true → x.2.2.2 = 0)

theorem l11One_tot (c : Cur) (hc : CurOk c) : Tot (fun k => spec_l11One k c) (fun r => RowIn r.1 ∧ CurOk r.2) := by
  unfold spec_l11One
  obtain ⟨s, c1, e1, hs, k1⟩ := l3Name_ok c hc
  refine Tot.bind (Tot.of (Q := fun r => r = (s, c1)) e1 rfl) ?_
  rintro r rfl
  refine Tot.bind (l8Draw_tot c1 k1) (fun r hr => ?_)
  obtain ⟨⟨h1, h2, h3, h4⟩, k2⟩ := hr
  unfold spec_RowOf
  refine Tot.bind (Tot.pure (Q := fun y => y = (s, r.1.1, r.1.2.1, (r.1.2.2.length : Int))) rfl) ?_
  rintro y rfl
  refine Tot.pure ⟨⟨hs, h1, by show (0 : Int) ≤ (r.1.2.2.length : Int); omega, h3, fun h => ?_⟩, k2⟩
  show (r.1.2.2.length : Int) = 0
  rw [h4 h]
  rfl
end Go.Proofs.Ytehkignjdbkeiaa.Vf
