import Derived.Test.YtehkignjdbkeiaaVs
import Derived.IntWalk
import Derived.Laws.StructEq
section
set_option linter.unusedVariables false
set_option linter.unusedSimpArgs false
namespace Go.Proofs.Ytehkignjdbkeiaa.Vf
open Go
def Tot {α : Type} (f : Nat → Option α) (Q : α → Prop) : Prop := ∃ r K, (∀ k, K ≤ k → f k = some r) ∧ Q r
section
variable {α β : Type} {f g : Nat → Option α} {Q Q' : α → Prop}
theorem Tot.mono (h : Tot f Q) (hq : ∀ a, Q a → Q' a) : Tot f Q' := by
 obtain ⟨r, K, h1, h2⟩ := h
 exact ⟨r, K, h1, hq r h2⟩
theorem Tot.pure {a : α} (h : Q a) : Tot (fun _ => some a) Q := ⟨a, 0, fun _ _ => rfl, h⟩
theorem Tot.of {o : Option α} {a : α} (e : o = some a) (h : Q a) : Tot (fun _ => o) Q := ⟨a, 0, fun _ _ => e, h⟩
theorem Tot.bind {h : Nat → α → Option β} {R : β → Prop} (hf : Tot f Q) (hh : ∀ a, Q a → Tot (fun k => h k a) R) : Tot (fun k => (f k).bind (h k)) R := by
 obtain ⟨a, K, h1, h2⟩ := hf
 obtain ⟨b, L, h3, h4⟩ := hh a h2
 exact ⟨b, max K L, fun k hk => by show (f k).bind (h k) = _; rw [h1 k (by omega)]; exact h3 k (by omega), h4⟩
theorem Tot.yes {c : Bool} (hc : c = true) (h : Tot f Q) : Tot (fun k => cond c (f k) (g k)) Q := by subst hc; exact h
theorem Tot.no {c : Bool} (hc : c = false) (h : Tot g Q) : Tot (fun k => cond c (f k) (g k)) Q := by subst hc; exact h
theorem Tot.ite {c : Bool} (h1 : c = true → Tot f Q) (h2 : c = false → Tot g Q) : Tot (fun k => cond c (f k) (g k)) Q := by
 cases hc : c with
 | true => exact h1 hc
 | false => exact h2 hc
theorem Tot.dec {p : Prop} [Decidable p] (hp : p) (h : Tot f Q) : Tot (fun k => cond (decide p) (f k) (g k)) Q := Tot.yes (decide_eq_true hp) h
theorem Tot.ndec {p : Prop} [Decidable p] (hp : ¬ p) (h : Tot g Q) : Tot (fun k => cond (decide p) (f k) (g k)) Q := Tot.no (decide_eq_false hp) h
theorem Tot.dite {p : Prop} [Decidable p] (h1 : p → Tot f Q) (h2 : ¬ p → Tot g Q) : Tot (fun k => cond (decide p) (f k) (g k)) Q :=
 Tot.ite (fun h => h1 (of_decide_eq_true h)) (fun h => h2 (of_decide_eq_false h))
theorem Tot.ble {m n : Nat} (hp : m ≤ n) (h : Tot f Q) : Tot (fun k => cond (Nat.ble m n) (f k) (g k)) Q := Tot.yes (Nat.ble_eq_true_of_le hp) h
theorem Tot.succ (h : Tot (fun k => f (k + 1)) Q) : Tot f Q := by
 obtain ⟨r, K, h1, h2⟩ := h
 exact ⟨r, K + 1, fun k hk => by obtain ⟨m, rfl⟩ : ∃ m, k = m + 1 := ⟨k - 1, by omega⟩; exact h1 m (by omega), h2⟩
theorem Tot.and (h : Tot f Q) (h' : Tot f Q') : Tot f (fun a => Q a ∧ Q' a) := by
 obtain ⟨r, K, h1, h2⟩ := h
 obtain ⟨r', K', h1', h2'⟩ := h'
 have e : r = r' := by
  have a1 := h1 (max K K') (by omega)
  have a2 := h1' (max K K') (by omega)
  rw [a1] at a2
  exact Option.some.inj a2
 subst e
 exact ⟨r, K, h1, h2, h2'⟩
theorem Tot.law {f : Nat → Option Bool} (h : Tot f (fun b => b = true)) : ∃ k, f k = some true := by
 obtain ⟨r, K, h1, h2⟩ := h
 subst h2
 exact ⟨K, h1 K (Nat.le_refl _)⟩
end
theorem w64 {n : Int} (h1 : -9223372036854775808 ≤ n) (h2 : n ≤ 9223372036854775807) : IntKind.wrap .i64 n = n := Go.IntWalk.i64_in n ⟨h1, h2⟩
theorem w64_bounds (n : Int) : -9223372036854775808 ≤ IntKind.wrap .i64 n ∧ IntKind.wrap .i64 n ≤ 9223372036854775807 := by
 rw [IntKind.wrap_i64]
 omega
theorem w8_bounds (n : Int) : 0 ≤ IntKind.wrap .u8 n ∧ IntKind.wrap .u8 n ≤ 255 := by
 simp only [IntKind.wrap, IntKind.signed, IntKind.bits]
 simp
 omega
theorem and_mask (x m : Int) (h0 : 0 ≤ m) (h1 : m < 9223372036854775808) : 0 ≤ IntKind.wrap .i64 ((BitVec.ofInt (IntKind.bits .i64) x &&& BitVec.ofInt (IntKind.bits .i64) m).toNat) ∧ IntKind.wrap .i64 ((BitVec.ofInt (IntKind.bits .i64) x &&& BitVec.ofInt (IntKind.bits .i64) m).toNat) ≤ m := by
 have hm : (BitVec.ofInt (IntKind.bits .i64) m).toNat = m.toNat := by
  rw [BitVec.toNat_ofInt]
  show (m % ((2 ^ 64 : Nat) : Int)).toNat = m.toNat
  rw [Int.emod_eq_of_lt h0 (by omega)]
 have hle : (BitVec.ofInt (IntKind.bits .i64) x &&& BitVec.ofInt (IntKind.bits .i64) m).toNat ≤ m.toNat := by
  rw [BitVec.toNat_and, hm]
  exact Nat.and_le_right
 rw [w64 (by omega) (by omega)]
 omega
theorem tmod_lt {x n : Int} (hx : 0 ≤ x) (hn : 0 < n) : 0 ≤ Int.tmod x n ∧ Int.tmod x n < n := by
 rw [Int.tmod_eq_emod_of_nonneg hx]
 exact ⟨Int.emod_nonneg _ (by omega), Int.emod_lt_of_pos _ hn⟩
end Go.Proofs.Ytehkignjdbkeiaa.Vf
end
section
set_option linter.unusedVariables false
set_option linter.unusedSimpArgs false
namespace Go.Proofs.Ytehkignjdbkeiaa.Vf
open Go
abbrev Cur := List Int × Int × Int
def CurOk (c : Cur) : Prop := (c.1.length : Int) ≤ 1048576 ∧ 0 ≤ c.2.1 ∧ c.2.1 ≤ 1048576
theorem l1New_loop (b : List Int) (hb : (b.length : Int) ≤ 1048576) : ∀ (n : Nat) (h i : Int), 0 ≤ i → i + n = 4001 → Tot (fun k => spec_l1New_l3 k b h i) (fun r => r.1 = b) := by
 intro n
 induction n with
 | zero =>
  intro h i h0 hi
  refine Tot.succ ?_
  simp only [spec_l1New_l3]
  refine Tot.dite (fun h1 => ?_) (fun h1 => Tot.pure rfl)
  exact Tot.ndec (by omega) (Tot.pure rfl)
 | succ n ih =>
  intro h i h0 hi
  refine Tot.succ ?_
  simp only [spec_l1New_l3]
  refine Tot.dite (fun h1 => ?_) (fun h1 => Tot.pure rfl)
  refine Tot.dite (fun h2 => ?_) (fun h2 => Tot.pure rfl)
  refine Tot.dec h0 (Tot.dec h1 ?_)
  rw [w64 (n := i + 1) (by omega) (by omega)]
  exact ih _ _ (by omega) (by omega)
theorem l1New_tot (b : List Int) (hb : (b.length : Int) ≤ 1048576) : Tot (fun k => spec_l1New k b) CurOk := by
 unfold spec_l1New
 refine Tot.bind (l1New_loop b hb 4001 _ 0 (by omega) (by omega)) (fun r hr => ?_)
 exact Tot.pure ⟨by rw [hr]; exact hb, Int.le_refl 0, by show (0 : Int) ≤ 1048576; omega⟩
theorem l1Byte_ok (c : Cur) (hc : CurOk c) : ∃ x c', spec_l1Byte c = some (x, c') ∧ 0 ≤ x ∧ x ≤ 255 ∧ CurOk c' := by
 obtain ⟨h1, h2, h3⟩ := hc
 unfold spec_l1Byte
 by_cases hlt : c.2.1 < (c.1.length : Int)
 ·simp only [hlt, h2, decide_true, cond_true]
  obtain ⟨a1, a2⟩ := and_mask (IntKind.wrap .i64 ((IntKind.wrap .i64 ((BitVec.ofInt (IntKind.bits .i64) (IntKind.wrap .i64 ((BitVec.ofInt (IntKind.bits .i64) (Int.fdiv (IntKind.wrap .i64 ((IntKind.wrap .i64 (c.2.2 * 6364136223846793005)) + 1442695040888963407)) (2 ^ (min (Int.toNat 33) (IntKind.bits .i64)))) ^^^ BitVec.ofInt (IntKind.bits .i64) (Int.fdiv (IntKind.wrap .i64 ((IntKind.wrap .i64 (c.2.2 * 6364136223846793005)) + 1442695040888963407)) (2 ^ (min (Int.toNat 47) (IntKind.bits .i64))))).toNat)) &&& BitVec.ofInt (IntKind.bits .i64) 255).toNat)) + (IntKind.wrap .i64 (List.getD c.1 (Int.toNat c.2.1) (0 : Int))))) 255 (by omega) (by omega)
  refine ⟨_, _, rfl, a1, a2, h1, ?_, ?_⟩
  ·show 0 ≤ IntKind.wrap .i64 (c.2.1 + 1)
   rw [w64 (by omega) (by omega)]
   omega
  ·show IntKind.wrap .i64 (c.2.1 + 1) ≤ 1048576
   rw [w64 (by omega) (by omega)]
   omega
 ·simp only [hlt, decide_false, cond_false]
  obtain ⟨a1, a2⟩ := and_mask (IntKind.wrap .i64 ((BitVec.ofInt (IntKind.bits .i64) (Int.fdiv (IntKind.wrap .i64 ((IntKind.wrap .i64 (c.2.2 * 6364136223846793005)) + 1442695040888963407)) (2 ^ (min (Int.toNat 33) (IntKind.bits .i64)))) ^^^ BitVec.ofInt (IntKind.bits .i64) (Int.fdiv (IntKind.wrap .i64 ((IntKind.wrap .i64 (c.2.2 * 6364136223846793005)) + 1442695040888963407)) (2 ^ (min (Int.toNat 47) (IntKind.bits .i64))))).toNat)) 255 (by omega) (by omega)
  exact ⟨_, _, rfl, a1, a2, h1, h2, h3⟩
theorem l1Below_ok (c : Cur) (hc : CurOk c) (n : Int) (hn : n ≤ 1000000000) : ∃ x c', spec_l1Below c n = some (x, c') ∧ 0 ≤ x ∧ (0 < n → x < n) ∧ (n ≤ 0 → x = 0) ∧ CurOk c' := by
 unfold spec_l1Below
 by_cases h0 : n ≤ 0
 ·exact ⟨0, c, by simp only [h0, decide_true, cond_true], by omega, by omega, fun _ => rfl, hc⟩
 ·by_cases h1 : n ≤ 256
  ·obtain ⟨x, c', e, b0, b1, k⟩ := l1Byte_ok c hc
   have hz : ¬ n = 0 := by omega
   have := tmod_lt b0 (show 0 < n by omega)
   exact ⟨Int.tmod x n, c', by simp only [h0, h1, hz, decide_true, decide_false, cond_true, cond_false, e, Option.bind_some], this.1, fun _ => this.2, fun h => by omega, k⟩
  ·obtain ⟨x, c1, e1, b0, b1, k1⟩ := l1Byte_ok c hc
   obtain ⟨y, c2, e2, b2, b3, k2⟩ := l1Byte_ok c1 k1
   obtain ⟨z, c3, e3, b4, b5, k3⟩ := l1Byte_ok c2 k2
   have hz : ¬ n = 0 := by omega
   have := tmod_lt (show 0 ≤ x * 65536 + y * 256 + z by omega) (show 0 < n by omega)
   refine ⟨Int.tmod (x * 65536 + y * 256 + z) n, c3, ?_, this.1, fun _ => this.2, fun h => by omega, k3⟩
   simp only [h0, h1, hz, decide_false, cond_false, e1, e2, e3, Option.bind_some]
   rw [w64 (n := x * 65536) (by omega) (by omega), w64 (n := y * 256) (by omega) (by omega), w64 (n := x * 65536 + y * 256) (by omega) (by omega), w64 (n := x * 65536 + y * 256 + z) (by omega) (by omega)]
theorem getD_mem {α : Type} {l : List α} {i : Int} {d : α} (h0 : 0 ≤ i) (h1 : i < (l.length : Int)) : l.getD i.toNat d ∈ l := by
 have h : i.toNat < l.length := by omega
 rw [List.getD_eq_getElem?_getD, List.getElem?_eq_getElem h]
 exact List.getElem_mem h
theorem l1Int_ok (c : Cur) (hc : CurOk c) (l : List Int) (hl : 0 < l.length) (hm : l.length ≤ 1000) : ∃ x c', spec_l1Int c l = some (x, c') ∧ x ∈ l ∧ CurOk c' := by
 obtain ⟨i, c', e, b0, b1, _, k⟩ := l1Below_ok c hc (l.length : Int) (by omega)
 have b1 := b1 (by omega)
 refine ⟨l.getD i.toNat 0, c', ?_, getD_mem b0 b1, k⟩
 unfold spec_l1Int
 simp only [e, Option.bind_some, b0, b1, decide_true, cond_true]
theorem l1Str_ok (c : Cur) (hc : CurOk c) (l : List ByteArray) (hl : 0 < l.length) (hm : l.length ≤ 1000) : ∃ x c', spec_l1Str c l = some (x, c') ∧ x ∈ l ∧ CurOk c' := by
 obtain ⟨i, c', e, b0, b1, _, k⟩ := l1Below_ok c hc (l.length : Int) (by omega)
 have b1 := b1 (by omega)
 refine ⟨l.getD i.toNat (⟨#[]⟩ : ByteArray), c', ?_, getD_mem b0 b1, k⟩
 unfold spec_l1Str
 simp only [e, Option.bind_some, b0, b1, decide_true, cond_true]
def BytesOk (l : List Int) : Prop := ∀ x ∈ l, 0 ≤ x ∧ x ≤ 255
theorem l1Bytes_loop (m : Int) (hm : m ≤ 1000) : ∀ (n : Nat) (l : List Int) (i : Int) (c : Cur), CurOk c → 0 ≤ i → i ≤ max m 0 → (max m 0) - i = n → (l.length : Int) = i → BytesOk l →
  Tot (fun k => spec_l1Bytes_l3 k m l i c.1 c.2.1 c.2.2) (fun r => CurOk r.2 ∧ BytesOk r.1 ∧ (r.1.length : Int) = max m 0) := by
 intro n
 induction n with
 | zero =>
  intro l i c hc h0 h1 hn hl hb
  refine Tot.succ ?_
  simp only [spec_l1Bytes_l3]
  refine Tot.ndec (by omega) (Tot.pure ⟨hc, hb, by show (l.length : Int) = _; omega⟩)
 | succ n ih =>
  intro l i c hc h0 h1 hn hl hb
  refine Tot.succ ?_
  simp only [spec_l1Bytes_l3]
  refine Tot.dec (by omega) ?_
  obtain ⟨x, c', e, b0, b1, k⟩ := l1Byte_ok c hc
  refine Tot.bind (Tot.of (Q := fun r => r = (x, c')) e rfl) ?_
  rintro r rfl
  refine Tot.ble (by simp only [List.length_cons, List.length_nil]; omega) ?_
  rw [w64 (n := i + 1) (by omega) (by omega)]
  refine ih _ _ c' k (by omega) (by omega) (by omega) (by simp only [List.length_append, List.length_cons, List.length_nil]; omega) ?_
  intro y hy
  rcases List.mem_append.1 hy with hy | hy
  ·exact hb y hy
  ·simp only [List.mem_singleton] at hy
   subst hy
   exact w8_bounds _
theorem l1Some_tot (c : Cur) (hc : CurOk c) : Tot (fun k => spec_l1Some k c) (fun r => CurOk r.2 ∧ BytesOk r.1 ∧ (r.1.length : Int) ≤ 9) := by
 unfold spec_l1Some
 obtain ⟨x, c', e, hx, k⟩ := l1Int_ok c hc [0, 1, 2, 5, 9] (by decide) (by decide)
 have hx' : 0 ≤ x ∧ x ≤ 9 := by
  simp only [List.mem_cons, List.not_mem_nil, or_false] at hx
  omega
 refine Tot.bind (Tot.of (Q := fun r => r = (x, c')) e rfl) ?_
 rintro r rfl
 refine Tot.bind (Q := fun r => CurOk r.2 ∧ BytesOk r.1 ∧ (r.1.length : Int) ≤ 9) ?_ (fun r hr => Tot.pure hr)
 unfold spec_l1Bytes
 refine Tot.bind (l1Bytes_loop x (by omega) (max x 0 - 0).toNat [] 0 c' k (by omega) (by omega) (by omega) rfl (by intro y hy; simp at hy)) (fun r hr => Tot.pure ?_)
 exact ⟨hr.1, hr.2.1, by show (r.1.length : Int) ≤ 9; rw [hr.2.2]; omega⟩
theorem l1Once_ok (c : Cur) (hc : CurOk c) (n : Int) (hn : n ≤ 1000000000) : ∃ x c', spec_l1Once c n = some (x, c') ∧ CurOk c' := by
 obtain ⟨x, c', e, _, _, _, k⟩ := l1Below_ok c hc n hn
 exact ⟨x == 0, c', by unfold spec_l1Once; simp only [e, Option.bind_some], k⟩
abbrev Stp := Int × Int × Int
abbrev Row := ByteArray × Stp × Bool × Int
abbrev Fil := Stp × Bool × List Int
def StampIn (s : Stp) : Prop := 0 ≤ s.1 ∧ s.1 ≤ 1000000000 ∧ 0 ≤ s.2.1 ∧ s.2.1 ≤ 1000000 ∧ 0 ≤ s.2.2 ∧ s.2.2 ≤ 20
def drawnNames : List ByteArray := [(⟨#[97]⟩ : ByteArray), (⟨#[98]⟩ : ByteArray), (⟨#[99, 97, 116, 47, 49]⟩ : ByteArray), (⟨#[99, 97, 116, 47, 50]⟩ : ByteArray), (⟨#[100, 111, 103]⟩ : ByteArray), (⟨#[120, 45, 49]⟩ : ByteArray)]
theorem l3Name_ok (c : Cur) (hc : CurOk c) : ∃ x c', spec_l3Name c = some (x, c') ∧ x ∈ drawnNames ∧ CurOk c' := by
 obtain ⟨x, c', e, hx, k⟩ := l1Str_ok c hc drawnNames (by decide) (by decide)
 exact ⟨x, c', by unfold spec_l3Name; unfold drawnNames at e; simp only [e, Option.bind_some], hx, k⟩
theorem l2Draw_ok (c : Cur) (hc : CurOk c) : ∃ x c', spec_l2Draw c = some (x, c') ∧ StampIn x ∧ CurOk c' := by
 obtain ⟨x, c1, e1, hx, k1⟩ := l1Int_ok c hc [0, 1, 2, 3, 1000000000] (by decide) (by decide)
 obtain ⟨y, c2, e2, y0, y1, _, k2⟩ := l1Below_ok c1 k1 3 (by decide)
 obtain ⟨z, c3, e3, z0, z1, _, k3⟩ := l1Below_ok c2 k2 3 (by decide)
 have y1 := y1 (by decide)
 have z1 := z1 (by decide)
 simp only [List.mem_cons, List.not_mem_nil, or_false] at hx
 exact ⟨(x, y, z), c3, by unfold spec_l2Draw; simp only [e1, e2, e3, Option.bind_some], ⟨by show 0 ≤ x; omega, by show x ≤ _; omega, y0, by show y ≤ _; omega, z0, by show z ≤ _; omega⟩, k3⟩
def FileIn (f : Fil) : Prop := StampIn f.1 ∧ BytesOk f.2.2 ∧ (f.2.2.length : Int) ≤ 9 ∧ (f.2.1 = true → f.2.2 = [])
theorem l8Draw_tot (c : Cur) (hc : CurOk c) : Tot (fun k => spec_l8Draw k c) (fun r => FileIn r.1 ∧ CurOk r.2) := by
 unfold spec_l8Draw
 obtain ⟨s, c1, e1, hs, k1⟩ := l2Draw_ok c hc
 obtain ⟨b, c2, e2, k2⟩ := l1Once_ok c1 k1 4 (by decide)
 refine Tot.bind (Tot.of (Q := fun r => r = (s, c1)) e1 rfl) ?_
 rintro r rfl
 refine Tot.bind (Tot.of (Q := fun r => r = (b, c2)) e2 rfl) ?_
 rintro r rfl
 refine Tot.ite (fun hb => ?_) (fun hb => Tot.pure ⟨⟨hs, by intro y hy; simp at hy, by show ((([] : List Int).length : Nat) : Int) ≤ 9; decide, fun _ => rfl⟩, k2⟩)
 refine Tot.bind (l1Some_tot c2 k2) (fun r hr => Tot.pure ⟨⟨hs, hr.2.1, hr.2.2, fun h => ?_⟩, hr.1⟩)
 simp only [Bool.not_eq_true'] at hb
 have h' : b = true := h
 rw [hb] at h'
 cases h'
def RowIn (x : Row) : Prop := x.1 ∈ drawnNames ∧ StampIn x.2.1 ∧ 0 ≤ x.2.2.2 ∧ x.2.2.2 ≤ 9 ∧ (x.2.2.1 = true → x.2.2.2 = 0)
theorem l11One_tot (c : Cur) (hc : CurOk c) : Tot (fun k => spec_l11One k c) (fun r => RowIn r.1 ∧ CurOk r.2) := by
 unfold spec_l11One
 obtain ⟨s, c1, e1, hs, k1⟩ := l3Name_ok c hc
 refine Tot.bind (Tot.of (Q := fun r => r = (s, c1)) e1 rfl) ?_
 rintro r rfl
 refine Tot.bind (l8Draw_tot c1 k1) (fun r hr => ?_)
 obtain ⟨⟨h1, h2, h3, h4⟩, k2⟩ := hr
 unfold spec_RowOf
 refine Tot.bind (Tot.pure (Q := fun y => y = (s, r.1.1, r.1.2.1, (r.1.2.2.length : Int))) rfl) ?_
 rintro y rfl
 refine Tot.pure ⟨⟨hs, h1, by show (0 : Int) ≤ (r.1.2.2.length : Int); omega, h3, fun h => ?_⟩, k2⟩
 show (r.1.2.2.length : Int) = 0
 rw [h4 h]
 rfl
end Go.Proofs.Ytehkignjdbkeiaa.Vf
end
section
set_option linter.unusedVariables false
set_option linter.unusedSimpArgs false
namespace Go.Proofs.Ytehkignjdbkeiaa.Vf
open Go
theorem bl_irrefl : ∀ (a : List UInt8), Op.bytesLess a a = false
 | [] => rfl
 | a :: l => by simp [Op.bytesLess, bl_irrefl l]
theorem bl_trans : ∀ (a b c : List UInt8), Op.bytesLess a b = true → Op.bytesLess b c = true → Op.bytesLess a c = true
 | _, [], _, h, _ => by simp [Op.bytesLess] at h
 | _, _ :: _, [], _, h => by simp [Op.bytesLess] at h
 | [], _ :: _, _ :: _, _, _ => rfl
 | a :: x, b :: y, c :: z, h1, h2 => by
  simp only [Op.bytesLess, Bool.or_eq_true, Bool.and_eq_true, decide_eq_true_eq, beq_iff_eq] at h1 h2 ⊢
  rcases h1 with h1 | ⟨rfl, h1⟩
  ·rcases h2 with h2 | ⟨rfl, h2⟩
   ·exact .inl (UInt8.lt_trans h1 h2)
   ·exact .inl h1
  ·rcases h2 with h2 | ⟨rfl, h2⟩
   ·exact .inl h2
   ·exact .inr ⟨rfl, bl_trans x y z h1 h2⟩
theorem bl_tri : ∀ (a b : List UInt8), Op.bytesLess a b = false → Op.bytesLess b a = false → a = b
 | [], [], _, _ => rfl
 | [], _ :: _, h, _ => by simp [Op.bytesLess] at h
 | _ :: _, [], _, h => by simp [Op.bytesLess] at h
 | a :: x, b :: y, h1, h2 => by
  simp only [Op.bytesLess, Bool.or_eq_false_iff, Bool.and_eq_false_iff, decide_eq_false_iff_not] at h1 h2
  have hab : a = b := by
   have h3 := UInt8.not_lt.1 h1.1
   have h4 := UInt8.not_lt.1 h2.1
   exact UInt8.le_antisymm h4 h3
  subst hab
  rw [bl_tri x y (h1.2.resolve_left (by simp)) (h2.2.resolve_left (by simp))]
def tlt (a b : ByteArray) : Bool := Op.bytesLess a.toList b.toList
def teq (a b : ByteArray) : Bool := a.toList == b.toList
theorem toList_inj {a b : ByteArray} (h : a.toList = b.toList) : a = b := by
 rw [ByteArray.toList_eq, ByteArray.toList_eq] at h
 obtain ⟨⟨x⟩⟩ := a
 obtain ⟨⟨y⟩⟩ := b
 simp only at h
 rw [h]
theorem teq_iff {a b : ByteArray} : teq a b = true ↔ a = b := by
 unfold teq
 rw [beq_iff_eq]
 exact ⟨toList_inj, fun h => by rw [h]⟩
theorem tlt_irrefl (a : ByteArray) : tlt a a = false := bl_irrefl _
theorem tlt_trans {a b c : ByteArray} (h : tlt a b = true) (h' : tlt b c = true) : tlt a c = true := bl_trans _ _ _ h h'
theorem tlt_tri {a b : ByteArray} (h : tlt a b = false) (h' : tlt b a = false) : a = b := toList_inj (bl_tri _ _ h h')
theorem tlt_asymm {a b : ByteArray} (h : tlt a b = true) : tlt b a = false := by
 cases hb : tlt b a with
 | false => rfl
 | true =>
  have := tlt_trans h hb
  rw [tlt_irrefl] at this
  cases this
theorem tgt_eq (a b : ByteArray) : (!(Op.bytesLess a.toList b.toList || a.toList == b.toList)) = tlt b a := by
 show (!(tlt a b || teq a b)) = tlt b a
 cases h1 : tlt a b with
 | true => rw [tlt_asymm h1]; rfl
 | false =>
  cases h2 : teq a b with
  | true => rw [teq_iff.1 h2, tlt_irrefl]; rfl
  | false =>
   cases h3 : tlt b a with
   | true => rfl
   | false =>
    exfalso
    have := tlt_tri h1 h3
    rw [teq_iff.2 this] at h2
    cases h2
def sle (a b : Stp) : Bool := cond (a.1 != b.1) (decide (a.1 < b.1)) (cond (a.2.1 != b.2.1) (decide (a.2.1 < b.2.1)) (decide (a.2.2 < b.2.2)))
theorem specLess (a b : Stp) : spec_LessStamp a b = some (sle a b) := by
 unfold spec_LessStamp sle
 cases a.1 != b.1 <;> cases a.2.1 != b.2.1 <;> rfl
theorem implLess (a b : Stp) : impl_LessStamp a b = some (sle a b) := by
 unfold impl_LessStamp sle
 cases a.1 != b.1 <;> cases a.2.1 != b.2.1 <;> rfl
theorem sle_iff {a b : Stp} : sle a b = true ↔ a.1 < b.1 ∨ (a.1 = b.1 ∧ (a.2.1 < b.2.1 ∨ (a.2.1 = b.2.1 ∧ a.2.2 < b.2.2))) := by
 unfold sle
 by_cases h1 : a.1 = b.1
 ·by_cases h2 : a.2.1 = b.2.1
  ·simp [h1, h2]
  ·have : (a.2.1 != b.2.1) = true := by simpa using h2
   simp [h1, this, h2]
 ·have : (a.1 != b.1) = true := by simpa using h1
  simp [this, h1]
def rless (a b : Row) : Bool := cond (!((a.2.1.1 == b.2.1.1) && ((a.2.1.2.1 == b.2.1.2.1) && (a.2.1.2.2 == b.2.1.2.2)))) (sle a.2.1 b.2.1) (cond (!(a.2.2.1 == b.2.2.1)) b.2.2.1 (decide (a.2.2.2 < b.2.2.2)))
theorem specL11Less (a b : Row) : spec_l11Less a b = some (rless a b) := by
 unfold spec_l11Less rless
 rw [specLess]
 cases (!((a.2.1.1 == b.2.1.1) && ((a.2.1.2.1 == b.2.1.2.1) && (a.2.1.2.2 == b.2.1.2.2)))) <;> cases (!(a.2.2.1 == b.2.2.1)) <;> rfl
theorem implLater (a b : Row) : impl_laterRow a b = some (rless b a) := by
 unfold impl_laterRow rless
 rw [implLess, BEq.comm (a := a.2.1.1), BEq.comm (a := a.2.1.2.1), BEq.comm (a := a.2.1.2.2), BEq.comm (a := a.2.2.1)]
 cases (!((b.2.1.1 == a.2.1.1) && ((b.2.1.2.1 == a.2.1.2.1) && (b.2.1.2.2 == a.2.1.2.2)))) <;> cases (!(b.2.2.1 == a.2.2.1)) <;> rfl
def row0 : Row := ((⟨#[]⟩ : ByteArray), (((0 : Int), ((0 : Int), (0 : Int))), (false, (0 : Int))))
def findN (s : ByteArray) : List Row → Nat → Option Nat
 | [], _ => none
 | r :: l, i => bif teq r.1 s then some i else findN s l (i + 1)
def cutN (l : List Row) (s : ByteArray) : Nat → Nat
 | 0 => 0
 | k + 1 => bif tlt s (l.getD k row0).1 then cutN l s k else k + 1
def mrg (l : List Row) (x : Row) : List Row := match findN x.1 l 0 with
 | some i => bif rless (l.getD i row0) x then l.set i x else l
 | none => l.take (cutN l x.1 l.length) ++ x :: l.drop (cutN l x.1 l.length)
theorem cutN_le (l : List Row) (s : ByteArray) : ∀ k, cutN l s k ≤ k
 | 0 => Nat.le_refl _
 | k + 1 => by
  unfold cutN
  cases tlt s (l.getD k row0).1 with
  | true => have := cutN_le l s k; simp only [cond_true]; omega
  | false => simp only [cond_false]; omega
theorem findN_drop {s : ByteArray} : ∀ (l : List Row) (i j : Nat), findN s l i = some j → i ≤ j ∧ j < i + l.length ∧ teq (l.getD (j - i) row0).1 s = true
 | [], i, j, h => by simp [findN] at h
 | r :: l, i, j, h => by
  unfold findN at h
  cases ht : teq r.1 s with
  | true =>
   rw [ht] at h
   simp only [cond_true, Option.some.injEq] at h
   subst h
   refine ⟨Nat.le_refl _, by simp, ?_⟩
   rw [Nat.sub_self]
   exact ht
  | false =>
   rw [ht] at h
   simp only [cond_false] at h
   obtain ⟨h1, h2, h3⟩ := findN_drop l (i + 1) j h
   refine ⟨by omega, by simp only [List.length_cons]; omega, ?_⟩
   rw [show j - i = (j - (i + 1)) + 1 by omega]
   exact h3
theorem drop_cons {α : Type} {l : List α} {i : Nat} {d : α} (h : i < l.length) : l.drop i = l.getD i d :: l.drop (i + 1) := by
 rw [List.drop_eq_getElem_cons h, List.getD_eq_getElem?_getD, List.getElem?_eq_getElem h]
 rfl
def Few (l : List Row) : Prop := l.length ≤ 1000000000000
theorem specMerge_l3 (x : Row) : ∀ (n : Nat) (l : List Row) (i : Nat), l.length - i = n → i ≤ l.length → Few l →
  Tot (fun k => spec_MergeRow_l3 k l (i : Int) x.1 x.2.1.1 x.2.1.2.1 x.2.1.2.2 x.2.2.1 x.2.2.2) (fun r => r = match findN x.1 (l.drop i) i with
   | some j => .inl (bif rless (l.getD j row0) x then l.set j x else l)
   | none => .inr (l, x.1, x.2.1.1, x.2.1.2.1, x.2.1.2.2, x.2.2.1, x.2.2.2)) := by
 intro n
 induction n with
 | zero =>
  intro l i hn hi hf
  unfold Few at hf
  refine Tot.succ ?_
  simp only [spec_MergeRow_l3]
  refine Tot.ndec (by omega) (Tot.pure ?_)
  rw [List.drop_of_length_le (by omega)]
  rfl
 | succ n ih =>
  intro l i hn hi hf
  have hf' := hf
  unfold Few at hf
  have hlt : i < l.length := by omega
  refine Tot.succ ?_
  simp only [spec_MergeRow_l3]
  refine Tot.dec (by omega) (Tot.dec (by omega) (Tot.dec (by omega) ?_))
  have e0 : Int.toNat (i : Int) = i := Int.toNat_natCast i
  rw [e0, drop_cons (d := row0) hlt]
  refine Tot.ite (fun ht => ?_) (fun ht => ?_)
  ·have ht' : teq (l.getD i row0).1 x.1 = true := ht
   refine Tot.dec (by omega) (Tot.dec (by omega) ?_)
   refine Tot.bind (Tot.of (Q := fun r => r = rless (l.getD i row0) x) (specL11Less _ _) rfl) ?_
   rintro b rfl
   simp only [findN, ht', cond_true]
   cases hb : rless (l.getD i row0) x with
   | true => exact Tot.yes rfl (Tot.dec (by omega) (Tot.dec (by omega) (Tot.pure rfl)))
   | false => exact Tot.no rfl (Tot.pure rfl)
  ·have ht' : teq (l.getD i row0).1 x.1 = false := ht
   simp only [findN, ht', cond_false]
   rw [w64 (n := (i : Int) + 1) (by omega) (by omega)]
   exact ih l (i + 1) (by omega) (by omega) hf'
theorem implMerge_l3 (x : Row) (l0 l5 : List Row) (h5 : l5 = l0) : ∀ (n : Nat) (i : Nat), l0.length - i = n → i ≤ l0.length → Few l0 →
  Tot (fun k => impl_MergeRow_l3 k l0 l5 l0 (l0.length : Int) (i : Int) x.1 x.2.1.1 x.2.1.2.1 x.2.1.2.2 x.2.2.1 x.2.2.2) (fun r => r = match findN x.1 (l0.drop i) i with
   | some j => .inl (bif rless (l0.getD j row0) x then l0.set j x else l0)
   | none => .inr (l0, x.1, x.2.1.1, x.2.1.2.1, x.2.1.2.2, x.2.2.1, x.2.2.2)) := by
 subst h5
 intro n
 induction n with
 | zero =>
  intro i hn hi hf
  unfold Few at hf
  refine Tot.succ ?_
  simp only [impl_MergeRow_l3]
  refine Tot.ndec (by omega) (Tot.pure ?_)
  rw [List.drop_of_length_le (by omega)]
  rfl
 | succ n ih =>
  intro i hn hi hf
  have hf' := hf
  unfold Few at hf
  have hlt : i < l5.length := by omega
  refine Tot.succ ?_
  simp only [impl_MergeRow_l3]
  refine Tot.dec (by omega) (Tot.dec (by omega) (Tot.dec (by omega) ?_))
  have e0 : Int.toNat (i : Int) = i := Int.toNat_natCast i
  rw [e0, drop_cons (d := row0) hlt]
  refine Tot.ite (fun ht => ?_) (fun ht => ?_)
  ·have ht' : teq (l5.getD i row0).1 x.1 = true := ht
   refine Tot.bind (Tot.of (Q := fun r => r = rless (l5.getD i row0) x) (implLater _ _) rfl) ?_
   rintro b rfl
   simp only [findN, ht', cond_true]
   cases hb : rless (l5.getD i row0) x with
   | true => exact Tot.yes rfl (Tot.dec (by omega) (Tot.dec (by omega) (Tot.pure rfl)))
   | false => exact Tot.no rfl (Tot.pure rfl)
  ·have ht' : teq (l5.getD i row0).1 x.1 = false := ht
   simp only [findN, ht', cond_false]
   rw [w64 (n := (i : Int) + 1) (by omega) (by omega)]
   exact ih (i + 1) (by omega) (by omega) hf'
theorem implMerge_l11 (x : Row) (l : List Row) (hf : Few l) : ∀ (i : Nat), i ≤ l.length →
  Tot (fun k => impl_MergeRow_l11 k l (i : Int) x.1 x.2.1.1 x.2.1.2.1 x.2.1.2.2 x.2.2.1 x.2.2.2) (fun r => r = (l, (cutN l x.1 i : Int), x.1, x.2.1.1, x.2.1.2.1, x.2.1.2.2, x.2.2.1, x.2.2.2)) := by
 unfold Few at hf
 intro i
 induction i with
 | zero =>
  intro hi
  refine Tot.succ ?_
  simp only [impl_MergeRow_l11]
  exact Tot.ndec (by omega) (Tot.pure rfl)
 | succ i ih =>
  intro hi
  refine Tot.succ ?_
  simp only [impl_MergeRow_l11]
  rw [w64 (n := ((i + 1 : Nat) : Int) - 1) (by omega) (by omega), show ((i + 1 : Nat) : Int) - 1 = (i : Int) by omega, show Int.toNat (i : Int) = i from Int.toNat_natCast i]
  refine Tot.dec (by omega) (Tot.dec (by omega) (Tot.dec (by omega) ?_))
  have e : ∀ z, (!(Op.bytesLess (l.getD i z).1.toList x.1.toList || (l.getD i z).1.toList == x.1.toList)) = tlt x.1 (l.getD i z).1 := fun z => tgt_eq _ _
  rw [e]
  have hc : cutN l x.1 (i + 1) = bif tlt x.1 (l.getD i row0).1 then cutN l x.1 i else i + 1 := rfl
  refine Tot.ite (fun ht => ?_) (fun ht => ?_)
  ·have ht' : tlt x.1 (l.getD i row0).1 = true := ht
   rw [hc, ht', cond_true]
   exact ih (by omega)
  ·have ht' : tlt x.1 (l.getD i row0).1 = false := ht
   rw [hc, ht', cond_false]
   exact Tot.pure rfl
theorem implCopy (l : List Row) (hf : Few l) : impl_copyRows l = some l := by
 unfold Few at hf
 unfold impl_copyRows
 rw [Nat.ble_eq_true_of_le (by simp only [List.length_nil]; omega)]
 rfl
theorem implMerge (l : List Row) (x : Row) (hf : Few l) : Tot (fun k => impl_MergeRow k l x) (fun r => r = mrg l x) := by
 have hf' := hf
 unfold Few at hf
 unfold impl_MergeRow
 refine Tot.bind (Tot.of (Q := fun r => r = l) (implCopy l hf') rfl) ?_
 rintro r rfl
 refine Tot.bind (implMerge_l3 x r r rfl _ 0 rfl (Nat.zero_le _) hf') ?_
 rintro y rfl
 rw [List.drop_zero]
 unfold mrg
 cases hfi : findN x.1 r 0 with
 | some j => exact Tot.pure rfl
 | none =>
  simp only [Sum.elim_inr]
  refine Tot.bind (implMerge_l11 x r hf' r.length (Nat.le_refl _)) ?_
  rintro z rfl
  have hc := cutN_le r x.1 r.length
  simp only
  rw [show Int.toNat ((cutN r x.1 r.length : Nat) : Int) = cutN r x.1 r.length from Int.toNat_natCast _]
  refine Tot.dec (by omega) (Tot.dec (by omega) ?_)
  have hft : Few (r.take (cutN r x.1 r.length)) := by unfold Few; rw [List.length_take]; omega
  refine Tot.bind (Tot.of (Q := fun q => q = r.take (cutN r x.1 r.length)) (implCopy _ hft) rfl) ?_
  rintro q rfl
  refine Tot.ble (by simp only [List.length_take, List.length_cons, List.length_nil]; omega) ?_
  refine Tot.dec (by omega) (Tot.dec (by omega) (Tot.ble (by simp only [List.length_append, List.length_take, List.length_drop, List.length_cons, List.length_nil]; omega) (Tot.pure ?_)))
  rw [List.append_assoc]
  rfl
theorem specMerge_l11 (x : Row) (l : List Row) (hf : Few l) : ∀ (i : Nat) (y : Row), i ≤ l.length →
  Tot (fun k => spec_MergeRow_l11 k (l.take i ++ y :: l.drop i) (i : Int) x.1 x.2.1.1 x.2.1.2.1 x.2.1.2.2 x.2.2.1 x.2.2.2)
   (fun r => ∃ y', r = (l.take (cutN l x.1 i) ++ y' :: l.drop (cutN l x.1 i), (cutN l x.1 i : Int), x.1, x.2.1.1, x.2.1.2.1, x.2.1.2.2, x.2.2.1, x.2.2.2)) := by
 unfold Few at hf
 intro i
 induction i with
 | zero =>
  intro y hi
  refine Tot.succ ?_
  simp only [spec_MergeRow_l11]
  exact Tot.ndec (by omega) (Tot.pure ⟨y, rfl⟩)
 | succ i ih =>
  intro y hi
  refine Tot.succ ?_
  simp only [spec_MergeRow_l11]
  have hlen : (l.take (i + 1) ++ y :: l.drop (i + 1)).length = l.length + 1 := by simp only [List.length_append, List.length_take, List.length_cons, List.length_drop]; omega
  have hget : ∀ z, (l.take (i + 1) ++ y :: l.drop (i + 1)).getD i z = l.getD i z := by
   intro z
   rw [List.getD_eq_getElem?_getD, List.getD_eq_getElem?_getD, List.getElem?_append_left (by rw [List.length_take]; omega), List.getElem?_take_of_lt (by omega)]
  rw [w64 (n := ((i + 1 : Nat) : Int) - 1) (by omega) (by omega), show ((i + 1 : Nat) : Int) - 1 = (i : Int) by omega, show Int.toNat (i : Int) = i from Int.toNat_natCast i, show Int.toNat ((i + 1 : Nat) : Int) = i + 1 from Int.toNat_natCast _, hget, hlen]
  refine Tot.dec (by omega) (Tot.dec (by omega) (Tot.dec (by omega) ?_))
  have e : ∀ z, (!(Op.bytesLess (l.getD i z).1.toList x.1.toList || (l.getD i z).1.toList == x.1.toList)) = tlt x.1 (l.getD i z).1 := fun z => tgt_eq _ _
  rw [e]
  have hc : cutN l x.1 (i + 1) = bif tlt x.1 (l.getD i row0).1 then cutN l x.1 i else i + 1 := rfl
  refine Tot.ite (fun ht => ?_) (fun ht => ?_)
  ·have ht' : tlt x.1 (l.getD i row0).1 = true := ht
   rw [hc, ht', cond_true]
   refine Tot.dec (by omega) (Tot.dec (by omega) (Tot.dec (by omega) (Tot.dec (by omega) ?_)))
   have hset : (l.take (i + 1) ++ y :: l.drop (i + 1)).set (i + 1) (l.getD i ((⟨#[]⟩ : ByteArray), (((0 : Int), ((0 : Int), (0 : Int))), (false, (0 : Int))))) = l.take i ++ l.getD i row0 :: l.drop i := by
    rw [List.set_append, if_neg (by rw [List.length_take]; omega), List.length_take, Nat.min_eq_left hi, Nat.sub_self, List.set_cons_zero, drop_cons (d := row0) (show i < l.length by omega)]
    rw [List.take_add_one, List.getElem?_eq_getElem (show i < l.length by omega)]
    simp only [Option.toList_some, List.append_assoc, List.singleton_append]
    rw [List.getD_eq_getElem?_getD, List.getD_eq_getElem?_getD, List.getElem?_eq_getElem (show i < l.length by omega)]
    rfl
   rw [hset]
   exact ih _ (by omega)
  ·have ht' : tlt x.1 (l.getD i row0).1 = false := ht
   rw [hc, ht', cond_false]
   exact Tot.pure ⟨y, rfl⟩
theorem specMerge (l : List Row) (x : Row) (hf : Few l) : Tot (fun k => spec_MergeRow k l x) (fun r => r = mrg l x) := by
 have hf' := hf
 unfold Few at hf
 unfold spec_MergeRow
 refine Tot.ble (by simp only [List.length_nil]; omega) ?_
 rw [List.nil_append]
 refine Tot.bind (specMerge_l3 x _ l 0 rfl (Nat.zero_le _) hf') ?_
 rintro y rfl
 rw [List.drop_zero]
 unfold mrg
 cases hfi : findN x.1 l 0 with
 | some j => exact Tot.pure rfl
 | none =>
  simp only [Sum.elim_inr]
  refine Tot.ble (by simp only [List.length_cons, List.length_nil]; omega) ?_
  have h0 := specMerge_l11 x l hf' l.length x (Nat.le_refl _)
  rw [List.take_length, List.drop_length] at h0
  refine Tot.bind h0 ?_
  rintro z ⟨y', rfl⟩
  have hc := cutN_le l x.1 l.length
  have hlen : (l.take (cutN l x.1 l.length) ++ y' :: l.drop (cutN l x.1 l.length)).length = l.length + 1 := by simp only [List.length_append, List.length_take, List.length_cons, List.length_drop]; omega
  simp only
  rw [show Int.toNat ((cutN l x.1 l.length : Nat) : Int) = cutN l x.1 l.length from Int.toNat_natCast _, hlen]
  refine Tot.dec (by omega) (Tot.dec (by omega) (Tot.pure ?_))
  rw [List.set_append, if_neg (by rw [List.length_take]; omega), List.length_take, Nat.min_eq_left hc, Nat.sub_self, List.set_cons_zero]
end Go.Proofs.Ytehkignjdbkeiaa.Vf
end
section
set_option linter.unusedVariables false
set_option linter.unusedSimpArgs false
namespace Go.Proofs.Ytehkignjdbkeiaa.Vf
open Go
theorem barr_beq (a b : ByteArray) : (a == b) = teq a b := beq_toListBytes a b
def reqB (a b : Row) : Bool := (a.1 == b.1) && ((a.2.1.1 == b.2.1.1) && ((a.2.1.2.1 == b.2.1.2.1) && ((a.2.1.2.2 == b.2.1.2.2) && ((a.2.2.1 == b.2.2.1) && (a.2.2.2 == b.2.2.2)))))
theorem reqB_iff {a b : Row} : reqB a b = true ↔ a = b := by
 unfold reqB
 simp only [Bool.and_eq_true, beq_iff_eq, barr_beq, teq_iff]
 constructor
 ·rintro ⟨h1, h2, h3, h4, h5, h6⟩
  obtain ⟨n, ⟨t, s, d⟩, b1, z⟩ := a
  obtain ⟨n', ⟨t', s', d'⟩, b1', z'⟩ := b
  simp only at h1 h2 h3 h4 h5 h6
  subst h1 h2 h3 h4 h5 h6
  rfl
 ·rintro rfl
  exact ⟨rfl, rfl, rfl, rfl, rfl, rfl⟩
theorem sameRows_l4 (a b : List Row) (hl : a.length = b.length) (hf : Few a) : ∀ (n i : Nat), a.length - i = n → i ≤ a.length →
  Tot (fun k => laws_sameRows_l4 k a b (i : Int)) (fun r => r = bif decide (a.drop i = b.drop i) then .inr () else .inl false) := by
 unfold Few at hf
 intro n
 induction n with
 | zero =>
  intro i hn hi
  refine Tot.succ ?_
  simp only [laws_sameRows_l4]
  refine Tot.ndec (by omega) (Tot.pure ?_)
  rw [List.drop_of_length_le (by omega), List.drop_of_length_le (by omega)]
  rfl
 | succ n ih =>
  intro i hn hi
  have hlt : i < a.length := by omega
  refine Tot.succ ?_
  simp only [laws_sameRows_l4]
  rw [show Int.toNat (i : Int) = i from Int.toNat_natCast i]
  refine Tot.dec (by omega) (Tot.dec (by omega) (Tot.dec (by omega) (Tot.dec (by omega) (Tot.dec (by omega) ?_))))
  rw [drop_cons (d := row0) hlt, drop_cons (d := row0) (show i < b.length by omega)]
  refine Tot.ite (fun h => ?_) (fun h => ?_)
  ·have h' : reqB (a.getD i row0) (b.getD i row0) = false := (Bool.not_eq_true' _).mp h
   have hne : a.getD i row0 ≠ b.getD i row0 := fun e => by rw [reqB_iff.2 e] at h'; cases h'
   refine Tot.pure ?_
   rw [decide_eq_false (by intro e; exact hne (List.cons.inj e).1)]
   rfl
  ·have h' : reqB (a.getD i row0) (b.getD i row0) = true := by
    have h2 : (!(reqB (a.getD i row0) (b.getD i row0))) = false := h
    cases hb : reqB (a.getD i row0) (b.getD i row0) with
    | true => rfl
    | false => rw [hb] at h2; cases h2
   have he := reqB_iff.1 h'
   rw [w64 (n := (i : Int) + 1) (by omega) (by omega)]
   refine (ih (i + 1) (by omega) (by omega)).mono ?_
   rintro r rfl
   rw [he]
   have : (b.getD i row0 :: a.drop (i + 1) = b.getD i row0 :: b.drop (i + 1)) ↔ (a.drop (i + 1) = b.drop (i + 1)) := by simp
   simp only [this]
theorem sameRows_tot (a b : List Row) (hf : Few a) (hf2 : Few b) : Tot (fun k => laws_sameRows k a b) (fun r => r = decide (a = b)) := by
 unfold laws_sameRows
 refine Tot.ite (fun h => ?_) (fun h => ?_)
 ·refine Tot.pure ?_
  have : a ≠ b := fun e => by subst e; simp at h
  rw [decide_eq_false this]
 ·have hl : a.length = b.length := by
   simp only [bne_eq_false_iff_eq] at h
   omega
  refine Tot.bind (sameRows_l4 a b hl hf _ 0 rfl (Nat.zero_le _)) ?_
  rintro r rfl
  rw [List.drop_zero, List.drop_zero]
  cases decide (a = b) with
  | true => exact Tot.pure rfl
  | false => exact Tot.pure rfl
theorem findN_none {s : ByteArray} : ∀ (l : List Row) (i : Nat), findN s l i = none → ∀ r ∈ l, r.1 ≠ s
 | [], _, _, r, hr => by simp at hr
 | a :: l, i, h, r, hr => by
  unfold findN at h
  cases ht : teq a.1 s with
  | true => rw [ht] at h; simp at h
  | false =>
   rw [ht] at h
   rcases List.mem_cons.1 hr with rfl | hr
   ·intro e
    rw [teq_iff.2 e] at ht
    cases ht
   ·exact findN_none l (i + 1) h r hr
theorem mrg_len (l : List Row) (x : Row) : l.length ≤ (mrg l x).length ∧ (mrg l x).length ≤ l.length + 1 := by
 unfold mrg
 have hc := cutN_le l x.1 l.length
 split
 ·cases rless (l.getD _ row0) x <;> simp
 ·simp only [List.length_append, List.length_take, List.length_cons, List.length_drop]
  omega
theorem mem_mrg {l : List Row} {x r : Row} (h : r ∈ mrg l x) : r = x ∨ r ∈ l := by
 unfold mrg at h
 split at h
 ·rename_i j hj
  cases hb : rless (l.getD j row0) x with
  | false => rw [hb] at h; exact .inr h
  | true =>
   rw [hb, cond_true] at h
   rcases List.mem_or_eq_of_mem_set h with h | h
   ·exact .inr h
   ·exact .inl h
 ·rcases List.mem_append.1 h with h | h
  ·exact .inr (List.mem_of_mem_take h)
  ·rcases List.mem_cons.1 h with h | h
   ·exact .inl h
   ·exact .inr (List.mem_of_mem_drop h)
theorem sle_irrefl (a : Stp) : sle a a = false := by
 cases h : sle a a with
 | false => rfl
 | true => rw [sle_iff] at h; omega
theorem rless_stamp {a b : Row} (h : rless a b = false) : sle a.2.1 b.2.1 = false := by
 unfold rless at h
 cases hs : (!((a.2.1.1 == b.2.1.1) && ((a.2.1.2.1 == b.2.1.2.1) && (a.2.1.2.2 == b.2.1.2.2)))) with
 | true => rw [hs] at h; exact h
 | false =>
  simp only [Bool.not_eq_false', Bool.and_eq_true, beq_iff_eq] at hs
  cases hl : sle a.2.1 b.2.1 with
  | false => rfl
  | true => rw [sle_iff] at hl; omega
theorem mrg_has (l : List Row) (x : Row) : ∃ r ∈ mrg l x, r.1 = x.1 ∧ sle r.2.1 x.2.1 = false := by
 unfold mrg
 split
 ·rename_i j hj
  obtain ⟨_, h2, h3⟩ := findN_drop l 0 j hj
  rw [Nat.sub_zero] at h3
  have hjl : j < l.length := by omega
  cases hb : rless (l.getD j row0) x with
  | true => exact ⟨x, by rw [cond_true]; exact List.mem_set hjl x, rfl, sle_irrefl _⟩
  | false =>
   refine ⟨l.getD j row0, ?_, teq_iff.1 h3, rless_stamp hb⟩
   rw [cond_false, List.getD_eq_getElem?_getD, List.getElem?_eq_getElem hjl]
   exact List.getElem_mem hjl
 ·exact ⟨x, by simp, rfl, sle_irrefl _⟩
def RowsSorted (l : List Row) : Prop := l.Pairwise (fun a b => tlt a.1 b.1 = true)
theorem cutN_spec {l : List Row} {s : ByteArray} (hs : RowsSorted l) (hn : ∀ r ∈ l, r.1 ≠ s) : ∀ k, k ≤ l.length → (∀ i, i < cutN l s k → tlt (l.getD i row0).1 s = true) ∧ (∀ i, cutN l s k ≤ i → i < k → tlt s (l.getD i row0).1 = true)
 | 0, _ => ⟨fun i hi => by simp [cutN] at hi, fun i _ hi => by omega⟩
 | k + 1, hk => by
  unfold cutN
  cases ht : tlt s (l.getD k row0).1 with
  | true =>
   simp only [cond_true]
   obtain ⟨h1, h2⟩ := cutN_spec hs hn k (by omega)
   refine ⟨h1, fun i hi hik => ?_⟩
   by_cases e : i = k
   ·subst e; exact ht
   ·exact h2 i hi (by omega)
  | false =>
   simp only [cond_false]
   refine ⟨fun i hi => ?_, fun i hi hik => by omega⟩
   have hget : ∀ j (hj : j < l.length), l.getD j row0 = l[j] := fun j hj => by rw [List.getD_eq_getElem?_getD, List.getElem?_eq_getElem hj]; rfl
   have hkl : k < l.length := by omega
   have hks : tlt (l.getD k row0).1 s = true := by
    cases h : tlt (l.getD k row0).1 s with
    | true => rfl
    | false =>
     exfalso
     exact hn (l.getD k row0) (by rw [hget k hkl]; exact List.getElem_mem hkl) (tlt_tri h ht)
   by_cases e : i = k
   ·subst e; exact hks
   ·have h3 := (List.pairwise_iff_getElem.1 hs) i k (by omega) hkl (by omega)
    rw [hget i (by omega)]
    rw [hget k hkl] at hks
    exact tlt_trans h3 hks
theorem mrg_sorted {l : List Row} {x : Row} (hs : RowsSorted l) : RowsSorted (mrg l x) := by
 have hget : ∀ j (hj : j < l.length), l.getD j row0 = l[j] := fun j hj => by rw [List.getD_eq_getElem?_getD, List.getElem?_eq_getElem hj]; rfl
 unfold mrg
 split
 ·rename_i j hj
  obtain ⟨_, h2, h3⟩ := findN_drop l 0 j hj
  rw [Nat.sub_zero] at h3
  have hjl : j < l.length := by omega
  have hname : l[j].1 = x.1 := by rw [← hget j hjl]; exact teq_iff.1 h3
  cases hb : rless (l.getD j row0) x with
  | false => exact hs
  | true =>
   rw [cond_true]
   unfold RowsSorted
   rw [List.pairwise_iff_getElem]
   intro a b ha hb hab
   rw [List.length_set] at ha hb
   have := (List.pairwise_iff_getElem.1 hs) a b ha hb hab
   rw [List.getElem_set, List.getElem_set]
   by_cases e1 : j = a
   ·subst e1
    rw [if_pos rfl, if_neg (by omega), ← hname]
    exact this
   ·rw [if_neg e1]
    by_cases e2 : j = b
    ·subst e2
     rw [if_pos rfl, ← hname]
     exact this
    ·rw [if_neg e2]
     exact this
 ·rename_i hj
  have hn := findN_none l 0 hj
  obtain ⟨c1, c2⟩ := cutN_spec hs hn l.length (Nat.le_refl _)
  have hc := cutN_le l x.1 l.length
  unfold RowsSorted
  rw [List.pairwise_append, List.pairwise_cons]
  refine ⟨List.Pairwise.sublist (List.take_sublist _ _) hs, ⟨fun r hr => ?_, List.Pairwise.sublist (List.drop_sublist _ _) hs⟩, fun r hr q hq => ?_⟩
  ·obtain ⟨i, hi, rfl⟩ := List.getElem_of_mem hr
   rw [List.length_drop] at hi
   rw [List.getElem_drop, ← hget _ (by omega)]
   exact c2 _ (by omega) (by omega)
  ·obtain ⟨i, hi, rfl⟩ := List.getElem_of_mem hr
   rw [List.length_take] at hi
   have h1 : tlt (List.take (cutN l x.1 l.length) l)[i].1 x.1 = true := by
    rw [List.getElem_take, ← hget _ (by omega)]
    exact c1 i (by omega)
   rcases List.mem_cons.1 hq with rfl | hq
   ·exact h1
   ·refine tlt_trans h1 ?_
    obtain ⟨m, hm, rfl⟩ := List.getElem_of_mem hq
    rw [List.length_drop] at hm
    rw [List.getElem_drop, ← hget _ (by omega)]
    exact c2 _ (by omega) (by omega)
def RowsIn (l : List Row) : Prop := RowsSorted l ∧ (∀ r ∈ l, RowIn r)
theorem l11Draw_loop : ∀ (n : Nat) (l : List Row) (i : Int) (c : Cur), CurOk c → 0 ≤ i → i = n → RowsIn l → l.length + n ≤ 5 →
  Tot (fun k => spec_l11Draw_l3 k l i c.1 c.2.1 c.2.2) (fun r => CurOk r.2 ∧ RowsIn r.1 ∧ r.1.length ≤ 5) := by
 intro n
 induction n with
 | zero =>
  intro l i c hc h0 hi hr hl
  refine Tot.succ ?_
  simp only [spec_l11Draw_l3]
  exact Tot.ndec (by omega) (Tot.pure ⟨hc, hr, by show l.length ≤ 5; omega⟩)
 | succ n ih =>
  intro l i c hc h0 hi hr hl
  refine Tot.succ ?_
  simp only [spec_l11Draw_l3]
  refine Tot.dec (by omega) ?_
  refine Tot.bind (l11One_tot c hc) (fun r h => ?_)
  refine Tot.bind (specMerge l r.1 (by unfold Few; omega)) ?_
  rintro m rfl
  rw [w64 (n := i - 1) (by omega) (by omega)]
  refine ih _ _ r.2 h.2 (by omega) (by omega) ⟨mrg_sorted hr.1, fun y hy => ?_⟩ (by have := (mrg_len l r.1).2; omega)
  rcases mem_mrg hy with rfl | hy
  ·exact h.1
  ·exact hr.2 y hy
theorem l11Draw_tot (c : Cur) (hc : CurOk c) : Tot (fun k => spec_l11Draw k c) (fun r => CurOk r.2 ∧ RowsIn r.1 ∧ r.1.length ≤ 5) := by
 unfold spec_l11Draw
 obtain ⟨x, c', e, x0, x1, _, k⟩ := l1Below_ok c hc 6 (by decide)
 have x1 := x1 (by decide)
 refine Tot.bind (Tot.of (Q := fun r => r = (x, c')) e rfl) ?_
 rintro r rfl
 refine Tot.bind (l11Draw_loop x.toNat [] x c' k x0 (by omega) ⟨List.Pairwise.nil, by simp⟩ (by simp only [List.length_nil]; omega)) (fun r hr => Tot.pure hr)
theorem l11Any_tot (c : Cur) (hc : CurOk c) : Tot (fun k => spec_l11Any k c) (fun r => CurOk r.2 ∧ r.1.length ≤ 6) := by
 unfold spec_l11Any
 refine Tot.bind (l11Draw_tot c hc) (fun r hr => ?_)
 obtain ⟨k1, hr1, hl⟩ := hr
 obtain ⟨x, c', e, _, _, _, k2⟩ := l1Below_ok r.2 k1 8 (by decide)
 refine Tot.bind (Tot.of (Q := fun r => r = (x, c')) e rfl) ?_
 rintro y rfl
 refine Tot.ite (fun _ => ?_) (fun _ => ?_)
 ·refine Tot.bind (l11One_tot c' k2) (fun z hz => ?_)
  refine Tot.ble (by simp only [List.length_cons, List.length_nil]; omega) (Tot.pure ⟨hz.2, ?_⟩)
  show (r.1 ++ [z.1]).length ≤ 6
  simp only [List.length_append, List.length_cons, List.length_nil]
  omega
 ·refine Tot.ite (fun _ => ?_) (fun _ => Tot.pure ⟨k2, by show r.1.length ≤ 6; omega⟩)
  refine Tot.dite (fun h => ?_) (fun h => Tot.pure ⟨k2, by show r.1.length ≤ 6; omega⟩)
  obtain ⟨v, c3, e3, _, k3⟩ := l1Int_ok c' k2 [(-1), 201, 200] (by decide) (by decide)
  refine Tot.bind (Tot.of (Q := fun r => r = (v, c3)) e3 rfl) ?_
  rintro z rfl
  refine Tot.dec (by omega) (Tot.pure ⟨k3, ?_⟩)
  show (List.set r.1 _ _).length ≤ 6
  rw [List.length_set]
  omega
end Go.Proofs.Ytehkignjdbkeiaa.Vf
end
section
set_option linter.unusedVariables false
set_option linter.unusedSimpArgs false
namespace Go.Proofs.Ytehkignjdbkeiaa.Vf
open Go
def inR (n lo hi : Int) : Bool := decide (n ≥ lo) && decide (n ≤ hi)
theorem implIn (n lo hi : Int) : impl_in n lo hi = some (inR n lo hi) := by
 unfold impl_in inR
 cases decide (n ≥ lo) <;> rfl
theorem specIn (n lo hi : Int) : spec_l1In n lo hi = some (inR n lo hi) := by
 unfold spec_l1In inR
 cases decide (n ≥ lo) <;> rfl
theorem inR_iff {n lo hi : Int} : inR n lo hi = true ↔ lo ≤ n ∧ n ≤ hi := by
 unfold inR
 simp
def charOk (c : Int) : Bool := inR c 97 122 || (inR c 48 57 || (!(c != 45) || (!(c != 95) || !(c != 47))))
def Short (s : ByteArray) : Prop := s.size ≤ 4611686018427387904
theorem size_toList (s : ByteArray) : s.data.toList.length = s.size := Array.length_toList
theorem bt_bounds (s : ByteArray) (i : Int) : 0 ≤ bt s i ∧ bt s i ≤ 255 := by
 unfold bt
 have := (s.data.toList.getD i.toNat 0).toNat_lt
 omega
theorem bt_at (s : ByteArray) (i : Nat) (h : i < s.size) : bt s (i : Int) = ((s.data.toList[i]'(by rw [size_toList]; exact h)).toNat : Int) := by
 unfold bt
 rw [Int.toNat_natCast, List.getD_eq_getElem?_getD, List.getElem?_eq_getElem (by rw [size_toList]; exact h)]
 rfl
def bOk (b : UInt8) : Bool := charOk (b.toNat : Int)
theorem implName_l2 (s : ByteArray) (hs : Short s) : ∀ (n i : Nat), s.size - i = n → i ≤ s.size →
  Tot (fun k => impl_NameOk_l2 k s (i : Int)) (fun r => r = bif (s.data.toList.drop i).all bOk then .inr s else .inl false) := by
 unfold Short at hs
 have hsz := size_toList s
 intro n
 induction n with
 | zero =>
  intro i hn hi
  refine Tot.succ ?_
  simp only [impl_NameOk_l2]
  refine Tot.ndec (by omega) (Tot.pure ?_)
  rw [List.drop_of_length_le (by omega)]
  rfl
 | succ n ih =>
  intro i hn hi
  have hlt : i < s.size := by omega
  refine Tot.succ ?_
  simp only [impl_NameOk_l2]
  refine Tot.dec (by omega) (Tot.dec (by omega) (Tot.dec (by omega) ?_))
  rw [w64 (n := (i : Int) + 1) (by omega) (by omega)]
  have hb : bOk (s.data.toList[i]'(by omega)) = charOk (bt s (i : Int)) := by rw [bt_at s i hlt]; rfl
  rw [List.drop_eq_getElem_cons (by omega), List.all_cons, hb]
  generalize bt s (i : Int) = c
  have h1 := ih (i + 1) (by omega) (by omega)
  have e : (((i + 1 : Nat)) : Int) = (i : Int) + 1 := by omega
  rw [e] at h1
  cases hc : charOk c with
  | true =>
   rw [Bool.true_and]
   refine h1.mono (fun r hr => hr) |> fun h => ?_
   obtain ⟨r, K, h2, h3⟩ := h
   refine ⟨r, K, fun k hk => ?_, h3⟩
   rw [← h2 k hk]
   unfold charOk inR at hc
   revert hc
   cases decide (c ≥ 97) <;> cases decide (c ≤ 122) <;> cases decide (c ≥ 48) <;> cases decide (c ≤ 57) <;> cases (c != 45) <;> cases (c != 95) <;> cases (c != 47) <;> first | (intro _; rfl) | (intro hc; cases hc)
  | false =>
   rw [Bool.false_and]
   refine ⟨.inl false, 0, fun k _ => ?_, rfl⟩
   unfold charOk inR at hc
   revert hc
   cases decide (c ≥ 97) <;> cases decide (c ≤ 122) <;> cases decide (c ≥ 48) <;> cases decide (c ≤ 57) <;> cases (c != 45) <;> cases (c != 95) <;> cases (c != 47) <;> first | (intro _; rfl) | (intro hc; cases hc)
theorem specName_l2 (s : ByteArray) (hs : Short s) : ∀ (n i : Nat), s.size - i = n → i ≤ s.size →
  Tot (fun k => spec_NameOk_l2 k s (i : Int)) (fun r => r = bif (s.data.toList.drop i).all bOk then .inr s else .inl false) := by
 unfold Short at hs
 have hsz := size_toList s
 intro n
 induction n with
 | zero =>
  intro i hn hi
  refine Tot.succ ?_
  simp only [spec_NameOk_l2]
  refine Tot.ndec (by omega) (Tot.pure ?_)
  rw [List.drop_of_length_le (by omega)]
  rfl
 | succ n ih =>
  intro i hn hi
  have hlt : i < s.size := by omega
  have hbb := bt_bounds s (i : Int)
  refine Tot.succ ?_
  simp only [spec_NameOk_l2]
  refine Tot.dec (by omega) (Tot.dec (by omega) (Tot.dec (by omega) ?_))
  rw [w64 (n := (i : Int) + 1) (by omega) (by omega), w64 (n := bt s (i : Int)) (by omega) (by omega)]
  have hb : bOk (s.data.toList[i]'(by omega)) = charOk (bt s (i : Int)) := by rw [bt_at s i hlt]; rfl
  rw [List.drop_eq_getElem_cons (by omega), List.all_cons, hb]
  generalize bt s (i : Int) = c
  have h1 := ih (i + 1) (by omega) (by omega)
  have e : (((i + 1 : Nat)) : Int) = (i : Int) + 1 := by omega
  rw [e] at h1
  simp only [specIn, Option.bind_some]
  cases hc : charOk c with
  | true =>
   rw [Bool.true_and]
   obtain ⟨r, K, h2, h3⟩ := h1
   refine ⟨r, K, fun k hk => ?_, h3⟩
   rw [← h2 k hk]
   unfold charOk at hc
   revert hc
   cases inR c 97 122 <;> cases inR c 48 57 <;> cases (c != 45) <;> cases (c != 95) <;> cases (c != 47) <;> first | (intro _; rfl) | (intro hc; cases hc)
  | false =>
   rw [Bool.false_and]
   refine ⟨.inl false, 0, fun k _ => ?_, rfl⟩
   unfold charOk at hc
   revert hc
   cases inR c 97 122 <;> cases inR c 48 57 <;> cases (c != 45) <;> cases (c != 95) <;> cases (c != 47) <;> first | (intro _; rfl) | (intro hc; cases hc)
def nameOk (s : ByteArray) : Bool := s.data.toList.all bOk && inR (s.size : Int) 1 20
theorem implName (s : ByteArray) (hs : Short s) : Tot (fun k => impl_NameOk k s) (fun r => r = nameOk s) := by
 unfold impl_NameOk nameOk
 refine Tot.bind (implName_l2 s hs _ 0 rfl (Nat.zero_le _)) ?_
 rintro r rfl
 rw [List.drop_zero]
 cases s.data.toList.all bOk with
 | true => exact Tot.of (a := inR (s.size : Int) 1 20) (by simp only [cond_true, Sum.elim_inr, implIn, Option.bind_some]) (by rw [Bool.true_and])
 | false => exact Tot.pure rfl
theorem specName (s : ByteArray) (hs : Short s) : Tot (fun k => spec_NameOk k s) (fun r => r = nameOk s) := by
 unfold spec_NameOk nameOk
 refine Tot.bind (specName_l2 s hs _ 0 rfl (Nat.zero_le _)) ?_
 rintro r rfl
 rw [List.drop_zero]
 cases s.data.toList.all bOk with
 | true => exact Tot.of (a := inR (s.size : Int) 1 20) (by simp only [cond_true, Sum.elim_inr, specIn, Option.bind_some]) (by rw [Bool.true_and])
 | false => exact Tot.pure rfl
def stampOk (s : Stp) : Bool := inR s.1 0 1000000000 && (inR s.2.1 0 1000000 && inR s.2.2 0 20)
theorem implStamp (s : Stp) : impl_StampOk s = some (stampOk s) := by
 unfold impl_StampOk stampOk
 simp only [implIn, Option.bind_some]
 cases inR s.1 0 1000000000 <;> cases inR s.2.1 0 1000000 <;> rfl
theorem specStamp (s : Stp) : spec_StampOk s = some (stampOk s) := by
 unfold spec_StampOk stampOk
 simp only [specIn, Option.bind_some]
 cases inR s.1 0 1000000000 <;> cases inR s.2.1 0 1000000 <;> rfl
def rowOk (x : Row) : Bool := nameOk x.1 && (stampOk x.2.1 && (inR x.2.2.2 0 200 && (!x.2.2.1 || x.2.2.2 == 0)))
theorem implRow (x : Row) (hs : Short x.1) : Tot (fun k => impl_rowOk k x) (fun r => r = rowOk x) := by
 unfold impl_rowOk rowOk
 refine Tot.bind (implName x.1 hs) ?_
 rintro r rfl
 cases nameOk x.1 with
 | false => exact Tot.pure rfl
 | true =>
  refine Tot.of (a := stampOk x.2.1 && (inR x.2.2.2 0 200 && (!x.2.2.1 || x.2.2.2 == 0))) ?_ (by rw [Bool.true_and])
  simp only [cond_true, implStamp, implIn, Option.bind_some]
  cases stampOk x.2.1 <;> cases inR x.2.2.2 0 200 <;> cases x.2.2.1 <;> rfl
theorem specRow (x : Row) (hs : Short x.1) : Tot (fun k => spec_l11Row k x) (fun r => r = rowOk x) := by
 unfold spec_l11Row rowOk
 refine Tot.bind (specName x.1 hs) ?_
 rintro r rfl
 cases nameOk x.1 with
 | false => exact Tot.pure rfl
 | true =>
  refine Tot.of (a := stampOk x.2.1 && (inR x.2.2.2 0 200 && (!x.2.2.1 || x.2.2.2 == 0))) ?_ (by rw [Bool.true_and])
  simp only [cond_true, specStamp, specIn, Option.bind_some]
  cases stampOk x.2.1 <;> cases inR x.2.2.2 0 200 <;> cases x.2.2.1 <;> rfl
def chk : Option ByteArray → List Row → Bool
 | _, [] => true
 | none, r :: l => rowOk r && chk (some r.1) l
 | some q, r :: l => rowOk r && (tlt q r.1 && chk (some r.1) l)
def rowsOk (l : List Row) : Bool := chk none l && decide ((l.length : Int) ≤ 60)
def AllShort (l : List Row) : Prop := ∀ r ∈ l, Short r.1
def prevN (l : List Row) : Nat → Option ByteArray
 | 0 => none
 | i + 1 => some (l.getD i row0).1
theorem chk_drop (l : List Row) (i : Nat) (h : i < l.length) : chk (prevN l i) (l.drop i) = (rowOk (l.getD i row0) && (bif decide (0 < i) then tlt (l.getD (i - 1) row0).1 (l.getD i row0).1 else true) && chk (prevN l (i + 1)) (l.drop (i + 1))) := by
 rw [drop_cons (d := row0) h]
 cases i with
 | zero => simp [prevN, chk]
 | succ i => simp [prevN, chk, Bool.and_assoc]
theorem getD_mem' {α : Type} {l : List α} {i : Nat} {d : α} (h1 : i < l.length) : l.getD i d ∈ l := by
 rw [List.getD_eq_getElem?_getD, List.getElem?_eq_getElem h1]
 exact List.getElem_mem h1
theorem implRows_l2 (l : List Row) (hf : Few l) (hs : AllShort l) : ∀ (n i : Nat), l.length - i = n → i ≤ l.length →
  Tot (fun k => impl_RowsOk_l2 k l l (l.length : Int) (i : Int)) (fun r => r = bif chk (prevN l i) (l.drop i) then .inr l else .inl false) := by
 unfold Few at hf
 intro n
 induction n with
 | zero =>
  intro i hn hi
  refine Tot.succ ?_
  simp only [impl_RowsOk_l2]
  refine Tot.ndec (by omega) (Tot.pure ?_)
  rw [List.drop_of_length_le (by omega)]
  cases prevN l i <;> rfl
 | succ n ih =>
  intro i hn hi
  have hlt : i < l.length := by omega
  refine Tot.succ ?_
  simp only [impl_RowsOk_l2]
  refine Tot.dec (by omega) (Tot.dec (by omega) (Tot.dec (by omega) ?_))
  rw [show Int.toNat (i : Int) = i from Int.toNat_natCast i, w64 (n := (i : Int) + 1) (by omega) (by omega), chk_drop l i hlt]
  have h1 := ih (i + 1) (by omega) (by omega)
  have e : (((i + 1 : Nat)) : Int) = (i : Int) + 1 := by omega
  rw [e] at h1
  refine Tot.bind (implRow (l.getD i row0) (hs _ (getD_mem' hlt))) ?_
  rintro b rfl
  cases hb : rowOk (l.getD i row0) with
  | false => exact Tot.yes rfl (Tot.pure (by simp))
  | true =>
   refine Tot.no rfl ?_
   rw [Bool.true_and]
   refine Tot.dite (fun h0 => ?_) (fun h0 => ?_)
   ·rw [w64 (n := (i : Int) - 1) (by omega) (by omega)]
    refine Tot.dec (by omega) (Tot.dec (by omega) ?_)
    rw [show Int.toNat ((i : Int) - 1) = i - 1 by omega, decide_eq_true (show 0 < i by omega), cond_true]
    have et : (!(Op.bytesLess (l.getD (i - 1) row0).1.toList (l.getD i row0).1.toList)) = !(tlt (l.getD (i - 1) row0).1 (l.getD i row0).1) := rfl
    refine Tot.ite (fun ht => ?_) (fun ht => ?_)
    ·have ht' : (!(tlt (l.getD (i - 1) row0).1 (l.getD i row0).1)) = true := ht
     rw [Bool.not_eq_true'] at ht'
     exact Tot.pure (by rw [ht']; rfl)
    ·have ht' : (!(tlt (l.getD (i - 1) row0).1 (l.getD i row0).1)) = false := ht
     rw [Bool.not_eq_false'] at ht'
     rw [ht', Bool.true_and]
     exact h1
   ·rw [decide_eq_false (show ¬ 0 < i by omega), cond_false, Bool.true_and]
    exact h1
theorem specRows_l2 (l : List Row) (hf : Few l) (hs : AllShort l) : ∀ (n i : Nat), l.length - i = n → i ≤ l.length →
  Tot (fun k => spec_RowsOk_l2 k l (i : Int)) (fun r => r = bif chk (prevN l i) (l.drop i) then .inr l else .inl false) := by
 unfold Few at hf
 intro n
 induction n with
 | zero =>
  intro i hn hi
  refine Tot.succ ?_
  simp only [spec_RowsOk_l2]
  refine Tot.ndec (by omega) (Tot.pure ?_)
  rw [List.drop_of_length_le (by omega)]
  cases prevN l i <;> rfl
 | succ n ih =>
  intro i hn hi
  have hlt : i < l.length := by omega
  refine Tot.succ ?_
  simp only [spec_RowsOk_l2]
  refine Tot.dec (by omega) (Tot.dec (by omega) (Tot.dec (by omega) ?_))
  rw [show Int.toNat (i : Int) = i from Int.toNat_natCast i, w64 (n := (i : Int) + 1) (by omega) (by omega), chk_drop l i hlt]
  have h1 := ih (i + 1) (by omega) (by omega)
  have e : (((i + 1 : Nat)) : Int) = (i : Int) + 1 := by omega
  rw [e] at h1
  refine Tot.bind (specRow (l.getD i row0) (hs _ (getD_mem' hlt))) ?_
  rintro b rfl
  cases hb : rowOk (l.getD i row0) with
  | false => exact Tot.yes rfl (Tot.pure (by simp))
  | true =>
   refine Tot.no rfl ?_
   rw [Bool.true_and]
   refine Tot.dite (fun h0 => ?_) (fun h0 => ?_)
   ·rw [w64 (n := (i : Int) - 1) (by omega) (by omega)]
    refine Tot.dec (by omega) (Tot.dec (by omega) (Tot.dec (by omega) (Tot.dec (by omega) ?_)))
    rw [show Int.toNat ((i : Int) - 1) = i - 1 by omega, decide_eq_true (show 0 < i by omega), cond_true]
    refine Tot.ite (fun ht => ?_) (fun ht => ?_)
    ·have ht' : (!(tlt (l.getD (i - 1) row0).1 (l.getD i row0).1)) = true := ht
     rw [Bool.not_eq_true'] at ht'
     exact Tot.pure (by rw [ht']; rfl)
    ·have ht' : (!(tlt (l.getD (i - 1) row0).1 (l.getD i row0).1)) = false := ht
     rw [Bool.not_eq_false'] at ht'
     rw [ht', Bool.true_and]
     exact h1
   ·rw [decide_eq_false (show ¬ 0 < i by omega), cond_false, Bool.true_and]
    exact h1
theorem implRows (l : List Row) (hf : Few l) (hs : AllShort l) : Tot (fun k => impl_RowsOk k l) (fun r => r = rowsOk l) := by
 unfold impl_RowsOk rowsOk
 refine Tot.bind (implRows_l2 l hf hs _ 0 rfl (Nat.zero_le _)) ?_
 rintro r rfl
 rw [List.drop_zero]
 show Tot _ (fun r => r = (chk none l && _))
 cases hc : chk none l with
 | true => rw [show chk (prevN l 0) l = true from hc]; exact Tot.pure (by rw [Bool.true_and])
 | false => rw [show chk (prevN l 0) l = false from hc]; exact Tot.pure rfl
theorem specRows (l : List Row) (hf : Few l) (hs : AllShort l) : Tot (fun k => spec_RowsOk k l) (fun r => r = rowsOk l) := by
 unfold spec_RowsOk rowsOk
 refine Tot.bind (specRows_l2 l hf hs _ 0 rfl (Nat.zero_le _)) ?_
 rintro r rfl
 rw [List.drop_zero]
 cases hc : chk none l with
 | true => rw [show chk (prevN l 0) l = true from hc]; exact Tot.pure (by rw [Bool.true_and])
 | false => rw [show chk (prevN l 0) l = false from hc]; exact Tot.pure rfl
theorem chk_iff : ∀ (p : Option ByteArray) (l : List Row), chk p l = true ↔ RowsSorted l ∧ (∀ r ∈ l, rowOk r = true) ∧ (∀ q, p = some q → ∀ r ∈ l, tlt q r.1 = true)
 | p, [] => by
  have : chk p [] = true := by cases p <;> rfl
  simp [this, RowsSorted]
 | none, r :: l => by
  simp only [chk, Bool.and_eq_true, chk_iff (some r.1) l, RowsSorted, List.pairwise_cons]
  constructor
  ·rintro ⟨h1, h2, h3, h4⟩
   exact ⟨⟨fun a ha => h4 _ rfl a ha, h2⟩, fun a ha => by rcases List.mem_cons.1 ha with rfl | ha; exact h1; exact h3 a ha, fun q hq => by cases hq⟩
  ·rintro ⟨⟨h1, h2⟩, h3, _⟩
   exact ⟨h3 r (by simp), h2, fun a ha => h3 a (List.mem_cons_of_mem _ ha), fun q hq a ha => by cases hq; exact h1 a ha⟩
 | some q, r :: l => by
  simp only [chk, Bool.and_eq_true, chk_iff (some r.1) l, RowsSorted, List.pairwise_cons]
  constructor
  ·rintro ⟨h1, h0, h2, h3, h4⟩
   refine ⟨⟨fun a ha => h4 _ rfl a ha, h2⟩, fun a ha => by rcases List.mem_cons.1 ha with rfl | ha; exact h1; exact h3 a ha, fun q' hq a ha => ?_⟩
   cases hq
   rcases List.mem_cons.1 ha with rfl | ha
   ·exact h0
   ·exact tlt_trans h0 (h4 _ rfl a ha)
  ·rintro ⟨⟨h1, h2⟩, h3, h4⟩
   exact ⟨h3 r (by simp), h4 q rfl r (by simp), h2, fun a ha => h3 a (List.mem_cons_of_mem _ ha), fun q' hq a ha => by cases hq; exact h1 a ha⟩
theorem rowsOk_iff {l : List Row} : rowsOk l = true ↔ RowsSorted l ∧ (∀ r ∈ l, rowOk r = true) ∧ l.length ≤ 60 := by
 unfold rowsOk
 simp only [Bool.and_eq_true, chk_iff, decide_eq_true_eq]
 constructor
 ·rintro ⟨⟨h1, h2, _⟩, h3⟩
  exact ⟨h1, h2, by omega⟩
 ·rintro ⟨h1, h2, h3⟩
  exact ⟨⟨h1, h2, fun q hq => by cases hq⟩, by omega⟩
def mrgs (a b : List Row) : List Row := b.foldl mrg a
theorem mrgs_len (a b : List Row) : a.length ≤ (mrgs a b).length ∧ (mrgs a b).length ≤ a.length + b.length := by
 induction b generalizing a with
 | nil => simp [mrgs]
 | cons x b ih =>
  have h1 := ih (mrg a x)
  have h2 := mrg_len a x
  show _ ≤ (mrgs (mrg a x) b).length ∧ (mrgs (mrg a x) b).length ≤ _
  simp only [List.length_cons]
  omega
theorem mem_mrgs {a b : List Row} {r : Row} (h : r ∈ mrgs a b) : r ∈ a ∨ r ∈ b := by
 induction b generalizing a with
 | nil => exact .inl h
 | cons x b ih =>
  rcases ih (a := mrg a x) h with h | h
  ·rcases mem_mrg h with rfl | h
   ·exact .inr (by simp)
   ·exact .inl h
  ·exact .inr (List.mem_cons_of_mem _ h)
theorem mrgs_sorted {a b : List Row} (h : RowsSorted a) : RowsSorted (mrgs a b) := by
 induction b generalizing a with
 | nil => exact h
 | cons x b ih => exact ih (mrg_sorted h)
theorem implMerges_l3 (b : List Row) (hb : Few b) : ∀ (n i : Nat) (a : List Row), b.length - i = n → i ≤ b.length → a.length + (b.length - i) ≤ 1000000000000 →
  Tot (fun k => impl_MergeRows_l3 k a b (b.length : Int) (i : Int)) (fun r => r = mrgs a (b.drop i)) := by
 unfold Few at hb
 intro n
 induction n with
 | zero =>
  intro i a hn hi hf
  refine Tot.succ ?_
  simp only [impl_MergeRows_l3]
  refine Tot.ndec (by omega) (Tot.pure ?_)
  rw [List.drop_of_length_le (by omega)]
  rfl
 | succ n ih =>
  intro i a hn hi hf
  have hlt : i < b.length := by omega
  refine Tot.succ ?_
  simp only [impl_MergeRows_l3]
  refine Tot.dec (by omega) (Tot.dec (by omega) (Tot.dec (by omega) ?_))
  rw [show Int.toNat (i : Int) = i from Int.toNat_natCast i, w64 (n := (i : Int) + 1) (by omega) (by omega), drop_cons (d := row0) hlt]
  refine Tot.bind (implMerge a (b.getD i row0) (by unfold Few; omega)) ?_
  rintro m rfl
  have := mrg_len a (b.getD i row0)
  exact ih (i + 1) (mrg a (b.getD i row0)) (by omega) (by omega) (by omega)
theorem implMerges (a b : List Row) (hf : a.length + b.length ≤ 1000000000000) : Tot (fun k => impl_MergeRows k a b) (fun r => r = mrgs a b) := by
 unfold impl_MergeRows
 refine Tot.bind (Tot.of (Q := fun r => r = a) (implCopy a (by unfold Few; omega)) rfl) ?_
 rintro r rfl
 refine Tot.bind (implMerges_l3 b (by unfold Few; omega) _ 0 r rfl (Nat.zero_le _) (by omega)) ?_
 rintro y rfl
 rw [List.drop_zero]
 exact Tot.pure rfl
def lookR (l : List Row) (s : ByteArray) : Option Row := l.find? (fun r => teq r.1 s)
def mx (a b : Row) : Row := bif rless a b then b else a
theorem rless_iff (a b : Row) : rless a b = true ↔ a.2.1.1 < b.2.1.1 ∨ (a.2.1.1 = b.2.1.1 ∧ (a.2.1.2.1 < b.2.1.2.1 ∨ (a.2.1.2.1 = b.2.1.2.1 ∧ (a.2.1.2.2 < b.2.1.2.2 ∨ (a.2.1.2.2 = b.2.1.2.2 ∧ ((a.2.2.1 = false ∧ b.2.2.1 = true) ∨ (a.2.2.1 = b.2.2.1 ∧ a.2.2.2 < b.2.2.2))))))) := by
 unfold rless
 cases hs : (!((a.2.1.1 == b.2.1.1) && ((a.2.1.2.1 == b.2.1.2.1) && (a.2.1.2.2 == b.2.1.2.2)))) with
 | true =>
  rw [cond_true, sle_iff]
  have hne : ¬ (a.2.1.1 = b.2.1.1 ∧ a.2.1.2.1 = b.2.1.2.1 ∧ a.2.1.2.2 = b.2.1.2.2) := by
   intro ⟨h1, h2, h3⟩
   rw [h1, h2, h3] at hs
   simp at hs
  omega
 | false =>
  rw [cond_false]
  simp only [Bool.not_eq_false', Bool.and_eq_true, beq_iff_eq] at hs
  obtain ⟨h1, h2, h3⟩ := hs
  cases ha : a.2.2.1 <;> cases hb : b.2.2.1 <;> simp [h1, h2, h3]
theorem rless_asymm {a b : Row} (h : rless a b = true) : rless b a = false := by
 cases hb : rless b a with
 | false => rfl
 | true =>
  rw [rless_iff] at h hb
  cases ha : a.2.2.1 <;> cases hb' : b.2.2.1 <;> simp only [ha, hb'] at h hb <;> simp at h hb <;> omega
theorem rless_trans {a b c : Row} (h : rless a b = true) (h' : rless b c = true) : rless a c = true := by
 rw [rless_iff] at h h' ⊢
 cases ha : a.2.2.1 <;> cases hb : b.2.2.1 <;> cases hc : c.2.2.1 <;> simp only [ha, hb, hc] at h h' ⊢ <;> simp at h h' ⊢ <;> omega
theorem rless_tri {a b : Row} (hn : a.1 = b.1) (h : rless a b = false) (h' : rless b a = false) : a = b := by
 have h1 : ¬ rless a b = true := by rw [h]; decide
 have h2 : ¬ rless b a = true := by rw [h']; decide
 rw [rless_iff] at h1 h2
 obtain ⟨n, ⟨t, s, d⟩, e, z⟩ := a
 obtain ⟨n', ⟨t', s', d'⟩, e', z'⟩ := b
 simp only at hn h1 h2
 subst hn
 have hd : e = e' ∧ t = t' ∧ s = s' ∧ d = d' ∧ z = z' := by
  cases e <;> cases e' <;> simp at h1 h2 ⊢ <;> omega
 obtain ⟨rfl, rfl, rfl, rfl, rfl⟩ := hd
 rfl
theorem mx_comm {a b : Row} (hn : a.1 = b.1) : mx a b = mx b a := by
 unfold mx
 cases h : rless a b with
 | true => rw [rless_asymm h]; rfl
 | false =>
  cases h' : rless b a with
  | true => rfl
  | false => rw [rless_tri hn h h']
theorem mx_name {a b : Row} (hn : a.1 = b.1) : (mx a b).1 = a.1 := by
 unfold mx
 cases rless a b with
 | true => exact hn.symm
 | false => rfl
theorem mx_idem (a b : Row) : mx (mx a b) b = mx a b := by
 unfold mx
 cases h : rless a b with
 | true =>
  have : rless b b = false := by
   cases hb : rless b b with
   | false => rfl
   | true => have := rless_asymm hb; rw [hb] at this; cases this
  rw [cond_true, this]
  rfl
 | false => rw [cond_false, h]; rfl
theorem mx_assoc {a b c : Row} (h1 : a.1 = b.1) (h2 : b.1 = c.1) : mx (mx a b) c = mx a (mx b c) := by
 unfold mx
 cases hab : rless a b with
 | true =>
  rw [cond_true]
  cases hbc : rless b c with
  | true => rw [cond_true, rless_trans hab hbc]; rfl
  | false => rw [cond_false, hab]; rfl
 | false =>
  rw [cond_false]
  cases hbc : rless b c with
  | true => rfl
  | false =>
   rw [cond_false, hab, cond_false]
   cases hac : rless a c with
   | false => rfl
   | true =>
    exfalso
    cases hba : rless b a with
    | true => have := rless_trans hba hac; rw [hbc] at this; cases this
    | false => have e := rless_tri h1 hab hba; subst e; rw [hbc] at hac; cases hac
theorem lookR_some {l : List Row} {s : ByteArray} {r : Row} (h : lookR l s = some r) : r ∈ l ∧ r.1 = s := by
 unfold lookR at h
 exact ⟨List.mem_of_find?_eq_some h, teq_iff.1 (List.find?_some (p := fun r : Row => teq r.1 s) h)⟩
theorem lookR_mem {l : List Row} (hs : RowsSorted l) {r : Row} (h : r ∈ l) : lookR l r.1 = some r := by
 induction l with
 | nil => simp at h
 | cons a l ih =>
  unfold RowsSorted at hs
  rw [List.pairwise_cons] at hs
  unfold lookR
  rw [List.find?_cons]
  rcases List.mem_cons.1 h with rfl | h
  ·rw [teq_iff.2 rfl]
  ·have : teq a.1 r.1 = false := by
    cases ht : teq a.1 r.1 with
    | false => rfl
    | true =>
     have h1 := hs.1 r h
     rw [teq_iff.1 ht, tlt_irrefl] at h1
     cases h1
   rw [this]
   exact ih hs.2 h
theorem lookR_ext : ∀ {l m : List Row}, RowsSorted l → RowsSorted m → (∀ s, lookR l s = lookR m s) → l = m
 | [], [], _, _, _ => rfl
 | [], b :: m, _, hm, h => by
  have := lookR_mem hm (r := b) (by simp)
  rw [← h] at this
  simp [lookR] at this
 | a :: l, [], hl, _, h => by
  have := lookR_mem hl (r := a) (by simp)
  rw [h] at this
  simp [lookR] at this
 | a :: l, b :: m, hl, hm, h => by
  have hl' := hl
  have hm' := hm
  unfold RowsSorted at hl hm
  rw [List.pairwise_cons] at hl hm
  have ha := lookR_mem hl' (r := a) (by simp)
  have hb := lookR_mem hm' (r := b) (by simp)
  have ea : a ∈ b :: m := (lookR_some (by rw [← h]; exact ha)).1
  have eb : b ∈ a :: l := (lookR_some (by rw [h]; exact hb)).1
  have hab : a = b := by
   rcases List.mem_cons.1 ea with rfl | ea
   ·rfl
   ·rcases List.mem_cons.1 eb with rfl | eb
    ·rfl
    ·have h1 := hm.1 a ea
     have h2 := hl.1 b eb
     rw [tlt_asymm h1] at h2
     cases h2
  subst hab
  rw [lookR_ext (l := l) (m := m) hl.2 hm.2 (fun s => ?_)]
  have hs := h s
  unfold lookR at hs ⊢
  rw [List.find?_cons, List.find?_cons] at hs
  cases ht : teq a.1 s with
  | false => rw [ht] at hs; exact hs
  | true =>
   have none : ∀ (k : List Row), (∀ r ∈ k, tlt a.1 r.1 = true) → k.find? (fun r => teq r.1 s) = none := by
    intro k hk
    rw [List.find?_eq_none]
    intro r hr
    rw [teq_iff]
    intro e
    have := hk r hr
    rw [e, ← teq_iff.1 ht, tlt_irrefl] at this
    cases this
   rw [none l hl.1, none m hm.1]
theorem lookR_mrg {l : List Row} {x : Row} (hs : RowsSorted l) (s : ByteArray) : lookR (mrg l x) s = bif teq x.1 s then (match lookR l s with | some r => some (mx r x) | none => some x) else lookR l s := by
 have hsm := mrg_sorted (x := x) hs
 have hget : ∀ j (hj : j < l.length), l.getD j row0 = l[j] := fun j hj => by rw [List.getD_eq_getElem?_getD, List.getElem?_eq_getElem hj]; rfl
 cases ht : teq x.1 s with
 | true =>
  have hxs := teq_iff.1 ht
  rw [cond_true]
  unfold mrg
  split
  ·rename_i j hj
   obtain ⟨_, h2, h3⟩ := findN_drop l 0 j hj
   rw [Nat.sub_zero] at h3
   have hjl : j < l.length := by omega
   have hname : (l.getD j row0).1 = x.1 := teq_iff.1 h3
   have hmem : l.getD j row0 ∈ l := getD_mem' hjl
   have hlk : lookR l s = some (l.getD j row0) := by rw [← hxs, ← hname]; exact lookR_mem hs hmem
   rw [hlk]
   show lookR (bif rless (l.getD j row0) x then l.set j x else l) s = some (mx (l.getD j row0) x)
   unfold mx
   cases hb : rless (l.getD j row0) x with
   | false => rw [cond_false]; exact hlk
   | true =>
    rw [cond_true]
    have : x ∈ l.set j x := List.mem_set hjl x
    have hsm' : RowsSorted (l.set j x) := by
     have := hsm
     unfold mrg at this
     rw [hj] at this
     simp only [hb, cond_true] at this
     exact this
    rw [← hxs]
    exact lookR_mem hsm' this
  ·rename_i hj
   have hno : lookR l s = none := by
    cases hl : lookR l s with
    | none => rfl
    | some r =>
     obtain ⟨h1, h2⟩ := lookR_some hl
     exact (findN_none l 0 hj r h1 (h2.trans hxs.symm)).elim
   rw [hno]
   have hx : x ∈ mrg l x := by unfold mrg; rw [hj]; simp
   have := lookR_mem hsm hx
   unfold mrg at this
   rw [hj] at this
   rw [← hxs]
   exact this
 | false =>
  rw [cond_false]
  cases hl : lookR l s with
  | some r =>
   obtain ⟨h1, h2⟩ := lookR_some hl
   have hr : r ∈ mrg l x := by
    unfold mrg
    split
    ·rename_i j hj
     cases hb : rless (l.getD j row0) x with
     | false => exact h1
     | true =>
      rw [cond_true]
      obtain ⟨i, hi, e⟩ := List.getElem_of_mem h1
      obtain ⟨_, q2, q3⟩ := findN_drop l 0 j hj
      rw [Nat.sub_zero] at q3
      have hij : i ≠ j := by
       rintro rfl
       rw [hget i hi, e] at q3
       have := teq_iff.1 q3
       rw [teq_iff.2 (this.symm.trans h2)] at ht
       cases ht
      rw [List.mem_iff_getElem]
      exact ⟨i, by rw [List.length_set]; exact hi, by rw [List.getElem_set_ne (Ne.symm hij)]; exact e⟩
    ·have : r ∈ l.take (cutN l x.1 l.length) ++ l.drop (cutN l x.1 l.length) := by rw [List.take_append_drop]; exact h1
     rcases List.mem_append.1 this with h | h
     ·exact List.mem_append_left _ h
     ·exact List.mem_append_right _ (List.mem_cons_of_mem _ h)
   rw [← h2]
   exact lookR_mem hsm hr
  | none =>
   cases hm : lookR (mrg l x) s with
   | none => rfl
   | some r =>
    exfalso
    obtain ⟨h1, h2⟩ := lookR_some hm
    rcases mem_mrg h1 with rfl | h1
    ·rw [teq_iff.2 h2] at ht; cases ht
    ·have := lookR_mem hs h1
     rw [h2, hl] at this
     cases this
def cmb : Option Row → Option Row → Option Row
 | some a, some b => some (mx a b)
 | some a, none => some a
 | none, y => y
theorem lookR_mrgs {a b : List Row} (ha : RowsSorted a) (hb : RowsSorted b) (s : ByteArray) : lookR (mrgs a b) s = cmb (lookR a s) (lookR b s) := by
 induction b generalizing a with
 | nil => show lookR a s = cmb (lookR a s) none; cases lookR a s <;> rfl
 | cons x b ih =>
  have hb' := hb
  unfold RowsSorted at hb
  rw [List.pairwise_cons] at hb
  show lookR (mrgs (mrg a x) b) s = _
  rw [ih (mrg_sorted ha) hb.2, lookR_mrg ha s]
  have e : lookR (x :: b) s = bif teq x.1 s then some x else lookR b s := by
   unfold lookR
   rw [List.find?_cons]
   cases teq x.1 s <;> rfl
  rw [e]
  cases ht : teq x.1 s with
  | false => rfl
  | true =>
   have hno : lookR b s = none := by
    cases hl : lookR b s with
    | none => rfl
    | some r =>
     obtain ⟨h1, h2⟩ := lookR_some hl
     have := hb.1 r h1
     rw [h2, ← teq_iff.1 ht, tlt_irrefl] at this
     cases this
   rw [hno]
   cases lookR a s <;> rfl
theorem cmb_comm {x y : Option Row} {s : ByteArray} (hx : ∀ r, x = some r → r.1 = s) (hy : ∀ r, y = some r → r.1 = s) : cmb x y = cmb y x := by
 cases x <;> cases y <;> first | rfl | skip
 rename_i a b
 show some _ = some _
 rw [mx_comm ((hx a rfl).trans (hy b rfl).symm)]
theorem cmb_assoc {x y z : Option Row} {s : ByteArray} (hx : ∀ r, x = some r → r.1 = s) (hy : ∀ r, y = some r → r.1 = s) (hz : ∀ r, z = some r → r.1 = s) : cmb (cmb x y) z = cmb x (cmb y z) := by
 cases x <;> cases y <;> cases z <;> first | rfl | skip
 rename_i a b c
 show some _ = some _
 rw [mx_assoc ((hx a rfl).trans (hy b rfl).symm) ((hy b rfl).trans (hz c rfl).symm)]
theorem lookR_name {l : List Row} {s : ByteArray} : ∀ r, lookR l s = some r → r.1 = s := fun r h => (lookR_some h).2
theorem mrgs_comm {a b : List Row} (ha : RowsSorted a) (hb : RowsSorted b) : mrgs a b = mrgs b a :=
 lookR_ext (mrgs_sorted ha) (mrgs_sorted hb) fun s => by rw [lookR_mrgs ha hb, lookR_mrgs hb ha, cmb_comm lookR_name lookR_name]
theorem mrgs_idem {a b : List Row} (ha : RowsSorted a) (hb : RowsSorted b) : mrgs (mrgs a b) b = mrgs a b :=
 lookR_ext (mrgs_sorted (mrgs_sorted ha)) (mrgs_sorted ha) fun s => by
  rw [lookR_mrgs (mrgs_sorted ha) hb, lookR_mrgs ha hb]
  cases lookR a s <;> cases lookR b s <;> first | rfl | skip
  ·rename_i b; show some (mx b b) = some b; unfold mx; cases rless b b <;> rfl
  ·rename_i a b; show some (mx (mx a b) b) = some (mx a b); rw [mx_idem]
theorem mrgs_assoc {a b c : List Row} (ha : RowsSorted a) (hb : RowsSorted b) (hc : RowsSorted c) : mrgs (mrgs a b) c = mrgs a (mrgs b c) :=
 lookR_ext (mrgs_sorted (mrgs_sorted ha)) (mrgs_sorted ha) fun s => by
  rw [lookR_mrgs (mrgs_sorted ha) hc, lookR_mrgs ha hb, lookR_mrgs ha (mrgs_sorted hb), lookR_mrgs hb hc, cmb_assoc lookR_name lookR_name lookR_name]
end Go.Proofs.Ytehkignjdbkeiaa.Vf
end
