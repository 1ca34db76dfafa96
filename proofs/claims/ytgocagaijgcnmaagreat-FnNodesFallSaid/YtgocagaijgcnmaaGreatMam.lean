import Derived.Test.YtgocagaijgcnmaaGreatMab
import Derived.IntWalk
import Derived.Laws.StructEq
section
set_option linter.unusedVariables false
set_option linter.unusedSimpArgs false
namespace Go.Proofs.YtgocagaijgcnmaaGreat.Vf
open Go
def Tot {α : Type} (f : Nat → Option α) (Q : α → Prop) : Prop := ∃ r K, (∀ k, K ≤ k → f k = some r) ∧ Q r
section
variable {α β : Type} {f g : Nat → Option α} {Q Q' : α → Prop}
theorem Tot.mono (h : Tot f Q) (hq : ∀ a, Q a → Q' a) : Tot f Q' := by
 obtain ⟨r, K, h1, h2⟩ := h
 exact ⟨r, K, h1, hq r h2⟩
theorem Tot.pure {a : α} (h : Q a) : Tot (fun _ => some a) Q := ⟨a, 0, fun _ _ => rfl, h⟩
theorem Tot.of {o : Option α} {a : α} (e : o = some a) (h : Q a) : Tot (fun _ => o) Q := ⟨a, 0, fun _ _ => e, h⟩
theorem Tot.bind {h : Nat → α → Option β} {R : β → Prop} (hf : Tot f Q) (hh : ∀ a, Q a → Tot (fun k => h k a) R) : Tot (fun k => (f k).bind (h k)) R := by
 obtain ⟨a, K, h1, h2⟩ := hf
 obtain ⟨b, L, h3, h4⟩ := hh a h2
 exact ⟨b, max K L, fun k hk => by show (f k).bind (h k) = _; rw [h1 k (by omega)]; exact h3 k (by omega), h4⟩
theorem Tot.yes {c : Bool} (hc : c = true) (h : Tot f Q) : Tot (fun k => cond c (f k) (g k)) Q := by subst hc; exact h
theorem Tot.no {c : Bool} (hc : c = false) (h : Tot g Q) : Tot (fun k => cond c (f k) (g k)) Q := by subst hc; exact h
theorem Tot.ite {c : Bool} (h1 : c = true → Tot f Q) (h2 : c = false → Tot g Q) : Tot (fun k => cond c (f k) (g k)) Q := by
 cases hc : c with
 | true => exact h1 hc
 | false => exact h2 hc
theorem Tot.dec {p : Prop} [Decidable p] (hp : p) (h : Tot f Q) : Tot (fun k => cond (decide p) (f k) (g k)) Q := Tot.yes (decide_eq_true hp) h
theorem Tot.ndec {p : Prop} [Decidable p] (hp : ¬ p) (h : Tot g Q) : Tot (fun k => cond (decide p) (f k) (g k)) Q := Tot.no (decide_eq_false hp) h
theorem Tot.dite {p : Prop} [Decidable p] (h1 : p → Tot f Q) (h2 : ¬ p → Tot g Q) : Tot (fun k => cond (decide p) (f k) (g k)) Q :=
 Tot.ite (fun h => h1 (of_decide_eq_true h)) (fun h => h2 (of_decide_eq_false h))
theorem Tot.ble {m n : Nat} (hp : m ≤ n) (h : Tot f Q) : Tot (fun k => cond (Nat.ble m n) (f k) (g k)) Q := Tot.yes (Nat.ble_eq_true_of_le hp) h
theorem Tot.succ (h : Tot (fun k => f (k + 1)) Q) : Tot f Q := by
 obtain ⟨r, K, h1, h2⟩ := h
 exact ⟨r, K + 1, fun k hk => by obtain ⟨m, rfl⟩ : ∃ m, k = m + 1 := ⟨k - 1, by omega⟩; exact h1 m (by omega), h2⟩
theorem Tot.and (h : Tot f Q) (h' : Tot f Q') : Tot f (fun a => Q a ∧ Q' a) := by
 obtain ⟨r, K, h1, h2⟩ := h
 obtain ⟨r', K', h1', h2'⟩ := h'
 have e : r = r' := by
  have a1 := h1 (max K K') (by omega)
  have a2 := h1' (max K K') (by omega)
  rw [a1] at a2
  exact Option.some.inj a2
 subst e
 exact ⟨r, K, h1, h2, h2'⟩
theorem Tot.law {f : Nat → Option Bool} (h : Tot f (fun b => b = true)) : ∃ k, f k = some true := by
 obtain ⟨r, K, h1, h2⟩ := h
 subst h2
 exact ⟨K, h1 K (Nat.le_refl _)⟩
end
theorem w64 {n : Int} (h1 : -9223372036854775808 ≤ n) (h2 : n ≤ 9223372036854775807) : IntKind.wrap .i64 n = n := Go.IntWalk.i64_in n ⟨h1, h2⟩
theorem w8_bounds (n : Int) : 0 ≤ IntKind.wrap .u8 n ∧ IntKind.wrap .u8 n ≤ 255 := by
 simp only [IntKind.wrap, IntKind.signed, IntKind.bits]
 simp
 omega
theorem and_mask (x m : Int) (h0 : 0 ≤ m) (h1 : m < 9223372036854775808) : 0 ≤ IntKind.wrap .i64 ((BitVec.ofInt (IntKind.bits .i64) x &&& BitVec.ofInt (IntKind.bits .i64) m).toNat) ∧ IntKind.wrap .i64 ((BitVec.ofInt (IntKind.bits .i64) x &&& BitVec.ofInt (IntKind.bits .i64) m).toNat) ≤ m := by
 have hm : (BitVec.ofInt (IntKind.bits .i64) m).toNat = m.toNat := by
  rw [BitVec.toNat_ofInt]
  show (m % ((2 ^ 64 : Nat) : Int)).toNat = m.toNat
  rw [Int.emod_eq_of_lt h0 (by omega)]
 have hle : (BitVec.ofInt (IntKind.bits .i64) x &&& BitVec.ofInt (IntKind.bits .i64) m).toNat ≤ m.toNat := by
  rw [BitVec.toNat_and, hm]
  exact Nat.and_le_right
 rw [w64 (by omega) (by omega)]
 omega
theorem tmod_lt {x n : Int} (hx : 0 ≤ x) (hn : 0 < n) : 0 ≤ Int.tmod x n ∧ Int.tmod x n < n := by
 rw [Int.tmod_eq_emod_of_nonneg hx]
 exact ⟨Int.emod_nonneg _ (by omega), Int.emod_lt_of_pos _ hn⟩
end Go.Proofs.YtgocagaijgcnmaaGreat.Vf
end

section
set_option linter.unusedVariables false
set_option linter.unusedSimpArgs false
namespace Go.Proofs.YtgocagaijgcnmaaGreat.Vf
open Go
abbrev Cur := List Int × Int × Int
def CurOk (c : Cur) : Prop := (c.1.length : Int) ≤ 1048576 ∧ 0 ≤ c.2.1 ∧ c.2.1 ≤ 1048576
theorem l1New_loop (b : List Int) (hb : (b.length : Int) ≤ 1048576) : ∀ (n : Nat) (h i : Int), 0 ≤ i → i + n = 4001 → Tot (fun k => spec_l1New_l3 k b h i) (fun r => r.1 = b) := by
 intro n
 induction n with
 | zero =>
  intro h i h0 hi
  refine Tot.succ ?_
  simp only [spec_l1New_l3]
  refine Tot.dite (fun h1 => ?_) (fun h1 => Tot.pure rfl)
  exact Tot.ndec (by omega) (Tot.pure rfl)
 | succ n ih =>
  intro h i h0 hi
  refine Tot.succ ?_
  simp only [spec_l1New_l3]
  refine Tot.dite (fun h1 => ?_) (fun h1 => Tot.pure rfl)
  refine Tot.dite (fun h2 => ?_) (fun h2 => Tot.pure rfl)
  refine Tot.dec h0 (Tot.dec h1 ?_)
  rw [w64 (n := i + 1) (by omega) (by omega)]
  exact ih _ _ (by omega) (by omega)
theorem l1New_tot (b : List Int) (hb : (b.length : Int) ≤ 1048576) : Tot (fun k => spec_l1New k b) CurOk := by
 unfold spec_l1New
 refine Tot.bind (l1New_loop b hb 4001 _ 0 (by omega) (by omega)) (fun r hr => ?_)
 exact Tot.pure ⟨by rw [hr]; exact hb, Int.le_refl 0, by show (0 : Int) ≤ 1048576; omega⟩
theorem l1Byte_ok (c : Cur) (hc : CurOk c) : ∃ x c', spec_l1Byte c = some (x, c') ∧ 0 ≤ x ∧ x ≤ 255 ∧ CurOk c' := by
 obtain ⟨h1, h2, h3⟩ := hc
 unfold spec_l1Byte
 by_cases hlt : c.2.1 < (c.1.length : Int)
 ·simp only [hlt, h2, decide_true, cond_true]
  obtain ⟨a1, a2⟩ := and_mask (IntKind.wrap .i64 ((IntKind.wrap .i64 ((BitVec.ofInt (IntKind.bits .i64) (IntKind.wrap .i64 ((BitVec.ofInt (IntKind.bits .i64) (Int.fdiv (IntKind.wrap .i64 ((IntKind.wrap .i64 (c.2.2 * 6364136223846793005)) + 1442695040888963407)) (2 ^ (min (Int.toNat 33) (IntKind.bits .i64)))) ^^^ BitVec.ofInt (IntKind.bits .i64) (Int.fdiv (IntKind.wrap .i64 ((IntKind.wrap .i64 (c.2.2 * 6364136223846793005)) + 1442695040888963407)) (2 ^ (min (Int.toNat 47) (IntKind.bits .i64))))).toNat)) &&& BitVec.ofInt (IntKind.bits .i64) 255).toNat)) + (IntKind.wrap .i64 (List.getD c.1 (Int.toNat c.2.1) (0 : Int))))) 255 (by omega) (by omega)
  refine ⟨_, _, rfl, a1, a2, h1, ?_, ?_⟩
  ·show 0 ≤ IntKind.wrap .i64 (c.2.1 + 1)
   rw [w64 (by omega) (by omega)]
   omega
  ·show IntKind.wrap .i64 (c.2.1 + 1) ≤ 1048576
   rw [w64 (by omega) (by omega)]
   omega
 ·simp only [hlt, decide_false, cond_false]
  obtain ⟨a1, a2⟩ := and_mask (IntKind.wrap .i64 ((BitVec.ofInt (IntKind.bits .i64) (Int.fdiv (IntKind.wrap .i64 ((IntKind.wrap .i64 (c.2.2 * 6364136223846793005)) + 1442695040888963407)) (2 ^ (min (Int.toNat 33) (IntKind.bits .i64)))) ^^^ BitVec.ofInt (IntKind.bits .i64) (Int.fdiv (IntKind.wrap .i64 ((IntKind.wrap .i64 (c.2.2 * 6364136223846793005)) + 1442695040888963407)) (2 ^ (min (Int.toNat 47) (IntKind.bits .i64))))).toNat)) 255 (by omega) (by omega)
  exact ⟨_, _, rfl, a1, a2, h1, h2, h3⟩
theorem l1Below_ok (c : Cur) (hc : CurOk c) (n : Int) (hn : n ≤ 1000000000) : ∃ x c', spec_l1Below c n = some (x, c') ∧ 0 ≤ x ∧ (0 < n → x < n) ∧ (n ≤ 0 → x = 0) ∧ CurOk c' := by
 unfold spec_l1Below
 by_cases h0 : n ≤ 0
 ·exact ⟨0, c, by simp only [h0, decide_true, cond_true], by omega, by omega, fun _ => rfl, hc⟩
 ·by_cases h1 : n ≤ 256
  ·obtain ⟨x, c', e, b0, b1, k⟩ := l1Byte_ok c hc
   have hz : ¬ n = 0 := by omega
   have := tmod_lt b0 (show 0 < n by omega)
   exact ⟨Int.tmod x n, c', by simp only [h0, h1, hz, decide_true, decide_false, cond_true, cond_false, e, Option.bind_some], this.1, fun _ => this.2, fun h => by omega, k⟩
  ·obtain ⟨x, c1, e1, b0, b1, k1⟩ := l1Byte_ok c hc
   obtain ⟨y, c2, e2, b2, b3, k2⟩ := l1Byte_ok c1 k1
   obtain ⟨z, c3, e3, b4, b5, k3⟩ := l1Byte_ok c2 k2
   have hz : ¬ n = 0 := by omega
   have := tmod_lt (show 0 ≤ x * 65536 + y * 256 + z by omega) (show 0 < n by omega)
   refine ⟨Int.tmod (x * 65536 + y * 256 + z) n, c3, ?_, this.1, fun _ => this.2, fun h => by omega, k3⟩
   simp only [h0, h1, hz, decide_false, cond_false, e1, e2, e3, Option.bind_some]
   rw [w64 (n := x * 65536) (by omega) (by omega), w64 (n := y * 256) (by omega) (by omega), w64 (n := x * 65536 + y * 256) (by omega) (by omega), w64 (n := x * 65536 + y * 256 + z) (by omega) (by omega)]
theorem getD_mem {α : Type} {l : List α} {i : Int} {d : α} (h0 : 0 ≤ i) (h1 : i < (l.length : Int)) : l.getD i.toNat d ∈ l := by
 have h : i.toNat < l.length := by omega
 rw [List.getD_eq_getElem?_getD, List.getElem?_eq_getElem h]
 exact List.getElem_mem h
theorem l1Int_ok (c : Cur) (hc : CurOk c) (l : List Int) (hl : 0 < l.length) (hm : l.length ≤ 1000) : ∃ x c', spec_l1Int c l = some (x, c') ∧ x ∈ l ∧ CurOk c' := by
 obtain ⟨i, c', e, b0, b1, _, k⟩ := l1Below_ok c hc (l.length : Int) (by omega)
 have b1 := b1 (by omega)
 refine ⟨l.getD i.toNat 0, c', ?_, getD_mem b0 b1, k⟩
 unfold spec_l1Int
 simp only [e, Option.bind_some, b0, b1, decide_true, cond_true]
theorem l1Str_ok (c : Cur) (hc : CurOk c) (l : List ByteArray) (hl : 0 < l.length) (hm : l.length ≤ 1000) : ∃ x c', spec_l1Str c l = some (x, c') ∧ x ∈ l ∧ CurOk c' := by
 obtain ⟨i, c', e, b0, b1, _, k⟩ := l1Below_ok c hc (l.length : Int) (by omega)
 have b1 := b1 (by omega)
 refine ⟨l.getD i.toNat (⟨#[]⟩ : ByteArray), c', ?_, getD_mem b0 b1, k⟩
 unfold spec_l1Str
 simp only [e, Option.bind_some, b0, b1, decide_true, cond_true]
def BytesOk (l : List Int) : Prop := ∀ x ∈ l, 0 ≤ x ∧ x ≤ 255
theorem l1Bytes_loop (m : Int) (hm : m ≤ 1000) : ∀ (n : Nat) (l : List Int) (i : Int) (c : Cur), CurOk c → 0 ≤ i → i ≤ max m 0 → (max m 0) - i = n → (l.length : Int) = i → BytesOk l →
  Tot (fun k => spec_l1Bytes_l3 k m l i c.1 c.2.1 c.2.2) (fun r => CurOk r.2 ∧ BytesOk r.1 ∧ (r.1.length : Int) = max m 0) := by
 intro n
 induction n with
 | zero =>
  intro l i c hc h0 h1 hn hl hb
  refine Tot.succ ?_
  simp only [spec_l1Bytes_l3]
  refine Tot.ndec (by omega) (Tot.pure ⟨hc, hb, by show (l.length : Int) = _; omega⟩)
 | succ n ih =>
  intro l i c hc h0 h1 hn hl hb
  refine Tot.succ ?_
  simp only [spec_l1Bytes_l3]
  refine Tot.dec (by omega) ?_
  obtain ⟨x, c', e, b0, b1, k⟩ := l1Byte_ok c hc
  refine Tot.bind (Tot.of (Q := fun r => r = (x, c')) e rfl) ?_
  rintro r rfl
  refine Tot.ble (by simp only [List.length_cons, List.length_nil]; omega) ?_
  rw [w64 (n := i + 1) (by omega) (by omega)]
  refine ih _ _ c' k (by omega) (by omega) (by omega) (by simp only [List.length_append, List.length_cons, List.length_nil]; omega) ?_
  intro y hy
  rcases List.mem_append.1 hy with hy | hy
  ·exact hb y hy
  ·simp only [List.mem_singleton] at hy
   subst hy
   exact w8_bounds _
theorem l1Some_tot (c : Cur) (hc : CurOk c) : Tot (fun k => spec_l1Some k c) (fun r => CurOk r.2 ∧ BytesOk r.1 ∧ (r.1.length : Int) ≤ 9) := by
 unfold spec_l1Some
 obtain ⟨x, c', e, hx, k⟩ := l1Int_ok c hc [0, 1, 2, 5, 9] (by decide) (by decide)
 have hx' : 0 ≤ x ∧ x ≤ 9 := by
  simp only [List.mem_cons, List.not_mem_nil, or_false] at hx
  omega
 refine Tot.bind (Tot.of (Q := fun r => r = (x, c')) e rfl) ?_
 rintro r rfl
 refine Tot.bind (Q := fun r => CurOk r.2 ∧ BytesOk r.1 ∧ (r.1.length : Int) ≤ 9) ?_ (fun r hr => Tot.pure hr)
 unfold spec_l1Bytes
 refine Tot.bind (l1Bytes_loop x (by omega) (max x 0 - 0).toNat [] 0 c' k (by omega) (by omega) (by omega) rfl (by intro y hy; simp at hy)) (fun r hr => Tot.pure ?_)
 exact ⟨hr.1, hr.2.1, by show (r.1.length : Int) ≤ 9; rw [hr.2.2]; omega⟩
theorem l1Once_ok (c : Cur) (hc : CurOk c) (n : Int) (hn : n ≤ 1000000000) : ∃ x c', spec_l1Once c n = some (x, c') ∧ CurOk c' := by
 obtain ⟨x, c', e, _, _, _, k⟩ := l1Below_ok c hc n hn
 exact ⟨x == 0, c', by unfold spec_l1Once; simp only [e, Option.bind_some], k⟩
abbrev Stp := Int × Int × Int
abbrev Row := ByteArray × Stp × Bool × Int
abbrev Fil := Stp × Bool × List Int
def StampIn (s : Stp) : Prop := 0 ≤ s.1 ∧ s.1 ≤ 1000000000 ∧ 0 ≤ s.2.1 ∧ s.2.1 ≤ 1000000 ∧ 0 ≤ s.2.2 ∧ s.2.2 ≤ 20
def drawnNames : List ByteArray := [(⟨#[97]⟩ : ByteArray), (⟨#[98]⟩ : ByteArray), (⟨#[99, 97, 116, 47, 49]⟩ : ByteArray), (⟨#[99, 97, 116, 47, 50]⟩ : ByteArray), (⟨#[100, 111, 103]⟩ : ByteArray), (⟨#[120, 45, 49]⟩ : ByteArray)]
theorem l3Name_ok (c : Cur) (hc : CurOk c) : ∃ x c', spec_l3Name c = some (x, c') ∧ x ∈ drawnNames ∧ CurOk c' := by
 obtain ⟨x, c', e, hx, k⟩ := l1Str_ok c hc drawnNames (by decide) (by decide)
 exact ⟨x, c', by unfold spec_l3Name; unfold drawnNames at e; simp only [e, Option.bind_some], hx, k⟩
theorem l2Draw_ok (c : Cur) (hc : CurOk c) : ∃ x c', spec_l2Draw c = some (x, c') ∧ StampIn x ∧ CurOk c' := by
 obtain ⟨x, c1, e1, hx, k1⟩ := l1Int_ok c hc [0, 1, 2, 3, 1000000000] (by decide) (by decide)
 obtain ⟨y, c2, e2, y0, y1, _, k2⟩ := l1Below_ok c1 k1 3 (by decide)
 obtain ⟨z, c3, e3, z0, z1, _, k3⟩ := l1Below_ok c2 k2 3 (by decide)
 have y1 := y1 (by decide)
 have z1 := z1 (by decide)
 simp only [List.mem_cons, List.not_mem_nil, or_false] at hx
 exact ⟨(x, y, z), c3, by unfold spec_l2Draw; simp only [e1, e2, e3, Option.bind_some], ⟨by show 0 ≤ x; omega, by show x ≤ _; omega, y0, by show y ≤ _; omega, z0, by show z ≤ _; omega⟩, k3⟩
def FileIn (f : Fil) : Prop := StampIn f.1 ∧ BytesOk f.2.2 ∧ (f.2.2.length : Int) ≤ 9 ∧ (f.2.1 = true → f.2.2 = [])
theorem l8Draw_tot (c : Cur) (hc : CurOk c) : Tot (fun k => spec_l8Draw k c) (fun r => FileIn r.1 ∧ CurOk r.2) := by
 unfold spec_l8Draw
 obtain ⟨s, c1, e1, hs, k1⟩ := l2Draw_ok c hc
 obtain ⟨b, c2, e2, k2⟩ := l1Once_ok c1 k1 4 (by decide)
 refine Tot.bind (Tot.of (Q := fun r => r = (s, c1)) e1 rfl) ?_
 rintro r rfl
 refine Tot.bind (Tot.of (Q := fun r => r = (b, c2)) e2 rfl) ?_
 rintro r rfl
 refine Tot.ite (fun hb => ?_) (fun hb => Tot.pure ⟨⟨hs, by intro y hy; simp at hy, by show ((([] : List Int).length : Nat) : Int) ≤ 9; decide, fun _ => rfl⟩, k2⟩)
 refine Tot.bind (l1Some_tot c2 k2) (fun r hr => Tot.pure ⟨⟨hs, hr.2.1, hr.2.2, fun h => ?_⟩, hr.1⟩)
 simp only [Bool.not_eq_true'] at hb
 have h' : b = true := h
 rw [hb] at h'
 cases h'
def RowIn (x : Row) : Prop := x.1 ∈ drawnNames ∧ StampIn x.2.1 ∧ 0 ≤ x.2.2.2 ∧ x.2.2.2 ≤ 9 ∧ (x.2.2.1 = true → x.2.2.2 = 0)
theorem l11One_tot (c : Cur) (hc : CurOk c) : Tot (fun k => spec_l11One k c) (fun r => RowIn r.1 ∧ CurOk r.2) := by
 unfold spec_l11One
 obtain ⟨s, c1, e1, hs, k1⟩ := l3Name_ok c hc
 refine Tot.bind (Tot.of (Q := fun r => r = (s, c1)) e1 rfl) ?_
 rintro r rfl
 refine Tot.bind (l8Draw_tot c1 k1) (fun r hr => ?_)
 obtain ⟨⟨h1, h2, h3, h4⟩, k2⟩ := hr
 unfold spec_RowOf
 refine Tot.bind (Tot.pure (Q := fun y => y = (s, r.1.1, r.1.2.1, (r.1.2.2.length : Int))) rfl) ?_
 rintro y rfl
 refine Tot.pure ⟨⟨hs, h1, by show (0 : Int) ≤ (r.1.2.2.length : Int); omega, h3, fun h => ?_⟩, k2⟩
 show (r.1.2.2.length : Int) = 0
 rw [h4 h]
 rfl
end Go.Proofs.YtgocagaijgcnmaaGreat.Vf
end

section
set_option linter.unusedVariables false
set_option linter.unusedSimpArgs false
namespace Go.Proofs.YtgocagaijgcnmaaGreat.Vf
open Go
theorem bl_irrefl : ∀ (a : List UInt8), Op.bytesLess a a = false
 | [] => rfl
 | a :: l => by simp [Op.bytesLess, bl_irrefl l]
theorem bl_trans : ∀ (a b c : List UInt8), Op.bytesLess a b = true → Op.bytesLess b c = true → Op.bytesLess a c = true
 | _, [], _, h, _ => by simp [Op.bytesLess] at h
 | _, _ :: _, [], _, h => by simp [Op.bytesLess] at h
 | [], _ :: _, _ :: _, _, _ => rfl
 | a :: x, b :: y, c :: z, h1, h2 => by
  simp only [Op.bytesLess, Bool.or_eq_true, Bool.and_eq_true, decide_eq_true_eq, beq_iff_eq] at h1 h2 ⊢
  rcases h1 with h1 | ⟨rfl, h1⟩
  ·rcases h2 with h2 | ⟨rfl, h2⟩
   ·exact .inl (UInt8.lt_trans h1 h2)
   ·exact .inl h1
  ·rcases h2 with h2 | ⟨rfl, h2⟩
   ·exact .inl h2
   ·exact .inr ⟨rfl, bl_trans x y z h1 h2⟩
theorem bl_tri : ∀ (a b : List UInt8), Op.bytesLess a b = false → Op.bytesLess b a = false → a = b
 | [], [], _, _ => rfl
 | [], _ :: _, h, _ => by simp [Op.bytesLess] at h
 | _ :: _, [], _, h => by simp [Op.bytesLess] at h
 | a :: x, b :: y, h1, h2 => by
  simp only [Op.bytesLess, Bool.or_eq_false_iff, Bool.and_eq_false_iff, decide_eq_false_iff_not] at h1 h2
  have hab : a = b := by
   have h3 := UInt8.not_lt.1 h1.1
   have h4 := UInt8.not_lt.1 h2.1
   exact UInt8.le_antisymm h4 h3
  subst hab
  rw [bl_tri x y (h1.2.resolve_left (by simp)) (h2.2.resolve_left (by simp))]
def tlt (a b : ByteArray) : Bool := Op.bytesLess a.toList b.toList
def teq (a b : ByteArray) : Bool := a.toList == b.toList
theorem toList_inj {a b : ByteArray} (h : a.toList = b.toList) : a = b := by
 rw [ByteArray.toList_eq, ByteArray.toList_eq] at h
 obtain ⟨⟨x⟩⟩ := a
 obtain ⟨⟨y⟩⟩ := b
 simp only at h
 rw [h]
theorem teq_iff {a b : ByteArray} : teq a b = true ↔ a = b := by
 unfold teq
 rw [beq_iff_eq]
 exact ⟨toList_inj, fun h => by rw [h]⟩
theorem tlt_irrefl (a : ByteArray) : tlt a a = false := bl_irrefl _
theorem tlt_trans {a b c : ByteArray} (h : tlt a b = true) (h' : tlt b c = true) : tlt a c = true := bl_trans _ _ _ h h'
theorem tlt_tri {a b : ByteArray} (h : tlt a b = false) (h' : tlt b a = false) : a = b := toList_inj (bl_tri _ _ h h')
theorem tlt_asymm {a b : ByteArray} (h : tlt a b = true) : tlt b a = false := by
 cases hb : tlt b a with
 | false => rfl
 | true =>
  have := tlt_trans h hb
  rw [tlt_irrefl] at this
  cases this
theorem tgt_eq (a b : ByteArray) : (!(Op.bytesLess a.toList b.toList || a.toList == b.toList)) = tlt b a := by
 show (!(tlt a b || teq a b)) = tlt b a
 cases h1 : tlt a b with
 | true => rw [tlt_asymm h1]; rfl
 | false =>
  cases h2 : teq a b with
  | true => rw [teq_iff.1 h2, tlt_irrefl]; rfl
  | false =>
   cases h3 : tlt b a with
   | true => rfl
   | false =>
    exfalso
    have := tlt_tri h1 h3
    rw [teq_iff.2 this] at h2
    cases h2
def sle (a b : Stp) : Bool := cond (a.1 != b.1) (decide (a.1 < b.1)) (cond (a.2.1 != b.2.1) (decide (a.2.1 < b.2.1)) (decide (a.2.2 < b.2.2)))
theorem specLess (a b : Stp) : spec_LessStamp a b = some (sle a b) := by
 unfold spec_LessStamp sle
 cases a.1 != b.1 <;> cases a.2.1 != b.2.1 <;> rfl
def rless (a b : Row) : Bool := cond (!((a.2.1.1 == b.2.1.1) && ((a.2.1.2.1 == b.2.1.2.1) && (a.2.1.2.2 == b.2.1.2.2)))) (sle a.2.1 b.2.1) (cond (!(a.2.2.1 == b.2.2.1)) b.2.2.1 (decide (a.2.2.2 < b.2.2.2)))
theorem specL11Less (a b : Row) : spec_l11Less a b = some (rless a b) := by
 unfold spec_l11Less rless
 rw [specLess]
 cases (!((a.2.1.1 == b.2.1.1) && ((a.2.1.2.1 == b.2.1.2.1) && (a.2.1.2.2 == b.2.1.2.2)))) <;> cases (!(a.2.2.1 == b.2.2.1)) <;> rfl
def row0 : Row := ((⟨#[]⟩ : ByteArray), (((0 : Int), ((0 : Int), (0 : Int))), (false, (0 : Int))))
def findN (s : ByteArray) : List Row → Nat → Option Nat
 | [], _ => none
 | r :: l, i => bif teq r.1 s then some i else findN s l (i + 1)
def cutN (l : List Row) (s : ByteArray) : Nat → Nat
 | 0 => 0
 | k + 1 => bif tlt s (l.getD k row0).1 then cutN l s k else k + 1
def mrg (l : List Row) (x : Row) : List Row := match findN x.1 l 0 with
 | some i => bif rless (l.getD i row0) x then l.set i x else l
 | none => l.take (cutN l x.1 l.length) ++ x :: l.drop (cutN l x.1 l.length)
theorem cutN_le (l : List Row) (s : ByteArray) : ∀ k, cutN l s k ≤ k
 | 0 => Nat.le_refl _
 | k + 1 => by
  unfold cutN
  cases tlt s (l.getD k row0).1 with
  | true => have := cutN_le l s k; simp only [cond_true]; omega
  | false => simp only [cond_false]; omega
theorem findN_drop {s : ByteArray} : ∀ (l : List Row) (i j : Nat), findN s l i = some j → i ≤ j ∧ j < i + l.length ∧ teq (l.getD (j - i) row0).1 s = true
 | [], i, j, h => by simp [findN] at h
 | r :: l, i, j, h => by
  unfold findN at h
  cases ht : teq r.1 s with
  | true =>
   rw [ht] at h
   simp only [cond_true, Option.some.injEq] at h
   subst h
   refine ⟨Nat.le_refl _, by simp, ?_⟩
   rw [Nat.sub_self]
   exact ht
  | false =>
   rw [ht] at h
   simp only [cond_false] at h
   obtain ⟨h1, h2, h3⟩ := findN_drop l (i + 1) j h
   refine ⟨by omega, by simp only [List.length_cons]; omega, ?_⟩
   rw [show j - i = (j - (i + 1)) + 1 by omega]
   exact h3
theorem drop_cons {α : Type} {l : List α} {i : Nat} {d : α} (h : i < l.length) : l.drop i = l.getD i d :: l.drop (i + 1) := by
 rw [List.drop_eq_getElem_cons h, List.getD_eq_getElem?_getD, List.getElem?_eq_getElem h]
 rfl
def Few (l : List Row) : Prop := l.length ≤ 1000000000000
theorem specMerge_l3 (x : Row) : ∀ (n : Nat) (l : List Row) (i : Nat), l.length - i = n → i ≤ l.length → Few l →
  Tot (fun k => spec_MergeRow_l3 k l (i : Int) x.1 x.2.1.1 x.2.1.2.1 x.2.1.2.2 x.2.2.1 x.2.2.2) (fun r => r = match findN x.1 (l.drop i) i with
   | some j => .inl (bif rless (l.getD j row0) x then l.set j x else l)
   | none => .inr (l, x.1, x.2.1.1, x.2.1.2.1, x.2.1.2.2, x.2.2.1, x.2.2.2)) := by
 intro n
 induction n with
 | zero =>
  intro l i hn hi hf
  unfold Few at hf
  refine Tot.succ ?_
  simp only [spec_MergeRow_l3]
  refine Tot.ndec (by omega) (Tot.pure ?_)
  rw [List.drop_of_length_le (by omega)]
  rfl
 | succ n ih =>
  intro l i hn hi hf
  have hf' := hf
  unfold Few at hf
  have hlt : i < l.length := by omega
  refine Tot.succ ?_
  simp only [spec_MergeRow_l3]
  refine Tot.dec (by omega) (Tot.dec (by omega) (Tot.dec (by omega) ?_))
  have e0 : Int.toNat (i : Int) = i := Int.toNat_natCast i
  rw [e0, drop_cons (d := row0) hlt]
  refine Tot.ite (fun ht => ?_) (fun ht => ?_)
  ·have ht' : teq (l.getD i row0).1 x.1 = true := ht
   refine Tot.dec (by omega) (Tot.dec (by omega) ?_)
   refine Tot.bind (Tot.of (Q := fun r => r = rless (l.getD i row0) x) (specL11Less _ _) rfl) ?_
   rintro b rfl
   simp only [findN, ht', cond_true]
   cases hb : rless (l.getD i row0) x with
   | true => exact Tot.yes rfl (Tot.dec (by omega) (Tot.dec (by omega) (Tot.pure rfl)))
   | false => exact Tot.no rfl (Tot.pure rfl)
  ·have ht' : teq (l.getD i row0).1 x.1 = false := ht
   simp only [findN, ht', cond_false]
   rw [w64 (n := (i : Int) + 1) (by omega) (by omega)]
   exact ih l (i + 1) (by omega) (by omega) hf'
theorem implCopy (l : List Row) (hf : Few l) : impl_copyRows l = some l := by
 unfold Few at hf
 unfold impl_copyRows
 rw [Nat.ble_eq_true_of_le (by simp only [List.length_nil]; omega)]
 rfl
theorem specMerge_l11 (x : Row) (l : List Row) (hf : Few l) : ∀ (i : Nat) (y : Row), i ≤ l.length →
  Tot (fun k => spec_MergeRow_l11 k (l.take i ++ y :: l.drop i) (i : Int) x.1 x.2.1.1 x.2.1.2.1 x.2.1.2.2 x.2.2.1 x.2.2.2)
   (fun r => ∃ y', r = (l.take (cutN l x.1 i) ++ y' :: l.drop (cutN l x.1 i), (cutN l x.1 i : Int), x.1, x.2.1.1, x.2.1.2.1, x.2.1.2.2, x.2.2.1, x.2.2.2)) := by
 unfold Few at hf
 intro i
 induction i with
 | zero =>
  intro y hi
  refine Tot.succ ?_
  simp only [spec_MergeRow_l11]
  exact Tot.ndec (by omega) (Tot.pure ⟨y, rfl⟩)
 | succ i ih =>
  intro y hi
  refine Tot.succ ?_
  simp only [spec_MergeRow_l11]
  have hlen : (l.take (i + 1) ++ y :: l.drop (i + 1)).length = l.length + 1 := by simp only [List.length_append, List.length_take, List.length_cons, List.length_drop]; omega
  have hget : ∀ z, (l.take (i + 1) ++ y :: l.drop (i + 1)).getD i z = l.getD i z := by
   intro z
   rw [List.getD_eq_getElem?_getD, List.getD_eq_getElem?_getD, List.getElem?_append_left (by rw [List.length_take]; omega), List.getElem?_take_of_lt (by omega)]
  rw [w64 (n := ((i + 1 : Nat) : Int) - 1) (by omega) (by omega), show ((i + 1 : Nat) : Int) - 1 = (i : Int) by omega, show Int.toNat (i : Int) = i from Int.toNat_natCast i, show Int.toNat ((i + 1 : Nat) : Int) = i + 1 from Int.toNat_natCast _, hget, hlen]
  refine Tot.dec (by omega) (Tot.dec (by omega) (Tot.dec (by omega) ?_))
  have e : ∀ z, (!(Op.bytesLess (l.getD i z).1.toList x.1.toList || (l.getD i z).1.toList == x.1.toList)) = tlt x.1 (l.getD i z).1 := fun z => tgt_eq _ _
  rw [e]
  have hc : cutN l x.1 (i + 1) = bif tlt x.1 (l.getD i row0).1 then cutN l x.1 i else i + 1 := rfl
  refine Tot.ite (fun ht => ?_) (fun ht => ?_)
  ·have ht' : tlt x.1 (l.getD i row0).1 = true := ht
   rw [hc, ht', cond_true]
   refine Tot.dec (by omega) (Tot.dec (by omega) (Tot.dec (by omega) (Tot.dec (by omega) ?_)))
   have hset : (l.take (i + 1) ++ y :: l.drop (i + 1)).set (i + 1) (l.getD i ((⟨#[]⟩ : ByteArray), (((0 : Int), ((0 : Int), (0 : Int))), (false, (0 : Int))))) = l.take i ++ l.getD i row0 :: l.drop i := by
    rw [List.set_append, if_neg (by rw [List.length_take]; omega), List.length_take, Nat.min_eq_left hi, Nat.sub_self, List.set_cons_zero, drop_cons (d := row0) (show i < l.length by omega)]
    rw [List.take_add_one, List.getElem?_eq_getElem (show i < l.length by omega)]
    simp only [Option.toList_some, List.append_assoc, List.singleton_append]
    rw [List.getD_eq_getElem?_getD, List.getD_eq_getElem?_getD, List.getElem?_eq_getElem (show i < l.length by omega)]
    rfl
   rw [hset]
   exact ih _ (by omega)
  ·have ht' : tlt x.1 (l.getD i row0).1 = false := ht
   rw [hc, ht', cond_false]
   exact Tot.pure ⟨y, rfl⟩
theorem specMerge (l : List Row) (x : Row) (hf : Few l) : Tot (fun k => spec_MergeRow k l x) (fun r => r = mrg l x) := by
 have hf' := hf
 unfold Few at hf
 unfold spec_MergeRow
 refine Tot.ble (by simp only [List.length_nil]; omega) ?_
 rw [List.nil_append]
 refine Tot.bind (specMerge_l3 x _ l 0 rfl (Nat.zero_le _) hf') ?_
 rintro y rfl
 rw [List.drop_zero]
 unfold mrg
 cases hfi : findN x.1 l 0 with
 | some j => exact Tot.pure rfl
 | none =>
  simp only [Sum.elim_inr]
  refine Tot.ble (by simp only [List.length_cons, List.length_nil]; omega) ?_
  have h0 := specMerge_l11 x l hf' l.length x (Nat.le_refl _)
  rw [List.take_length, List.drop_length] at h0
  refine Tot.bind h0 ?_
  rintro z ⟨y', rfl⟩
  have hc := cutN_le l x.1 l.length
  have hlen : (l.take (cutN l x.1 l.length) ++ y' :: l.drop (cutN l x.1 l.length)).length = l.length + 1 := by simp only [List.length_append, List.length_take, List.length_cons, List.length_drop]; omega
  simp only
  rw [show Int.toNat ((cutN l x.1 l.length : Nat) : Int) = cutN l x.1 l.length from Int.toNat_natCast _, hlen]
  refine Tot.dec (by omega) (Tot.dec (by omega) (Tot.pure ?_))
  rw [List.set_append, if_neg (by rw [List.length_take]; omega), List.length_take, Nat.min_eq_left hc, Nat.sub_self, List.set_cons_zero]
end Go.Proofs.YtgocagaijgcnmaaGreat.Vf
end

section
set_option linter.unusedVariables false
set_option linter.unusedSimpArgs false
namespace Go.Proofs.YtgocagaijgcnmaaGreat.Vf
open Go
theorem barr_beq (a b : ByteArray) : (a == b) = teq a b := beq_toListBytes a b
def reqB (a b : Row) : Bool := (a.1 == b.1) && ((a.2.1.1 == b.2.1.1) && ((a.2.1.2.1 == b.2.1.2.1) && ((a.2.1.2.2 == b.2.1.2.2) && ((a.2.2.1 == b.2.2.1) && (a.2.2.2 == b.2.2.2)))))
theorem reqB_iff {a b : Row} : reqB a b = true ↔ a = b := by
 unfold reqB
 simp only [Bool.and_eq_true, beq_iff_eq, barr_beq, teq_iff]
 constructor
 ·rintro ⟨h1, h2, h3, h4, h5, h6⟩
  obtain ⟨n, ⟨t, s, d⟩, b1, z⟩ := a
  obtain ⟨n', ⟨t', s', d'⟩, b1', z'⟩ := b
  simp only at h1 h2 h3 h4 h5 h6
  subst h1 h2 h3 h4 h5 h6
  rfl
 ·rintro rfl
  exact ⟨rfl, rfl, rfl, rfl, rfl, rfl⟩
theorem sameRows_l4 (a b : List Row) (hl : a.length = b.length) (hf : Few a) : ∀ (n i : Nat), a.length - i = n → i ≤ a.length →
  Tot (fun k => laws_sameRows_l4 k a b (i : Int)) (fun r => r = bif decide (a.drop i = b.drop i) then .inr () else .inl false) := by
 unfold Few at hf
 intro n
 induction n with
 | zero =>
  intro i hn hi
  refine Tot.succ ?_
  simp only [laws_sameRows_l4]
  refine Tot.ndec (by omega) (Tot.pure ?_)
  rw [List.drop_of_length_le (by omega), List.drop_of_length_le (by omega)]
  rfl
 | succ n ih =>
  intro i hn hi
  have hlt : i < a.length := by omega
  refine Tot.succ ?_
  simp only [laws_sameRows_l4]
  rw [show Int.toNat (i : Int) = i from Int.toNat_natCast i]
  refine Tot.dec (by omega) (Tot.dec (by omega) (Tot.dec (by omega) (Tot.dec (by omega) (Tot.dec (by omega) ?_))))
  rw [drop_cons (d := row0) hlt, drop_cons (d := row0) (show i < b.length by omega)]
  refine Tot.ite (fun h => ?_) (fun h => ?_)
  ·have h' : reqB (a.getD i row0) (b.getD i row0) = false := (Bool.not_eq_true' _).mp h
   have hne : a.getD i row0 ≠ b.getD i row0 := fun e => by rw [reqB_iff.2 e] at h'; cases h'
   refine Tot.pure ?_
   rw [decide_eq_false (by intro e; exact hne (List.cons.inj e).1)]
   rfl
  ·have h' : reqB (a.getD i row0) (b.getD i row0) = true := by
    have h2 : (!(reqB (a.getD i row0) (b.getD i row0))) = false := h
    cases hb : reqB (a.getD i row0) (b.getD i row0) with
    | true => rfl
    | false => rw [hb] at h2; cases h2
   have he := reqB_iff.1 h'
   rw [w64 (n := (i : Int) + 1) (by omega) (by omega)]
   refine (ih (i + 1) (by omega) (by omega)).mono ?_
   rintro r rfl
   rw [he]
   have : (b.getD i row0 :: a.drop (i + 1) = b.getD i row0 :: b.drop (i + 1)) ↔ (a.drop (i + 1) = b.drop (i + 1)) := by simp
   simp only [this]
theorem sameRows_tot (a b : List Row) (hf : Few a) (hf2 : Few b) : Tot (fun k => laws_sameRows k a b) (fun r => r = decide (a = b)) := by
 unfold laws_sameRows
 refine Tot.ite (fun h => ?_) (fun h => ?_)
 ·refine Tot.pure ?_
  have : a ≠ b := fun e => by subst e; simp at h
  rw [decide_eq_false this]
 ·have hl : a.length = b.length := by
   simp only [bne_eq_false_iff_eq] at h
   omega
  refine Tot.bind (sameRows_l4 a b hl hf _ 0 rfl (Nat.zero_le _)) ?_
  rintro r rfl
  rw [List.drop_zero, List.drop_zero]
  cases decide (a = b) with
  | true => exact Tot.pure rfl
  | false => exact Tot.pure rfl
theorem findN_none {s : ByteArray} : ∀ (l : List Row) (i : Nat), findN s l i = none → ∀ r ∈ l, r.1 ≠ s
 | [], _, _, r, hr => by simp at hr
 | a :: l, i, h, r, hr => by
  unfold findN at h
  cases ht : teq a.1 s with
  | true => rw [ht] at h; simp at h
  | false =>
   rw [ht] at h
   rcases List.mem_cons.1 hr with rfl | hr
   ·intro e
    rw [teq_iff.2 e] at ht
    cases ht
   ·exact findN_none l (i + 1) h r hr
theorem mrg_len (l : List Row) (x : Row) : l.length ≤ (mrg l x).length ∧ (mrg l x).length ≤ l.length + 1 := by
 unfold mrg
 have hc := cutN_le l x.1 l.length
 split
 ·cases rless (l.getD _ row0) x <;> simp
 ·simp only [List.length_append, List.length_take, List.length_cons, List.length_drop]
  omega
theorem mem_mrg {l : List Row} {x r : Row} (h : r ∈ mrg l x) : r = x ∨ r ∈ l := by
 unfold mrg at h
 split at h
 ·rename_i j hj
  cases hb : rless (l.getD j row0) x with
  | false => rw [hb] at h; exact .inr h
  | true =>
   rw [hb, cond_true] at h
   rcases List.mem_or_eq_of_mem_set h with h | h
   ·exact .inr h
   ·exact .inl h
 ·rcases List.mem_append.1 h with h | h
  ·exact .inr (List.mem_of_mem_take h)
  ·rcases List.mem_cons.1 h with h | h
   ·exact .inl h
   ·exact .inr (List.mem_of_mem_drop h)
def RowsSorted (l : List Row) : Prop := l.Pairwise (fun a b => tlt a.1 b.1 = true)
theorem cutN_spec {l : List Row} {s : ByteArray} (hs : RowsSorted l) (hn : ∀ r ∈ l, r.1 ≠ s) : ∀ k, k ≤ l.length → (∀ i, i < cutN l s k → tlt (l.getD i row0).1 s = true) ∧ (∀ i, cutN l s k ≤ i → i < k → tlt s (l.getD i row0).1 = true)
 | 0, _ => ⟨fun i hi => by simp [cutN] at hi, fun i _ hi => by omega⟩
 | k + 1, hk => by
  unfold cutN
  cases ht : tlt s (l.getD k row0).1 with
  | true =>
   simp only [cond_true]
   obtain ⟨h1, h2⟩ := cutN_spec hs hn k (by omega)
   refine ⟨h1, fun i hi hik => ?_⟩
   by_cases e : i = k
   ·subst e; exact ht
   ·exact h2 i hi (by omega)
  | false =>
   simp only [cond_false]
   refine ⟨fun i hi => ?_, fun i hi hik => by omega⟩
   have hget : ∀ j (hj : j < l.length), l.getD j row0 = l[j] := fun j hj => by rw [List.getD_eq_getElem?_getD, List.getElem?_eq_getElem hj]; rfl
   have hkl : k < l.length := by omega
   have hks : tlt (l.getD k row0).1 s = true := by
    cases h : tlt (l.getD k row0).1 s with
    | true => rfl
    | false =>
     exfalso
     exact hn (l.getD k row0) (by rw [hget k hkl]; exact List.getElem_mem hkl) (tlt_tri h ht)
   by_cases e : i = k
   ·subst e; exact hks
   ·have h3 := (List.pairwise_iff_getElem.1 hs) i k (by omega) hkl (by omega)
    rw [hget i (by omega)]
    rw [hget k hkl] at hks
    exact tlt_trans h3 hks
theorem mrg_sorted {l : List Row} {x : Row} (hs : RowsSorted l) : RowsSorted (mrg l x) := by
 have hget : ∀ j (hj : j < l.length), l.getD j row0 = l[j] := fun j hj => by rw [List.getD_eq_getElem?_getD, List.getElem?_eq_getElem hj]; rfl
 unfold mrg
 split
 ·rename_i j hj
  obtain ⟨_, h2, h3⟩ := findN_drop l 0 j hj
  rw [Nat.sub_zero] at h3
  have hjl : j < l.length := by omega
  have hname : l[j].1 = x.1 := by rw [← hget j hjl]; exact teq_iff.1 h3
  cases hb : rless (l.getD j row0) x with
  | false => exact hs
  | true =>
   rw [cond_true]
   unfold RowsSorted
   rw [List.pairwise_iff_getElem]
   intro a b ha hb hab
   rw [List.length_set] at ha hb
   have := (List.pairwise_iff_getElem.1 hs) a b ha hb hab
   rw [List.getElem_set, List.getElem_set]
   by_cases e1 : j = a
   ·subst e1
    rw [if_pos rfl, if_neg (by omega), ← hname]
    exact this
   ·rw [if_neg e1]
    by_cases e2 : j = b
    ·subst e2
     rw [if_pos rfl, ← hname]
     exact this
    ·rw [if_neg e2]
     exact this
 ·rename_i hj
  have hn := findN_none l 0 hj
  obtain ⟨c1, c2⟩ := cutN_spec hs hn l.length (Nat.le_refl _)
  have hc := cutN_le l x.1 l.length
  unfold RowsSorted
  rw [List.pairwise_append, List.pairwise_cons]
  refine ⟨List.Pairwise.sublist (List.take_sublist _ _) hs, ⟨fun r hr => ?_, List.Pairwise.sublist (List.drop_sublist _ _) hs⟩, fun r hr q hq => ?_⟩
  ·obtain ⟨i, hi, rfl⟩ := List.getElem_of_mem hr
   rw [List.length_drop] at hi
   rw [List.getElem_drop, ← hget _ (by omega)]
   exact c2 _ (by omega) (by omega)
  ·obtain ⟨i, hi, rfl⟩ := List.getElem_of_mem hr
   rw [List.length_take] at hi
   have h1 : tlt (List.take (cutN l x.1 l.length) l)[i].1 x.1 = true := by
    rw [List.getElem_take, ← hget _ (by omega)]
    exact c1 i (by omega)
   rcases List.mem_cons.1 hq with rfl | hq
   ·exact h1
   ·refine tlt_trans h1 ?_
    obtain ⟨m, hm, rfl⟩ := List.getElem_of_mem hq
    rw [List.length_drop] at hm
    rw [List.getElem_drop, ← hget _ (by omega)]
    exact c2 _ (by omega) (by omega)
def RowsIn (l : List Row) : Prop := RowsSorted l ∧ (∀ r ∈ l, RowIn r)
theorem l11Draw_loop : ∀ (n : Nat) (l : List Row) (i : Int) (c : Cur), CurOk c → 0 ≤ i → i = n → RowsIn l → l.length + n ≤ 5 →
  Tot (fun k => spec_l11Draw_l3 k l i c.1 c.2.1 c.2.2) (fun r => CurOk r.2 ∧ RowsIn r.1 ∧ r.1.length ≤ 5) := by
 intro n
 induction n with
 | zero =>
  intro l i c hc h0 hi hr hl
  refine Tot.succ ?_
  simp only [spec_l11Draw_l3]
  exact Tot.ndec (by omega) (Tot.pure ⟨hc, hr, by show l.length ≤ 5; omega⟩)
 | succ n ih =>
  intro l i c hc h0 hi hr hl
  refine Tot.succ ?_
  simp only [spec_l11Draw_l3]
  refine Tot.dec (by omega) ?_
  refine Tot.bind (l11One_tot c hc) (fun r h => ?_)
  refine Tot.bind (specMerge l r.1 (by unfold Few; omega)) ?_
  rintro m rfl
  rw [w64 (n := i - 1) (by omega) (by omega)]
  refine ih _ _ r.2 h.2 (by omega) (by omega) ⟨mrg_sorted hr.1, fun y hy => ?_⟩ (by have := (mrg_len l r.1).2; omega)
  rcases mem_mrg hy with rfl | hy
  ·exact h.1
  ·exact hr.2 y hy
theorem l11Draw_tot (c : Cur) (hc : CurOk c) : Tot (fun k => spec_l11Draw k c) (fun r => CurOk r.2 ∧ RowsIn r.1 ∧ r.1.length ≤ 5) := by
 unfold spec_l11Draw
 obtain ⟨x, c', e, x0, x1, _, k⟩ := l1Below_ok c hc 6 (by decide)
 have x1 := x1 (by decide)
 refine Tot.bind (Tot.of (Q := fun r => r = (x, c')) e rfl) ?_
 rintro r rfl
 refine Tot.bind (l11Draw_loop x.toNat [] x c' k x0 (by omega) ⟨List.Pairwise.nil, by simp⟩ (by simp only [List.length_nil]; omega)) (fun r hr => Tot.pure hr)
end Go.Proofs.YtgocagaijgcnmaaGreat.Vf
end

section
set_option linter.unusedVariables false
set_option linter.unusedSimpArgs false
namespace Go.Proofs.YtgocagaijgcnmaaGreat.Vf
open Go
def inR (n lo hi : Int) : Bool := decide (n ≥ lo) && decide (n ≤ hi)
theorem implIn (n lo hi : Int) : impl_in n lo hi = some (inR n lo hi) := by
 unfold impl_in inR
 cases decide (n ≥ lo) <;> rfl
theorem specIn (n lo hi : Int) : spec_l1In n lo hi = some (inR n lo hi) := by
 unfold spec_l1In inR
 cases decide (n ≥ lo) <;> rfl
theorem inR_iff {n lo hi : Int} : inR n lo hi = true ↔ lo ≤ n ∧ n ≤ hi := by
 unfold inR
 simp
def charOk (c : Int) : Bool := inR c 97 122 || (inR c 48 57 || (!(c != 45) || (!(c != 95) || !(c != 47))))
def Short (s : ByteArray) : Prop := s.size ≤ 4611686018427387904
theorem size_toList (s : ByteArray) : s.data.toList.length = s.size := Array.length_toList
theorem bt_bounds (s : ByteArray) (i : Int) : 0 ≤ bt s i ∧ bt s i ≤ 255 := by
 unfold bt
 have := (s.data.toList.getD i.toNat 0).toNat_lt
 omega
theorem bt_at (s : ByteArray) (i : Nat) (h : i < s.size) : bt s (i : Int) = ((s.data.toList[i]'(by rw [size_toList]; exact h)).toNat : Int) := by
 unfold bt
 rw [Int.toNat_natCast, List.getD_eq_getElem?_getD, List.getElem?_eq_getElem (by rw [size_toList]; exact h)]
 rfl
def bOk (b : UInt8) : Bool := charOk (b.toNat : Int)
theorem implName_l2 (s : ByteArray) (hs : Short s) : ∀ (n i : Nat), s.size - i = n → i ≤ s.size →
  Tot (fun k => impl_NameOk_l2 k s (i : Int)) (fun r => r = bif (s.data.toList.drop i).all bOk then .inr s else .inl false) := by
 unfold Short at hs
 have hsz := size_toList s
 intro n
 induction n with
 | zero =>
  intro i hn hi
  refine Tot.succ ?_
  simp only [impl_NameOk_l2]
  refine Tot.ndec (by omega) (Tot.pure ?_)
  rw [List.drop_of_length_le (by omega)]
  rfl
 | succ n ih =>
  intro i hn hi
  have hlt : i < s.size := by omega
  refine Tot.succ ?_
  simp only [impl_NameOk_l2]
  refine Tot.dec (by omega) (Tot.dec (by omega) (Tot.dec (by omega) ?_))
  rw [w64 (n := (i : Int) + 1) (by omega) (by omega)]
  have hb : bOk (s.data.toList[i]'(by omega)) = charOk (bt s (i : Int)) := by rw [bt_at s i hlt]; rfl
  rw [List.drop_eq_getElem_cons (by omega), List.all_cons, hb]
  generalize bt s (i : Int) = c
  have h1 := ih (i + 1) (by omega) (by omega)
  have e : (((i + 1 : Nat)) : Int) = (i : Int) + 1 := by omega
  rw [e] at h1
  cases hc : charOk c with
  | true =>
   rw [Bool.true_and]
   refine h1.mono (fun r hr => hr) |> fun h => ?_
   obtain ⟨r, K, h2, h3⟩ := h
   refine ⟨r, K, fun k hk => ?_, h3⟩
   rw [← h2 k hk]
   unfold charOk inR at hc
   revert hc
   cases decide (c ≥ 97) <;> cases decide (c ≤ 122) <;> cases decide (c ≥ 48) <;> cases decide (c ≤ 57) <;> cases (c != 45) <;> cases (c != 95) <;> cases (c != 47) <;> first | (intro _; rfl) | (intro hc; cases hc)
  | false =>
   rw [Bool.false_and]
   refine ⟨.inl false, 0, fun k _ => ?_, rfl⟩
   unfold charOk inR at hc
   revert hc
   cases decide (c ≥ 97) <;> cases decide (c ≤ 122) <;> cases decide (c ≥ 48) <;> cases decide (c ≤ 57) <;> cases (c != 45) <;> cases (c != 95) <;> cases (c != 47) <;> first | (intro _; rfl) | (intro hc; cases hc)
theorem specName_l2 (s : ByteArray) (hs : Short s) : ∀ (n i : Nat), s.size - i = n → i ≤ s.size →
  Tot (fun k => spec_NameOk_l2 k s (i : Int)) (fun r => r = bif (s.data.toList.drop i).all bOk then .inr s else .inl false) := by
 unfold Short at hs
 have hsz := size_toList s
 intro n
 induction n with
 | zero =>
  intro i hn hi
  refine Tot.succ ?_
  simp only [spec_NameOk_l2]
  refine Tot.ndec (by omega) (Tot.pure ?_)
  rw [List.drop_of_length_le (by omega)]
  rfl
 | succ n ih =>
  intro i hn hi
  have hlt : i < s.size := by omega
  have hbb := bt_bounds s (i : Int)
  refine Tot.succ ?_
  simp only [spec_NameOk_l2]
  refine Tot.dec (by omega) (Tot.dec (by omega) (Tot.dec (by omega) ?_))
  rw [w64 (n := (i : Int) + 1) (by omega) (by omega), w64 (n := bt s (i : Int)) (by omega) (by omega)]
  have hb : bOk (s.data.toList[i]'(by omega)) = charOk (bt s (i : Int)) := by rw [bt_at s i hlt]; rfl
  rw [List.drop_eq_getElem_cons (by omega), List.all_cons, hb]
  generalize bt s (i : Int) = c
  have h1 := ih (i + 1) (by omega) (by omega)
  have e : (((i + 1 : Nat)) : Int) = (i : Int) + 1 := by omega
  rw [e] at h1
  simp only [specIn, Option.bind_some]
  cases hc : charOk c with
  | true =>
   rw [Bool.true_and]
   obtain ⟨r, K, h2, h3⟩ := h1
   refine ⟨r, K, fun k hk => ?_, h3⟩
   rw [← h2 k hk]
   unfold charOk at hc
   revert hc
   cases inR c 97 122 <;> cases inR c 48 57 <;> cases (c != 45) <;> cases (c != 95) <;> cases (c != 47) <;> first | (intro _; rfl) | (intro hc; cases hc)
  | false =>
   rw [Bool.false_and]
   refine ⟨.inl false, 0, fun k _ => ?_, rfl⟩
   unfold charOk at hc
   revert hc
   cases inR c 97 122 <;> cases inR c 48 57 <;> cases (c != 45) <;> cases (c != 95) <;> cases (c != 47) <;> first | (intro _; rfl) | (intro hc; cases hc)
def nameOk (s : ByteArray) : Bool := s.data.toList.all bOk && inR (s.size : Int) 1 20
theorem implName (s : ByteArray) (hs : Short s) : Tot (fun k => impl_NameOk k s) (fun r => r = nameOk s) := by
 unfold impl_NameOk nameOk
 refine Tot.bind (implName_l2 s hs _ 0 rfl (Nat.zero_le _)) ?_
 rintro r rfl
 rw [List.drop_zero]
 cases s.data.toList.all bOk with
 | true => exact Tot.of (a := inR (s.size : Int) 1 20) (by simp only [cond_true, Sum.elim_inr, implIn, Option.bind_some]) (by rw [Bool.true_and])
 | false => exact Tot.pure rfl
theorem specName (s : ByteArray) (hs : Short s) : Tot (fun k => spec_NameOk k s) (fun r => r = nameOk s) := by
 unfold spec_NameOk nameOk
 refine Tot.bind (specName_l2 s hs _ 0 rfl (Nat.zero_le _)) ?_
 rintro r rfl
 rw [List.drop_zero]
 cases s.data.toList.all bOk with
 | true => exact Tot.of (a := inR (s.size : Int) 1 20) (by simp only [cond_true, Sum.elim_inr, specIn, Option.bind_some]) (by rw [Bool.true_and])
 | false => exact Tot.pure rfl
def stampOk (s : Stp) : Bool := inR s.1 0 1000000000 && (inR s.2.1 0 1000000 && inR s.2.2 0 20)
theorem implStamp (s : Stp) : impl_StampOk s = some (stampOk s) := by
 unfold impl_StampOk stampOk
 simp only [implIn, Option.bind_some]
 cases inR s.1 0 1000000000 <;> cases inR s.2.1 0 1000000 <;> rfl
theorem specStamp (s : Stp) : spec_StampOk s = some (stampOk s) := by
 unfold spec_StampOk stampOk
 simp only [specIn, Option.bind_some]
 cases inR s.1 0 1000000000 <;> cases inR s.2.1 0 1000000 <;> rfl
def rowOk (x : Row) : Bool := nameOk x.1 && (stampOk x.2.1 && (inR x.2.2.2 0 200 && (!x.2.2.1 || x.2.2.2 == 0)))
theorem implRow (x : Row) (hs : Short x.1) : Tot (fun k => impl_rowOk k x) (fun r => r = rowOk x) := by
 unfold impl_rowOk rowOk
 refine Tot.bind (implName x.1 hs) ?_
 rintro r rfl
 cases nameOk x.1 with
 | false => exact Tot.pure rfl
 | true =>
  refine Tot.of (a := stampOk x.2.1 && (inR x.2.2.2 0 200 && (!x.2.2.1 || x.2.2.2 == 0))) ?_ (by rw [Bool.true_and])
  simp only [cond_true, implStamp, implIn, Option.bind_some]
  cases stampOk x.2.1 <;> cases inR x.2.2.2 0 200 <;> cases x.2.2.1 <;> rfl
theorem specRow (x : Row) (hs : Short x.1) : Tot (fun k => spec_l11Row k x) (fun r => r = rowOk x) := by
 unfold spec_l11Row rowOk
 refine Tot.bind (specName x.1 hs) ?_
 rintro r rfl
 cases nameOk x.1 with
 | false => exact Tot.pure rfl
 | true =>
  refine Tot.of (a := stampOk x.2.1 && (inR x.2.2.2 0 200 && (!x.2.2.1 || x.2.2.2 == 0))) ?_ (by rw [Bool.true_and])
  simp only [cond_true, specStamp, specIn, Option.bind_some]
  cases stampOk x.2.1 <;> cases inR x.2.2.2 0 200 <;> cases x.2.2.1 <;> rfl
def chk : Option ByteArray → List Row → Bool
 | _, [] => true
 | none, r :: l => rowOk r && chk (some r.1) l
 | some q, r :: l => rowOk r && (tlt q r.1 && chk (some r.1) l)
def rowsOk (l : List Row) : Bool := chk none l && decide ((l.length : Int) ≤ 60)
def AllShort (l : List Row) : Prop := ∀ r ∈ l, Short r.1
def prevN (l : List Row) : Nat → Option ByteArray
 | 0 => none
 | i + 1 => some (l.getD i row0).1
theorem chk_drop (l : List Row) (i : Nat) (h : i < l.length) : chk (prevN l i) (l.drop i) = (rowOk (l.getD i row0) && (bif decide (0 < i) then tlt (l.getD (i - 1) row0).1 (l.getD i row0).1 else true) && chk (prevN l (i + 1)) (l.drop (i + 1))) := by
 rw [drop_cons (d := row0) h]
 cases i with
 | zero => simp [prevN, chk]
 | succ i => simp [prevN, chk, Bool.and_assoc]
theorem getD_mem' {α : Type} {l : List α} {i : Nat} {d : α} (h1 : i < l.length) : l.getD i d ∈ l := by
 rw [List.getD_eq_getElem?_getD, List.getElem?_eq_getElem h1]
 exact List.getElem_mem h1
theorem implRows_l2 (l : List Row) (hf : Few l) (hs : AllShort l) : ∀ (n i : Nat), l.length - i = n → i ≤ l.length →
  Tot (fun k => impl_RowsOk_l2 k l l (l.length : Int) (i : Int)) (fun r => r = bif chk (prevN l i) (l.drop i) then .inr l else .inl false) := by
 unfold Few at hf
 intro n
 induction n with
 | zero =>
  intro i hn hi
  refine Tot.succ ?_
  simp only [impl_RowsOk_l2]
  refine Tot.ndec (by omega) (Tot.pure ?_)
  rw [List.drop_of_length_le (by omega)]
  cases prevN l i <;> rfl
 | succ n ih =>
  intro i hn hi
  have hlt : i < l.length := by omega
  refine Tot.succ ?_
  simp only [impl_RowsOk_l2]
  refine Tot.dec (by omega) (Tot.dec (by omega) (Tot.dec (by omega) ?_))
  rw [show Int.toNat (i : Int) = i from Int.toNat_natCast i, w64 (n := (i : Int) + 1) (by omega) (by omega), chk_drop l i hlt]
  have h1 := ih (i + 1) (by omega) (by omega)
  have e : (((i + 1 : Nat)) : Int) = (i : Int) + 1 := by omega
  rw [e] at h1
  refine Tot.bind (implRow (l.getD i row0) (hs _ (getD_mem' hlt))) ?_
  rintro b rfl
  cases hb : rowOk (l.getD i row0) with
  | false => exact Tot.yes rfl (Tot.pure (by simp))
  | true =>
   refine Tot.no rfl ?_
   rw [Bool.true_and]
   refine Tot.dite (fun h0 => ?_) (fun h0 => ?_)
   ·rw [w64 (n := (i : Int) - 1) (by omega) (by omega)]
    refine Tot.dec (by omega) (Tot.dec (by omega) ?_)
    rw [show Int.toNat ((i : Int) - 1) = i - 1 by omega, decide_eq_true (show 0 < i by omega), cond_true]
    have et : (!(Op.bytesLess (l.getD (i - 1) row0).1.toList (l.getD i row0).1.toList)) = !(tlt (l.getD (i - 1) row0).1 (l.getD i row0).1) := rfl
    refine Tot.ite (fun ht => ?_) (fun ht => ?_)
    ·have ht' : (!(tlt (l.getD (i - 1) row0).1 (l.getD i row0).1)) = true := ht
     rw [Bool.not_eq_true'] at ht'
     exact Tot.pure (by rw [ht']; rfl)
    ·have ht' : (!(tlt (l.getD (i - 1) row0).1 (l.getD i row0).1)) = false := ht
     rw [Bool.not_eq_false'] at ht'
     rw [ht', Bool.true_and]
     exact h1
   ·rw [decide_eq_false (show ¬ 0 < i by omega), cond_false, Bool.true_and]
    exact h1
theorem specRows_l2 (l : List Row) (hf : Few l) (hs : AllShort l) : ∀ (n i : Nat), l.length - i = n → i ≤ l.length →
  Tot (fun k => spec_RowsOk_l2 k l (i : Int)) (fun r => r = bif chk (prevN l i) (l.drop i) then .inr l else .inl false) := by
 unfold Few at hf
 intro n
 induction n with
 | zero =>
  intro i hn hi
  refine Tot.succ ?_
  simp only [spec_RowsOk_l2]
  refine Tot.ndec (by omega) (Tot.pure ?_)
  rw [List.drop_of_length_le (by omega)]
  cases prevN l i <;> rfl
 | succ n ih =>
  intro i hn hi
  have hlt : i < l.length := by omega
  refine Tot.succ ?_
  simp only [spec_RowsOk_l2]
  refine Tot.dec (by omega) (Tot.dec (by omega) (Tot.dec (by omega) ?_))
  rw [show Int.toNat (i : Int) = i from Int.toNat_natCast i, w64 (n := (i : Int) + 1) (by omega) (by omega), chk_drop l i hlt]
  have h1 := ih (i + 1) (by omega) (by omega)
  have e : (((i + 1 : Nat)) : Int) = (i : Int) + 1 := by omega
  rw [e] at h1
  refine Tot.bind (specRow (l.getD i row0) (hs _ (getD_mem' hlt))) ?_
  rintro b rfl
  cases hb : rowOk (l.getD i row0) with
  | false => exact Tot.yes rfl (Tot.pure (by simp))
  | true =>
   refine Tot.no rfl ?_
   rw [Bool.true_and]
   refine Tot.dite (fun h0 => ?_) (fun h0 => ?_)
   ·rw [w64 (n := (i : Int) - 1) (by omega) (by omega)]
    refine Tot.dec (by omega) (Tot.dec (by omega) (Tot.dec (by omega) (Tot.dec (by omega) ?_)))
    rw [show Int.toNat ((i : Int) - 1) = i - 1 by omega, decide_eq_true (show 0 < i by omega), cond_true]
    refine Tot.ite (fun ht => ?_) (fun ht => ?_)
    ·have ht' : (!(tlt (l.getD (i - 1) row0).1 (l.getD i row0).1)) = true := ht
     rw [Bool.not_eq_true'] at ht'
     exact Tot.pure (by rw [ht']; rfl)
    ·have ht' : (!(tlt (l.getD (i - 1) row0).1 (l.getD i row0).1)) = false := ht
     rw [Bool.not_eq_false'] at ht'
     rw [ht', Bool.true_and]
     exact h1
   ·rw [decide_eq_false (show ¬ 0 < i by omega), cond_false, Bool.true_and]
    exact h1
theorem implRows (l : List Row) (hf : Few l) (hs : AllShort l) : Tot (fun k => impl_RowsOk k l) (fun r => r = rowsOk l) := by
 unfold impl_RowsOk rowsOk
 refine Tot.bind (implRows_l2 l hf hs _ 0 rfl (Nat.zero_le _)) ?_
 rintro r rfl
 rw [List.drop_zero]
 show Tot _ (fun r => r = (chk none l && _))
 cases hc : chk none l with
 | true => rw [show chk (prevN l 0) l = true from hc]; exact Tot.pure (by rw [Bool.true_and])
 | false => rw [show chk (prevN l 0) l = false from hc]; exact Tot.pure rfl
theorem specRows (l : List Row) (hf : Few l) (hs : AllShort l) : Tot (fun k => spec_RowsOk k l) (fun r => r = rowsOk l) := by
 unfold spec_RowsOk rowsOk
 refine Tot.bind (specRows_l2 l hf hs _ 0 rfl (Nat.zero_le _)) ?_
 rintro r rfl
 rw [List.drop_zero]
 cases hc : chk none l with
 | true => rw [show chk (prevN l 0) l = true from hc]; exact Tot.pure (by rw [Bool.true_and])
 | false => rw [show chk (prevN l 0) l = false from hc]; exact Tot.pure rfl
theorem chk_iff : ∀ (p : Option ByteArray) (l : List Row), chk p l = true ↔ RowsSorted l ∧ (∀ r ∈ l, rowOk r = true) ∧ (∀ q, p = some q → ∀ r ∈ l, tlt q r.1 = true)
 | p, [] => by
  have : chk p [] = true := by cases p <;> rfl
  simp [this, RowsSorted]
 | none, r :: l => by
  simp only [chk, Bool.and_eq_true, chk_iff (some r.1) l, RowsSorted, List.pairwise_cons]
  constructor
  ·rintro ⟨h1, h2, h3, h4⟩
   exact ⟨⟨fun a ha => h4 _ rfl a ha, h2⟩, fun a ha => by rcases List.mem_cons.1 ha with rfl | ha; exact h1; exact h3 a ha, fun q hq => by cases hq⟩
  ·rintro ⟨⟨h1, h2⟩, h3, _⟩
   exact ⟨h3 r (by simp), h2, fun a ha => h3 a (List.mem_cons_of_mem _ ha), fun q hq a ha => by cases hq; exact h1 a ha⟩
 | some q, r :: l => by
  simp only [chk, Bool.and_eq_true, chk_iff (some r.1) l, RowsSorted, List.pairwise_cons]
  constructor
  ·rintro ⟨h1, h0, h2, h3, h4⟩
   refine ⟨⟨fun a ha => h4 _ rfl a ha, h2⟩, fun a ha => by rcases List.mem_cons.1 ha with rfl | ha; exact h1; exact h3 a ha, fun q' hq a ha => ?_⟩
   cases hq
   rcases List.mem_cons.1 ha with rfl | ha
   ·exact h0
   ·exact tlt_trans h0 (h4 _ rfl a ha)
  ·rintro ⟨⟨h1, h2⟩, h3, h4⟩
   exact ⟨h3 r (by simp), h4 q rfl r (by simp), h2, fun a ha => h3 a (List.mem_cons_of_mem _ ha), fun q' hq a ha => by cases hq; exact h1 a ha⟩
theorem rowsOk_iff {l : List Row} : rowsOk l = true ↔ RowsSorted l ∧ (∀ r ∈ l, rowOk r = true) ∧ l.length ≤ 60 := by
 unfold rowsOk
 simp only [Bool.and_eq_true, chk_iff, decide_eq_true_eq]
 constructor
 ·rintro ⟨⟨h1, h2, _⟩, h3⟩
  exact ⟨h1, h2, by omega⟩
 ·rintro ⟨h1, h2, h3⟩
  exact ⟨⟨h1, h2, fun q hq => by cases hq⟩, by omega⟩
def mrgs (a b : List Row) : List Row := b.foldl mrg a
theorem mem_mrgs {a b : List Row} {r : Row} (h : r ∈ mrgs a b) : r ∈ a ∨ r ∈ b := by
 induction b generalizing a with
 | nil => exact .inl h
 | cons x b ih =>
  rcases ih (a := mrg a x) h with h | h
  ·rcases mem_mrg h with rfl | h
   ·exact .inr (by simp)
   ·exact .inl h
  ·exact .inr (List.mem_cons_of_mem _ h)
theorem mrgs_sorted {a b : List Row} (h : RowsSorted a) : RowsSorted (mrgs a b) := by
 induction b generalizing a with
 | nil => exact h
 | cons x b ih => exact ih (mrg_sorted h)
def mx (a b : Row) : Row := bif rless a b then b else a
end Go.Proofs.YtgocagaijgcnmaaGreat.Vf
end

section
set_option linter.unusedVariables false
set_option linter.unusedSimpArgs false
namespace Go.Proofs.YtgocagaijgcnmaaGreat.Vf
open Go
def encF : Nat → Nat → List Int
 | 0, n => [(n : Int)]
 | f + 1, n => if n ≤ 127 then [(n : Int)] else ((n % 128 + 128 : Nat) : Int) :: encF f (n / 128)
def encN (n : Nat) : List Int := encF 4 n
def decF : Nat → Nat → Nat → List Int → Option (Nat × Nat)
 | 0, _, _, _ => none
 | _ + 1, _, _, [] => none
 | f + 1, k, acc, x :: l => if 128 ≤ x then decF f (k + 1) (acc + x.toNat % 128 * 128 ^ k) l
  else if (x = 0 ∧ 0 < k) ∨ 1000000000 < acc + x.toNat % 128 * 128 ^ k then none else some (acc + x.toNat % 128 * 128 ^ k, k + 1)
def getN (l : List Int) (p : Nat) : Option (Nat × Nat) := match decF 5 0 0 (l.drop p) with
 | some (n, c) => some (n, p + c)
 | none => none
theorem encF_le : ∀ (f n : Nat), (encF f n).length ≤ f + 1 ∧ 0 < (encF f n).length
 | 0, n => by simp [encF]
 | f + 1, n => by
  unfold encF
  split
  ·simp
  ·have := encF_le f (n / 128)
   simp only [List.length_cons]
   omega
theorem decF_bounds : ∀ (f k acc : Nat) (l : List Int) (n c : Nat), BytesOk l → decF f k acc l = some (n, c) → acc < 128 ^ k → k < c ∧ c ≤ k + f ∧ c - k ≤ l.length ∧ n ≤ 1000000000
 | 0, _, _, _, _, _, _, h, _ => by simp [decF] at h
 | _ + 1, _, _, [], _, _, _, h, _ => by simp [decF] at h
 | f + 1, k, acc, x :: l, n, c, hb, h, ha => by
  have hx := hb x (by simp)
  unfold decF at h
  split at h
  ·have h1 : acc + x.toNat % 128 * 128 ^ k < 128 ^ (k + 1) := by
    have h2 : x.toNat % 128 ≤ 127 := by omega
    have h3 := Nat.mul_le_mul_right (128 ^ k) h2
    rw [Nat.pow_succ]
    omega
   have := decF_bounds f (k + 1) _ l n c (fun y hy => hb y (List.mem_cons_of_mem _ hy)) h h1
   simp only [List.length_cons]
   omega
  ·split at h
   ·cases h
   ·simp only [Option.some.injEq, Prod.mk.injEq] at h
    obtain ⟨rfl, rfl⟩ := h
    simp only [List.length_cons]
    omega
theorem dec_enc : ∀ (f k acc : Nat) (l : List Int) (n c : Nat), BytesOk l → decF (f + 1) k acc l = some (n, c) → acc < 128 ^ k → ∃ m, n = acc + m * 128 ^ k ∧ l = encF f m ++ l.drop (c - k) ∧ (m = 0 → c = k + 1 ∧ (0 < k → False)) ∧ m < 128 ^ (f + 1)
 | 0, k, acc, [], n, c, hb, h, ha => by simp [decF] at h
 | _ + 1, k, acc, [], n, c, hb, h, ha => by simp [decF] at h
 | 0, k, acc, x :: l, n, c, hb, h, ha => by
  have hx := hb x (by simp)
  unfold decF at h
  split at h
  ·simp [decF] at h
  ·rename_i h128
   split at h
   ·cases h
   ·rename_i hz
    simp only [Option.some.injEq, Prod.mk.injEq] at h
    obtain ⟨rfl, rfl⟩ := h
    have hm : x.toNat % 128 = x.toNat := Nat.mod_eq_of_lt (by omega)
    refine ⟨x.toNat, by rw [hm], ?_, fun h0 => ⟨rfl, fun hk => hz (.inl ⟨by omega, hk⟩)⟩, by omega⟩
    rw [show k + 1 - k = 1 by omega]
    show x :: l = [((x.toNat : Nat) : Int)] ++ l
    rw [show ((x.toNat : Nat) : Int) = x by omega]
    rfl
 | f + 1, k, acc, x :: l, n, c, hb, h, ha => by
  have hx := hb x (by simp)
  have hb' : BytesOk l := fun y hy => hb y (List.mem_cons_of_mem _ hy)
  unfold decF at h
  split at h
  ·rename_i h128
   have h1 : acc + x.toNat % 128 * 128 ^ k < 128 ^ (k + 1) := by
    have h2 : x.toNat % 128 ≤ 127 := by omega
    have h3 := Nat.mul_le_mul_right (128 ^ k) h2
    rw [Nat.pow_succ]
    omega
   obtain ⟨m, e1, e2, e3, e4⟩ := dec_enc f (k + 1) _ l n c hb' h h1
   have hbd := decF_bounds (f + 1) (k + 1) _ l n c hb' h h1
   have hm0 : m ≠ 0 := fun h0 => (e3 h0).2 (by omega)
   refine ⟨x.toNat % 128 + m * 128, ?_, ?_, fun h0 => by omega, ?_⟩
   ·rw [e1, Nat.pow_succ, Nat.add_mul]
    have : m * 128 * 128 ^ k = m * (128 ^ k * 128) := by rw [Nat.mul_assoc, Nat.mul_comm 128]
    omega
   ·unfold encF
    rw [if_neg (by omega), show (x.toNat % 128 + m * 128) / 128 = m by omega, show (x.toNat % 128 + m * 128) % 128 = x.toNat % 128 by omega, show c - k = (c - (k + 1)) + 1 by omega, List.drop_succ_cons, List.cons_append, ← e2]
    congr 1
    omega
   ·rw [Nat.pow_succ]
    omega
  ·rename_i h128
   split at h
   ·cases h
   ·rename_i hz
    simp only [Option.some.injEq, Prod.mk.injEq] at h
    obtain ⟨rfl, rfl⟩ := h
    have hm : x.toNat % 128 = x.toNat := Nat.mod_eq_of_lt (by omega)
    have hp : 128 ≤ 128 ^ (f + 1 + 1) := by
     have := Nat.pow_le_pow_right (show 0 < 128 by decide) (show 1 ≤ f + 1 + 1 by omega)
     simpa using this
    refine ⟨x.toNat, by rw [hm], ?_, fun h0 => ⟨rfl, fun hk => hz (.inl ⟨by omega, hk⟩)⟩, by omega⟩
    rw [show k + 1 - k = 1 by omega]
    unfold encF
    rw [if_pos (by omega)]
    show x :: l = [((x.toNat : Nat) : Int)] ++ l
    rw [show ((x.toNat : Nat) : Int) = x by omega]
    rfl
theorem getN_ok {l : List Int} {p n q : Nat} (hb : BytesOk l) (h : getN l p = some (n, q)) : l.drop p = encN n ++ l.drop q ∧ n ≤ 1000000000 ∧ p < q ∧ q ≤ l.length := by
 unfold getN at h
 split at h
 ·rename_i m c hd
  simp only [Option.some.injEq, Prod.mk.injEq] at h
  obtain ⟨rfl, rfl⟩ := h
  have hb' : BytesOk (l.drop p) := fun y hy => hb y (List.mem_of_mem_drop hy)
  have hbd := decF_bounds 5 0 0 _ _ _ hb' hd (by decide)
  obtain ⟨m', e1, e2, _, _⟩ := dec_enc 4 0 0 _ _ _ hb' hd (by decide)
  have e3 : m = m' := by rw [e1]; simp
  subst e3
  rw [List.length_drop] at hbd
  refine ⟨?_, hbd.2.2.2, by omega, by omega⟩
  rw [Nat.sub_zero, List.drop_drop] at e2
  exact e2
 ·cases h
theorem pow7 (i : Nat) (hi : i < 5) : (2 : Int) ^ (min (Int.toNat (IntKind.wrap .i64 (7 * (i : Int)))) (IntKind.bits .i64)) = ((128 ^ i : Nat) : Int) := by
 have : i = 0 ∨ i = 1 ∨ i = 2 ∨ i = 3 ∨ i = 4 := by omega
 rcases this with rfl | rfl | rfl | rfl | rfl <;> decide
theorem pow7u (i : Nat) (hi : i < 5) : (2 : Int) ^ (min (Int.toNat (IntKind.wrap .u64 (IntKind.wrap .i64 (7 * (i : Int))))) (IntKind.bits .i64)) = ((128 ^ i : Nat) : Int) := by
 have : i = 0 ∨ i = 1 ∨ i = 2 ∨ i = 3 ∨ i = 4 := by omega
 rcases this with rfl | rfl | rfl | rfl | rfl <;> decide
theorem sh7 (i : Nat) (hi : i < 5) : ¬ (IntKind.wrap .i64 (7 * (i : Int)) < 0) ∧ ¬ (IntKind.wrap .u64 (IntKind.wrap .i64 (7 * (i : Int))) < 0) := by
 have : i = 0 ∨ i = 1 ∨ i = 2 ∨ i = 3 ∨ i = 4 := by omega
 rcases this with rfl | rfl | rfl | rfl | rfl <;> decide
theorem pow128_le (i : Nat) (hi : i ≤ 5) : 128 ^ i ≤ 34359738368 := by
 have := Nat.pow_le_pow_right (show 0 < 128 by decide) hi
 simpa using this
theorem ofInt_nat (n : Nat) (h : n < 18446744073709551616) : (BitVec.ofInt (IntKind.bits .i64) (n : Int)).toNat = n := by
 rw [BitVec.toNat_ofInt]
 show ((n : Int) % ((2 ^ 64 : Nat) : Int)).toNat = n
 rw [Int.emod_eq_of_lt (by omega) (by omega)]
 exact Int.toNat_natCast n
theorem and127 (n : Nat) (h : n < 9223372036854775808) : IntKind.wrap .i64 ((BitVec.ofInt (IntKind.bits .i64) (n : Int) &&& BitVec.ofInt (IntKind.bits .i64) 127).toNat) = ((n % 128 : Nat) : Int) := by
 rw [BitVec.toNat_and, ofInt_nat n (by omega), show (BitVec.ofInt (IntKind.bits .i64) 127).toNat = 127 from by decide, show (127 : Nat) = 2 ^ 7 - 1 from rfl, Nat.and_two_pow_sub_one_eq_mod]
 exact w64 (by omega) (by omega)
theorem or_shift (a m i : Nat) (ha : a < 128 ^ i) (hm : m < 128) (hi : i < 5) : IntKind.wrap .i64 ((BitVec.ofInt (IntKind.bits .i64) (a : Int) ||| BitVec.ofInt (IntKind.bits .i64) ((m * 128 ^ i : Nat) : Int)).toNat) = ((a + m * 128 ^ i : Nat) : Int) := by
 have hp := pow128_le i (by omega)
 have hmul : m * 128 ^ i ≤ 127 * 34359738368 := Nat.mul_le_mul (by omega) hp
 rw [BitVec.toNat_or, ofInt_nat a (by omega), ofInt_nat _ (by omega), Nat.or_comm]
 have e : (128 : Nat) ^ i = 2 ^ (7 * i) := by rw [Nat.pow_mul]
 have h2 := Nat.two_pow_add_eq_or_of_lt (i := 7 * i) (b := a) (by rw [← e]; exact ha) m
 rw [← e, Nat.mul_comm] at h2
 rw [← h2, Nat.add_comm]
 exact w64 (by omega) (by omega)
def numR (l : List Int) (p : Int) : Int × Int × Bool := if p < 0 then (0, 0, false) else match getN l p.toNat with
 | some (n, q) => ((n : Int), (q : Int), true)
 | none => (0, 0, false)
def decR (p : Nat) : Option (Nat × Nat) → Int × Int × Bool
 | some (n, c) => ((n : Int), ((p + c : Nat) : Int), true)
 | none => (0, 0, false)
def numEnd (r : Sum (Int × Int × Bool) Unit) : Int × Int × Bool := Sum.elim (fun y => y) (fun _ => (0, 0, false)) r
theorem drop_getD {l : List Int} {p : Nat} (h : p < l.length) : l.drop p = l.getD p 0 :: l.drop (p + 1) := drop_cons h
theorem implNum_l3 (l : List Int) (hb : BytesOk l) (hl : l.length ≤ 1000000000000) (p : Nat) (hp : p ≤ 1000000000000) : ∀ (f i acc : Nat), f + i = 5 → acc < 128 ^ i →
  Tot (fun k => impl_GetNum_l3 k l (p : Int) (acc : Int) (i : Int)) (fun r => numEnd r = decR p (decF f i acc (l.drop (p + i)))) := by
 intro f
 induction f with
 | zero =>
  intro i acc hi ha
  refine Tot.succ ?_
  simp only [impl_GetNum_l3]
  exact Tot.ndec (by omega) (Tot.pure rfl)
 | succ f ih =>
  intro i acc hi ha
  have hi5 : i < 5 := by omega
  refine Tot.succ ?_
  simp only [impl_GetNum_l3]
  refine Tot.dec (by omega) (Tot.dec (by omega) ?_)
  rw [w64 (n := (l.length : Int) - (i : Int)) (by omega) (by omega), w64 (n := (p : Int) + (i : Int)) (by omega) (by omega), show Int.toNat ((p : Int) + (i : Int)) = p + i by omega]
  refine Tot.dite (fun h => ?_) (fun h => ?_)
  ·have hlt : p + i < l.length := by omega
   refine Tot.dec (by omega) (Tot.dec (by omega) ?_)
   have hx := hb (l.getD (p + i) 0) (getD_mem' hlt)
   rw [drop_getD hlt, pow7 i hi5]
   have he : decF (f + 1) i acc (l.getD (p + i) 0 :: l.drop (p + i + 1)) = if 128 ≤ l.getD (p + i) 0 then decF f (i + 1) (acc + (l.getD (p + i) 0).toNat % 128 * 128 ^ i) (l.drop (p + i + 1)) else if (l.getD (p + i) 0 = 0 ∧ 0 < i) ∨ 1000000000 < acc + (l.getD (p + i) 0).toNat % 128 * 128 ^ i then none else some (acc + (l.getD (p + i) 0).toNat % 128 * 128 ^ i, i + 1) := rfl
   rw [he]
   generalize l.getD (p + i) 0 = x at hx ⊢
   obtain ⟨v, rfl⟩ : ∃ v : Nat, x = (v : Int) := ⟨x.toNat, by omega⟩
   rw [Int.toNat_natCast]
   have hp1 := pow128_le i (by omega)
   have hmul : v % 128 * 128 ^ i ≤ 127 * 34359738368 := Nat.mul_le_mul (by omega) hp1
   rw [w64 (n := (v : Int)) (by omega) (by omega)]
   have e1 : Int.tmod (v : Int) 128 * ((128 ^ i : Nat) : Int) = ((v % 128 * 128 ^ i : Nat) : Int) := by
    rw [Int.tmod_eq_emod_of_nonneg (by omega)]
    push_cast
    rfl
   rw [e1, w64 (n := ((v % 128 * 128 ^ i : Nat) : Int)) (by omega) (by omega), ← Int.natCast_add, w64 (n := ((acc + v % 128 * 128 ^ i : Nat) : Int)) (by omega) (by omega), w64 (n := (i : Int) + 1) (by omega) (by omega), w64 (n := (p : Int) + (i : Int) + 1) (by omega) (by omega)]
   refine Tot.ndec (sh7 i hi5).1 ?_
   refine Tot.dite (fun h128 => ?_) (fun h128 => ?_)
   ·rw [if_pos (by omega)]
    have h1 : acc + v % 128 * 128 ^ i < 128 ^ (i + 1) := by
     have h2 : v % 128 ≤ 127 := by omega
     have h3 := Nat.mul_le_mul_right (128 ^ i) h2
     rw [Nat.pow_succ]
     omega
    have := ih (i + 1) (acc + v % 128 * 128 ^ i) (by omega) h1
    rw [show p + (i + 1) = p + i + 1 by omega] at this
    exact this
   ·rw [if_neg (by omega)]
    have big : Tot (fun _ : Nat => cond (decide (((acc + v % 128 * 128 ^ i : Nat) : Int) > 1000000000)) (some (Sum.inl ((0 : Int), (0 : Int), false))) (some (Sum.inl (((acc + v % 128 * 128 ^ i : Nat) : Int), (p : Int) + (i : Int) + 1, true))) : Nat → Option (Sum (Int × Int × Bool) Unit))
      (fun r => numEnd r = if 1000000000 < acc + v % 128 * 128 ^ i then (0, 0, false) else (((acc + v % 128 * 128 ^ i : Nat) : Int), ((p + (i + 1) : Nat) : Int), true)) := by
     refine Tot.dite (fun hbig => ?_) (fun hbig => ?_)
     ·rw [if_pos (by omega)]; exact Tot.pure rfl
     ·rw [if_neg (by omega)]
      refine Tot.pure ?_
      show (_, _, _) = _
      rw [show (p : Int) + (i : Int) + 1 = ((p + (i + 1) : Nat) : Int) by omega]
    have goal : ∀ c : Prop, [Decidable c] → (if c ∨ 1000000000 < acc + v % 128 * 128 ^ i then none else some (acc + v % 128 * 128 ^ i, i + 1)) = if c then none else if 1000000000 < acc + v % 128 * 128 ^ i then (none : Option (Nat × Nat)) else some (acc + v % 128 * 128 ^ i, i + 1) := by
     intro c _
     by_cases h1 : c <;> by_cases h2 : 1000000000 < acc + v % 128 * 128 ^ i <;> simp [h1, h2]
    rw [goal]
    have fin : (decR p (if 1000000000 < acc + v % 128 * 128 ^ i then (none : Option (Nat × Nat)) else some (acc + v % 128 * 128 ^ i, i + 1))) = if 1000000000 < acc + v % 128 * 128 ^ i then (0, 0, false) else (((acc + v % 128 * 128 ^ i : Nat) : Int), ((p + (i + 1) : Nat) : Int), true) := by
     split <;> rfl
    refine Tot.ite (fun h0 => ?_) (fun h0 => ?_)
    ·have hv : v = 0 := by
      have := beq_iff_eq.1 h0
      omega
     refine Tot.dite (fun hi0 => ?_) (fun hi0 => ?_)
     ·rw [if_pos ⟨by omega, by omega⟩]; exact Tot.pure rfl
     ·rw [if_neg (by omega), fin]; exact big
    ·have hv : v ≠ 0 := by
      intro e
      subst e
      simp at h0
     rw [if_neg (by omega), fin]; exact big
  ·refine Tot.pure ?_
   rw [List.drop_of_length_le (by omega)]
   rfl
theorem implNum (l : List Int) (hb : BytesOk l) (hl : l.length ≤ 1000000000000) (p : Int) (hp : p ≤ 1000000000000) : Tot (fun k => impl_GetNum k l p) (fun r => r = numR l p) := by
 unfold impl_GetNum numR
 by_cases h0 : p < 0
 ·rw [if_pos h0]
  refine Tot.bind (Q := fun r => r = .inr ()) ?_ ?_
  ·refine Tot.succ ?_
   simp only [impl_GetNum_l3]
   exact Tot.dec (by omega) (Tot.ndec (by omega) (Tot.pure rfl))
  ·rintro r rfl
   exact Tot.pure rfl
 ·rw [if_neg h0]
  obtain ⟨n, rfl⟩ : ∃ n : Nat, p = (n : Int) := ⟨p.toNat, by omega⟩
  rw [Int.toNat_natCast]
  refine Tot.bind (implNum_l3 l hb hl n (by omega) 5 0 0 rfl (by decide)) ?_
  intro r hr
  unfold getN
  rw [Nat.add_zero] at hr
  have hr' : numEnd r = (match (match decF 5 0 0 (l.drop n) with | some (m, c) => some (m, n + c) | none => none) with | some (m, q) => ((m : Int), (q : Int), true) | none => ((0 : Int), (0 : Int), false)) := by
   rw [hr]
   cases decF 5 0 0 (l.drop n) with
   | none => rfl
   | some mc => rfl
  rw [← hr']
  cases r with
  | inl y => exact Tot.pure rfl
  | inr z => exact Tot.pure rfl
end Go.Proofs.YtgocagaijgcnmaaGreat.Vf
end

section
set_option linter.unusedVariables false
set_option linter.unusedSimpArgs false
namespace Go.Proofs.YtgocagaijgcnmaaGreat.Vf
open Go
theorem specNum_l3 (l : List Int) (hb : BytesOk l) (hl : l.length ≤ 1000000000000) (p : Nat) (hp : p < l.length) : ∀ (f i acc : Nat), f + i = 5 → acc < 128 ^ i →
  Tot (fun k => spec_GetNum_l3 k l (p : Int) (acc : Int) (i : Int)) (fun r => numEnd r = decR p (decF f i acc (l.drop (p + i)))) := by
 intro f
 induction f with
 | zero =>
  intro i acc hi ha
  refine Tot.succ ?_
  simp only [spec_GetNum_l3]
  exact Tot.ndec (by omega) (Tot.pure rfl)
 | succ f ih =>
  intro i acc hi ha
  have hi5 : i < 5 := by omega
  refine Tot.succ ?_
  simp only [spec_GetNum_l3]
  refine Tot.dec (by omega) (Tot.dec (by omega) (Tot.dec (by omega) ?_))
  rw [w64 (n := (p : Int) + (i : Int)) (by omega) (by omega), show Int.toNat ((p : Int) + (i : Int)) = p + i by omega]
  refine Tot.dite (fun h => ?_) (fun h => ?_)
  ·have hlt : p + i < l.length := by omega
   refine Tot.dec (by omega) (Tot.dec (by omega) ?_)
   have hx := hb (l.getD (p + i) 0) (getD_mem' hlt)
   rw [drop_getD hlt, pow7u i hi5]
   have he : decF (f + 1) i acc (l.getD (p + i) 0 :: l.drop (p + i + 1)) = if 128 ≤ l.getD (p + i) 0 then decF f (i + 1) (acc + (l.getD (p + i) 0).toNat % 128 * 128 ^ i) (l.drop (p + i + 1)) else if (l.getD (p + i) 0 = 0 ∧ 0 < i) ∨ 1000000000 < acc + (l.getD (p + i) 0).toNat % 128 * 128 ^ i then none else some (acc + (l.getD (p + i) 0).toNat % 128 * 128 ^ i, i + 1) := rfl
   rw [he]
   generalize l.getD (p + i) 0 = x at hx ⊢
   obtain ⟨v, rfl⟩ : ∃ v : Nat, x = (v : Int) := ⟨x.toNat, by omega⟩
   rw [Int.toNat_natCast]
   have hp1 := pow128_le i (by omega)
   have hmul : v % 128 * 128 ^ i ≤ 127 * 34359738368 := Nat.mul_le_mul (by omega) hp1
   rw [w64 (n := (v : Int)) (by omega) (by omega), and127 v (by omega)]
   have e1 : ((v % 128 : Nat) : Int) * ((128 ^ i : Nat) : Int) = ((v % 128 * 128 ^ i : Nat) : Int) := by push_cast; rfl
   rw [e1, w64 (n := ((v % 128 * 128 ^ i : Nat) : Int)) (by omega) (by omega), or_shift acc (v % 128) i ha (by omega) hi5, w64 (n := (i : Int) + 1) (by omega) (by omega), w64 (n := (p : Int) + (i : Int) + 1) (by omega) (by omega)]
   refine Tot.ndec (sh7 i hi5).2 ?_
   refine Tot.dite (fun h128 => ?_) (fun h128 => ?_)
   ·rw [if_pos (by omega)]
    have h1 : acc + v % 128 * 128 ^ i < 128 ^ (i + 1) := by
     have h2 : v % 128 ≤ 127 := by omega
     have h3 := Nat.mul_le_mul_right (128 ^ i) h2
     rw [Nat.pow_succ]
     omega
    have := ih (i + 1) (acc + v % 128 * 128 ^ i) (by omega) h1
    rw [show p + (i + 1) = p + i + 1 by omega] at this
    exact this
   ·rw [if_neg (by omega)]
    have big : Tot (fun _ : Nat => cond (decide (((acc + v % 128 * 128 ^ i : Nat) : Int) > 1000000000)) (some (Sum.inl ((0 : Int), (0 : Int), false))) (some (Sum.inl (((acc + v % 128 * 128 ^ i : Nat) : Int), (p : Int) + (i : Int) + 1, true))) : Nat → Option (Sum (Int × Int × Bool) Unit))
      (fun r => numEnd r = if 1000000000 < acc + v % 128 * 128 ^ i then (0, 0, false) else (((acc + v % 128 * 128 ^ i : Nat) : Int), ((p + (i + 1) : Nat) : Int), true)) := by
     refine Tot.dite (fun hbig => ?_) (fun hbig => ?_)
     ·rw [if_pos (by omega)]; exact Tot.pure rfl
     ·rw [if_neg (by omega)]
      refine Tot.pure ?_
      show (_, _, _) = _
      rw [show (p : Int) + (i : Int) + 1 = ((p + (i + 1) : Nat) : Int) by omega]
    have goal : ∀ c : Prop, [Decidable c] → (if c ∨ 1000000000 < acc + v % 128 * 128 ^ i then none else some (acc + v % 128 * 128 ^ i, i + 1)) = if c then none else if 1000000000 < acc + v % 128 * 128 ^ i then (none : Option (Nat × Nat)) else some (acc + v % 128 * 128 ^ i, i + 1) := by
     intro c _
     by_cases h1 : c <;> by_cases h2 : 1000000000 < acc + v % 128 * 128 ^ i <;> simp [h1, h2]
    rw [goal]
    have fin : (decR p (if 1000000000 < acc + v % 128 * 128 ^ i then (none : Option (Nat × Nat)) else some (acc + v % 128 * 128 ^ i, i + 1))) = if 1000000000 < acc + v % 128 * 128 ^ i then (0, 0, false) else (((acc + v % 128 * 128 ^ i : Nat) : Int), ((p + (i + 1) : Nat) : Int), true) := by
     split <;> rfl
    refine Tot.dite (fun hi0 => ?_) (fun hi0 => ?_)
    ·refine Tot.ite (fun h0 => ?_) (fun h0 => ?_)
     ·have hv : v = 0 := by
       have := beq_iff_eq.1 h0
       omega
      rw [if_pos ⟨by omega, by omega⟩]; exact Tot.pure rfl
     ·have hv : v ≠ 0 := by
       intro e
       subst e
       simp at h0
      rw [if_neg (by omega), fin]; exact big
    ·rw [if_neg (by omega), fin]; exact big
  ·refine Tot.pure ?_
   rw [List.drop_of_length_le (by omega)]
   rfl
theorem specNum (l : List Int) (hb : BytesOk l) (hl : l.length ≤ 1000000000000) (p : Int) : Tot (fun k => spec_GetNum k l p) (fun r => r = numR l p) := by
 unfold spec_GetNum numR
 by_cases h0 : p < 0
 ·rw [if_pos h0]
  refine Tot.bind (Q := fun r => r = .inr ()) ?_ ?_
  ·refine Tot.succ ?_
   simp only [spec_GetNum_l3]
   exact Tot.dec (by omega) (Tot.ndec (by omega) (Tot.pure rfl))
  ·rintro r rfl
   exact Tot.pure rfl
 ·rw [if_neg h0]
  by_cases h1 : p < (l.length : Int)
  ·obtain ⟨n, rfl⟩ : ∃ n : Nat, p = (n : Int) := ⟨p.toNat, by omega⟩
   rw [Int.toNat_natCast]
   refine Tot.bind (specNum_l3 l hb hl n (by omega) 5 0 0 rfl (by decide)) ?_
   intro r hr
   unfold getN
   rw [Nat.add_zero] at hr
   have hr' : numEnd r = (match (match decF 5 0 0 (l.drop n) with | some (m, c) => some (m, n + c) | none => none) with | some (m, q) => ((m : Int), (q : Int), true) | none => ((0 : Int), (0 : Int), false)) := by
    rw [hr]
    cases decF 5 0 0 (l.drop n) with
    | none => rfl
    | some mc => rfl
   refine Tot.mono (Q := fun y => y = numEnd r) ?_ (fun y hy => hy.trans hr')
   cases r with
   | inl y => exact Tot.pure rfl
   | inr z => exact Tot.pure rfl
  ·have e : getN l p.toNat = none := by
    unfold getN
    rw [List.drop_of_length_le (by omega)]
    rfl
   rw [e]
   refine Tot.bind (Q := fun r => r = .inr ()) ?_ ?_
   ·refine Tot.succ ?_
    simp only [spec_GetNum_l3]
    exact Tot.dec (by omega) (Tot.dec (by omega) (Tot.ndec h1 (Tot.pure rfl)))
   ·rintro r rfl
    exact Tot.pure rfl
def clampN (n : Int) : Nat := (max 0 (min n 1000000000)).toNat
theorem clampN_le (n : Int) : clampN n ≤ 1000000000 := by unfold clampN; omega
theorem u8_low (n : Nat) (h : n ≤ 255) : IntKind.wrap .u8 (n : Int) = (n : Int) := by
 rw [IntKind.wrap_u8]
 omega
theorem implAdd_l2 : ∀ (f n : Nat) (out : List Int), n < 128 ^ (f + 1) → f ≤ 4 → out.length + f ≤ 1000000000010 →
  Tot (fun k => impl_addNum_l2 k out (n : Int)) (fun r => ∃ m : Nat, r.2 = (m : Int) ∧ m ≤ 127 ∧ r.1 ++ [(m : Int)] = out ++ encF f n ∧ r.1.length ≤ out.length + f) := by
 intro f
 induction f with
 | zero =>
  intro n out hn hf hl
  refine Tot.succ ?_
  simp only [impl_addNum_l2]
  have : n < 128 := by simpa using hn
  exact Tot.ndec (by omega) (Tot.pure ⟨n, rfl, by omega, rfl, by simp⟩)
 | succ f ih =>
  intro n out hn hf hl
  have hp := pow128_le (f + 1 + 1 - 1) (by omega)
  refine Tot.succ ?_
  simp only [impl_addNum_l2]
  refine Tot.dite (fun h => ?_) (fun h => ?_)
  ·have hn2 : n / 128 < 128 ^ (f + 1) := by rw [Nat.pow_succ] at hn; omega
   have hn3 : n < 4398046511104 := by
    have := pow128_le (f + 1) (by omega)
    rw [Nat.pow_succ] at hn
    omega
   have e1 : Int.tmod (n : Int) 128 + 128 = ((n % 128 + 128 : Nat) : Int) := by
    rw [Int.tmod_eq_emod_of_nonneg (by omega)]
    omega
   have e2 : Int.tdiv (n : Int) 128 = ((n / 128 : Nat) : Int) := by
    rw [Int.tdiv_eq_ediv_of_nonneg (by omega)]
    omega
   rw [e1, e2, w64 (n := ((n % 128 + 128 : Nat) : Int)) (by omega) (by omega), w64 (n := ((n / 128 : Nat) : Int)) (by omega) (by omega), u8_low _ (by omega)]
   refine Tot.ble (by simp only [List.length_cons, List.length_nil]; omega) ?_
   refine (ih (n / 128) (out ++ [((n % 128 + 128 : Nat) : Int)]) hn2 (by omega) (by simp only [List.length_append, List.length_cons, List.length_nil]; omega)).mono ?_
   rintro r ⟨m, h1, h2, h3, h4⟩
   refine ⟨m, h1, h2, ?_, by simp only [List.length_append, List.length_cons, List.length_nil] at h4; omega⟩
   rw [h3, List.append_assoc]
   congr 1
   conv => { rhs; unfold encF }
   rw [if_neg (by omega)]
   rfl
  ·refine Tot.pure ⟨n, rfl, by omega, ?_, by show out.length ≤ out.length + (f + 1); omega⟩
   unfold encF
   rw [if_pos (by omega)]
theorem implAdd (out : List Int) (n : Int) (hl : out.length ≤ 1000000000000) : Tot (fun k => impl_addNum k out n) (fun r => r = out ++ encN (clampN n)) := by
 unfold impl_addNum
 have e : (if (0 : Int) < (if (1000000000 : Int) < n then 1000000000 else n) then (if (1000000000 : Int) < n then 1000000000 else n) else 0) = ((clampN n : Nat) : Int) := by
  unfold clampN
  split <;> split <;> omega
 simp only
 rw [e]
 have hc := clampN_le n
 refine Tot.bind (implAdd_l2 4 (clampN n) out (by omega) (by omega) (by omega)) ?_
 rintro r ⟨m, h1, h2, h3, h4⟩
 rw [h1, u8_low m (by omega)]
 refine Tot.ble (by simp only [List.length_cons, List.length_nil]; omega) (Tot.pure h3)
theorem specAdd_l6 : ∀ (f n : Nat) (out : List Int), n < 128 ^ (f + 1) → f ≤ 4 → out.length + f ≤ 1000000000010 →
  Tot (fun k => spec_PutNum_l6 k (n : Int) out) (fun r => ∃ m : Nat, r.1 = (m : Int) ∧ m ≤ 127 ∧ r.2 ++ [(m : Int)] = out ++ encF f n ∧ r.2.length ≤ out.length + f) := by
 intro f
 induction f with
 | zero =>
  intro n out hn hf hl
  refine Tot.succ ?_
  simp only [spec_PutNum_l6]
  have : n < 128 := by simpa using hn
  exact Tot.ndec (by omega) (Tot.pure ⟨n, rfl, by omega, rfl, by simp⟩)
 | succ f ih =>
  intro n out hn hf hl
  refine Tot.succ ?_
  simp only [spec_PutNum_l6]
  refine Tot.dite (fun h => ?_) (fun h => ?_)
  ·have hn2 : n / 128 < 128 ^ (f + 1) := by rw [Nat.pow_succ] at hn; omega
   have hn3 : n < 4398046511104 := by
    have := pow128_le (f + 1) (by omega)
    rw [Nat.pow_succ] at hn
    omega
   have e1 : IntKind.wrap .i64 ((BitVec.ofInt (IntKind.bits .i64) ((n % 128 : Nat) : Int) ||| BitVec.ofInt (IntKind.bits .i64) 128).toNat) = ((n % 128 + 128 : Nat) : Int) := by
    have := or_shift (n % 128) 1 1 (by omega) (by omega) (by omega)
    exact this
   have e2 : Int.fdiv (n : Int) (2 ^ (min (Int.toNat 7) (IntKind.bits .i64))) = ((n / 128 : Nat) : Int) := by
    have : (2 : Int) ^ (min (Int.toNat 7) (IntKind.bits .i64)) = 128 := by decide
    rw [this, Int.fdiv_eq_ediv_of_nonneg _ (by omega)]
    omega
   rw [and127 n (by omega), e1, e2, u8_low _ (by omega)]
   refine Tot.ble (by simp only [List.length_cons, List.length_nil]; omega) ?_
   refine (ih (n / 128) (out ++ [((n % 128 + 128 : Nat) : Int)]) hn2 (by omega) (by simp only [List.length_append, List.length_cons, List.length_nil]; omega)).mono ?_
   rintro r ⟨m, h1, h2, h3, h4⟩
   refine ⟨m, h1, h2, ?_, by simp only [List.length_append, List.length_cons, List.length_nil] at h4; omega⟩
   rw [h3, List.append_assoc]
   congr 1
   conv => { rhs; unfold encF }
   rw [if_neg (by omega)]
   rfl
  ·refine Tot.pure ⟨n, rfl, by omega, ?_, by show out.length ≤ out.length + (f + 1); omega⟩
   unfold encF
   rw [if_pos (by omega)]
theorem specAdd (out : List Int) (n : Int) (hl : out.length ≤ 1000000000000) : Tot (fun k => spec_PutNum k out n) (fun r => r = out ++ encN (clampN n)) := by
 have hc := clampN_le n
 have fin : Tot (fun k => (spec_PutNum_l6 k ((clampN n : Nat) : Int) (([] : List Int) ++ out)).bind fun r1 => cond (Nat.ble ((List.length r1.2 + List.length [IntKind.wrap .u8 r1.1]) * 1) 140737488355328) (some (r1.2 ++ [IntKind.wrap .u8 r1.1])) none) (fun r => r = out ++ encN (clampN n)) := by
  rw [List.nil_append]
  refine Tot.bind (specAdd_l6 4 (clampN n) out (by omega) (by omega) (by omega)) ?_
  rintro r ⟨m, h1, h2, h3, h4⟩
  rw [h1, u8_low m (by omega)]
  exact Tot.ble (by simp only [List.length_cons, List.length_nil]; omega) (Tot.pure h3)
 unfold spec_PutNum
 refine Tot.ble (by simp only [List.length_nil]; omega) ?_
 refine Tot.dite (fun h1 => ?_) (fun h1 => ?_)
 ·refine Tot.ndec (by omega) ?_
  have e : ((clampN n : Nat) : Int) = 1000000000 := by unfold clampN; omega
  rw [e] at fin
  exact fin
 ·refine Tot.dite (fun h2 => ?_) (fun h2 => ?_)
  ·have e : ((clampN n : Nat) : Int) = 0 := by unfold clampN; omega
   rw [e] at fin
   exact fin
  ·have e : ((clampN n : Nat) : Int) = n := by unfold clampN; omega
   rw [e] at fin
   exact fin
theorem encN_len (n : Nat) : (encN n).length ≤ 5 ∧ 0 < (encN n).length := encF_le 4 n
theorem encF_bytes : ∀ (f n : Nat), n < 128 ^ (f + 1) → BytesOk (encF f n)
 | 0, n, hn => by
  intro x hx
  simp only [encF, List.mem_singleton] at hx
  have : n < 128 := by simpa using hn
  omega
 | f + 1, n, hn => by
  unfold encF
  split
  ·intro x hx
   simp only [List.mem_singleton] at hx
   omega
  ·intro x hx
   rcases List.mem_cons.1 hx with rfl | hx
   ·omega
   ·exact encF_bytes f (n / 128) (by rw [Nat.pow_succ] at hn; omega) x hx
theorem encN_bytes (n : Nat) (hn : n ≤ 1000000000) : BytesOk (encN n) := encF_bytes 4 n (by omega)
theorem bytesOf_ok (s : ByteArray) : BytesOk (bytesOf s) := by
 intro x hx
 unfold bytesOf at hx
 obtain ⟨b, _, rfl⟩ := List.mem_map.1 hx
 have := b.toNat_lt
 omega
theorem bytesOf_len (s : ByteArray) : (bytesOf s).length = s.size := by
 unfold bytesOf
 rw [List.length_map]
 exact Array.length_toList
theorem strOf_bytesOf (s : ByteArray) : strOf (bytesOf s) = s := by
 unfold strOf bytesOf
 rw [List.map_map]
 have : (fun n : Int => UInt8.ofNat n.toNat) ∘ (fun b : UInt8 => (b.toNat : Int)) = id := by
  funext b
  show UInt8.ofNat ((b.toNat : Int)).toNat = b
  rw [Int.toNat_natCast]
  exact UInt8.ofNat_toNat
 rw [this, List.map_id]
theorem bytesOf_strOf {l : List Int} (h : BytesOk l) : bytesOf (strOf l) = l := by
 unfold strOf bytesOf
 show List.map _ (List.map _ l) = l
 rw [List.map_map]
 have : ∀ x ∈ l, ((fun b : UInt8 => (b.toNat : Int)) ∘ (fun n : Int => UInt8.ofNat n.toNat)) x = x := by
  intro x hx
  have hb := h x hx
  show ((UInt8.ofNat x.toNat).toNat : Int) = x
  rw [UInt8.toNat_ofNat']
  omega
 exact (List.map_congr_left this).trans (List.map_id' l)
theorem strOf_size (l : List Int) : (strOf l).size = l.length := by
 unfold strOf
 show (List.map _ l).toArray.size = l.length
 simp
def txt (s : ByteArray) : List Int := encN (clampN (s.size : Int)) ++ bytesOf s
theorem implText (out : List Int) (s : ByteArray) (hl : out.length ≤ 1000000000000) (hs : s.size ≤ 1000000000000) : Tot (fun k => impl_addText k out s) (fun r => r = out ++ txt s) := by
 unfold impl_addText txt
 refine Tot.bind (implAdd out _ hl) ?_
 rintro r rfl
 have := (encN_len (clampN (s.size : Int))).1
 refine Tot.ble (by simp only [List.length_append]; omega) (Tot.pure ?_)
 rw [List.append_assoc]
theorem specText (out : List Int) (s : ByteArray) (hl : out.length ≤ 1000000000000) (hs : s.size ≤ 1000000000000) : Tot (fun k => spec_PutText k out s) (fun r => r = out ++ txt s) := by
 unfold spec_PutText txt
 refine Tot.bind (specAdd out _ hl) ?_
 rintro r rfl
 have := (encN_len (clampN (s.size : Int))).1
 refine Tot.ble (by simp only [List.length_append]; omega) (Tot.pure ?_)
 rw [List.append_assoc]
def getT (l : List Int) (p : Nat) : Option (ByteArray × Nat) := match getN l p with
 | some (n, q) => if q + n ≤ l.length then some (strOf ((l.drop q).take n), q + n) else none
 | none => none
def txtR (l : List Int) (p : Int) : ByteArray × Int × Bool := if p < 0 then ((⟨#[]⟩ : ByteArray), 0, false) else match getT l p.toNat with
 | some (s, q) => (s, (q : Int), true)
 | none => ((⟨#[]⟩ : ByteArray), 0, false)
theorem numR_cases (l : List Int) (hb : BytesOk l) (p : Int) : numR l p = (0, 0, false) ∨ ∃ n q, 0 ≤ p ∧ getN l p.toNat = some (n, q) ∧ numR l p = ((n : Int), (q : Int), true) ∧ n ≤ 1000000000 ∧ q ≤ l.length := by
 unfold numR
 by_cases h : p < 0
 ·rw [if_pos h]; exact .inl rfl
 ·rw [if_neg h]
  cases hg : getN l p.toNat with
  | none => exact .inl rfl
  | some nq =>
   obtain ⟨n, q⟩ := nq
   have := getN_ok hb hg
   exact .inr ⟨n, q, by omega, rfl, rfl, this.2.1, this.2.2.2⟩
theorem implGetT (l : List Int) (hb : BytesOk l) (hl : l.length ≤ 1000000000000) (p : Int) (hp : p ≤ 1000000000000) : Tot (fun k => impl_GetText k l p) (fun r => r = txtR l p) := by
 unfold impl_GetText
 refine Tot.bind (implNum l hb hl p hp) ?_
 rintro r rfl
 unfold txtR getT
 rcases numR_cases l hb p with h | ⟨n, q, h0, hg, h, hn, hq⟩
 ·rw [h]
  refine Tot.yes rfl (Tot.pure ?_)
  unfold numR at h
  split
  ·rfl
  ·rename_i h0
   rw [if_neg h0] at h
   cases hg : getN l p.toNat with
   | none => rfl
   | some nq => rw [hg] at h; simp at h
 ·rw [h]
  refine Tot.no rfl ?_
  rw [if_neg (by omega), hg]
  simp only
  rw [w64 (n := (l.length : Int) - (q : Int)) (by omega) (by omega), w64 (n := (q : Int) + (n : Int)) (by omega) (by omega)]
  refine Tot.dite (fun hgt => ?_) (fun hgt => ?_)
  ·rw [if_neg (by omega)]
   exact Tot.pure rfl
  ·rw [if_pos (by omega)]
   refine Tot.dec (by omega) (Tot.dec (by omega) (Tot.dec (by omega) (Tot.pure ?_)))
   rw [show Int.toNat ((q : Int) + (n : Int)) = q + n by omega, Int.toNat_natCast, List.drop_take, show q + n - q = n by omega]
   simp only [Prod.mk.injEq, true_and, and_true]
   push_cast
   rfl
theorem specGetT (l : List Int) (hb : BytesOk l) (hl : l.length ≤ 1000000000000) (p : Int) : Tot (fun k => spec_GetText k l p) (fun r => r = txtR l p) := by
 unfold spec_GetText
 refine Tot.bind (specNum l hb hl p) ?_
 rintro r rfl
 unfold txtR getT
 rcases numR_cases l hb p with h | ⟨n, q, h0, hg, h, hn, hq⟩
 ·rw [h]
  refine Tot.yes rfl (Tot.pure ?_)
  unfold numR at h
  split
  ·rfl
  ·rename_i h0
   rw [if_neg h0] at h
   cases hg : getN l p.toNat with
   | none => rfl
   | some nq => rw [hg] at h; simp at h
 ·rw [h]
  refine Tot.no rfl ?_
  rw [if_neg (by omega), hg]
  simp only
  rw [w64 (n := (l.length : Int) - (q : Int)) (by omega) (by omega), w64 (n := (q : Int) + (n : Int)) (by omega) (by omega)]
  refine Tot.dite (fun hgt => ?_) (fun hgt => ?_)
  ·rw [if_neg (by omega)]
   exact Tot.pure rfl
  ·rw [if_pos (by omega)]
   refine Tot.dec (by omega) (Tot.dec (by omega) (Tot.dec (by omega) (Tot.pure ?_)))
   rw [show Int.toNat ((q : Int) + (n : Int)) = q + n by omega, Int.toNat_natCast, List.drop_take, show q + n - q = n by omega]
   simp only [Prod.mk.injEq, true_and, and_true]
   push_cast
   rfl
theorem getT_ok {l : List Int} {p q : Nat} {s : ByteArray} (hb : BytesOk l) (h : getT l p = some (s, q)) : l.drop p = txt s ++ l.drop q ∧ s.size ≤ 1000000000 ∧ p < q ∧ q ≤ l.length := by
 unfold getT at h
 split at h
 ·rename_i n q0 hg
  obtain ⟨h1, h2, h3, h4⟩ := getN_ok hb hg
  split at h
  ·rename_i hle
   simp only [Option.some.injEq, Prod.mk.injEq] at h
   obtain ⟨rfl, rfl⟩ := h
   have hlen : ((l.drop q0).take n).length = n := by rw [List.length_take, List.length_drop]; omega
   have hbb : BytesOk ((l.drop q0).take n) := fun x hx => hb x (List.mem_of_mem_drop (List.mem_of_mem_take hx))
   refine ⟨?_, by rw [strOf_size, hlen]; exact h2, by omega, by omega⟩
   unfold txt
   rw [strOf_size, hlen, bytesOf_strOf hbb, h1, show clampN (n : Int) = n by unfold clampN; omega, List.append_assoc]
   congr 1
   rw [← List.drop_drop, List.take_append_drop]
  ·cases h
 ·cases h
end Go.Proofs.YtgocagaijgcnmaaGreat.Vf
end

section
set_option linter.unusedVariables false
set_option linter.unusedSimpArgs false
namespace Go.Proofs.YtgocagaijgcnmaaGreat.Vf
open Go
def bitN (b : Bool) : Int := bif b then 1 else 0
theorem implBit (b : Bool) : impl_bit b = some (bitN b) := by cases b <;> rfl
theorem specBool (b : Bool) : spec_l8Bool b = some (bitN b) := by cases b <;> rfl
def encS (s : Stp) : List Int := encN (clampN s.1) ++ (encN (clampN s.2.1) ++ encN (clampN s.2.2))
theorem encS_len (s : Stp) : (encS s).length ≤ 15 := by
 unfold encS
 have h1 := (encN_len (clampN s.1)).1
 have h2 := (encN_len (clampN s.2.1)).1
 have h3 := (encN_len (clampN s.2.2)).1
 simp only [List.length_append]
 omega
theorem implStampB (out : List Int) (s : Stp) (b : Bool) (hl : out.length ≤ 999999999900) : Tot (fun k => impl_addStamp k out s b) (fun r => r = out ++ (encS s ++ encN (clampN (bitN b)))) := by
 have h1 := (encN_len (clampN s.1)).1
 have h2 := (encN_len (clampN s.2.1)).1
 have h3 := (encN_len (clampN s.2.2)).1
 unfold impl_addStamp encS
 refine Tot.bind (implAdd out s.1 (by omega)) ?_
 rintro r rfl
 refine Tot.bind (implAdd _ s.2.1 (by simp only [List.length_append]; omega)) ?_
 rintro r rfl
 refine Tot.bind (implAdd _ s.2.2 (by simp only [List.length_append]; omega)) ?_
 rintro r rfl
 refine Tot.bind (Tot.of (Q := fun y => y = bitN b) (implBit b) rfl) ?_
 rintro y rfl
 refine Tot.bind (implAdd _ (bitN b) (by simp only [List.length_append]; omega)) ?_
 rintro r rfl
 exact Tot.pure (by simp only [List.append_assoc])
theorem specStampB (out : List Int) (s : Stp) (hl : out.length ≤ 999999999900) : Tot (fun k => spec_l8Stamp k out s) (fun r => r = out ++ encS s) := by
 have h1 := (encN_len (clampN s.1)).1
 have h2 := (encN_len (clampN s.2.1)).1
 unfold spec_l8Stamp encS
 refine Tot.bind (specAdd out s.1 (by omega)) ?_
 rintro r rfl
 refine Tot.bind (specAdd _ s.2.1 (by simp only [List.length_append]; omega)) ?_
 rintro r rfl
 refine Tot.bind (specAdd _ s.2.2 (by simp only [List.length_append]; omega)) ?_
 rintro r rfl
 exact Tot.pure (by simp only [List.append_assoc])
theorem nameOk_size {s : ByteArray} (h : nameOk s = true) : 1 ≤ s.size ∧ s.size ≤ 20 := by
 unfold nameOk at h
 rw [Bool.and_eq_true, inR_iff] at h
 omega
theorem rowOk_name {r : Row} (h : rowOk r = true) : nameOk r.1 = true := by
 unfold rowOk at h
 rw [Bool.and_eq_true] at h
 exact h.1
theorem txt_len (s : ByteArray) : (txt s).length ≤ 5 + s.size := by
 have h1 := (encN_len (clampN (s.size : Int))).1
 unfold txt
 simp only [List.length_append, bytesOf_len]
 omega
end Go.Proofs.YtgocagaijgcnmaaGreat.Vf
end

section
set_option linter.unusedVariables false
set_option linter.unusedSimpArgs false
namespace Go.Proofs.YtgocagaijgcnmaaGreat.Vf
open Go
theorem numR_nat (l : List Int) (p : Nat) : numR l (p : Int) = match getN l p with
 | some (n, q) => ((n : Int), (q : Int), true)
 | none => (0, 0, false) := by
 unfold numR
 rw [if_neg (by omega), Int.toNat_natCast]
 all_goals cases getN l p <;> rfl
theorem txtR_nat (l : List Int) (p : Nat) : txtR l (p : Int) = match getT l p with
 | some (s, q) => (s, (q : Int), true)
 | none => ((⟨#[]⟩ : ByteArray), 0, false) := by
 unfold txtR
 rw [if_neg (by omega), Int.toNat_natCast]
 all_goals cases getT l p <;> rfl
theorem rdNum (l : List Int) (hb : BytesOk l) (hl : l.length ≤ 1000000000000) (p : Nat) (hp : p ≤ l.length) (bad : Bool) :
  Tot (fun k => impl_reader_num k (l, (p : Int), bad)) (fun r => (bad = false ∧ ∃ n q : Nat, getN l p = some (n, q) ∧ q ≤ l.length ∧ r = ((n : Int), l, (q : Int), false)) ∨ ((bad = true ∨ getN l p = none) ∧ r = (0, l, (p : Int), true))) := by
 unfold impl_reader_num
 refine Tot.bind (implNum l hb hl (p : Int) (by omega)) ?_
 rintro r rfl
 refine Tot.ite (fun h => Tot.pure (.inr ⟨.inl h, rfl⟩)) (fun h => ?_)
 rw [numR_nat]
 cases hg : getN l p with
 | none => exact Tot.yes rfl (Tot.pure (.inr ⟨.inr rfl, rfl⟩))
 | some nq =>
  obtain ⟨n, q⟩ := nq
  simp only at h
  subst h
  exact Tot.no rfl (Tot.pure (.inl ⟨rfl, n, q, rfl, (getN_ok hb hg).2.2.2, rfl⟩))
theorem rdTxt (l : List Int) (hb : BytesOk l) (hl : l.length ≤ 1000000000000) (p : Nat) (hp : p ≤ l.length) :
  Tot (fun k => impl_reader_text k (l, (p : Int), false)) (fun r => (∃ (s : ByteArray) (q : Nat), getT l p = some (s, q) ∧ q ≤ l.length ∧ r = (s, l, (q : Int), false)) ∨ (getT l p = none ∧ r = ((⟨#[]⟩ : ByteArray), l, (p : Int), true))) := by
 unfold impl_reader_text
 refine Tot.bind (implGetT l hb hl (p : Int) (by omega)) ?_
 rintro r rfl
 refine Tot.no rfl ?_
 rw [txtR_nat]
 cases hg : getT l p with
 | none => exact Tot.yes rfl (Tot.pure (.inr ⟨rfl, rfl⟩))
 | some nq =>
  obtain ⟨n, q⟩ := nq
  exact Tot.no rfl (Tot.pure (.inl ⟨n, q, rfl, (getT_ok hb hg).2.2.2, rfl⟩))
def stpAt (l : List Int) (p : Nat) : Option ((Stp × Bool) × Nat) :=
 (getN l p).bind fun b => (getN l b.2).bind fun c => (getN l c.2).bind fun d => (getN l d.2).bind fun e => bif decide (1 < e.1) then none else
  some ((((b.1 : Int), (c.1 : Int), (d.1 : Int)), (e.1 : Int) == 1), e.2)
theorem rdStp (l : List Int) (hb : BytesOk l) (hl : l.length ≤ 1000000000000) (p : Nat) (hp : p ≤ l.length) (bad : Bool) :
  Tot (fun k => impl_reader_stamp k (l, (p : Int), bad)) (fun r => (bad = false ∧ ∃ (x : Stp × Bool) (q : Nat), stpAt l p = some (x, q) ∧ q ≤ l.length ∧ r = (x.1, x.2, l, (q : Int), false)) ∨ ((bad = true ∨ stpAt l p = none) ∧ ∃ s b, ∃ q : Nat, q ≤ l.length ∧ r = (s, b, l, (q : Int), true))) := by
 unfold impl_reader_stamp
 have nx : ∀ {o : Option (Nat × Nat)} {f : Nat × Nat → Option ((Stp × Bool) × Nat)}, o = none → o.bind f = none := by
  intro o f h; rw [h]; rfl
 refine Tot.bind (rdNum l hb hl p hp bad) ?_
 rintro r (⟨h0, n1, p1, h1, l1, rfl⟩ | ⟨h1, rfl⟩)
 ·simp only
  refine Tot.bind (rdNum l hb hl p1 l1 false) ?_
  rintro r (⟨_, n2, p2, h2, l2, rfl⟩ | ⟨h2, rfl⟩)
  ·simp only
   refine Tot.bind (rdNum l hb hl p2 l2 false) ?_
   rintro r (⟨_, n3, p3, h3, l3, rfl⟩ | ⟨h3, rfl⟩)
   ·simp only
    refine Tot.bind (rdNum l hb hl p3 l3 false) ?_
    rintro r (⟨_, n4, p4, h4, l4, rfl⟩ | ⟨h4, rfl⟩)
    ·simp only
     refine Tot.no rfl (Tot.pure ?_)
     have e : stpAt l p = bif decide (1 < n4) then none else some ((((n1 : Int), (n2 : Int), (n3 : Int)), (n4 : Int) == 1), p4) := by
      unfold stpAt
      simp only [h1, h2, h3, h4, Option.bind_some]
     cases hd : decide (1 < n4) with
     | true =>
      rw [hd, cond_true] at e
      refine .inr ⟨.inr e, ((n1 : Int), (n2 : Int), (n3 : Int)), ((n4 : Int) == 1), p4, l4, ?_⟩
      have : decide ((n4 : Int) > 1) = true := decide_eq_true (by have := of_decide_eq_true hd; omega)
      rw [this]
     | false =>
      rw [hd, cond_false] at e
      refine .inl ⟨h0, _, p4, e, l4, ?_⟩
      have : decide ((n4 : Int) > 1) = false := decide_eq_false (by have := of_decide_eq_false hd; omega)
      rw [this]
    ·refine Tot.yes rfl (Tot.pure (.inr ⟨.inr ?_, _, _, p3, l3, rfl⟩))
     have h4' := h4.resolve_left (by simp)
     unfold stpAt
     simp only [h1, h2, h3, h4', Option.bind_some, Option.bind_none]
   ·simp only
    refine Tot.bind (rdNum l hb hl p2 l2 true) ?_
    rintro r (⟨hh, _⟩ | ⟨_, rfl⟩)
    ·cases hh
    ·refine Tot.yes rfl (Tot.pure (.inr ⟨.inr ?_, _, _, p2, l2, rfl⟩))
     have h3' := h3.resolve_left (by simp)
     unfold stpAt
     simp only [h1, h2, h3', Option.bind_some, Option.bind_none]
  ·simp only
   refine Tot.bind (rdNum l hb hl p1 l1 true) ?_
   rintro r (⟨hh, _⟩ | ⟨_, rfl⟩)
   ·cases hh
   ·refine Tot.bind (rdNum l hb hl p1 l1 true) ?_
    rintro r (⟨hh, _⟩ | ⟨_, rfl⟩)
    ·cases hh
    ·refine Tot.yes rfl (Tot.pure (.inr ⟨.inr ?_, _, _, p1, l1, rfl⟩))
     have h2' := h2.resolve_left (by simp)
     unfold stpAt
     simp only [h1, h2', Option.bind_some, Option.bind_none]
 ·simp only
  refine Tot.bind (rdNum l hb hl p hp true) ?_
  rintro r (⟨hh, _⟩ | ⟨_, rfl⟩)
  ·cases hh
  ·refine Tot.bind (rdNum l hb hl p hp true) ?_
   rintro r (⟨hh, _⟩ | ⟨_, rfl⟩)
   ·cases hh
   ·refine Tot.bind (rdNum l hb hl p hp true) ?_
    rintro r (⟨hh, _⟩ | ⟨_, rfl⟩)
    ·cases hh
    ·refine Tot.yes rfl (Tot.pure (.inr ⟨?_, _, _, p, hp, rfl⟩))
     rcases h1 with h1 | h1
     ·exact .inl h1
     ·refine .inr ?_
      unfold stpAt
      rw [h1]
      rfl
theorem specStp (l : List Int) (hb : BytesOk l) (hl : l.length ≤ 1000000000000) (p : Int) :
  Tot (fun k => spec_l8GetStamp k l p) (fun r => (∃ n1 p1 n2 p2 n3 p3, 0 ≤ p ∧ getN l p.toNat = some (n1, p1) ∧ getN l p1 = some (n2, p2) ∧ getN l p2 = some (n3, p3) ∧ r = (((n1 : Int), (n2 : Int), (n3 : Int)), (p3 : Int), true)) ∨ (((getN l p.toNat).bind fun a => (getN l a.2).bind fun b => getN l b.2) = none ∨ p < 0) ∧ r.2.2 = false) := by
 unfold spec_l8GetStamp
 refine Tot.bind (specNum l hb hl p) ?_
 rintro r1 rfl
 refine Tot.bind (specNum l hb hl _) ?_
 rintro r2 rfl
 refine Tot.bind (specNum l hb hl _) ?_
 rintro r3 rfl
 by_cases hp : p < 0
 ·have : (numR l p).2.2 = false := by unfold numR; rw [if_pos hp]
  exact Tot.no this (Tot.pure (.inr ⟨.inr hp, rfl⟩))
 ·have e1 : numR l p = match getN l p.toNat with | some (n, q) => ((n : Int), (q : Int), true) | none => (0, 0, false) := by
   unfold numR; rw [if_neg hp]; all_goals cases getN l p.toNat <;> rfl
  cases h1 : getN l p.toNat with
  | none =>
   rw [h1] at e1
   simp only [e1]
   exact Tot.no rfl (Tot.pure (.inr ⟨.inl rfl, rfl⟩))
  | some a =>
   obtain ⟨n1, p1⟩ := a
   rw [h1] at e1
   simp only [e1, numR_nat, Option.bind_some]
   refine Tot.yes rfl ?_
   cases h2 : getN l p1 with
   | none => exact Tot.no rfl (Tot.pure (.inr ⟨.inl rfl, rfl⟩))
   | some b =>
    obtain ⟨n2, p2⟩ := b
    refine Tot.yes rfl ?_
    simp only [numR_nat, Option.bind_some]
    cases h3 : getN l p2 with
    | none => exact Tot.pure (.inr ⟨.inl rfl, rfl⟩)
    | some c =>
     obtain ⟨n3, p3⟩ := c
     exact Tot.pure (.inl ⟨n1, p1, n2, p2, n3, p3, by omega, rfl, h2, h3, rfl⟩)
theorem stpAt_bad {l : List Int} {p : Nat} (h : ((getN l p).bind fun a => (getN l a.2).bind fun b => getN l b.2) = none) : stpAt l p = none := by
 unfold stpAt
 cases h1 : getN l p with
 | none => rfl
 | some a =>
  rw [h1] at h
  simp only [Option.bind_some] at h ⊢
  cases h2 : getN l a.2 with
  | none => rfl
  | some b =>
   rw [h2] at h
   simp only [Option.bind_some] at h ⊢
   rw [h]
   rfl
end Go.Proofs.YtgocagaijgcnmaaGreat.Vf
end

section
set_option linter.unusedVariables false
namespace Go.Proofs.YtgocagaijgcnmaaGreat.Vf
open Go
theorem drawn_short : ∀ s ∈ drawnNames, Short s ∧ nameOk s = true := by
 intro s hs
 simp only [drawnNames, List.mem_cons, List.not_mem_nil, or_false] at hs
 rcases hs with rfl | rfl | rfl | rfl | rfl | rfl <;> exact ⟨by unfold Short; decide, by decide⟩
theorem rowIn_ok {x : Row} (h : RowIn x) : rowOk x = true := by
 obtain ⟨h1, ⟨t0, t1, s0, s1, n0, n1⟩, h3, h4, h5⟩ := h
 unfold rowOk stampOk
 rw [(drawn_short x.1 h1).2, inR_iff.2 ⟨t0, t1⟩, inR_iff.2 ⟨s0, s1⟩, inR_iff.2 ⟨n0, n1⟩, inR_iff.2 ⟨h3, by omega⟩]
 cases hd : x.2.2.1 with
 | false => rfl
 | true => rw [h5 hd]; rfl
theorem l11Any_short (c : Cur) (hc : CurOk c) : Tot (fun k => spec_l11Any k c) (fun r => CurOk r.2 ∧ r.1.length ≤ 6 ∧ AllShort r.1) := by
 unfold spec_l11Any
 refine Tot.bind (l11Draw_tot c hc) (fun r hr => ?_)
 obtain ⟨k1, hr1, hl⟩ := hr
 have hsh : AllShort r.1 := fun q hq => (drawn_short q.1 (hr1.2 q hq).1).1
 obtain ⟨x, c', e, _, _, _, k2⟩ := l1Below_ok r.2 k1 8 (by decide)
 refine Tot.bind (Tot.of (Q := fun r => r = (x, c')) e rfl) ?_
 rintro y rfl
 refine Tot.ite (fun _ => ?_) (fun _ => ?_)
 ·refine Tot.bind (l11One_tot c' k2) (fun z hz => ?_)
  refine Tot.ble (by simp only [List.length_cons, List.length_nil]; omega) (Tot.pure ⟨hz.2, ?_, ?_⟩)
  ·show (r.1 ++ [z.1]).length ≤ 6
   simp only [List.length_append, List.length_cons, List.length_nil]
   omega
  ·intro q hq
   rcases List.mem_append.1 hq with hq | hq
   ·exact hsh q hq
   ·simp only [List.mem_singleton] at hq
    subst hq
    exact (drawn_short _ hz.1.1).1
 ·refine Tot.ite (fun _ => ?_) (fun _ => Tot.pure ⟨k2, by show r.1.length ≤ 6; omega, hsh⟩)
  refine Tot.dite (fun h => ?_) (fun h => Tot.pure ⟨k2, by show r.1.length ≤ 6; omega, hsh⟩)
  obtain ⟨v, c3, e3, _, k3⟩ := l1Int_ok c' k2 [(-1), 201, 200] (by decide) (by decide)
  refine Tot.bind (Tot.of (Q := fun r => r = (v, c3)) e3 rfl) ?_
  rintro z rfl
  refine Tot.dec (by omega) (Tot.pure ⟨k3, ?_, ?_⟩)
  ·show (List.set r.1 _ _).length ≤ 6
   rw [List.length_set]
   omega
  ·intro q hq
   rcases List.mem_or_eq_of_mem_set hq with hq | rfl
   ·exact hsh q hq
   ·have hpos : Int.toNat 0 < r.1.length := by show 0 < _; omega
    have h1 : Short (r.1.getD (Int.toNat 0) row0).1 := hsh _ (getD_mem' (d := row0) hpos)
    exact h1
end Go.Proofs.YtgocagaijgcnmaaGreat.Vf
end
