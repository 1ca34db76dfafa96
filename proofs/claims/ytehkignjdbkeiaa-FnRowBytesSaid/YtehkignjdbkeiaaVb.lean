/- What an abstract content means: readings of cells, frozen and owned. -/
import Derived.Test.YtehkignjdbkeiaaVa
import Derived.Laws.AppendOwn
import Derived.Laws.Cells
import Derived.Laws.World
namespace Go.Proofs.Ytehkignjdbkeiaa.Vf
open Go

def CellsAt (w : World) (k o : Nat) (cs : List Value) : Prop := ∀ j u, cs[j]? = some u → w.cell? ⟨k, o + j, none⟩ = some u

def Rows {α : Type} (R : α → List Value → Prop) : List α → List Value → Prop
  | [], cs => cs = []
  | x :: xs, cs => ∃ c d, cs = c ++ d ∧ R x c ∧ Rows R xs d

def SzOk (P : Program) (e : TypeId) (n : Nat) : Prop := (P.info? e).map (fun i => i.size) = some n

/-- A slice that reads as a list. -/
def SlRep {α : Type} (G : Nat → Prop) (w : World) (R : α → List Value → Prop) (xs : List α) (v : Value) : Prop :=
  ∃ a cap cs, v = .slice a xs.length cap ∧ xs.length ≤ cap ∧ Rows R xs cs ∧ (xs ≠ [] → ∃ k o, a = some ⟨k, o, none⟩ ∧ G k ∧ CellsAt w k o cs)

def Ty.rep (P : Program) (G : Nat → Prop) (w : World) : (t : Ty) → t.den → List Value → Prop
  | .i k, n, vs => vs = [.int k n]
  | .b, x, vs => vs = [.bool x]
  | .s, x, vs => vs = [.string x]
  | .sl e r, xs, vs => ∃ v, vs = [v] ∧ SzOk P e r.sz ∧ SlRep G w (fun x c => r.rep P G w x c) xs v
  | .ow e r, xs, vs => ∃ v, vs = [v] ∧ SzOk P e r.sz ∧ SlRep G w (fun x c => r.rep P G w x c) xs v
  | .pr x y, p, vs => ∃ c d, vs = c ++ d ∧ x.rep P G w p.1 c ∧ y.rep P G w p.2 d

section
variable {P : Program} {G G' : Nat → Prop} {w w' : World} {α : Type}

theorem cell_same {k : Nat} (h : w'.heap[k]? = w.heap[k]?) (o : Nat) : w'.cell? ⟨k, o, none⟩ = w.cell? ⟨k, o, none⟩ := by
  simp [World.cell?, h]

theorem CellsAt.mono {k o : Nat} {cs : List Value} (h : CellsAt w k o cs) (hs : w'.heap[k]? = w.heap[k]?) : CellsAt w' k o cs :=
  fun j u hu => (cell_same hs _).trans (h j u hu)

theorem Rows.mono {R R' : α → List Value → Prop} (hR : ∀ x c, R x c → R' x c) : ∀ {xs : List α} {cs : List Value}, Rows R xs cs → Rows R' xs cs
  | [], _, h => h
  | _ :: _, _, ⟨c, d, e, h1, h2⟩ => ⟨c, d, e, hR _ _ h1, h2.mono hR⟩

theorem SlRep.mono {R R' : α → List Value → Prop} {xs : List α} {v : Value} (h : SlRep G w R xs v) (hR : ∀ x c, R x c → R' x c) (hG : ∀ k, G k → G' k)
    (hw : ∀ k, G k → w'.heap[k]? = w.heap[k]?) : SlRep G' w' R' xs v := by
  obtain ⟨a, cap, cs, e, hc, hr, hx⟩ := h
  refine ⟨a, cap, cs, e, hc, hr.mono hR, fun hn => ?_⟩
  obtain ⟨k, o, ea, hk, hcs⟩ := hx hn
  exact ⟨k, o, ea, hG k hk, hcs.mono (hw k hk)⟩

theorem Ty.rep_mono (hG : ∀ k, G k → G' k) (hw : ∀ k, G k → w'.heap[k]? = w.heap[k]?) : ∀ (t : Ty) (x : t.den) (vs : List Value), t.rep P G w x vs → t.rep P G' w' x vs
  | .i _, _, _, h => h
  | .b, _, _, h => h
  | .s, _, _, h => h
  | .sl _ r, _, _, ⟨v, e, hs, h⟩ => ⟨v, e, hs, h.mono (fun x c => Ty.rep_mono hG hw r x c) hG hw⟩
  | .ow _ r, _, _, ⟨v, e, hs, h⟩ => ⟨v, e, hs, h.mono (fun x c => Ty.rep_mono hG hw r x c) hG hw⟩
  | .pr x y, p, _, ⟨c, d, e, h1, h2⟩ => ⟨c, d, e, Ty.rep_mono hG hw x p.1 c h1, Ty.rep_mono hG hw y p.2 d h2⟩

theorem Ty.rep_len : ∀ (t : Ty) (x : t.den) (vs : List Value), t.rep P G w x vs → vs.length = t.sz
  | .i _, _, _, h => by subst h; rfl
  | .b, _, _, h => by subst h; rfl
  | .s, _, _, h => by subst h; rfl
  | .sl _ _, _, _, ⟨_, e, _⟩ => by subst e; rfl
  | .ow _ _, _, _, ⟨_, e, _⟩ => by subst e; rfl
  | .pr x y, p, _, ⟨c, d, e, h1, h2⟩ => by
    subst e
    rw [List.length_append, Ty.rep_len x p.1 c h1, Ty.rep_len y p.2 d h2]
    rfl

theorem Rows.len {R : α → List Value → Prop} {n : Nat} (hn : ∀ x c, R x c → c.length = n) : ∀ {xs : List α} {cs : List Value}, Rows R xs cs → cs.length = xs.length * n
  | [], _, h => by simp only [Rows] at h; subst h; simp
  | _ :: _, _, ⟨c, d, e, h1, h2⟩ => by
    subst e
    rw [List.length_append, hn _ _ h1, h2.len hn, List.length_cons, Nat.add_mul, Nat.one_mul, Nat.add_comm]

theorem Rows.get {R : α → List Value → Prop} {n : Nat} (hn : ∀ x c, R x c → c.length = n) : ∀ {xs : List α} {cs : List Value} (_ : Rows R xs cs) (i : Nat) (x : α), xs[i]? = some x → R x ((cs.drop (i * n)).take n)
  | [], _, _, i, x, hx => by simp at hx
  | y :: ys, _, ⟨c, d, e, h1, h2⟩, 0, x, hx => by
    simp at hx
    subst hx e
    have := hn _ _ h1
    simp only [Nat.zero_mul, List.drop_zero]
    rw [← this, List.take_left]
    exact h1
  | y :: ys, _, ⟨c, d, e, h1, h2⟩, i + 1, x, hx => by
    subst e
    have hl := hn _ _ h1
    rw [show (i + 1) * n = c.length + i * n by rw [hl, Nat.add_mul, Nat.one_mul, Nat.add_comm], ← List.drop_drop, List.drop_left]
    exact h2.get hn i x (by simpa using hx)

theorem Rows.append {R : α → List Value → Prop} : ∀ {xs ys : List α} {cs ds : List Value}, Rows R xs cs → Rows R ys ds → Rows R (xs ++ ys) (cs ++ ds)
  | [], _, _, _, h1, h2 => by simp only [Rows] at h1; subst h1; exact h2
  | _ :: _, _, _, _, ⟨c, d, e, h, h'⟩, h2 => by subst e; exact ⟨c, _, by rw [List.append_assoc], h, h'.append h2⟩

theorem Rows.set {R : α → List Value → Prop} {n : Nat} (hn : ∀ x c, R x c → c.length = n) : ∀ {xs : List α} {cs : List Value} (_ : Rows R xs cs) (i : Nat) (x : α) (c : List Value), i < xs.length → R x c →
    Rows R (xs.set i x) (cs.take (i * n) ++ c ++ cs.drop (i * n + n))
  | [], _, _, i, x, c, hi, _ => by simp at hi
  | y :: ys, _, ⟨c0, d, e, h1, h2⟩, 0, x, c, _, hc => by
    subst e
    have hl := hn _ _ h1
    refine ⟨c, d, ?_, hc, h2⟩
    simp only [Nat.zero_mul, List.take_zero, List.nil_append, Nat.zero_add, ← hl, List.drop_left]
  | y :: ys, _, ⟨c0, d, e, h1, h2⟩, i + 1, x, c, hi, hc => by
    subst e
    have hl := hn _ _ h1
    refine ⟨c0, _, ?_, h1, h2.set hn i x c (by simpa using hi) hc⟩
    have e1 : (i + 1) * n = c0.length + i * n := by rw [hl, Nat.add_mul, Nat.one_mul, Nat.add_comm]
    rw [e1, List.take_length_add_append, Nat.add_assoc, ← List.drop_drop, List.drop_left]
    simp [List.append_assoc]

theorem Rows.replicate {R : α → List Value → Prop} {x : α} {c : List Value} (h : R x c) : ∀ n, Rows R (List.replicate n x) (List.replicate n c).flatten
  | 0 => by simp [Rows]
  | n + 1 => ⟨c, _, by simp [List.replicate_succ], h, Rows.replicate h n⟩

theorem Rows.take {R : α → List Value → Prop} {n : Nat} (hn : ∀ x c, R x c → c.length = n) : ∀ {xs : List α} {cs : List Value} (_ : Rows R xs cs) (k : Nat), Rows R (xs.take k) (cs.take (k * n))
  | [], _, h, k => by simp only [Rows] at h; subst h; simp [Rows]
  | _ :: _, _, ⟨c, d, e, h1, h2⟩, 0 => by simp [Rows]
  | _ :: _, _, ⟨c, d, e, h1, h2⟩, k + 1 => by
    subst e
    have hl := hn _ _ h1
    refine ⟨c, _, ?_, h1, h2.take hn k⟩
    rw [show (k + 1) * n = c.length + k * n by rw [hl, Nat.add_mul, Nat.one_mul, Nat.add_comm], List.take_length_add_append]

theorem Rows.drop {R : α → List Value → Prop} {n : Nat} (hn : ∀ x c, R x c → c.length = n) : ∀ {xs : List α} {cs : List Value} (_ : Rows R xs cs) (k : Nat), Rows R (xs.drop k) (cs.drop (k * n))
  | [], _, h, k => by simp only [Rows] at h; subst h; simp [Rows]
  | _ :: _, _, h@⟨c, d, e, h1, h2⟩, 0 => by simpa using h
  | _ :: _, _, ⟨c, d, e, h1, h2⟩, k + 1 => by
    subst e
    have hl := hn _ _ h1
    have e1 : List.drop ((k + 1) * n) (c ++ d) = List.drop (k * n) d := by
      rw [show (k + 1) * n = c.length + k * n by rw [hl, Nat.add_mul, Nat.one_mul, Nat.add_comm], ← List.drop_drop, List.drop_left]
    rw [e1]
    exact h2.drop hn k

/-! ### Leaves that anybody may read -/
def LfRep (P : Program) (G : Nat → Prop) (w : World) : Lf → Value → Prop
  | .sc v, u => u = v ∧ isSc v = true
  | .fz e r xs, u => (Ty.sl e r).rep P G w xs [u]
  | _, _ => False

inductive All2 {β γ : Type} (R : β → γ → Prop) : List β → List γ → Prop
  | nil : All2 R [] []
  | cons {x : β} {y : γ} {xs : List β} {ys : List γ} : R x y → All2 R xs ys → All2 R (x :: xs) (y :: ys)

theorem All2.append {β γ : Type} {R : β → γ → Prop} {xs xs' : List β} {ys ys' : List γ} (h : All2 R xs ys) (h' : All2 R xs' ys') : All2 R (xs ++ xs') (ys ++ ys') := by
  induction h with
  | nil => exact h'
  | cons a _ ih => exact .cons a ih
theorem All2.len {β γ : Type} {R : β → γ → Prop} {xs : List β} {ys : List γ} (h : All2 R xs ys) : ys.length = xs.length := by
  induction h with
  | nil => rfl
  | cons _ _ ih => simp [ih]
theorem All2.imp {β γ : Type} {R R' : β → γ → Prop} {xs : List β} {ys : List γ} (h : All2 R xs ys) (hi : ∀ x y, R x y → R' x y) : All2 R' xs ys := by
  induction h with
  | nil => exact .nil
  | cons a _ ih => exact .cons (hi _ _ a) ih
theorem All2.drop {β γ : Type} {R : β → γ → Prop} {xs : List β} {ys : List γ} (h : All2 R xs ys) : ∀ n, All2 R (xs.drop n) (ys.drop n) := by
  induction h with
  | nil => intro n; cases n <;> exact .nil
  | cons a h ih => intro n; cases n with
    | zero => exact .cons a h
    | succ n => exact ih n
theorem All2.take {β γ : Type} {R : β → γ → Prop} {xs : List β} {ys : List γ} (h : All2 R xs ys) : ∀ n, All2 R (xs.take n) (ys.take n) := by
  induction h with
  | nil => intro n; cases n <;> exact .nil
  | cons a h ih => intro n; cases n with
    | zero => exact .nil
    | succ n => exact .cons a (ih n)

theorem lvs_len : ∀ (t : Ty) (x : t.den), (lvs t x).length = t.sz
  | .i _, _ => rfl
  | .b, _ => rfl
  | .s, _ => rfl
  | .sl _ _, _ => rfl
  | .ow _ _, _ => rfl
  | .pr x y, p => by
    show (lvs x p.1 ++ lvs y p.2).length = x.sz + y.sz
    rw [List.length_append, lvs_len x p.1, lvs_len y p.2]

theorem lvs_rep : ∀ (t : Ty) (x : t.den) (vs : List Value), t.rep P G w x vs → All2 (LfRep P G w) (lvs t x) vs
  | .i _, _, _, h => by subst h; exact .cons ⟨rfl, rfl⟩ .nil
  | .b, _, _, h => by subst h; exact .cons ⟨rfl, rfl⟩ .nil
  | .s, _, _, h => by subst h; exact .cons ⟨rfl, rfl⟩ .nil
  | .sl _ _, _, _, ⟨_, e, h⟩ => by subst e; exact .cons ⟨_, rfl, h⟩ .nil
  | .ow _ _, _, _, ⟨_, e, h⟩ => by subst e; exact .cons ⟨_, rfl, h⟩ .nil
  | .pr x y, p, _, ⟨c, d, e, h1, h2⟩ => by subst e; exact (lvs_rep x p.1 c h1).append (lvs_rep y p.2 d h2)

theorem castL_eq {r r' : Ty} {xs : List r'.den} {ys : List r.den} (h : castL r r' xs = some ys) : ∃ e : r' = r, ys = e ▸ xs := by
  unfold castL at h
  split at h
  · rename_i e
    exact ⟨e, by simpa using h.symm⟩
  · cases h

/-- Out of leaves that anybody may read comes a value that reads so. -/
theorem mkT_rep : ∀ (t : Ty) (l l' : List Lf) (x : t.den) (us : List Value), mkT t l = some (x, l') → All2 (LfRep P G w) l us →
    ∃ vs ws, us = vs ++ ws ∧ t.rep P G w x vs ∧ All2 (LfRep P G w) l' ws := by
  intro t
  induction t with
  | i k =>
    intro l l' x us h hl
    cases hl with
    | nil => simp [mkT] at h
    | @cons y u ys us' hy hys =>
      cases y <;> first | (simp [mkT] at h; done) | skip
      rename_i v
      cases v <;> first | (simp [mkT] at h; done) | skip
      rename_i k' n
      simp only [mkT] at h
      by_cases hk : k = k'
      · subst hk
        simp at h
        obtain ⟨rfl, rfl⟩ := h
        exact ⟨[u], us', rfl, by rw [hy.1]; rfl, hys⟩
      · simp [hk] at h
  | b =>
    intro l l' x us h hl
    cases hl with
    | nil => simp [mkT] at h
    | @cons y u ys us' hy hys =>
      cases y <;> first | (simp [mkT] at h; done) | skip
      rename_i v
      cases v <;> first | (simp [mkT] at h; done) | skip
      simp [mkT] at h
      obtain ⟨rfl, rfl⟩ := h
      exact ⟨[u], us', rfl, by rw [hy.1]; rfl, hys⟩
  | s =>
    intro l l' x us h hl
    cases hl with
    | nil => simp [mkT] at h
    | @cons y u ys us' hy hys =>
      cases y <;> first | (simp [mkT] at h; done) | skip
      rename_i v
      cases v <;> first | (simp [mkT] at h; done) | skip
      simp [mkT] at h
      obtain ⟨rfl, rfl⟩ := h
      exact ⟨[u], us', rfl, by rw [hy.1]; rfl, hys⟩
  | sl e r _ =>
    intro l l' x us h hl
    cases hl with
    | nil => simp [mkT] at h
    | @cons y u ys us' hy hys =>
      cases y <;> first | (simp [mkT] at h; done) | exact hy.elim | skip
      rename_i e' r' xs
      simp only [mkT] at h
      cases he : Nat.beq e e' with
      | false => rw [he] at h; simp at h
      | true =>
        rw [he] at h
        simp only [cond_true] at h
        split at h
        · rename_i zs hz
          obtain ⟨e1, e2⟩ := castL_eq hz
          subst e1 e2
          have : e = e' := by simpa using he
          subst this
          simp at h
          obtain ⟨rfl, rfl⟩ := h
          exact ⟨[u], us', rfl, hy, hys⟩
        · cases h
  | ow e r _ =>
    intro l l' x us h hl
    cases hl with
    | nil => simp [mkT] at h
    | @cons y u ys us' hy hys =>
      cases y <;> first | (simp [mkT] at h; done) | exact hy.elim
  | pr x y ihx ihy =>
    intro l l' p us h hl
    simp only [mkT] at h
    split at h
    · rename_i a l1 h1
      split at h
      · rename_i b l2 h2
        simp at h
        obtain ⟨rfl, rfl⟩ := h
        obtain ⟨vs, ws, rfl, r1, hw1⟩ := ihx _ _ _ _ h1 hl
        obtain ⟨vs2, ws2, rfl, r2, hw2⟩ := ihy _ _ _ _ h2 hw1
        exact ⟨vs ++ vs2, ws2, by rw [List.append_assoc], ⟨vs, vs2, rfl, r1, r2⟩, hw2⟩
      · cases h
    · cases h

theorem mkW_rep {t : Ty} {l : List Lf} {x : t.den} {us : List Value} (h : mkW t l = some x) (hl : All2 (LfRep P G w) l us) : t.rep P G w x us := by
  unfold mkW at h
  split at h
  · rename_i y hy
    simp at h
    subst h
    obtain ⟨vs, ws, rfl, hr, hw⟩ := mkT_rep _ _ _ _ _ hy hl
    cases hw
    rw [List.append_nil]
    exact hr
  · cases h

theorem LfRep.mono {x : Lf} {u : Value} (h : LfRep P G w x u) (hG : ∀ k, G k → G' k) (hw : ∀ k, G k → w'.heap[k]? = w.heap[k]?) : LfRep P G' w' x u := by
  cases x <;> first | exact h | exact Ty.rep_mono hG hw _ _ _ h
end
end Go.Proofs.Ytehkignjdbkeiaa.Vf
