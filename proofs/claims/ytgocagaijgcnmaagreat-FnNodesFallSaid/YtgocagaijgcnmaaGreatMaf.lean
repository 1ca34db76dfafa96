import Derived.Test.YtgocagaijgcnmaaGreatMae
section
set_option linter.unusedVariables false
set_option linter.unusedSimpArgs false
namespace Go.Proofs.YtgocagaijgcnmaaGreat.Vf
open Go
attribute [local irreducible] C H
theorem DRows.split {α : Type} {R : α → List Value → List Nat → Prop} {n : Nat} (hn : ∀ x c b, R x c b → c.length = n) (d : α) : ∀ {xs : List α} {cs : List Value} {bs : List Nat} (_ : DRows R xs cs bs) (i : Nat) (_ : i < xs.length),
  ∃ b1 bi b2, bs = b1 ++ (bi ++ b2) ∧ DRows R (xs.take i) (cs.take (i * n)) b1 ∧ R (xs.getD i d) ((cs.drop (i * n)).take n) bi ∧ DRows R (xs.drop (i + 1)) (cs.drop (i * n + n)) b2
 | [], _, _, _, i, hi => absurd hi (by simp)
 | x :: xs, cs, bs, ⟨c, d', b1, b2, e, eb, h1, h2⟩, 0, _ => by
  subst e eb
  have hl := hn _ _ _ h1
  refine ⟨[], b1, b2, rfl, by simp [DRows], ?_, ?_⟩
  ·simp only [Nat.zero_mul, List.drop_zero]
   rw [← hl, List.take_left]
   exact h1
  ·simp only [Nat.zero_mul, Nat.zero_add]
   rw [← hl, List.drop_left]
   exact h2
 | x :: xs, cs, bs, ⟨c, d', b1, b2, e, eb, h1, h2⟩, i + 1, hi => by
  subst e eb
  have hl := hn _ _ _ h1
  obtain ⟨b3, bi, b4, e3, r1, r2, r3⟩ := h2.split hn d i (by simpa using hi)
  have em : (i + 1) * n = c.length + i * n := by rw [hl, Nat.add_mul, Nat.one_mul, Nat.add_comm]
  refine ⟨b1 ++ b3, bi, b4, by rw [e3, List.append_assoc], ⟨c, _, b1, b3, ?_, rfl, h1, r1⟩, ?_, ?_⟩
  ·rw [em, List.take_length_add_append]
  ·rw [em, ← List.drop_drop, List.drop_left]
   exact r2
  ·rw [em, Nat.add_assoc c.length, List.drop_length_add_append]
   exact r3
theorem ldeps_lfs {P : Program} {S : Sit} : ∀ {l : List Lf} {us : List Value} {bs : List Nat} (j0 : Nat), LDeps P (fun k => S.O k = .fz) S.w l us bs → bs.Nodup →
  ∃ f : Nat → Option Nat, (∀ k, k ∉ bs → f k = none) ∧ (∀ k ∈ bs, ∃ j, f k = some j ∧ j0 ≤ j ∧ j < j0 + l.length) ∧
   ∀ (S' : Sit) (lab : Nat → Lab), S'.w = S.w → (∀ k, S.O k = .fz → S'.O k = .fz) → (∀ k j, f k = some j → S'.O k = lab j) → LfsOk P S' lab j0 l us
 | [], us, bs, j0, h, _ => by
  obtain ⟨rfl, rfl⟩ := h
  exact ⟨fun _ => none, fun _ _ => rfl, by simp, fun _ _ _ _ _ => trivial⟩
 | x :: l, us, bs, j0, ⟨u, us', b1, b2, e1, e2, h1, h2⟩, hn => by
  subst e1 e2
  rw [List.nodup_append] at hn
  obtain ⟨n1, n2, n3⟩ := hn
  obtain ⟨f, f1, f2, f3⟩ := ldeps_lfs (j0 + 1) h2 n2
  have hb : ∀ k j, f k = some j → k ∉ b1 := fun k j hk h' => by
   by_cases hk2 : k ∈ b2
   ·exact n3 k h' k hk2 rfl
   ·rw [f1 k hk2] at hk; cases hk
  refine ⟨fun k => if k ∈ b1 then some j0 else f k, fun k hk => ?_, fun k hk => ?_, fun S' lab hw hf hl => ⟨?_, f3 S' lab hw hf (fun k j hk => hl k j ((if_neg (hb k j hk)).trans hk))⟩⟩
  ·exact (if_neg (fun h => hk (List.mem_append_left _ h))).trans (f1 k (fun h => hk (List.mem_append_right _ h)))
  ·rcases List.mem_append.1 hk with h | h
   ·exact ⟨j0, if_pos h, Nat.le_refl _, by simp⟩
   ·obtain ⟨j, h3, h4, h5⟩ := f2 k h
    exact ⟨j, (if_neg (hb k j h3)).trans h3, by omega, by simp only [List.length_cons]; omega⟩
  ·cases x with
   | sc v => exact ⟨h1.1, h1.2.1⟩
   | own e r xs => exact ⟨b1, Ty.dep_mono hf (fun k _ => by rw [hw]) (.ow e r) xs [u] b1 (fun k _ => by rw [hw]) h1, n1, fun k hk => hl k j0 (if_pos hk)⟩
   | _ => exact h1.elim
theorem noOw_lvs : ∀ (t : Ty) (x : t.den), noOw t = true → leaves t x = lvs t x
 | .i _, _, _ => rfl
 | .b, _, _ => rfl
 | .s, _, _ => rfl
 | .sl _ _, _, _ => rfl
 | .ow _ _, _, h => by simp [noOw] at h
 | .pr x y, p, h => by
  simp only [noOw, Bool.and_eq_true] at h
  show leaves x p.1 ++ leaves y p.2 = lvs x p.1 ++ lvs y p.2
  rw [noOw_lvs x p.1 h.1, noOw_lvs y p.2 h.2]
section
variable {X : Cx} {S S' : Sit} {a : Act} {E : En} {A : Ab} {o : Oper} {R : Type} {Kc : List Up → Option R} {r : R}
theorem row_lfs {P : Program} {S : Sit} {r : Ty} (hr : noOw r = true ∨ allOw r = true) {x : r.den} {c : List Value} {bs : List Nat} (h : r.dep P (fun k => S.O k = .fz) S.w x c bs) (hn : bs.Nodup) :
  ∃ f : Nat → Option Nat, (∀ k, k ∉ bs → f k = none) ∧ (∀ k ∈ bs, ∃ j, f k = some j ∧ j < r.sz) ∧
   ∀ (S' : Sit) (lab : Nat → Lab), S'.w = S.w → (∀ k, S.O k = .fz → S'.O k = .fz) → (∀ k j, f k = some j → S'.O k = lab j) → LfsOk P S' lab 0 (leaves r x) c := by
 rcases hr with hr | hr
 ·obtain ⟨h1, rfl⟩ := (Ty.dep_flat r x c bs hr).1 h
  refine ⟨fun _ => none, fun _ _ => rfl, by simp, fun S' lab hw hf _ => ?_⟩
  rw [noOw_lvs r x hr]
  exact LfsOk.ofRep (lvs_rep r x c (Ty.rep_mono hf (fun k _ => by rw [hw]) r x c h1)) lab 0
 ·obtain ⟨f, f1, f2, f3⟩ := ldeps_lfs 0 (leaves_dep r x c bs hr h) hn
  exact ⟨f, f1, fun k hk => by obtain ⟨j, h1, _, h2⟩ := f2 k hk; exact ⟨j, h1, by rw [leaves_sz] at h2; omega⟩, f3⟩
def opnG (g : Nat → Nat × Sv) (p B : Nat) (e : TypeId) (r : Ty) (xs : List r.den) (i : Int) (l : List Lf) : Nat → Nat × Sv := fun q =>
 if q = p then ((g p).1 + 1, .one (.opn e r xs i B ((g (H B)).1 + 1))) else if q = H B then ((g (H B)).1 + 1, .one (.hd r.sz)) else
 if C B 0 ≤ q ∧ q < C B 0 + l.length then ((g q).1 + 1, .one (l.getD (q - C B 0) .dead)) else g q
theorem opnG_get {p B : Nat} {e : TypeId} {r : Ty} {xs : List r.den} {i : Int} {l : List Lf} (hpH : p ≠ H B) (hpC : ¬ (C B 0 ≤ p ∧ p < C B 0 + l.length)) (hl : l.length ≤ 999) :
  get (ups A (⟨p, false, .one (.opn e r xs i B ((get A (H B)).1 + 1))⟩ :: ⟨H B, false, .one (.hd r.sz)⟩ :: putCells B 0 l)) = opnG (get A) p B e r xs i l := by
 have hHC : ¬ (C B 0 ≤ H B ∧ H B < C B 0 + l.length) := heads_apart (by omega)
 have e1 : get (ups A (⟨p, false, .one (.opn e r xs i B ((get A (H B)).1 + 1))⟩ :: ⟨H B, false, .one (.hd r.sz)⟩ :: putCells B 0 l)) = gput (upd (upd (get A) p ((get A p).1 + 1, .one (.opn e r xs i B ((get A (H B)).1 + 1)))) (H B) ((get A (H B)).1 + 1, .one (.hd r.sz))) B 0 l := by
  show get (ups (up (up A ⟨p, false, .one (.opn e r xs i B ((get A (H B)).1 + 1))⟩) ⟨H B, false, .one (.hd r.sz)⟩) (putCells B 0 l)) = _
  rw [get_putCells, get_up, get_up]
  simp only [cond_false]
  rw [upd_ne _ _ (Ne.symm hpH)]
 rw [e1]
 funext q
 unfold opnG gput
 by_cases h2 : C B 0 ≤ q ∧ q < C B 0 + l.length
 ·have h3 : q ≠ p := fun e => hpC (e ▸ h2)
  have h4 : q ≠ H B := fun e => hHC (e ▸ h2)
  rw [if_pos h2, upd_ne _ _ h4, upd_ne _ _ h3, if_neg h3, if_neg h4, if_pos h2]
 ·rw [if_neg h2]
  by_cases h3 : q = p
  ·subst h3
   rw [upd_ne _ _ hpH, upd_same, if_pos rfl]
  ·rw [if_neg h3]
   by_cases h4 : q = H B
   ·subst h4; rw [upd_same, if_pos rfl]
   ·rw [upd_ne _ _ h4, upd_ne _ _ h3, if_neg h4, if_neg h2]
theorem open_core (K : Okay X S a) {p v B : Nat} {e : TypeId} {r : Ty} {xs : List r.den} {i : Int} (hB : 2000 ≤ B) (hp : S.g p = (v, .one (.own e r xs))) (hpH : p ≠ H B) (hpC : ¬ (C B 0 ≤ p ∧ p < C B 0 + r.sz)) (hr : noOw r = true ∨ allOw r = true) (hz : r.sz < 999)
  (i0 : 0 ≤ i) (i1 : i.toNat < xs.length) :
  ∃ S' k cap, Okay X S' a ∧ S'.g = opnG S.g p B e r xs i (leaves r (xs.getD i.toNat r.dflt)) ∧ S'.w = S.w ∧ S.ph p = .slice (some ⟨k, 0, none⟩) xs.length cap ∧ S'.bb B = (k, i.toNat * r.sz) ∧ (∀ q, ¬ (C B 0 ≤ q ∧ q < C B 0 + r.sz) → S'.ph q = S.ph q) := by
 have hown : OwnOk X.P S.O S.w (.pl p []) e r xs (S.ph p) := by have := K.at_ p; rw [hp] at this; exact this
 obtain ⟨bs, ⟨u, cs, b0, eu, hs, ho, hrows, eb⟩, hnd, hlab⟩ := hown
 simp only [List.cons.injEq, and_true] at eu
 subst eu
 rcases own_nil_or ho with ⟨_, e1, _⟩ | ⟨k, cap, cur, hph, hc, h1, h2, h3, h4⟩
 ·omega
 rw [hph] at ho eb
 simp only [Value.ownBlock, Option.toList_some, List.singleton_append] at eb
 obtain ⟨b1, bi, b2, e2, r1, r2, r3⟩ := hrows.split (Ty.dep_len r) r.dflt i.toNat i1
 subst e2 eb
 have hki : k ∉ b1 ++ (bi ++ b2) := (List.nodup_cons.1 hnd).1
 have hnd2 := (List.nodup_cons.1 hnd).2
 rw [List.nodup_append] at hnd2
 obtain ⟨n1, n2, n3⟩ := hnd2
 rw [List.nodup_append] at n2
 obtain ⟨n4, n5, n6⟩ := n2
 have hlk : S.O k = .pl p [] := hlab k (by simp)
 have hl1 : ∀ j ∈ b1, S.O j = .pl p [] := fun j hj => hlab j (by simp [hj])
 have hli : ∀ j ∈ bi, S.O j = .pl p [] := fun j hj => hlab j (by simp [hj])
 have hl2 : ∀ j ∈ b2, S.O j = .pl p [] := fun j hj => hlab j (by simp [hj])
 obtain ⟨f, f1, f2, f3⟩ := row_lfs (P := X.P) (S := S) hr r2 n4
 generalize hrow : (cs.drop (i.toNat * r.sz)).take r.sz = row at r2 f3
 have hrl : row.length = r.sz := Ty.dep_len _ _ _ _ r2
 let O' : Nat → Lab := fun j => if j = k then .bx B else match f j with
  | some n => .pl (C B n) []
  | none => S.O j
 have hfn : ∀ j n, f j = some n → j ∈ bi := fun j n h => Classical.byContradiction fun h' => by rw [f1 j h'] at h; cases h
 have hOk : O' k = .bx B := if_pos rfl
 have hOi : ∀ j n, f j = some n → O' j = .pl (C B n) [] := fun j n h => by
  have h5 : j ≠ k := fun e => hki (by rw [← e]; simp [hfn j n h])
  show (if j = k then _ else _) = _
  rw [if_neg h5, h]
 have hOo : ∀ j o', S.O j = o' → o' ≠ .pl p [] → O' j = o' := fun j o' h ho' => by
  have h5 : j ≠ k := fun e => ho' (by rw [← h, e, hlk])
  have h6 : f j = none := f1 j (fun hj => ho' (by rw [← h, hli j hj]))
  show (if j = k then _ else _) = _
  rw [if_neg h5, h6]
  exact h
 have hOb : ∀ j, j ∈ b1 ∨ j ∈ b2 → O' j = .pl p [] := fun j hj => by
  have h5 : j ≠ k := fun e => hki (by rw [← e]; rcases hj with hj | hj <;> simp [hj])
  have h6 : f j = none := f1 j (fun hj' => by
   rcases hj with hj | hj
   ·exact n3 j hj j (by simp [hj']) rfl
   ·exact n6 j hj' j hj rfl)
  show (if j = k then _ else _) = _
  rw [if_neg h5, h6]
  rcases hj with hj | hj
  ·exact hl1 j hj
  ·exact hl2 j hj
 let S' : Sit := ⟨O', upd S.bb B (k, i.toNat * r.sz), opnG S.g p B e r xs i (leaves r (xs.getD i.toNat r.dflt)), phput S.ph B 0 row, S.w⟩
 have hll : (leaves r (xs.getD i.toNat r.dflt)).length = r.sz := leaves_sz _ _
 have gp : S'.g p = ((S.g p).1 + 1, .one (.opn e r xs i B ((S.g (H B)).1 + 1))) := if_pos rfl
 have gH : S'.g (H B) = ((S.g (H B)).1 + 1, .one (.hd r.sz)) := by
  show (if H B = p then _ else _) = _
  rw [if_neg (Ne.symm hpH), if_pos rfl]
 have hHC : ¬ (C B 0 ≤ H B ∧ H B < C B 0 + r.sz) := heads_apart (by omega)
 have gC : ∀ q, C B 0 ≤ q ∧ q < C B 0 + r.sz → S'.g q = ((S.g q).1 + 1, .one ((leaves r (xs.getD i.toNat r.dflt)).getD (q - C B 0) .dead)) := fun q hq => by
  show (if q = p then _ else _) = _
  rw [if_neg (fun h : q = p => hpC (h ▸ hq)), if_neg (fun h : q = H B => hHC (h ▸ hq)), if_pos (by rw [hll]; exact hq)]
 have gO : ∀ q, q ≠ p → q ≠ H B → ¬ (C B 0 ≤ q ∧ q < C B 0 + r.sz) → S'.g q = S.g q := fun q q2 q3 q4 => by
  show (if q = p then _ else _) = _
  rw [if_neg q2, if_neg q3, if_neg (by rw [hll]; exact q4)]
 have same : ∀ q, (S'.g q).1 = (S.g q).1 → S'.g q = S.g q ∧ q ≠ p ∧ q ≠ H B ∧ ¬ (C B 0 ≤ q ∧ q < C B 0 + r.sz) := fun q hq => by
  have q2 : q ≠ p := fun e => by rw [e, gp] at hq; simp at hq
  have q3 : q ≠ H B := fun e => by rw [e, gH] at hq; simp at hq
  have q4 : ¬ (C B 0 ≤ q ∧ q < C B 0 + r.sz) := fun e => by rw [gC q e] at hq; simp at hq
  exact ⟨gO q q2 q3 q4, q2, q3, q4⟩
 have phO : ∀ q, ¬ (C B 0 ≤ q ∧ q < C B 0 + r.sz) → S'.ph q = S.ph q := fun q hq => by
  show phput S.ph B 0 row q = _
  unfold phput
  rw [if_neg (by rw [hrl]; exact hq)]
 have L : Later S S' := by
  refine ⟨fun q => ?_, fun q hq => phO q (same q hq).2.2.2, fun q v' e' r' xs' hq hv => ?_, fun b hb => ?_, fun j hj => ⟨hOo j _ hj (by simp), rfl⟩, fun b n hb hh hO => ?_, fun q hq hdp => ?_⟩
  ·by_cases q2 : q = p
   ·rw [q2, gp]; exact Nat.le_succ _
   by_cases q3 : q = H B
   ·rw [q3, gH]; exact Nat.le_succ _
   by_cases q4 : C B 0 ≤ q ∧ q < C B 0 + r.sz
   ·rw [gC q q4]; exact Nat.le_succ _
   ·rw [gO q q2 q3 q4]; exact Nat.le_refl _
  ·have := (same q (by rw [hq]; exact hv.symm)).1
   rw [this] at hq
   exact ⟨xs', hq, rfl⟩
  ·have h5 : b ≠ B := fun e => (same _ hb).2.2.1 (by rw [e])
   exact upd_ne _ _ h5
  ·have h5 := (same _ hb).1
   refine ⟨by rw [h5]; exact hh, hOo _ _ hO (by simp), fun c e' f' hc' => ⟨c, hc', rfl, fun _ _ => rfl⟩⟩
  ·obtain ⟨h5, q2, _⟩ := same q hq
   rw [h5]
   exact ⟨hdp, fun _ _ _ h => h, fun j hj => ⟨.inl (hOo j _ hj (by simp [q2])), rfl⟩⟩
 have hcell : ∀ j, j < r.sz → cur[i.toNat * r.sz + j]? = row[j]? := fun j hj => by
  rw [← hrow, List.getElem?_take, if_pos hj, List.getElem?_drop, ← h4, List.getElem?_take, Array.getElem?_toList]
  have : (i.toNat + 1) * r.sz ≤ xs.length * r.sz := Nat.mul_le_mul_right _ i1
  rw [Nat.add_mul, Nat.one_mul] at this
  rw [if_pos (by omega)]
 have hfit : i.toNat * r.sz + r.sz ≤ cur.size := by
  have h5 : (i.toNat + 1) * r.sz ≤ xs.length * r.sz := Nat.mul_le_mul_right _ i1
  have h6 : xs.length * r.sz ≤ cap * r.sz := Nat.mul_le_mul_right _ h1
  rw [Nat.add_mul, Nat.one_mul] at h5
  omega
 refine ⟨S', k, cap, ⟨K.nt, fun j hj => ?_, fun l => ?_, fun b n hb => ?_, fun b n hb => ?_, fun t ht => ?_, K.sz, K.df, K.fr.relab (fun j h => hOo j _ h (by simp)) (fun j h => hOo j _ h (by simp)) (fun j b h => hOo j _ h (by simp))⟩, rfl, rfl, hph, upd_same _ _ _, phO⟩
 ·-- blocks
  refine K.lt j (fun e => hj (hOo j _ e (by simp)))
 ·show SvOk X.P S' l (S'.g l).2 (S'.ph l)
  by_cases q2 : l = p
  ·rw [q2, gp, phO p hpC, hph]
   refine ⟨by rw [gH]; exact Nat.le_refl _, ⟨hs, i0, i1, k, cap, rfl⟩, fun _ => ⟨k, cap, cur, b1, b2, rfl, hs, hc, ⟨h1, h2, h3⟩, ⟨i0, i1⟩, upd_same _ _ _, hOk, by rw [gH], ?_, ?_, ?_, fun j hj => hOb j (List.mem_append.1 hj)⟩⟩
   ·have h5 : cs.take (i.toNat * r.sz) = cur.toList.take (i.toNat * r.sz) := by
     rw [← h4, List.take_take, Nat.min_eq_left (Nat.mul_le_mul_right _ (Nat.le_of_lt i1))]
    rw [h5] at r1
    exact r1.mono (fun x c b hb h => Ty.dep_mono (fun j hj => hOo j _ hj (by simp)) (fun _ _ => rfl) r x c b (fun _ _ => rfl) h)
   ·rw [h4]
    exact r3.mono (fun x c b hb h => Ty.dep_mono (fun j hj => hOo j _ hj (by simp)) (fun _ _ => rfl) r x c b (fun _ _ => rfl) h)
   ·rw [List.nodup_append]
    exact ⟨n1, n5, fun x hx y hy => n3 x hx y (List.mem_append_right _ hy)⟩
  by_cases q3 : l = H B
  ·rw [q3, gH]; trivial
  by_cases q4 : C B 0 ≤ l ∧ l < C B 0 + r.sz
  ·rw [gC l q4]
   have h5 := f3 S' (fun n => .pl (C B n) []) rfl (fun j hj => hOo j _ hj (by simp)) hOi
   obtain ⟨x, u', w1, w2, w3, w4⟩ := h5.at (l - C B 0) (by rw [hll]; omega)
   have w5 : S'.ph l = u' := by
    show phput S.ph B 0 row l = _
    unfold phput
    rw [if_pos (by rw [hrl]; exact q4), w2]
   rw [w1, w5]
   rw [Nat.zero_add] at w4
   have w6 : C B (l - C B 0) = l := by
    have : C B (l - C B 0) = C B 0 + (l - C B 0) := by unfold C; omega
    omega
   rw [w6] at w4
   exact w4
  ·rw [gO l q2 q3 q4, phO l q4]
   exact (K.at_ l).later L (fun q j hj => ⟨hOo j _ hj (by simp [q2]), rfl⟩)
 ·by_cases hbB : b = B
  ·subst hbB
   rw [gH] at hb
   cases hb
   refine ⟨hz, cur, e, ?_, ?_, ?_, fun j hj => ?_⟩
   ·show S.w.heap[(upd S.bb b (k, i.toNat * r.sz) b).1]? = _
    rw [upd_same]; exact hc
   ·show O' (upd S.bb b (k, i.toNat * r.sz) b).1 = _
    rw [upd_same]; exact hOk
   ·show (upd S.bb b (k, i.toNat * r.sz) b).2 + _ ≤ _
    rw [upd_same]; exact hfit
   ·show cur[(upd S.bb b (k, i.toNat * r.sz) b).2 + j]? = some (phput S.ph b 0 row (C b j))
    rw [upd_same, hcell j hj]
    unfold phput
    have h2' : C b 0 ≤ C b j ∧ C b j < C b 0 + row.length := by unfold C; omega
    rw [if_pos h2', show C b j - C b 0 = j by unfold C; omega, List.getD_eq_getElem?_getD, List.getElem?_eq_getElem (by omega)]
    rfl
  ·have hne : H b ≠ H B := fun e => hbB (H_inj e)
   have h6 : ¬ (C B 0 ≤ H b ∧ H b < C B 0 + r.sz) := heads_apart (by omega)
   have h7 : H b ≠ p := fun e => by rw [e, gp] at hb; cases hb
   rw [gO _ h7 hne h6] at hb
   obtain ⟨g1, c1, e2, g2, g3, g4, g5⟩ := K.box b n hb
   have hbb : S'.bb b = S.bb b := upd_ne _ _ hbB
   rw [hbb]
   refine ⟨g1, c1, e2, g2, hOo _ _ g3 (by simp), g4, fun j hj => ?_⟩
   rw [phO _ (cells_apart (by omega) (by omega) hbB)]
   exact g5 j hj
 ·by_cases hbB : b = B
  ·subst hbB
   refine ⟨fun h => absurd h (by omega), fun h => absurd h (by unfold Cx.pb; omega), fun _ hlt b' h0 => ?_⟩
   have h5 : X.O0 k = .bx b' := by
    have : X.O0 (upd S.bb b (k, i.toNat * r.sz) b).1 = .bx b' := h0
    rwa [upd_same] at this
   have h6 : k < X.w0.heap.size := by
    have : (upd S.bb b (k, i.toNat * r.sz) b).1 < X.w0.heap.size := hlt
    rwa [upd_same] at this
   have := (K.fr.bx k b' h6 h5).1
   rw [hlk] at this
   cases this
  ·have hne : H b ≠ H B := fun e => hbB (H_inj e)
   have h6 : ¬ (C B 0 ≤ H b ∧ H b < C B 0 + r.sz) := heads_apart (by omega)
   have h7 : H b ≠ p := fun e => by rw [e, gp] at hb; cases hb
   rw [gO _ h7 hne h6] at hb
   have hbb : S'.bb b = S.bb b := upd_ne _ _ hbB
   rw [hbb]
   exact K.rgn b n hb
 ·show a.tmps.getD t undef = S'.ph t
  rw [phO t (slots_apart (Nat.lt_of_lt_of_le ht K.nt))]
  exact K.sl t ht
end
end Go.Proofs.YtgocagaijgcnmaaGreat.Vf
end

section
set_option linter.unusedVariables false
set_option linter.unusedSimpArgs false
namespace Go.Proofs.YtgocagaijgcnmaaGreat.Vf
open Go
attribute [local irreducible] C H
theorem beq_div {p B : Nat} (h : Nat.beq (p / 1000) (B + 1) = false) {n : Nat} (hn : n ≤ 999) : p ≠ H B ∧ ¬ (C B 0 ≤ p ∧ p < C B 0 + n) := by
 have h1 : p / 1000 ≠ B + 1 := fun e => by rw [e, Nat.beq_refl] at h; cases h
 refine ⟨fun e => h1 ?_, fun ⟨h2, h3⟩ => h1 ?_⟩
 ·rw [e]; unfold H; omega
 ·have : C B 0 = 1000 * (B + 1) := by unfold C; omega
  omega
section
variable {X : Cx} {S S' : Sit} {a : Act} {E : En} {A : Ab} {o : Oper} {R : Type} {Kc : List Up → Option R} {r : R}
theorem openUp_ok (K : Okay X S a) (hg : S.g = get A) {p v B : Nat} {e : TypeId} {r : Ty} {xs : List r.den} {i : Int} {us : List Up} (hp : S.g p = (v, .one (.own e r xs))) (h : openUp A B p e r xs i = some us) :
  ∃ S' k cap, Okay X S' a ∧ S'.g = get (ups A us) ∧ S'.w = S.w ∧ S.ph p = .slice (some ⟨k, 0, none⟩) xs.length cap ∧ S'.bb B = (k, i.toNat * r.sz) ∧ (∀ q, q < 1000 → S'.ph q = S.ph q) ∧ (S'.g (H B)).1 = (S.g (H B)).1 + 1 ∧
   (∀ q, q < 1000 → q ≠ p → S'.g q = S.g q) := by
 unfold openUp at h
 cases hq : ((noOw r || allOw r) && Nat.blt r.sz 999 && !(Nat.beq (p / 1000) (B + 1)) && Nat.ble 2000 B) with
 | false => rw [hq] at h; simp at h
 | true =>
  rw [hq, cond_true] at h
  simp only [Bool.and_eq_true, Bool.or_eq_true, Bool.not_eq_true'] at hq
  obtain ⟨⟨⟨q1, q2⟩, q3⟩, q4⟩ := hq
  have hz : r.sz < 999 := Nat.le_of_ble_eq_true q2
  have hB : 2000 ≤ B := Nat.le_of_ble_eq_true q4
  by_cases h0 : 0 ≤ i
  ·by_cases h1 : i < (xs.length : Int)
   ·simp only [h0, h1, decide_true, cond_true, Option.some.injEq] at h
    subst h
    obtain ⟨hpH, hpC⟩ := beq_div q3 (n := r.sz) (by omega)
    obtain ⟨S', k, cap, K', g', w', ph', bb', pq⟩ := open_core K hB hp hpH hpC q1 hz h0 (by omega)
    have hl : (leaves r (xs.getD i.toNat r.dflt)).length = r.sz := leaves_sz _ _
    have hg' : S'.g = get (ups A (⟨p, false, .one (.opn e r xs i B ((get A (H B)).1 + 1))⟩ :: ⟨H B, false, .one (.hd r.sz)⟩ :: putCells B 0 (leaves r (xs.getD i.toNat r.dflt)))) := by
     rw [opnG_get hpH (by rw [hl]; exact hpC) (by omega), ← hg, g']
    refine ⟨S', k, cap, K', hg', w', ph', bb', fun q hq => pq q (slots_apart hq), ?_, fun q hq hne => ?_⟩
    ·rw [g']
     show (if H B = p then _ else _ : Nat × Sv).1 = _
     rw [if_neg (Ne.symm hpH), if_pos rfl]
    ·rw [g']
     show (if q = p then _ else _ : Nat × Sv) = _
     rw [if_neg hne, if_neg (fun e => by have := H_ge B; omega), if_neg (slots_apart hq)]
   ·simp [h0, h1] at h
  ·simp [h0] at h
theorem Okay.point (K : Okay X S a) {d : Nat} (hd : d < X.nt) {z : Lf} (hz : LfOk X.P S (.pl d []) z (S.ph d)) (hown : z.isOwn = false) (hnh : ∀ n, z ≠ .hd n) : Okay X { S with g := upd S.g d ((S.g d).1 + 1, .one z) } a := by
 have hd1 : d < 1000 := Nat.lt_of_lt_of_le hd K.nt
 have hdH : ∀ b, H b ≠ d := fun b e => by have := H_ge b; omega
 have L : Later S { S with g := upd S.g d ((S.g d).1 + 1, .one z) } := by
  refine ⟨fun p => ?_, fun _ _ => rfl, fun p v e r xs' hp hv => ?_, fun _ _ => rfl, fun k h => ⟨h, rfl⟩, Later.box_of (fun b n hv hh => ?_) (fun _ _ h => ⟨h, rfl⟩), fun p hp hdp => ?_⟩
  ·by_cases h : p = d
   ·subst h; show _ ≤ (upd S.g p _ p).1; rw [upd_same]; exact Nat.le_succ _
   ·show _ ≤ (upd S.g d _ p).1; rw [upd_ne _ _ h]; exact Nat.le_refl _
  ·have hp' : upd S.g d ((S.g d).1 + 1, .one z) p = (v, .one (.own e r xs')) := hp
   by_cases h : p = d
   ·subst h; rw [upd_same] at hp'; simp only [Prod.mk.injEq] at hp'; omega
   ·rw [upd_ne _ _ h] at hp'; exact ⟨xs', hp', rfl⟩
  ·exact (congrArg Prod.snd (upd_ne _ _ (hdH b))).trans hh
  ·have hp' : (upd S.g d ((S.g d).1 + 1, .one z) p).1 = (S.g p).1 := hp
   have h : p ≠ d := fun e => by subst e; rw [upd_same] at hp'; simp at hp'
   have e1 : ({ S with g := upd S.g d ((S.g d).1 + 1, .one z) } : Sit).g p = S.g p := upd_ne _ _ h
   rw [e1]
   exact ⟨hdp, fun _ _ _ h => h, fun k hk => ⟨.inl hk, rfl⟩⟩
 refine K.ghost S.O _ (fun _ h => h) (fun _ h => h) (fun _ h => h) (fun _ _ h => h) (fun b n h => ?_) (fun l => ?_)
 ·rwa [upd_ne _ _ (hdH b)] at h
 ·by_cases h : l = d
  ·subst h
   show SvOk X.P _ l (upd S.g l _ l).2 _
   rw [upd_same]
   exact LfOk.later L hz (fun k hk => ⟨hk, rfl⟩)
  ·show SvOk X.P _ l (upd S.g d _ l).2 _
   rw [upd_ne _ _ h]
   exact (K.at_ l).later L (fun p k hk => ⟨hk, rfl⟩)
theorem openI_ok (K : Okay X S a) (hg : S.g = get A) {p t B : Nat} {us : List Up} (h : openI A p t B = some us) : ∃ S', Okay X S' a ∧ S'.g = get (ups A us) ∧ S'.w = S.w := by
 unfold openI at h
 split at h
 ·rename_i e r xs k i hp _
  obtain ⟨S', _, _, K', g', w', _⟩ := openUp_ok K hg (p := p) (v := (S.g p).1) (by rw [← hg] at hp; rw [← hp]) h
  exact ⟨S', K', g', w'⟩
 ·cases h
theorem openD_ok (K : Okay X S a) (hg : S.g = get A) {d B : Nat} (hd : d < X.nt) {us : List Up} (h : openD A d B = some us) : ∃ S', Okay X S' a ∧ S'.g = get (ups A us) ∧ S'.w = S.w := by
 have hd1 : d < 1000 := Nat.lt_of_lt_of_le hd K.nt
 have hat := K.at_ d
 have go : ∀ {p v : Nat} {e : TypeId} {r : Ty} {xs : List r.den} {i : Int} {off : Nat} {us0 : List Up}, S.g p = (v, .one (.own e r xs)) → p ≠ d → openUp A B p e r xs i = some us0 → us = us0 ++ [⟨d, false, .one (.bp B ((get A (H B)).1 + 1) off)⟩] →
   (∀ k cap, S.ph p = .slice (some ⟨k, 0, none⟩) xs.length cap → S.ph d = .pointer (some ⟨k, i.toNat * r.sz + off, none⟩)) → ∃ S', Okay X S' a ∧ S'.g = get (ups A us) ∧ S'.w = S.w := by
  intro p v e r xs i off us0 hp hpd ho hus hpt
  obtain ⟨S', k, cap, K', g', w', ph', bb', pq, gH, gq⟩ := openUp_ok K hg hp ho
  have hz : LfOk X.P S' (.pl d []) (.bp B ((S.g (H B)).1 + 1) off) (S'.ph d) := by
   refine ⟨by rw [gH]; exact Nat.le_refl _, fun _ => ?_⟩
   rw [pq d hd1, hpt k cap ph', bb']
  refine ⟨_, K'.point hd hz rfl (by simp), ?_, w'⟩
  show upd S'.g d _ = _
  rw [hus, ups_append, get_ups1, ← g', ← hg]
 unfold openD at h
 split at h
 ·rename_i p v i off hd2
  have hat' : LfOk X.P S (.pl d []) (.ep p v i off) (S.ph d) := by rw [hg, hd2] at hat; exact hat
  split at h
  ·rename_i n e r xs hp
   cases hq : (Nat.beq n v && noOw r && !(Nat.beq p d)) with
   | false => rw [hq] at h; simp at h
   | true =>
    rw [hq, cond_true] at h
    simp only [Bool.and_eq_true, Bool.not_eq_true'] at hq
    obtain ⟨⟨q1, q2⟩, q3⟩ := hq
    have hnv : n = v := Nat.eq_of_beq_eq_true q1
    subst hnv
    have hpd : p ≠ d := fun e => by rw [e, Nat.beq_refl] at q3; cases q3
    split at h
    ·rename_i us0 ho
     simp only [Option.some.injEq] at h
     have hp' : S.g p = (n, .one (.own e r xs)) := by rw [hg, hp]
     refine go hp' hpd ho h.symm (fun k cap hk => ?_)
     obtain ⟨_, _, k', cap', e1, e2⟩ := hat'.2 e r xs hp'
     rw [hk] at e1
     cases e1
     exact e2
    ·cases h
  ·cases h
 ·rename_i p v e0 r0 xs0 i off hd2
  have hat' : LfOk X.P S (.pl d []) (.dp p v (some []) e0 r0 xs0 i off) (S.ph d) := by rw [hg, hd2] at hat; exact hat
  split at h
  ·rename_i n e r xs hp
   cases hq : (Nat.beq n v && !(noOw r) && !(Nat.beq p d)) with
   | false => rw [hq] at h; simp at h
   | true =>
    rw [hq, cond_true] at h
    simp only [Bool.and_eq_true, Bool.not_eq_true'] at hq
    obtain ⟨⟨q1, q2⟩, q3⟩ := hq
    have hnv : n = v := Nat.eq_of_beq_eq_true q1
    subst hnv
    have hpd : p ≠ d := fun e => by rw [e, Nat.beq_refl] at q3; cases q3
    split at h
    ·rename_i us0 ho
     simp only [Option.some.injEq] at h
     have hp' : S.g p = (n, .one (.own e r xs)) := by rw [hg, hp]
     have hv : (S.g p).1 = n := by rw [hp']
     refine go hp' hpd ho h.symm (fun k cap hk => ?_)
     obtain ⟨hh, hda, hdp⟩ := hat'
     obtain ⟨_, _, k', o', cap', e1, e2⟩ := hdp hv
     obtain ⟨_, _, hpath⟩ := hda.2.2 hv
     obtain ⟨f1, f2⟩ := hpath [] rfl e r xs (by rw [hp'])
     simp only [look, Option.some.injEq] at f1
     cases f1
     have f3 : hh = S.ph p := f2
     rw [f3, hk] at e1
     cases e1
     rw [e2, Nat.zero_add]
    ·cases h
  ·cases h
 ·cases h
theorem DRows.set3 {α : Type} {R : α → List Value → List Nat → Prop} {xs : List α} {i : Nat} {z : α} {c1 c c2 : List Value} {b1 bi b2 : List Nat} (hi : i < xs.length) (h1 : DRows R (xs.take i) c1 b1) (h : R z c bi) (h2 : DRows R (xs.drop (i + 1)) c2 b2) :
  DRows R (xs.set i z) (c1 ++ (c ++ c2)) (b1 ++ (bi ++ b2)) := by
 rw [List.set_eq_take_append_cons_drop, if_pos hi]
 exact h1.append ⟨c, c2, bi, b2, rfl, rfl, h, h2⟩
theorem close_ok (K : Okay X S a) (hg : S.g = get A) {p : Nat} {us : List Up} (h : closeT A p = some us) : ∃ S', Okay X S' a ∧ S'.g = get (ups A us) ∧ S'.w = S.w := by
 unfold closeT at h
 split at h
 ·rename_i e0 r0 xs0 i0 b v hop0
  split at h
  ·rename_i l us1 hgive
   obtain ⟨_, _, _, hst, hlen, S1, K1, g1, G1, hls⟩ := giveB_ok K hg hgive 7
   split at h
   ·rename_i e r xs i b' v' hop
    cases hq : (Nat.beq b b' && Nat.beq (get (ups A us1) (H b)).1 v' && Nat.ble 2000 b && Nat.beq l.length r.sz && ((noOw r && !(ownIn l)) || (allOw r && owned l))) with
    | false => rw [hq] at h; simp at h
    | true =>
     rw [hq, cond_true] at h
     simp only [Bool.and_eq_true] at hq
     obtain ⟨⟨⟨⟨q1, q2⟩, q3⟩, q5⟩, q4⟩ := hq
     have hbb' : b = b' := Nat.eq_of_beq_eq_true q1
     subst hbb'
     have hb2 : 2000 ≤ b := Nat.le_of_ble_eq_true q3
     have hv : (S1.g (H b)).1 = v' := by rw [g1]; exact Nat.eq_of_beq_eq_true q2
     split at h
     ·rename_i z hz
      simp only [Option.some.injEq] at h
      have hat : LfOk X.P S1 (.pl p []) (.opn e r xs i b v') (S1.ph p) := by have := K1.at_ p; rw [g1, hop] at this; exact this
      obtain ⟨_, _, hopn⟩ := hat
      obtain ⟨k, cap, cur, b1, b2, h1, h2, h3, ⟨h4, h5, h6⟩, ⟨i0, i1⟩, h8, h9, h10, h11, h12, h13, h14⟩ := hopn hv
      obtain ⟨hn, c, e', x1, x2, x3, x4⟩ := K1.box b r.sz h10
      rw [h8] at x1 x2 x3 x4
      rw [h3] at x1
      cases x1
      have hrl : ((List.range r0.sz).map fun j => S.ph (C b (0 + j))).length = l.length := by rw [List.length_map, List.length_range, hlen]
      have hzl : l.length = r.sz := Nat.eq_of_beq_eq_true q5
      have hr0 : r0.sz = r.sz := by omega
      generalize hrow : (List.range r0.sz).map (fun j => S.ph (C b (0 + j))) = row at hls hrl
      have hrow2 : row = (cur.toList.drop (i.toNat * r.sz)).take r.sz := by
       refine List.ext_getElem? fun j => ?_
       rw [List.getElem?_take, List.getElem?_drop]
       by_cases hj : j < r.sz
       ·have e1 : cur.toList[i.toNat * r.sz + j]? = cur[i.toNat * r.sz + j]? := Array.getElem?_toList
        have e2 : cur[i.toNat * r.sz + j]? = some (S1.ph (C b j)) := x4 j hj
        rw [if_pos hj, e1, e2, G1.ph, ← hrow]
        simp [hr0, hj]
       ·rw [if_neg hj, List.getElem?_eq_none (by omega)]
      have hdep : ∃ bi, r.dep X.P (fun k => S1.O k = .fz) S1.w z row bi ∧ bi.Nodup ∧ ∀ k ∈ bi, ∃ q, S1.O k = .tm 7 q := by
       rcases Bool.or_eq_true _ _ ▸ q4 with q | q
       ·simp only [Bool.and_eq_true, Bool.not_eq_true'] at q
        have hrep : All2 (LfRep X.P (fun k => S1.O k = .fz) S1.w) l row := by
         have key : ∀ (l : List Lf) (j : Nat) (us : List Value), storable l = true → ownIn l = false → LfsOk X.P S1 (fun n => .tm 7 [n]) j l us → All2 (LfRep X.P (fun k => S1.O k = .fz) S1.w) l us := by
          intro l
          induction l with
          | nil => intro j us _ _ h; cases us <;> first | exact .nil | exact h.elim
          | cons x l ih =>
           intro j us hs ho h
           cases us with
           | nil => exact h.elim
           | cons u us =>
            cases x with
            | sc v => exact .cons h.1 (ih _ _ (by simpa [storable] using hs) (by simpa [ownIn] using ho) h.2)
            | fz e r xs => exact .cons h.1 (ih _ _ (by simpa [storable] using hs) (by simpa [ownIn] using ho) h.2)
            | own e r xs => simp [ownIn] at ho
            | _ => simp [storable] at hs
         exact key l 0 row hst q.2 hls
        exact ⟨[], (Ty.dep_flat r z row [] q.1).2 ⟨mkW_rep hz hrep, rfl⟩, by simp, by simp⟩
       ·simp only [Bool.and_eq_true] at q
        obtain ⟨mb, m1, m2, m3⟩ := owned_deps q.2 hls (fun n n' _ _ _ _ e => by simpa using e)
        exact ⟨mb, mkW_dep q.1 hz m1, m2, fun k hk => by obtain ⟨n, _, _, h⟩ := m3 k hk; exact ⟨_, h⟩⟩
      obtain ⟨bi, hd1, hd2, hd3⟩ := hdep
      let O' : Nat → Lab := fun j => if j = k then .pl p [] else match S1.O j with
       | .tm 7 _ => .pl p []
       | o => o
      have hOk : O' k = .pl p [] := if_pos rfl
      have hOn : ∀ j o', S1.O j = o' → j ≠ k → (∀ q, o' ≠ .tm 7 q) → O' j = o' := fun j o' hj h3 h2 => by
       show (if j = k then _ else _) = _
       rw [if_neg h3, hj]
       cases o' <;> first | rfl | skip
       rename_i n q
       by_cases hn7 : n = 7
       ·subst hn7; exact absurd rfl (h2 q)
       ·split
        ·rename_i heq
         simp only [Lab.tm.injEq] at heq
         exact absurd heq.1 hn7
        ·rfl
      have hOo : ∀ j o', S1.O j = o' → o' ≠ .bx b → (∀ q, o' ≠ .tm 7 q) → O' j = o' := fun j o' hj h1 h2 => hOn j o' hj (fun e => h1 (by rw [← hj, e, h9])) h2
      have hO7 : ∀ j q, S1.O j = .tm 7 q → O' j = .pl p [] := fun j q hj => by
       have h3 : j ≠ k := fun e => by rw [e, h9] at hj; cases hj
       show (if j = k then _ else _) = _
       rw [if_neg h3, hj]
       rfl
      let g' := upd (upd S1.g (H b) ((S1.g (H b)).1 + 1, .one .dead)) p ((S1.g p).1 + 1, .one (.own e r (xs.set i.toNat z)))
      have hpH : p ≠ H b := fun e => by rw [e, ← g1, h10] at hop; cases hop
      let S' : Sit := { S1 with O := O', g := g' }
      have gp : S'.g p = ((S1.g p).1 + 1, .one (.own e r (xs.set i.toNat z))) := upd_same _ _ _
      have gH : S'.g (H b) = ((S1.g (H b)).1 + 1, .one .dead) := (upd_ne _ _ (Ne.symm hpH)).trans (upd_same _ _ _)
      have gO : ∀ q, q ≠ p → q ≠ H b → S'.g q = S1.g q := fun q q1 q2 => (upd_ne _ _ q1).trans (upd_ne _ _ q2)
      have same : ∀ q, (S'.g q).1 = (S1.g q).1 → S'.g q = S1.g q ∧ q ≠ p ∧ q ≠ H b := fun q hq => by
       have q1 : q ≠ p := fun e => by rw [e, gp] at hq; simp at hq
       have q2 : q ≠ H b := fun e => by rw [e, gH] at hq; simp at hq
       exact ⟨gO q q1 q2, q1, q2⟩
      have hfz : ∀ j, S1.O j = .fz → O' j = .fz := fun j hj => hOo j _ hj (by simp) (by simp)
      have L : Later S1 S' := by
       refine ⟨fun q => ?_, fun _ _ => rfl, fun q v2 e2 r2 xs' hq hv2 => ?_, fun _ _ => rfl, fun j hj => ⟨hfz j hj, rfl⟩, fun b3 n hb hh hO => ?_, fun q hq hdp => ?_⟩
       ·by_cases q1 : q = p
        ·rw [q1, gp]; exact Nat.le_succ _
        by_cases q2 : q = H b
        ·rw [q2, gH]; exact Nat.le_succ _
        ·rw [gO q q1 q2]; exact Nat.le_refl _
       ·have := (same q (by rw [hq]; exact hv2.symm)).1
        rw [this] at hq
        exact ⟨xs', hq, rfl⟩
       ·obtain ⟨s1, _, s2⟩ := same _ hb
        have hb3 : b3 ≠ b := fun e => s2 (by rw [e])
        exact ⟨by rw [s1]; exact hh, hOo _ _ hO (by simp [hb3]) (by simp), fun c e' f' hc' => ⟨c, hc', rfl, fun _ _ => rfl⟩⟩
       ·obtain ⟨s1, _, _⟩ := same q hq
        rw [s1]
        exact ⟨hdp, fun _ _ _ h => h, fun j hj => ⟨.inl (hOo j _ hj (by simp) (by simp)), rfl⟩⟩
      have hnd : (k :: (b1 ++ (bi ++ b2))).Nodup := by
       rw [List.nodup_append] at h13
       obtain ⟨n1, n2, n3⟩ := h13
       rw [List.nodup_cons, List.nodup_append, List.nodup_append]
       have hk1 : ∀ j ∈ b1 ++ b2, j ≠ k := fun j hj e => by have := h14 j hj; rw [e, h9] at this; cases this
       refine ⟨fun hk => ?_, n1, ⟨hd2, n2, fun x hx y hy e => ?_⟩, fun x hx y hy e => ?_⟩
       ·rcases List.mem_append.1 hk with hk | hk
        ·exact hk1 k (List.mem_append_left _ hk) rfl
        ·rcases List.mem_append.1 hk with hk | hk
         ·obtain ⟨q, hq⟩ := hd3 k hk
          rw [h9] at hq; cases hq
         ·exact hk1 k (List.mem_append_right _ hk) rfl
       ·obtain ⟨q, hq⟩ := hd3 x hx
        have := h14 y (List.mem_append_right _ hy)
        rw [← e, hq] at this; cases this
       ·rcases List.mem_append.1 hy with hy | hy
        ·obtain ⟨q, hq⟩ := hd3 y hy
         have := h14 x (List.mem_append_left _ hx)
         rw [e, hq] at this; cases this
        ·exact n3 x hx y hy e
      have hown : OwnOk X.P O' S1.w (.pl p []) e r (xs.set i.toNat z) (S1.ph p) := by
       have hcs : cur.toList.take (xs.length * r.sz) = cur.toList.take (i.toNat * r.sz) ++ (row ++ (cur.toList.take (xs.length * r.sz)).drop (i.toNat * r.sz + r.sz)) := by
        have hle : (i.toNat + 1) * r.sz ≤ xs.length * r.sz := Nat.mul_le_mul_right _ i1
        rw [Nat.add_mul, Nat.one_mul] at hle
        have e1 : cur.toList.take (i.toNat * r.sz) = (cur.toList.take (xs.length * r.sz)).take (i.toNat * r.sz) := by rw [List.take_take, Nat.min_eq_left (by omega)]
        have e2 : row = ((cur.toList.take (xs.length * r.sz)).drop (i.toNat * r.sz)).take r.sz := by
         rw [hrow2]
         refine List.ext_getElem? fun j => ?_
         rw [List.getElem?_take, List.getElem?_take]
         split
         ·rw [List.getElem?_drop, List.getElem?_drop, List.getElem?_take, if_pos (by omega)]
         ·rfl
        rw [e1, e2, ← List.drop_drop]
        rw [List.take_append_drop, List.take_append_drop]
       refine ⟨k :: (b1 ++ (bi ++ b2)), ⟨S1.ph p, cur.toList.take (xs.length * r.sz), b1 ++ (bi ++ b2), rfl, h2, ⟨?_, .inr ⟨k, cap, cur, by rw [List.length_set]; exact h1, Nat.zero_le _, h3, by rw [List.length_set]; exact h4, h5, h6, by rw [List.length_set]⟩⟩, ?_, ?_⟩, hnd, fun j hj => ?_⟩
       ·have e1 : cur.toList.length = cur.size := Array.length_toList
        rw [List.length_take, List.length_set, e1]
        have := Nat.mul_le_mul_right r.sz h4
        omega
       ·rw [hcs]
        have mono : ∀ {x : r.den} {c : List Value} {d : List Nat}, r.dep X.P (fun k => S1.O k = .fz) S1.w x c d → r.dep X.P (fun k => O' k = .fz) S1.w x c d := fun h => Ty.dep_mono hfz (fun _ _ => rfl) r _ _ _ (fun _ _ => rfl) h
        exact DRows.set3 i1 (h11.mono (fun x c d _ h => mono h)) (mono hd1) (h12.mono (fun x c d _ h => mono h))
       ·rw [h1]; rfl
       ·rcases List.mem_cons.1 hj with rfl | hj
        ·exact hOk
        ·rcases List.mem_append.1 hj with hj | hj
         ·exact hOo j _ (h14 j (List.mem_append_left _ hj)) (by simp) (by simp)
         ·rcases List.mem_append.1 hj with hj | hj
          ·obtain ⟨q, hq⟩ := hd3 j hj
           exact hO7 j q hq
          ·exact hOo j _ (h14 j (List.mem_append_right _ hj)) (by simp) (by simp)
      refine ⟨S', ⟨K1.nt, fun j hj => ?_, fun q => ?_, fun b3 n hb => ?_, fun b3 n hb => ?_, K1.sl, K1.sz, K1.df, ⟨K1.fr.os, K1.fr.tape, K1.fr.out, K1.fr.size, fun j hj h0 => ?_, fun j hj h0 => ?_, fun j b3 hj h0 => ?_⟩⟩, ?_, G1.w⟩
      ·exact K1.lt j (fun e => hj (hOo j _ e (by simp) (by simp)))
      ·show SvOk X.P S' q (S'.g q).2 (S1.ph q)
       by_cases q1 : q = p
       ·rw [q1, gp]; exact hown
       by_cases q2 : q = H b
       ·rw [q2, gH]; trivial
       ·rw [gO q q1 q2]
        exact (K1.at_ q).later L (fun w j hj => ⟨hOo j _ hj (by simp) (by simp), rfl⟩)
      ·have hb3 : b3 ≠ b := fun e => by rw [e, gH] at hb; cases hb
       have hbp : H b3 ≠ p := fun e => by rw [e, gp] at hb; cases hb
       rw [gO _ hbp (fun e => hb3 (H_inj e))] at hb
       obtain ⟨y1, c1, e1, y2, y3, y4, y5⟩ := K1.box b3 n hb
       exact ⟨y1, c1, e1, y2, hOo _ _ y3 (by simp [hb3]) (by simp), y4, y5⟩
      ·have hb3 : b3 ≠ b := fun e => by rw [e, gH] at hb; cases hb
       have hbp : H b3 ≠ p := fun e => by rw [e, gp] at hb; cases hb
       rw [gO _ hbp (fun e => hb3 (H_inj e))] at hb
       exact K1.rgn b3 n hb
      ·obtain ⟨f1, f2⟩ := K1.fr.no j hj h0
       exact ⟨hOo j _ f1 (by simp) (by simp), f2⟩
      ·obtain ⟨f1, f2⟩ := K1.fr.fz j hj h0
       exact ⟨hOo j _ f1 (by simp) (by simp), f2⟩
      ·obtain ⟨f1, rest⟩ := K1.fr.bx j b3 hj h0
       refine ⟨hOn j _ f1 (fun e => ?_) (by simp), rest⟩
       rw [e] at hj h0
       exact (K1.rgn b r.sz h10).2.2 hb2 (by rw [h8]; exact hj) b3 (by rw [h8]; exact h0)
      ·show upd (upd S1.g (H b) _) p _ = _
       rw [← h, ups_append]
       show _ = get (ups (up (ups A us1) ⟨H b, false, .one .dead⟩) [⟨p, false, .one (.own e r (xs.set i.toNat z))⟩])
       rw [get_ups1, get_up, ← g1]
       simp only [cond_false]
       rw [upd_ne _ _ hpH]
     ·cases h
   ·cases h
  ·cases h
 ·cases h
theorem openK_ok {R : Type} {B p : Nat} {e : TypeId} {r : Ty} {xs : List r.den} {i : Int} {K : List Up → Option R} {Z : Option R} {y : R} (h : openK A B p e r xs i K Z = some y) : Z = some y ∨ ∃ us, openUp A B p e r xs i = some us ∧ K us = some y := by
 unfold openK at h
 unfold openUp
 cases h1 : ((noOw r || allOw r) && Nat.blt r.sz 999 && !(Nat.beq (p / 1000) (B + 1)) && Nat.ble 2000 B) with
 | false => rw [h1, cond_false] at h; exact .inl h
 | true =>
  rw [h1, cond_true] at h
  cases h2 : decide (0 ≤ i) with
  | false => rw [h2] at h; simp at h
  | true =>
   rw [h2, cond_true] at h
   cases h3 : decide (i < (xs.length : Int)) with
   | false => rw [h3] at h; simp at h
   | true =>
    rw [h3, cond_true] at h
    exact .inr ⟨_, rfl, h⟩
theorem ghost_ok {R : Type} {K' : Ab → Option R} {y : R} (hE : EnOk X E) (g : Gh) (K : Okay X S a) (hg : S.g = get A) (h : ghostK E A K' g = some y) : ∃ A' S', K' A' = some y ∧ Okay X S' a ∧ S'.g = get A' ∧ S'.w = S.w := by
 have keep : K' A = some y → ∃ A' S', K' A' = some y ∧ Okay X S' a ∧ S'.g = get A' ∧ S'.w = S.w := fun h => ⟨A, S, h, K, hg, rfl⟩
 cases g with
 | cl p =>
  simp only [ghostK] at h
  split at h
  ·rename_i us hus
   obtain ⟨S1, K1, g1, w1⟩ := close_ok K hg hus
   exact ⟨_, S1, h, K1, g1, w1⟩
  ·exact keep h
 | op p t B =>
  simp only [ghostK] at h
  cases hb : Nat.blt t E.nt with
  | false => rw [hb, cond_false] at h; exact keep h
  | true =>
   rw [hb, cond_true] at h
   split at h
   ·rename_i e r xs k i hp ht
    rcases openK_ok h with h | ⟨us, hus, h⟩
    ·exact keep h
    ·have : openI A p t B = some us := by unfold openI; rw [hp, ht]; exact hus
     obtain ⟨S1, K1, g1, w1⟩ := openI_ok K hg this
     exact ⟨_, S1, h, K1, g1, w1⟩
   ·exact keep h
 | oc p i B =>
  simp only [ghostK] at h
  split at h
  ·rename_i e r xs hp
   rcases openK_ok h with h | ⟨us, hus, h⟩
   ·exact keep h
   ·obtain ⟨S1, _, _, K1, g1, w1, _⟩ := openUp_ok K hg (p := p) (v := (S.g p).1) (by rw [← hg] at hp; rw [← hp]) hus
    exact ⟨_, S1, h, K1, g1, w1⟩
  ·exact keep h
 | od d B =>
  simp only [ghostK] at h
  cases hb : Nat.blt d E.nt with
  | false => rw [hb, cond_false] at h; exact keep h
  | true =>
   have hd : d < X.nt := hE.nt ▸ (Nat.le_of_ble_eq_true hb : d + 1 ≤ E.nt)
   rw [hb, cond_true] at h
   split at h
   ·rename_i p v i off hp
    split at h
    ·rename_i n e r xs hpp
     cases hq : (Nat.beq n v && noOw r && !(Nat.beq p d)) with
     | false => rw [hq, cond_false] at h; exact keep h
     | true =>
      rw [hq, cond_true] at h
      rcases openK_ok h with h | ⟨us, hus, h⟩
      ·exact keep h
      ·have : openD A d B = some (us ++ [⟨d, false, .one (.bp B ((get A (H B)).1 + 1) off)⟩]) := by unfold openD; simp only [hp, hpp, hq, cond_true, hus]
       obtain ⟨S1, K1, g1, w1⟩ := openD_ok K hg hd this
       exact ⟨_, S1, h, K1, g1, w1⟩
    ·exact keep h
   ·rename_i p v e0 r0 xs0 i off hp
    split at h
    ·rename_i n e r xs hpp
     cases hq : (Nat.beq n v && !(noOw r) && !(Nat.beq p d)) with
     | false => rw [hq, cond_false] at h; exact keep h
     | true =>
      rw [hq, cond_true] at h
      rcases openK_ok h with h | ⟨us, hus, h⟩
      ·exact keep h
      ·have : openD A d B = some (us ++ [⟨d, false, .one (.bp B ((get A (H B)).1 + 1) off)⟩]) := by unfold openD; simp only [hp, hpp, hq, cond_true, hus]
       obtain ⟨S1, K1, g1, w1⟩ := openD_ok K hg hd this
       exact ⟨_, S1, h, K1, g1, w1⟩
    ·exact keep h
   ·exact keep h
theorem ghosts_ok {R : Type} {K' : Ab → Option R} {y : R} (hE : EnOk X E) : ∀ (l : List Gh) {S : Sit} {A : Ab}, Okay X S a → S.g = get A → ghostsK E l A K' = some y → ∃ A' S', K' A' = some y ∧ Okay X S' a ∧ S'.g = get A' ∧ S'.w = S.w
 | [], S, A, K, hg, h => ⟨A, S, h, K, hg, rfl⟩
 | g :: l, S, A, K, hg, h => by
  obtain ⟨A1, S1, h1, K1, g1, w1⟩ := ghost_ok hE g K hg h
  obtain ⟨A2, S2, h2, K2, g2, w2⟩ := ghosts_ok hE l K1 g1 h1
  exact ⟨A2, S2, h2, K2, g2, w2.trans w1⟩
end
end Go.Proofs.YtgocagaijgcnmaaGreat.Vf
end

section
set_option linter.unusedVariables false
set_option linter.unusedSimpArgs false
namespace Go.Proofs.YtgocagaijgcnmaaGreat.Vf
open Go
attribute [local irreducible] C H
section
variable {X : Cx} {S S' : Sit} {a : Act} {E : En} {A : Ab} {o : Oper} {R : Type} {Kc : List Up → Option R} {r : R}
theorem st_indexOpen (hE : EnOk X E) (K : Okay X S a) (hg : S.g = get A) {T : TypeId} {x i : Operand} {d : Nat} (ho : o.op = .indexAddr T x i) (hod : o.dst = some d) (hd : d < X.nt) (hopn : E.opn d = true) (h : step E o A Kc = some r) : After X o a S.w A Kc r := by
 unfold step at h
 rw [ho, hod] at h
 simp only [hopn, cond_true] at h
 split at h
 ·rename_i p v k n hs hn
  have ei := (opT_sc hE K hg hn).1
  obtain ⟨l, hl⟩ := opT_ex hE K hg hs
  have hl' : LfOk X.P S (.pl l []) (.al p v) (a.eval x) := hl
  split at h
  ·rename_i m e r' xs hp
   cases hq : (Nat.beq m v && isEl E T e && !(Nat.beq p d)) with
   | false => rw [hq] at h; simp at h
   | true =>
    rw [hq, cond_true] at h
    simp only [Bool.and_eq_true, Bool.not_eq_true'] at hq
    obtain ⟨⟨q1, q2⟩, q3⟩ := hq
    have hmv : m = v := Nat.eq_of_beq_eq_true q1
    subst hmv
    have hpd : p ≠ d := fun e => by rw [e, Nat.beq_refl] at q3; cases q3
    rcases openK_ok h with h | ⟨us, hus, h⟩
    ·cases h
    ·have hp' : S.g p = (m, .one (.own e r' xs)) := by rw [hg, hp]
     have he : a.eval x = S.ph p := hl'.2 (by rw [hp'])
     have hown : OwnOk X.P S.O S.w (.pl p []) e r' xs (S.ph p) := by have := K.at_ p; rw [hp'] at this; exact this
     have hb : 0 ≤ n ∧ n < (xs.length : Int) := by
      unfold openUp at hus
      generalize ((noOw r' || allOw r') && Nat.blt r'.sz 999 && !(Nat.beq (p / 1000) (2000 + d + 1)) && Nat.ble 2000 (2000 + d)) = bb at hus
      cases bb with
      | false => simp at hus
      | true =>
       rw [cond_true] at hus
       by_cases h0 : 0 ≤ n
       ·by_cases h1 : n < (xs.length : Int)
        ·exact ⟨h0, h1⟩
        ·simp [h0, h1] at hus
       ·simp [h0] at hus
     obtain ⟨S', k', cap, K', g', w', ph', bb', pq, gH, gq⟩ := openUp_ok K hg hp' hus
     have hr := run_indexAddr (w := S.w) (desc_el q2 hE.ti) hown.top.1 ho (he.trans ph') ei hb.1 hb.2
     rw [Nat.zero_add, ← w'] at hr
     have hsv : SvOk X.P S' 0 (.one (.bp (2000 + d) ((S.g (H (2000 + d))).1 + 1) 0)) (.pointer (some ⟨k', n.toNat * r'.sz, none⟩)) := by
      refine ⟨by rw [gH]; exact Nat.le_refl _, fun _ => ?_⟩
      rw [bb']
      rfl
     have K2 := K'.put0 hd _ _ 0 rfl hsv
     refine ⟨_, h, ?_⟩
     rw [← w']
     refine goes_value (S := putS S' (fun _ _ => none) d _ _) hr (by rw [hod]; exact K2) ?_
     show upd S'.g d _ = _
     rw [ups_append, get_ups1, ← g', ← hg]
  ·cases h
 ·cases h
end
end Go.Proofs.YtgocagaijgcnmaaGreat.Vf
end

section
set_option linter.unusedVariables false
set_option linter.unusedSimpArgs false
namespace Go.Proofs.YtgocagaijgcnmaaGreat.Vf
open Go
attribute [local irreducible] C H
section
variable {X : Cx} {S S' : Sit} {a : Act} {E : En} {A : Ab} {o : Oper} {R : Type} {Kc : List Up → Option R} {r : R}
theorem Okay.names (K : Okay X S a) (h : Nat → List Nat → Option Lab) (hno : ∀ n q, h n q ≠ some .no) : Okay X { S with O := atO S.O h } a ∧ Later S { S with O := atO S.O h } := by
 have L : Later S { S with O := atO S.O h } := ⟨fun _ => Nat.le_refl _, fun _ _ => rfl, fun p v e r xs' h _ => ⟨xs', h, rfl⟩, fun _ _ => rfl, fun k hk => ⟨atO_other hk (by simp), rfl⟩, Later.box_of (fun _ _ _ h => h) (fun k b h => ⟨atO_other h (by simp), rfl⟩), fun p _ hd => ⟨hd, fun _ _ _ h => h, fun k hk => ⟨.inl (atO_other hk (by simp)), rfl⟩⟩⟩
 exact ⟨K.ghost _ _ (fun k e => atO_other e (by simp)) (fun k e1 e2 => e1 (atO_other e2 (by simp))) (fun k e => atO_other e (by simp)) (fun k b e => atO_other e (by simp)) (fun _ _ e => e)
  (fun l => (K.at_ l).later L (fun p k e => ⟨atO_other e (by simp), rfl⟩)), L⟩
def frzH (i : Nat) : Nat → List Nat → Option Lab := fun n _ => if n = i then some .fz else none
theorem calm_rep {P : Program} {S : Sit} {i : Nat} {q : Nat → List Nat} : ∀ {l : List Lf} {j : Nat} {us : List Value}, storable l = true → LfsOk P S (fun n => .tm i (q n)) j l us → All2 (LfRep P (fun k => atO S.O (frzH i) k = .fz) S.w) (l.map calm) us
 | [], _, [], _, _ => .nil
 | [], _, _ :: _, _, h => h.elim
 | _ :: _, _, [], _, h => h.elim
 | x :: l, j, u :: us, hst, h => by
  have hfz : ∀ k, S.O k = .fz → atO S.O (frzH i) k = .fz := fun k hk => atO_other hk (by simp)
  cases x with
  | sc v => exact .cons h.1 (calm_rep (by simpa [storable] using hst) h.2)
  | fz e r xs => exact .cons (Ty.rep_mono (t := .sl e r) hfz (fun _ _ => rfl) _ _ h.1) (calm_rep (by simpa [storable] using hst) h.2)
  | own e r xs =>
   refine .cons ?_ (calm_rep (by simpa [storable] using hst) h.2)
   have h1 : OwnOk P S.O S.w (.tm i (q j)) e r xs u := h.1
   exact h1.reads (O' := fun k => atO S.O (frzH i) k) hfz (fun k hk => atO_tm hk (by simp [frzH]))
  | _ => simp [storable] at hst
theorem owned_storable : ∀ {m : List Lf}, owned m = true → storable m = true
 | [], _ => rfl
 | x :: m, h => by
  cases x <;> first | (simp [owned] at h; done) | (simp only [owned] at h; simp only [storable]; exact owned_storable h)
theorem one_of {P : Program} {f : Nat → Lab} : ∀ {l : List Lf} {j : Nat} {us : List Value}, storable l = true → LfsOk P S f j l us → ∀ u ∈ us, u.oneCell' = true
 | [], _, [], _, _ => by simp
 | [], _, _ :: _, _, h => h.elim
 | _ :: _, _, [], _, h => h.elim
 | x :: l, j, u :: us, hst, h => by
  intro v hv
  rcases List.mem_cons.1 hv with rfl | hv
  ·cases x with
   | sc w =>
    obtain ⟨rfl, h2⟩ := h.1
    unfold isSc at h2
    split at h2 <;> first | rfl | cases h2
   | fz e r xs =>
    obtain ⟨ad, cap, e1⟩ := len_of_fz (X := ⟨P, fun _ => .no, S.w, fun _ => (0, 0), 0, 0⟩) h.1
    rw [e1]; rfl
   | own e r xs =>
    obtain ⟨ad, cap, e1⟩ := len_of_own (X := ⟨P, fun _ => .no, S.w, fun _ => (0, 0), 0, 0⟩) h.1
    rw [e1]; rfl
   | _ => simp [storable] at hst
  ·refine one_of (l := l) (us := us) ?_ h.2 v hv
   cases x <;> first | (simp [storable] at hst; done) | simpa [storable] using hst
theorem one_ofD {X : Cx} {S : Sit} {A : Ab} (hg : S.g = get A) {f : Nat → Lab} : ∀ {l : List Lf} {j : Nat} {us : List Value}, storableD A l = true → LfsOk X.P S f j l us → (∀ u ∈ us, u.oneCell' = true) ∧ ∀ k, .hd k ∉ l
 | [], _, [], _, _ => by simp
 | [], _, _ :: _, _, h => h.elim
 | _ :: _, _, [], _, h => h.elim
 | x :: l, j, u :: us, hst, h => by
  have rest : storableD A l = true := by
   cases x <;> first | (simp [storableD] at hst; done) | (simp only [storableD, Bool.and_eq_true] at hst; exact hst.2) | simpa [storableD] using hst
  obtain ⟨r1, r2⟩ := one_ofD hg rest h.2
  refine ⟨fun v hv => ?_, fun k hk => ?_⟩
  ·rcases List.mem_cons.1 hv with hv | hv
   ·rw [hv]
    have one : storable [x] = true → u.oneCell' = true := fun hs => one_of (P := X.P) (S := S) (f := f) (l := [x]) (j := j) (us := [u]) hs ⟨h.1, trivial⟩ u (by simp)
    cases x with
    | da p v pi e r xs =>
     simp only [storableD, Bool.and_eq_true] at hst
     obtain ⟨ad, cap, e1⟩ := len_of_da (X := X) h.1 (by rw [hg]; exact Nat.eq_of_beq_eq_true hst.1)
     rw [e1]; rfl
    | sc w => exact one rfl
    | fz e r xs => exact one rfl
    | own e r xs => exact one rfl
    | _ => simp [storableD] at hst
   ·exact r1 v hv
  ·rcases List.mem_cons.1 hk with rfl | hk
   ·simp [storableD] at hst
   ·exact r2 k hk
theorem shape_cells {s : Sv} {u : Value} {us : List Value} (hs : Shape s u us) (hnt : ∀ vs, s ≠ .tup vs) (h1 : ∀ v ∈ us, v.oneCell' = true) : u.cells = us.toArray := by
 cases s with
 | agg l => have : u = .agg us.toArray := hs; rw [this]; rfl
 | one x =>
  have : us = [u] := hs
  subst this
  have := h1 u (by simp)
  cases u <;> first | (simp [Value.oneCell'] at this; done) | rfl
 | tup vs => exact absurd rfl (hnt vs)
theorem parts_nt {s : Sv} {T : TypeId} {t : TI} {l : List Lf} (hl : l.length = (parts s).length) (h : l.length = t.ty.sz) (ht : TOk X.P T t) : ∀ vs, s ≠ .tup vs := by
 intro vs e
 subst e
 have : ∀ t : Ty, 0 < t.sz := by intro t; induction t <;> simp [Ty.sz] <;> omega
 have := this t.ty
 simp [parts] at hl
 simp [hl] at h
 omega
theorem run_storeAt {P : Program} {w : World} {T : TypeId} {t : TI} {x y : Operand} {k o' : Nat} {us : List Value} {c : Array Value} {e : TypeId} {u : Value} (ht : TOk P T t) (ho : o.op = .store T x y) (hx : a.eval x = .pointer (some ⟨k, o', none⟩)) (hy : a.eval y = u) (hu : u.cells = us.toArray)
  (hl : us.length = t.ty.sz) (hc : w.heap[k]? = some (.cells c e (0, 0))) (hle : o' + us.length ≤ c.size) (h1 : ∀ v ∈ us, v.oneCell' = true) :
  (execOp a.eval o).run P w = .ok .skip (w.setRow k (c.toList.take o' ++ us ++ c.toList.drop (o' + us.length)).toArray) := by
 have hst := run_storeCells_at P k o' e us 0 c w hc (by simpa using hle) h1
 simp only [Nat.add_zero] at hst
 unfold execOp
 simp only [ho, hx, hy, Instr.storeAt, Instr.sureAddr, Sem.run_bind, Sem.run_pure, Result.andThen_ok, storeVar, hu, info_size (tok_size ht), List.size_toArray]
 rw [if_neg (by simp [hl])]
 simp [hst]
theorem boxH_q {s : Sv} {b off : Nat} {m : List Lf} (hm : m.length = (parts s).length) (hnt : ∀ vs, s ≠ .tup vs) : ∀ j, j < m.length → boxH b off 0 (pth s j) = some (.pl (C b (off + j)) []) := by
 intro j hj
 cases s with
 | one x =>
  have : j = 0 := by simp [parts] at hm; omega
  subst this
  rfl
 | agg l => rfl
 | tup vs => exact absurd rfl (hnt vs)
theorem giveL_len {y : Operand} {s : Sv} {ts : List Ty} {m : List Lf} {us : List Up} (h : giveL A y s ts = some (m, us)) : m.length = (parts s).length := by
 unfold giveL at h
 split at h
 ·rename_i m0 vs0 ht
  cases hst : storable m0 with
  | false => rw [hst] at h; simp at h
  | true =>
   rw [hst] at h
   simp only [cond_true, Option.some.injEq, Prod.mk.injEq] at h
   obtain ⟨rfl, _⟩ := h
   exact (xferLs_len _ _ ht).1
 ·cases h
theorem storable_nohd {m : List Lf} (h : storable m = true) : ∀ k, .hd k ∉ m := by
 induction m with
 | nil => simp
 | cons x l ih =>
  intro k hk
  rcases List.mem_cons.1 hk with rfl | hk
  ·simp [storable] at h
  ·exact ih (by cases x <;> first | (simp [storable] at h; done) | simpa [storable] using h) k hk
theorem same_at {p : Nat} : ∀ (U : List Up) (A0 : Ab), apart p U = true → get (ups A0 U) p = get A0 p
 | [], A0, _ => rfl
 | u :: U, A0, hU => by
  simp only [apart, Bool.and_eq_true, Bool.not_eq_true'] at hU
  show get (ups (up A0 u) U) p = _
  rw [same_at U _ hU.2, get_up, upd_ne]
  intro e2
  rw [e2] at hU
  simp at hU
theorem LfsRep.setAll {P : Program} {G : Nat → Prop} {w : World} {l m : List Lf} {cs us : List Value} {off : Nat} (h : All2 (LfRep P G w) l cs) (hm : All2 (LfRep P G w) m us) :
  All2 (LfRep P G w) (Vf.setAll l off m) (cs.take off ++ us ++ cs.drop (off + us.length)) := by
 unfold Vf.setAll
 rw [hm.len]
 exact ((h.take off).append hm).append (h.drop _)
theorem own_store {P : Program} {O : Nat → Lab} {w : World} {p : Nat} {e : TypeId} {r' : Ty} {xs : List r'.den} {u : Value} {k cap i off : Nat} {cur : Array Value} {m : List Lf} {us : List Value} {z : r'.den}
  (hno : noOw r' = true) (h : OwnOk P O w (.pl p []) e r' xs u) (hu : u = .slice (some ⟨k, 0, none⟩) xs.length cap) (hc : w.heap[k]? = some (.cells cur e (0, 0))) (hk : O k = .pl p []) (hi : i < xs.length) (hm : All2 (LfRep P (fun k => O k = .fz) w) m us)
  (hz : mkW r' (Vf.setAll (lvs r' (xs.getD i r'.dflt)) off m) = some z) (hle : off + us.length ≤ r'.sz) :
  i * r'.sz + off + us.length ≤ cur.size ∧ OwnOk P O (w.setRow k (cur.toList.take (i * r'.sz + off) ++ us ++ cur.toList.drop (i * r'.sz + off + us.length)).toArray) (.pl p []) e r' (xs.set i z) u := by
 rw [OwnOk.flat hno]
 obtain ⟨hs, cs, hrow, hrows, hb⟩ := (OwnOk.flat hno).1 h
 rcases own_nil_or hrow with ⟨e1, _⟩ | ⟨k', cap', cur', e1, hcur, h1, h2, h3, h4⟩
 ·rw [hu] at e1; cases e1
 ·rw [hu] at e1
  cases e1
  rw [hc] at hcur
  cases hcur
  have hlt : (i + 1) * r'.sz ≤ xs.length * r'.sz := Nat.mul_le_mul_right _ hi
  have hcl : cs.length = xs.length * r'.sz := hrow.1
  have hcap : xs.length * r'.sz ≤ cap * r'.sz := Nat.mul_le_mul_right _ h1
  rw [Nat.add_mul, Nat.one_mul] at hlt
  have hget := hrows.get (Ty.rep_len r') i (xs.getD i r'.dflt) (by rw [List.getD_eq_getElem?_getD, List.getElem?_eq_getElem hi]; rfl)
  have hnew := mkW_rep hz (LfsRep.setAll (off := off) (lvs_rep _ _ _ hget) hm)
  have hrows2 := hrows.set (Ty.rep_len r') i z _ hi hnew
  rw [← splice (by omega) (by omega)] at hrows2
  refine ⟨by omega, hs, _, ⟨?_, .inr ⟨k, cap, _, by rw [List.length_set]; exact hu, Nat.zero_le _, setRow_heap _ _ _ _ _ _ hc, by rw [List.length_set]; exact h1, h2, ?_, ?_⟩⟩, hrows2.mono (fun x c => Ty.rep_mono (fun _ h => h) (fun j hj => setRow_other _ _ _ _ (fun e => by have : O k = .fz := e ▸ hj; rw [hk] at this; cases this)) r' x c), hb⟩
  ·simp only [List.length_append, List.length_take, List.length_drop, List.length_set]
   omega
  ·simp only [List.size_toArray, List.length_append, List.length_take, List.length_drop, Array.length_toList]
   omega
  ·rw [List.length_set, ← h4]
   exact take_splice (n := xs.length * r'.sz) (by omega) (by have h9 : cur.toList.length = cur.size := Array.length_toList; omega)
theorem Okay.rewrite (K : Okay X S a) {p n k : Nat} {e : TypeId} {r' : Ty} {xs ys : List r'.den} {w' : World} (hno : noOw r' = true) (hp : S.g p = (n, .one (.own e r' xs))) (hk : S.O k = .pl p []) (hold : ∀ j o', S.O j = o' → o' ≠ .pl p [] → w'.heap[j]? = S.w.heap[j]?)
  (hsz : w'.heap.size = S.w.heap.size) (h1 : w'.os = S.w.os) (h2 : w'.tape = S.w.tape) (h3 : w'.output = S.w.output) (hown : OwnOk X.P S.O w' (.pl p []) e r' ys (S.ph p)) (hlen : ys.length = xs.length) :
  Okay X { S with g := upd S.g p (n, .one (.own e r' ys)), w := w' } a ∧ ({ S with g := upd S.g p (n, .one (.own e r' ys)), w := w' } : Sit).g = upd S.g p (n, .one (.own e r' ys)) := by
 have L : Later S { S with g := upd S.g p (n, .one (.own e r' ys)), w := w' } := by
  refine ⟨fun q => ?_, fun _ _ => rfl, fun q v e2 r2 xs' hq hv => ?_, fun _ _ => rfl, fun j hj => ⟨hj, hold j _ hj (by simp)⟩, Later.box_of (fun b m hv hh => ?_) (fun j b h => ⟨h, hold j _ h (by simp)⟩), fun q hv hd => ?_⟩
  ·show _ ≤ (upd S.g p _ q).1
   by_cases h : q = p
   ·subst h; rw [upd_same, hp]; exact Nat.le_refl _
   ·rw [upd_ne _ _ h]; exact Nat.le_refl _
  ·have hq' : upd S.g p (n, .one (.own e r' ys)) q = (v, .one (.own e2 r2 xs')) := hq
   by_cases h : q = p
   ·subst h
    rw [upd_same] at hq'
    cases hq'
    exact ⟨xs, hp, hlen.symm⟩
   ·rw [upd_ne _ _ h] at hq'
    exact ⟨xs', hq', rfl⟩
  ·have hb : H b ≠ p := fun e => by subst e; rw [hp] at hh; cases hh
   exact (congrArg Prod.snd (upd_ne _ _ hb)).trans hh
  ·have h : q ≠ p := fun e => by subst e; rw [hp] at hd; simp [deepS, deepL, hno] at hd
   have e1 : ({ S with g := upd S.g p (n, .one (.own e r' ys)), w := w' } : Sit).g q = S.g q := upd_ne _ _ h
   rw [e1]
   exact ⟨hd, fun _ _ _ h => h, fun k hk => ⟨.inl hk, hold k _ hk (by simp [h])⟩⟩
 have F := K.fr
 refine ⟨⟨K.nt, fun j hj => by rw [show ({ S with g := upd S.g p (n, .one (.own e r' ys)), w := w' } : Sit).w = w' from rfl, hsz]; exact K.lt j hj, fun l => ?_, fun b m hb => ?_, fun b m hb => ?_, K.sl, K.sz, K.df, ⟨h1.trans F.os, h2.trans F.tape, h3.trans F.out, by rw [show ({ S with g := upd S.g p (n, .one (.own e r' ys)), w := w' } : Sit).w = w' from rfl, hsz]; exact F.size, fun j hj h0 => ?_, fun j hj h0 => ?_, fun j b hj h0 => ?_⟩⟩, rfl⟩
 ·show SvOk X.P _ l (upd S.g p _ l).2 _
  by_cases h : l = p
  ·subst h; rw [upd_same]; exact hown
  ·rw [upd_ne _ _ h]
   exact (K.at_ l).later L (fun q j hj => ⟨hj, hold j _ hj (by simp [h])⟩)
 ·have hne : H b ≠ p := by
   intro e2
   have : (upd S.g p (n, .one (.own e r' ys)) (H b)).2 = .one (.hd m) := hb
   rw [e2, upd_same] at this
   cases this
  have hb' : (S.g (H b)).2 = .one (.hd m) := by
   have : (upd S.g p (n, .one (.own e r' ys)) (H b)).2 = .one (.hd m) := hb
   rwa [upd_ne _ _ hne] at this
  obtain ⟨hn, c, e1, e2, e3, e4⟩ := K.box b m hb'
  exact ⟨hn, c, e1, (hold _ _ e3 (by simp)).trans e2, e3, e4⟩
 ·have hne : H b ≠ p := by
   intro e2
   have : (upd S.g p (n, .one (.own e r' ys)) (H b)).2 = .one (.hd m) := hb
   rw [e2, upd_same] at this
   cases this
  have hb' : (S.g (H b)).2 = .one (.hd m) := by
   have : (upd S.g p (n, .one (.own e r' ys)) (H b)).2 = .one (.hd m) := hb
   rwa [upd_ne _ _ hne] at this
  exact K.rgn b m hb'
 ·obtain ⟨f1, f2⟩ := F.no j hj h0
  exact ⟨f1, (hold j _ f1 (by simp)).trans f2⟩
 ·obtain ⟨f1, f2⟩ := F.fz j hj h0
  exact ⟨f1, (hold j _ f1 (by simp)).trans f2⟩
 ·obtain ⟨f1, c, c', e1, f, f2, f3, f4, f5⟩ := F.bx j b hj h0
  exact ⟨f1, c, c', e1, f, f2, (hold j _ f1 (by simp)).trans f3, f4, f5⟩
theorem st_store (hE : EnOk X E) (K : Okay X S a) (hg : S.g = get A) {T : TypeId} {x y : Operand} (ho : o.op = .store T x y) (hod : o.dst = none) (h : step E o A Kc = some r) : After X o a S.w A Kc r := by
 unfold step at h
 rw [ho, hod] at h
 simp only at h
 have skip : ∀ {S2 : Sit} {w : World} {A' : Ab}, (execOp a.eval o).run X.P w = .ok .skip S2.w → Okay X S2 a → S2.g = get A' → Goes X o a w A' := by
  intro S2 w A' hr K2 hg2
  refine goes_skip hr ?_ hg2
  rw [hod]
  exact K2
 split at h
 ·rename_i ti b v off s hti hsx hsy
  obtain ⟨pl, hsv⟩ := opT_ex hE K hg hsx
  have hlf : LfOk X.P S (.pl pl []) (.bp b v off) (a.eval x) := hsv
  cases hmv : mvO E y with
  | true =>
   rw [hmv, cond_true] at h
   split at h
   ·rename_i m vs hgive
    split at h
    ·rename_i n hd hp
     cases hq : (Nat.beq n v && Nat.beq m.length ti.ty.sz && Nat.ble (off + ti.ty.sz) hd) with
     | false => rw [hq] at h; simp at h
     | true =>
      rw [hq, cond_true] at h
      simp only [Bool.and_eq_true] at hq
      obtain ⟨⟨q1, q3⟩, q4⟩ := hq
      have hnv : n = v := by simpa using q1
      have hle : off + ti.ty.sz ≤ hd := Nat.le_of_ble_eq_true q4
      have hlen : m.length = ti.ty.sz := Nat.eq_of_beq_eq_true q3
      subst hnv
      have ht := hE.ti _ _ hti
      have hnt := parts_nt (X := X) (s := s) (giveL_len hgive) hlen ht
      have hh : (S.g (H b)).2 = .one (.hd hd) := by rw [hg, hp]
      obtain ⟨S1, K1, g1, G1, q2, _, us, hsh, hls⟩ := giveL_ok hE K hg (.inl hsy) hnt hgive 0
      have hh1 : (S1.g (H b)).2 = .one (.hd hd) := by rw [G1.heads b hd hh]; exact hh
      obtain ⟨_, c, e, c1, c2, c3, c4⟩ := K1.box b hd hh1
      have hpt : a.eval x = .pointer (some ⟨(S1.bb b).1, (S1.bb b).2 + off, none⟩) := by rw [G1.bb]; exact hlf.2 (by rw [hg, hp])
      have hul := hls.len
      have hone := one_of q2 hls
      obtain ⟨K2, L2⟩ := K1.cells (b := b) (off := off) hh1 (by rw [hlen]; exact hle) c1 hls (boxH_q (giveL_len hgive) hnt) (storable_nohd q2)
      have hr := run_storeAt (w := S1.w) ht ho hpt rfl (shape_cells hsh hnt hone) (hul.trans hlen) c1 (by omega) hone
      refine ⟨_, h, skip (by rw [← G1.w]; exact hr) K2 ?_⟩
      show gput S1.g b off _ = _
      rw [ups_append, get_putCells, ← g1]
    ·cases h
   ·cases h
  | false =>
  rw [hmv, cond_false] at h
  split at h
  ·rename_i n hd hp
   cases hq : (Nat.beq n v && storableD (ups A (costs A (parts s) ++ gone y s)) ((parts s).map (kept A)) && Nat.beq ((parts s).map (kept A)).length ti.ty.sz && Nat.ble (off + ti.ty.sz) hd) with
   | false => rw [hq] at h; simp at h
   | true =>
    rw [hq, cond_true] at h
    simp only [Bool.and_eq_true] at hq
    obtain ⟨⟨⟨q1, q2⟩, q3⟩, q4⟩ := hq
    have hnv : n = v := by simpa using q1
    have hle : off + ti.ty.sz ≤ hd := Nat.le_of_ble_eq_true q4
    have hlen : ((parts s).map (kept A)).length = ti.ty.sz := Nat.eq_of_beq_eq_true q3
    subst hnv
    have ht := hE.ti _ _ hti
    have hnt := parts_nt (X := X) (s := s) (by simp) hlen ht
    have hh : (S.g (H b)).2 = .one (.hd hd) := by rw [hg, hp]
    obtain ⟨S1, K1, g1, w1, b1, p1, L1, x1, heads, _, us, hsh, hls⟩ := taken hE K hg hsy hnt 0
    have hh1 : (S1.g (H b)).2 = .one (.hd hd) := by rw [(heads b).2 hd hh]; exact hh
    obtain ⟨_, c, e, c1, c2, c3, c4⟩ := K1.box b hd hh1
    have hpt : a.eval x = .pointer (some ⟨(S1.bb b).1, (S1.bb b).2 + off, none⟩) := by rw [b1]; exact hlf.2 (by rw [hg, hp])
    have hul := hls.len
    obtain ⟨hone, hnohd⟩ := one_ofD g1 q2 hls
    obtain ⟨K2, L2⟩ := K1.cells (b := b) (off := off) hh1 (by rw [hlen]; exact hle) c1 hls (boxH_q (by simp) hnt) hnohd
    have hr := run_storeAt (w := S1.w) ht ho hpt rfl (shape_cells hsh hnt hone) (hul.trans hlen) c1 (by omega) hone
    refine ⟨_, h, skip (by rw [← w1]; exact hr) K2 ?_⟩
    show gput S1.g b off _ = _
    rw [ups_append, get_putCells, ← g1]
  ·cases h
 ·rename_i ti p v i off s hti hsx hsy
  obtain ⟨pl, hsv⟩ := opT_ex hE K hg hsx
  have hlf : LfOk X.P S (.pl pl []) (.ep p v i off) (a.eval x) := hsv
  split at h
  ·rename_i n e r' xs hp
   cases hq : (Nat.beq n v && noOw r' && storable ((parts s).map (kept A)) && Nat.beq ((parts s).map fun x => calm (kept A x)).length ti.ty.sz && Nat.ble (off + ((parts s).map fun x => calm (kept A x)).length) r'.sz && apart p (costs A (parts s) ++ gone y s)) with
   | false => rw [hq] at h; simp at h
   | true =>
    rw [hq, cond_true] at h
    simp only [Bool.and_eq_true] at hq
    obtain ⟨⟨⟨⟨⟨q1, hno⟩, q2⟩, q3⟩, q4⟩, q5⟩ := hq
    have hnv : n = v := by simpa using q1
    have hlen : ((parts s).map fun x => calm (kept A x)).length = ti.ty.sz := Nat.eq_of_beq_eq_true q3
    have hle : off + ((parts s).map fun x => calm (kept A x)).length ≤ r'.sz := Nat.le_of_ble_eq_true q4
    subst hnv
    split at h
    ·rename_i z hz
     have ht := hE.ti _ _ hti
     have hnt := parts_nt (X := X) (s := s) (by simp) hlen ht
     obtain ⟨S1, K1, g1, w1, b1, p1, L1, x1, heads, _, us, hsh, hls⟩ := taken hE K hg hsy hnt 0
     have hul := hls.len
     have hone := one_of q2 hls
     have hrep := calm_rep q2 hls
     rw [List.map_map] at hrep
     rw [List.length_map] at hul hlen hle
     obtain ⟨K2, L2⟩ := K1.names (frzH 0) (by intro n q; unfold frzH; split <;> simp)
     have L12 := L1.trans L2
     have hp2 : ({ S1 with O := atO S1.O (frzH 0) } : Sit).g p = (n, .one (.own e r' xs)) := by
      show S1.g p = _
      rw [g1, same_at _ _ q5, hp]
     have hlf2 : LfOk X.P { S1 with O := atO S1.O (frzH 0) } .fz (.ep p n i off) (a.eval x) := (LfOk.relab (lab' := .fz) rfl hlf).later L12 (fun k hk => L12.fz k hk)
     obtain ⟨k, _, cur, cap, e1, _, _, hi, e4, e5, e6⟩ := ep_cells K2 hno hp2 hlf2
     have hown : OwnOk X.P (atO S1.O (frzH 0)) S1.w (.pl p []) e r' xs (S1.ph p) := by
      have h0 := K2.at_ p
      rw [hp2] at h0
      exact h0
     obtain ⟨hsz, hown3⟩ := own_store (us := us) hno hown e4 e5 e6 hi hrep hz (by omega)
     have hr := run_storeAt (w := S1.w) ht ho e1 rfl (shape_cells hsh hnt hone) (by omega) e5 hsz hone
     have hold : ∀ j, j ≠ k → (S1.w.setRow k (cur.toList.take (i.toNat * r'.sz + off) ++ us ++ cur.toList.drop (i.toNat * r'.sz + off + us.length)).toArray).heap[j]? = S1.w.heap[j]? := fun j hj => setRow_other _ _ _ _ hj
     have hne : ∀ j o', atO S1.O (frzH 0) j = o' → o' ≠ .pl p [] → (S1.w.setRow k (cur.toList.take (i.toNat * r'.sz + off) ++ us ++ cur.toList.drop (i.toNat * r'.sz + off + us.length)).toArray).heap[j]? = S1.w.heap[j]? := fun j o' hj ho' => hold j (fun e => ho' (by rw [← hj, e]; exact e6))
     obtain ⟨K3, g3⟩ := K2.rewrite hno hp2 e6 hne (by simp [World.setRow]) rfl rfl rfl hown3 (by simp)
     refine ⟨_, h, skip (by rw [← w1]; exact hr) K3 ?_⟩
     rw [g3, ups_append, get_keep, ← g1]
     show upd S1.g p _ = _
     congr 1
     have : S1.g p = (n, .one (.own e r' xs)) := hp2
     rw [this]
    ·cases h
  ·cases h
 ·rename_i ti p v q e r1 xs i off s hti hsx hsy
  obtain ⟨pl, hsv⟩ := opT_ex hE K hg hsx
  obtain ⟨hd', hda, hdp⟩ : LfOk X.P S (.pl pl []) (.dp p v (some q) e r1 xs i off) (a.eval x) := hsv
  split at h
  ·rename_i m us hgive
   split at h
   ·rename_i n E0 R0 XS hp
    cases hq : (Nat.beq n v && owned m && Nat.beq m.length ti.ty.sz && Nat.ble (off + m.length) r1.sz && apart p us && allOw R0) with
    | false => rw [hq] at h; simp at h
    | true =>
     rw [hq, cond_true] at h
     simp only [Bool.and_eq_true] at hq
     obtain ⟨⟨⟨⟨⟨q1, q2⟩, q3⟩, q4⟩, q5⟩, q6⟩ := hq
     have hnv : n = v := Nat.eq_of_beq_eq_true q1
     have hlen : m.length = ti.ty.sz := Nat.eq_of_beq_eq_true q3
     have hle : off + m.length ≤ r1.sz := Nat.le_of_ble_eq_true q4
     subst hnv
     split at h
     ·rename_i z hz
      split at h
      ·rename_i XS' hput
       have ht := hE.ti _ _ hti
       have hnt := parts_nt (X := X) (s := s) (give_len hgive) hlen ht
       obtain ⟨S1, K1, g1, G1, uv, hsh, hl⟩ := give_ok hE K hg hsy hnt hgive 0
       have hp0 : S.g p = (n, .one (.own E0 R0 XS)) := by rw [hg, hp]
       have hp1 : S1.g p = (n, .one (.own E0 R0 XS)) := by rw [g1, same_at _ _ q5, hp]
       obtain ⟨k, j, cur, e0, e1, e2, e3, K3⟩ := path_store (u := a.eval x) K1 hp1 (hda.later G1.later) (hdp (by rw [hp0])) q6 q2 hl (pth_inj hnt (give_len hgive)) hz hle hput
       have hone := one_of (owned_storable q2) hl
       have hul := hl.len
       have hr := run_storeAt (w := S1.w) ht ho e1 rfl (shape_cells hsh hnt hone) (hul.trans hlen) e2 e3 hone
       refine ⟨_, h, skip (by rw [← G1.w]; exact hr) K3 ?_⟩
       show upd S1.g p _ = _
       rw [ups_append, get_ups1, ← g1, hp1]
      ·cases h
     ·cases h
   ·cases h
  ·cases h
 ·cases h
end
end Go.Proofs.YtgocagaijgcnmaaGreat.Vf
end

section
set_option linter.unusedVariables false
set_option linter.unusedSimpArgs false
namespace Go.Proofs.YtgocagaijgcnmaaGreat.Vf
open Go
attribute [local irreducible] C H
section
variable {X : Cx} {S S' : Sit} {a : Act} {E : En} {A : Ab} {o : Oper} {R : Type} {Kc : List Up → Option R} {r : R}
theorem zeros_len : ∀ t : Ty, (zeros t).length = t.sz
 | .i _ => rfl
 | .b => rfl
 | .s => rfl
 | .sl _ _ => rfl
 | .ow _ _ => rfl
 | .pr x y => by show (zeros x ++ zeros y).length = x.sz + y.sz; rw [List.length_append, zeros_len x, zeros_len y]
theorem zeros_storable : ∀ t : Ty, storable (zeros t) = true
 | .i _ => rfl
 | .b => rfl
 | .s => rfl
 | .sl _ _ => rfl
 | .ow _ _ => rfl
 | .pr x y => by
  have app : ∀ l m, storable l = true → storable m = true → storable (l ++ m) = true := by
   intro l m hl hm
   induction l with
   | nil => exact hm
   | cons x l ih => cases x <;> first | (simp [storable] at hl; done) | exact ih (by simpa [storable] using hl)
  exact app _ _ (zeros_storable x) (zeros_storable y)
theorem zeros_ok {P : Program} : ∀ (t : Ty), szB P t = true → ∀ (f : Nat → Lab) (j : Nat), LfsOk P S f j (zeros t) (zcells t)
 | .i _, _, _, _ => ⟨⟨rfl, rfl⟩, trivial⟩
 | .b, _, _, _ => ⟨⟨rfl, rfl⟩, trivial⟩
 | .s, _, _, _ => ⟨⟨rfl, rfl⟩, trivial⟩
 | .sl e r, h, f, j => ⟨own_nil (by simp only [szB, Bool.and_eq_true, beq_iff_eq] at h; exact h.1), trivial⟩
 | .ow e r, h, f, j => ⟨own_nil (by simp only [szB, Bool.and_eq_true, beq_iff_eq] at h; exact h.1), trivial⟩
 | .pr x y, h, f, j => by
  simp [szB] at h
  exact LfsOk.app (zeros_ok x h.1 f j) (zeros_ok y h.2 f _)
theorem tok_zero {P : Program} {w : World} {T : TypeId} {t : TI} (h : TOk P T t) : ∃ v, (zeroValue T).run P w = .ok v w ∧ v.cells = (zcells t.ty).toArray ∧ (if t.ag then v = .agg (zcells t.ty).toArray else zcells t.ty = [v]) := by
 obtain ⟨i, h1, h2, h3, h4, h5⟩ := h.info
 refine ⟨if t.ag then .agg (zcells t.ty).toArray else (zcells t.ty).headD undef, ?_, ?_, ?_⟩
 ·simp [zeroValue, typeInfo, h1, h4]
 ·cases ha : t.ag with
  | true => rfl
  | false =>
   rw [if_neg (by simp)]
   have h6 := h5 ha
   have hone := one_of (S := ⟨fun _ => .no, fun _ => (0, 0), fun _ => (0, .one .dead), fun _ => undef, w⟩) (zeros_storable t.ty) (zeros_ok t.ty h.sz (fun _ => .no) 0)
   generalize (zcells t.ty).headD undef = v at h6
   rw [h6] at hone ⊢
   have := hone v (by simp)
   cases v <;> first | (simp [Value.oneCell'] at this; done) | rfl
 ·cases ha : t.ag with
  | true => rfl
  | false => exact h5 ha
theorem newptr (K : Okay X S a) {A1 : Ab} (hg : S.g = get A1) {T : TypeId} {m : List Lf} {us : List Value} {q : Nat → List Nat} {d : Nat} (hd : d < X.nt) (hl : LfsOk X.P S (fun j => .tm 0 (q j)) 0 m us)
  (hq : ∀ j, j < m.length → boxH d 0 0 (q j) = some (.pl (C d (0 + j)) [])) (hm : m.length < 999) (hst : ∀ k, .hd k ∉ m) (hnp : X.np ≤ d) :
  ∃ S', Okay X S' (a.put (some d) (.pointer (some ⟨S.w.heap.size, 0, none⟩))) ∧ S'.w = S.w.alloc (.cells us.toArray T) ∧
   S'.g = get (ups A1 (⟨H d, false, .one (.hd m.length)⟩ :: putCells d 0 m ++ [⟨d, false, .one (.bp d ((get A1 (H d)).1 + 1) 0)⟩])) := by
 have hlen := hl.len
 have hd1 : d < 1000 := Nat.lt_of_lt_of_le hd K.nt
 obtain ⟨K1, L1⟩ := K.grow (w' := S.w.alloc (.cells us.toArray T)) (row := none) (O' := fun k => if k = S.w.heap.size then .tm 1 [] else S.O k) (World.grownBy_alloc _ _ _) (by simp)
  (fun k hk _ => by show (if k = S.w.heap.size then _ else _) = _; rw [if_neg (by omega)])
  (fun k hk => by
   show k < (S.w.heap.push _).size
   rw [Array.size_push]
   by_cases h : k = S.w.heap.size
   ·omega
   ·simp only [h, if_false] at hk
    have := K.lt k hk
    omega)
 have hl1 : LfsOk X.P (groS S (S.w.alloc (.cells us.toArray T)) (fun k => if k = S.w.heap.size then .tm 1 [] else S.O k)) (fun j => .tm 0 (q j)) 0 m us := by
  refine hl.imp (fun j x u hx => hx.later L1 (fun k hk => ?_))
  have hkl : k < S.w.heap.size := K.lt k (by simp [hk])
  refine ⟨?_, heap_alloc_old _ _ _ hkl⟩
  show (if k = S.w.heap.size then _ else _) = _
  rw [if_neg (by omega)]
  exact hk
 obtain ⟨K2, L2⟩ := K1.newbox (d := d) (k := S.w.heap.size) (o := 0) (n0 := 1) (l0 := []) (by show (if _ then _ else _) = _; rw [if_pos rfl]) (by decide) K.fr.size (heap_alloc_new _ _) (by simp [hlen]) (by intro j hj; simp) hl1 hq hm hst hnp hd1
 have hv : ((boxS (groS S (S.w.alloc (.cells us.toArray T)) (fun k => if k = S.w.heap.size then .tm 1 [] else S.O k)) d S.w.heap.size 0 m us).g (H d)).1 = (S.g (H d)).1 + 1 := by
  show (gput (upd S.g (H d) _) d 0 m (H d)).1 = _
  unfold gput
  rw [if_neg (heads_apart (by omega)), upd_same]
  rfl
 have K3 := K2.put0 hd (.one (.bp d ((S.g (H d)).1 + 1) 0)) (.pointer (some ⟨S.w.heap.size, 0, none⟩)) 0 rfl ⟨by rw [hv]; exact Nat.le_refl _, fun _ => by
  show Value.pointer _ = .pointer (some ⟨(upd S.bb d (S.w.heap.size, 0) d).1, (upd S.bb d (S.w.heap.size, 0) d).2 + 0, none⟩)
  rw [upd_same]⟩
 have e1 : (boxS (groS S (S.w.alloc (.cells us.toArray T)) (fun k => if k = S.w.heap.size then .tm 1 [] else S.O k)) d S.w.heap.size 0 m us).g = get (ups A1 (⟨H d, false, .one (.hd m.length)⟩ :: putCells d 0 m)) := by
  show gput (upd S.g (H d) ((S.g (H d)).1 + 1, .one (.hd m.length))) d 0 m = get (ups (up A1 ⟨H d, false, .one (.hd m.length)⟩) (putCells d 0 m))
  rw [get_putCells, get_up, ← hg]
  rfl
 refine ⟨_, K3, rfl, ?_⟩
 show upd (boxS (groS S (S.w.alloc (.cells us.toArray T)) (fun k => if k = S.w.heap.size then .tm 1 [] else S.O k)) d S.w.heap.size 0 m us).g d _ = _
 rw [ups_append, get_ups1, ← e1, ← hg]
theorem st_alloc (hE : EnOk X E) (K : Okay X S a) (hg : S.g = get A) {T : TypeId} {d : Nat} (ho : o.op = .alloc T) (hod : o.dst = some d) (hd : d < X.nt) (h : step E o A Kc = some r) : After X o a S.w A Kc r := by
 unfold step at h
 rw [ho, hod] at h
 simp only at h
 split at h
 ·rename_i ti hti
  cases hq : (Nat.blt ti.ty.sz 999 && Nat.ble E.np d) with
  | false => rw [hq] at h; simp at h
  | true =>
   rw [hq, cond_true] at h
   simp only [Bool.and_eq_true] at hq
   have hlt : ti.ty.sz < 999 := Nat.le_of_ble_eq_true hq.1
   have hnp : X.np ≤ d := hE.np ▸ (Nat.le_of_ble_eq_true hq.2)
   have ht := hE.ti _ _ hti
   obtain ⟨v, h1, h2, _⟩ := tok_zero (w := S.w) ht
   obtain ⟨S', K', w', g'⟩ := newptr K hg (T := T) (m := zeros ti.ty) (us := zcells ti.ty) (q := fun j => [j]) hd (zeros_ok ti.ty ht.sz _ 0) (fun j hj => rfl) (by rw [zeros_len]; exact hlt) (storable_nohd (zeros_storable _)) hnp
   rw [zeros_len] at g'
   refine ⟨_, h, goes_value (S := S') (v := .pointer (some ⟨S.w.heap.size, 0, none⟩)) ?_ (by rw [hod]; exact K') g'⟩
   rw [w']
   unfold execOp
   simp [ho, Instr.alloc, h1, newVar, newRow, h2]
 ·cases h
theorem storableA_own : ∀ {l : List Lf}, storableA A l = true → ownIn l = false
 | [], _ => rfl
 | x :: l, h => by
  have rest : storableA A l = true := by
   cases x <;> first | (simp [storableA] at h; done) | (simp only [storableA, Bool.and_eq_true] at h; exact h.2) | simpa [storableA] using h
  cases x <;> first | (simp [storableA] at h; done) | exact storableA_own (l := l) rest
theorem one_ofA (K : Okay X S a) (hg : S.g = get A) {f : Nat → Lab} : ∀ {l : List Lf} {j : Nat} {us : List Value}, storableA A l = true → LfsOk X.P S f j l us → (∀ u ∈ us, u.oneCell' = true) ∧ ∀ k, .hd k ∉ l
 | [], _, [], _, _ => by simp
 | [], _, _ :: _, _, h => h.elim
 | _ :: _, _, [], _, h => h.elim
 | x :: l, j, u :: us, hst, h => by
  have rest : storableA A l = true := by
   cases x <;> first | (simp [storableA] at hst; done) | (simp only [storableA, Bool.and_eq_true] at hst; exact hst.2) | simpa [storableA] using hst
  obtain ⟨r1, r2⟩ := one_ofA K hg rest h.2
  refine ⟨fun v hv => ?_, fun k hk => ?_⟩
  ·rcases List.mem_cons.1 hv with hv | hv
   ·rw [hv]
    have one : storable [x] = true → u.oneCell' = true := fun hs => one_of (P := X.P) (S := S) (f := f) (l := [x]) (j := j) (us := [u]) hs ⟨h.1, trivial⟩ u (by simp)
    cases x with
    | al p v =>
     simp only [storableA, Bool.and_eq_true] at hst
     obtain ⟨lab', h4⟩ := seen_ok K hg h.1
     have h3 := hst.1
     split at h3
     ·rename_i hs
      rw [hs] at h4
      obtain ⟨ad, cap, e1⟩ := len_of_own (X := X) h4
      rw [e1]; rfl
     ·rename_i hs
      rw [hs] at h4
      obtain ⟨ad, cap, e1⟩ := len_of_fz (X := X) h4
      rw [e1]; rfl
     ·cases h3
    | sc w => exact one rfl
    | fz e r xs => exact one rfl
    | _ => simp [storableA] at hst
   ·exact r1 v hv
  ·rcases List.mem_cons.1 hk with rfl | hk
   ·simp [storableA] at hst
   ·exact r2 k hk
theorem st_box (hE : EnOk X E) (K : Okay X S a) (hg : S.g = get A) {T : TypeId} {x : Operand} {d : Nat} (ho : o.op = .box T x) (hod : o.dst = some d) (hd : d < X.nt) (h : step E o A Kc = some r) : After X o a S.w A Kc r := by
 unfold step at h
 rw [ho, hod] at h
 simp only at h
 split at h
 ·rename_i ti s hti hs
  cases hmv : mvO E x with
  | true =>
   rw [hmv, cond_true] at h
   cases hq : (storableA A (parts s) && Nat.beq (parts s).length ti.ty.sz && Nat.blt ti.ty.sz 999 && Nat.ble E.np d) with
   | false => rw [hq] at h; simp at h
   | true =>
    rw [hq, cond_true] at h
    simp only [Bool.and_eq_true] at hq
    obtain ⟨⟨⟨q1, q2⟩, q3⟩, q4⟩ := hq
    have hnp : X.np ≤ d := hE.np ▸ (Nat.le_of_ble_eq_true q4)
    have hlt : ti.ty.sz < 999 := Nat.le_of_ble_eq_true q3
    have hlen : (parts s).length = ti.ty.sz := Nat.eq_of_beq_eq_true q2
    have ht := hE.ti _ _ hti
    have hnt := parts_nt (X := X) (s := s) rfl hlen ht
    obtain ⟨pl, hsv⟩ := opT_ex hE K hg hs
    have hown := storableA_own q1
    obtain ⟨us, hsh, hls⟩ : ∃ us, Shape s (a.eval x) us ∧ LfsOk X.P S (fun n => .tm 0 (pth s n)) 0 (parts s) us := by
     cases s with
     | one y => exact ⟨[_], rfl, LfsOk.relab (f := fun _ => .pl pl []) (xs := [y]) hown ⟨hsv, trivial⟩⟩
     | agg l =>
      obtain ⟨us, e1, e2⟩ := hsv
      exact ⟨us, e1, e2.relab hown⟩
     | tup vs => exact absurd rfl (hnt vs)
    obtain ⟨hone, hnohd⟩ := one_ofA K hg q1 hls
    obtain ⟨S', K', w', g'⟩ := newptr K hg (T := T) hd hls (boxH_q rfl hnt) (by rw [hlen]; exact hlt) hnohd hnp
    rw [hlen] at g'
    refine ⟨_, h, goes_value (S := S') (v := .pointer (some ⟨S.w.heap.size, 0, none⟩)) ?_ (by rw [hod]; exact K') g'⟩
    rw [w']
    unfold execOp
    simp [ho, Instr.box, newVar, newRow, shape_cells hsh hnt hone]
  | false =>
  rw [hmv, cond_false] at h
  cases hq : (storable ((parts s).map (kept A)) && Nat.beq ((parts s).map (kept A)).length ti.ty.sz && Nat.blt ti.ty.sz 999 && Nat.ble E.np d) with
  | false => rw [hq] at h; simp at h
  | true =>
   rw [hq, cond_true] at h
   simp only [Bool.and_eq_true] at hq
   obtain ⟨⟨⟨q1, q2⟩, q3⟩, q4⟩ := hq
   have hnp : X.np ≤ d := hE.np ▸ (Nat.le_of_ble_eq_true q4)
   have hlt : ti.ty.sz < 999 := Nat.le_of_ble_eq_true q3
   have hlen : ((parts s).map (kept A)).length = ti.ty.sz := Nat.eq_of_beq_eq_true q2
   have ht := hE.ti _ _ hti
   have hnt := parts_nt (X := X) (s := s) (by simp) hlen ht
   obtain ⟨S1, K1, g1, w1, b1, p1, L1, x1, heads, _, us, hsh, hls⟩ := taken hE K hg hs hnt 0
   obtain ⟨S', K', w', g'⟩ := newptr K1 g1 (T := T) hd hls (boxH_q (by simp) hnt) (by rw [hlen]; exact hlt) (storable_nohd q1) hnp
   have hv : (get (ups A (costs A (parts s) ++ gone x s)) (H d)).1 = (get A (H d)).1 := by rw [← g1, ← hg]; exact (heads d).1
   rw [hv, hlen, ← ups_append] at g'
   refine ⟨_, h, goes_value (S := S') (v := .pointer (some ⟨S1.w.heap.size, 0, none⟩)) ?_ (by rw [hod]; exact K') g'⟩
   rw [w', w1]
   unfold execOp
   simp [ho, Instr.box, newVar, newRow, shape_cells hsh hnt (one_of q1 hls)]
 ·cases h
theorem fill_one : ∀ (us : List Value) (n off : Nat) (cells : Array Value), off + n + us.length ≤ cells.size →
  (us.zipIdx n).foldl (fun cs (x : Value × Nat) => cs.setIfInBounds (off + x.2) x.1) cells = (cells.toList.take (off + n) ++ us ++ cells.toList.drop (off + n + us.length)).toArray
 | [], n, off, cells, h => by simp
 | c :: us, n, off, cells, h => by
  simp only [List.length_cons] at h
  simp only [List.zipIdx_cons, List.foldl_cons]
  rw [fill_one us (n + 1) off _ (by simp; omega)]
  have hlt : off + n < cells.toList.length := by rw [Array.length_toList]; omega
  congr 1
  rw [Array.toList_setIfInBounds]
  have e1 : (cells.toList.set (off + n) c).take (off + (n + 1)) = cells.toList.take (off + n) ++ [c] := by
   rw [← Nat.add_assoc, List.take_add_one, List.getElem?_set_self hlt, List.take_set_of_le (Nat.le_refl _)]
   rfl
  have e2 : (cells.toList.set (off + n) c).drop (off + (n + 1) + us.length) = cells.toList.drop (off + n + (c :: us).length) := by
   rw [List.drop_set_of_lt (by omega)]
   congr 1
   simp only [List.length_cons]
   omega
  rw [e1, e2]
  simp
theorem fill_cons {place : Nat → Option (Nat × Nat)} {cells : Array Value} {i off z : Nat} {v : Value} {us : List Value} {rest : List (Nat × Value)} (hp : place i = some (off, z)) (hv : v.cells = us.toArray) (hz : us.length = z) (hle : off + z ≤ cells.size) :
  Instr.fill place cells ((i, v) :: rest) = Instr.fill place (cells.toList.take off ++ us ++ cells.toList.drop (off + z)).toArray rest := by
 subst hz
 have hf := fill_one us 0 off cells (by omega)
 simp only [Nat.add_zero] at hf
 simp only [Instr.fill, hp, hv, List.size_toArray]
 rw [if_neg (by simp; omega)]
 congr 1
 rw [← hf]
 simp
def leafH (off : Nat) : Nat → List Nat → Option Lab := fun n q => if n = 1 then (match q with
 | [] => some (.tm 0 [off])
 | [j] => some (.tm 0 [off + j])
 | _ => none) else none
theorem leafH_no (off : Nat) : ∀ n q, leafH off n q ≠ some .no := by
 intro n q
 unfold leafH
 split
 ·split <;> simp
 ·simp
theorem leafH_q {s : Sv} {off : Nat} {m : List Lf} (hm : m.length = (parts s).length) (hnt : ∀ vs, s ≠ .tup vs) : ∀ j, j < m.length → leafH off 1 (pth s j) = some (.tm 0 [off + j]) := by
 intro j hj
 cases s with
 | one x =>
  have : j = 0 := by simp [parts] at hm; omega
  subst this
  rfl
 | agg l => rfl
 | tup vs => exact absurd rfl (hnt vs)
theorem nt_of_len {s : Sv} {m : List Lf} {z : Nat} (hm : m.length = (parts s).length) (h : m.length = z) (hz : 0 < z) : ∀ vs, s ≠ .tup vs := by
 intro vs e
 subst e
 simp [parts] at hm
 simp [hm] at h
 omega
theorem buildP_ok (hE : EnOk X E) {T : TypeId} {t : TI} (ht : TOk X.P T t) {fs : Array Field} (hfs : fieldsB X.P fs.toList t.fo = true) (places : List (Nat × Nat)) (hpl : ∀ i o, nth t.fo i = some o → places[i]? = some (o.1, o.2.1)) :
  ∀ (ps : List (Nat × Operand)) {S : Sit} {A : Ab} {l : List Lf} {us0 : List Up} {cs : List Value} {l' : List Lf} {us' : List Up}, Okay X S a → S.g = get A → LfsOk X.P S (fun j => .tm 0 [j]) 0 l cs → storable l = true → buildP E A t l us0 ps = some (l', us') →
  ∃ S' U cs', us' = us0 ++ U ∧ Okay X S' a ∧ S'.g = get (ups A U) ∧ S'.w = S.w ∧ LfsOk X.P S' (fun j => .tm 0 [j]) 0 l' cs' ∧ l'.length = l.length ∧
   Instr.fill (places.toArray[·]?) cs.toArray (ps.map fun p => (p.1, a.eval p.2)) = some cs'.toArray
 | [], S, A, l, us0, cs, l', us', K, hg, hl, hst, h => by
  simp only [buildP, Option.some.injEq, Prod.mk.injEq] at h
  obtain ⟨rfl, rfl⟩ := h
  exact ⟨S, [], cs, by simp, K, hg, rfl, hl, rfl, rfl⟩
 | (i, x) :: ps, S, A, l, us0, cs, l', us', K, hg, hl, hst, h => by
  simp only [buildP] at h
  split at h
  ·cases h
  ·rename_i off z ag hn
   have hpi := hpl i _ hn
   obtain ⟨fd, _, _, _, hz0, _⟩ := fields_get hfs hn
   simp only at hz0
   have hlen := hl.len
   split at h
   ·-- the literal nil
    cases hb : Nat.beq z 1 with
    | false => rw [hb] at h; simp at h
    | true =>
     rw [hb, cond_true] at h
     have hz1 : z = 1 := Nat.eq_of_beq_eq_true hb
     subst hz1
     split at h
     ·rename_i e r' hleaf
      rw [nth_eq] at hleaf
      have hoff : off < l.length := (List.getElem?_eq_some_iff.1 hleaf).1
      have hl2 : LfsOk X.P S (fun j => .tm 0 [j]) 0 l (cs.take off ++ [.slice none 0 0] ++ cs.drop (off + 1)) := by
       have hsz : SzOk X.P e r'.sz := by
        obtain ⟨x', u', e1, _, _, e4⟩ := hl.at off hoff
        rw [List.getD_eq_getElem?_getD, hleaf] at e1
        simp only [Option.getD_some] at e1
        subst e1
        exact OwnOk.top e4 |>.1
       have h1 := LfsOk.setAll (P := X.P) (S := S) (f := fun j => .tm 0 [j]) (l := l) (us := cs) (m := [.own e r' []]) (ms := [.slice none 0 0]) (off := off) (hl.take off) ⟨own_nil hsz, trivial⟩ (by have := hl.drop (off + 1); rwa [Nat.zero_add] at this) (by simp only [List.length_singleton]; omega)
       have h2 : Vf.setAll l off [.own e r' []] = l := by
        unfold Vf.setAll
        rw [List.getElem?_eq_getElem hoff] at hleaf
        simp only [Option.some.injEq] at hleaf
        rw [← hleaf]
        simp only [List.length_singleton, List.append_assoc, List.singleton_append]
        rw [← List.drop_eq_getElem_cons hoff, List.take_append_drop]
       rw [h2] at h1
       exact h1
      obtain ⟨S', U, cs', e1, K', g', w', l1, l2, hf⟩ := buildP_ok hE ht hfs places hpl ps K hg hl2 hst h
      refine ⟨S', U, cs', e1, K', g', w', l1, l2, ?_⟩
      rw [List.map_cons, fill_cons (us := [.slice none 0 0]) (off := off) (z := 1) (by simpa using hpi) rfl rfl (by simp; omega)]
      exact hf
     ·cases h
   ·split at h
    ·rename_i s hs
     cases hq : (storable ((parts s).map (kept A)) && Nat.beq ((parts s).map (kept A)).length z && Nat.ble (off + z) l.length) with
     | false => rw [hq] at h; simp at h
     | true =>
      rw [hq, cond_true] at h
      simp only [Bool.and_eq_true] at hq
      obtain ⟨⟨q1, q2⟩, q3⟩ := hq
      have hmz : ((parts s).map (kept A)).length = z := Nat.eq_of_beq_eq_true q2
      have hle : off + z ≤ l.length := Nat.le_of_ble_eq_true q3
      have hnt := nt_of_len (s := s) (by simp) hmz hz0
      obtain ⟨S1, K1, g1, w1, b1, p1, L1, x1, heads, tms, us, hsh, hls⟩ := taken hE K hg hs hnt 1
      obtain ⟨K2, L2⟩ := K1.names (leafH off) (leafH_no off)
      have hone := one_of q1 hls
      have hul := hls.len
      have old : ∀ j x u, LfOk X.P S (.tm 0 [j]) x u → LfOk X.P { S1 with O := atO S1.O (leafH off) } (.tm 0 [j]) x u := fun j x u hx =>
       (tms 0 [j] x u hx).later L2 (fun k hk => ⟨atO_keep hk (by simp [leafH]), rfl⟩)
      have hl2 := LfsOk.setAll (P := X.P) (S := { S1 with O := atO S1.O (leafH off) }) (f := fun j => .tm 0 [j]) (l := l) (us := cs) (m := (parts s).map (kept A)) (ms := us) (off := off)
       ((hl.take off).imp (fun j x u hx => old j x u hx))
       (by
        have h1 : LfsOk X.P { S1 with O := atO S1.O (leafH off) } (fun j => .tm 0 [off + j]) 0 ((parts s).map (kept A)) us := by
         refine LfsOk.impAt (fun n _ n2 x u hx => ?_) hls
         exact hx.later L2 (fun k hk => ⟨atO_tm hk (leafH_q (m := (parts s).map (kept A)) (by simp) hnt n (by omega)), rfl⟩)
        have shiftBack : ∀ (m : List Lf) (us : List Value) (i : Nat), LfsOk X.P { S1 with O := atO S1.O (leafH off) } (fun j => .tm 0 [off + j]) i m us → LfsOk X.P { S1 with O := atO S1.O (leafH off) } (fun j => .tm 0 [j]) (off + i) m us := by
         intro m
         induction m with
         | nil => intro us i h; cases us <;> first | trivial | exact h.elim
         | cons x m ih =>
          intro us i h
          cases us with
          | nil => exact h.elim
          | cons u us => exact ⟨h.1, ih us (i + 1) h.2⟩
        exact shiftBack _ _ 0 h1)
       (by
        have := (hl.drop (off + ((parts s).map (kept A)).length)).imp (S' := { S1 with O := atO S1.O (leafH off) }) (f' := fun j => .tm 0 [j]) (fun j x u hx => old j x u hx)
        rwa [Nat.zero_add] at this) (by rw [hmz]; exact hle)
      have hst2 : storable (Vf.setAll l off ((parts s).map (kept A))) = true := by
       have tk : ∀ (l : List Lf) n, storable l = true → storable (l.take n) = true := by
        intro l
        induction l with
        | nil => intro n _; cases n <;> rfl
        | cons x l ih =>
         intro n h
         cases n with
         | zero => rfl
         | succ n => cases x <;> first | (simp [storable] at h; done) | exact ih n (by simpa [storable] using h)
       have dr : ∀ (l : List Lf) n, storable l = true → storable (l.drop n) = true := by
        intro l
        induction l with
        | nil => intro n _; cases n <;> rfl
        | cons x l ih =>
         intro n h
         cases n with
         | zero => exact h
         | succ n => cases x <;> first | (simp [storable] at h; done) | exact ih n (by simpa [storable] using h)
       have app : ∀ l m, storable l = true → storable m = true → storable (l ++ m) = true := by
        intro l m hl hm
        induction l with
        | nil => exact hm
        | cons x l ih => cases x <;> first | (simp [storable] at hl; done) | exact ih (by simpa [storable] using hl)
       exact app _ _ (app _ _ (tk _ _ hst) q1) (dr _ _ hst)
      obtain ⟨S', U, cs', e1, K', g', w', l1, l2, hf⟩ := buildP_ok hE ht hfs places hpl ps K2 g1 hl2 hst2 h
      refine ⟨S', (costs A (parts s) ++ gone x s) ++ U, cs', by rw [e1, List.append_assoc], K', by rw [ups_append]; exact g', w'.trans w1, l1, l2.trans ?_, ?_⟩
      ·unfold Vf.setAll
       simp only [List.length_append, List.length_take, List.length_drop]
       omega
      ·rw [List.map_cons, fill_cons (us := us) (off := off) (z := z) (by simpa using hpi) (shape_cells hsh hnt hone) (hul.trans hmz) (by simp; omega)]
       rw [hmz] at hf
       exact hf
    ·cases h
theorem mapM_sizes {P : Program} {w : World} : ∀ (fs : List Field) (os : List (Nat × Nat × Bool)), fieldsB P fs os = true → (fs.mapM (fun f => do pure (f.offset, ← sizeOf f.type) : Field → Sem (Nat × Nat))).run P w = .ok (os.map fun o => (o.1, o.2.1)) w
 | [], [], _ => rfl
 | [], _ :: _, h => by simp [fieldsB] at h
 | _ :: _, [], h => by simp [fieldsB] at h
 | f :: fs, o :: os, h => by
  simp only [fieldsB, Bool.and_eq_true] at h
  obtain ⟨⟨⟨⟨⟨h1, h2⟩, _⟩, _⟩, _⟩, h5⟩ := h
  have e1 : f.offset = o.1 := by simpa using h1
  have e2 : (P.info? f.type).map (fun i => i.size) = some o.2.1 := by simpa using h2
  rw [List.mapM_cons]
  simp only [Sem.run_bind, info_size e2, Result.andThen_ok, Sem.run_pure, mapM_sizes fs os h5, e1, List.map_cons]
theorem st_build (hE : EnOk X E) (K : Okay X S a) (hg : S.g = get A) {T : TypeId} {ps : Array (Nat × Operand)} {d : Nat} (ho : o.op = .build T ps) (hod : o.dst = some d) (hd : d < X.nt) (h : step E o A Kc = some r) : After X o a S.w A Kc r := by
 unfold step at h
 rw [ho, hod] at h
 simp only at h
 split at h
 ·rename_i ti hti
  split at h
  ·rename_i l us hb
   cases hag : ti.ag with
   | false => rw [hag] at h; simp at h
   | true =>
    rw [hag, cond_true] at h
    have ht := hE.ti _ _ hti
    obtain ⟨fs, hu, hfs⟩ := struct_of ht hag
    obtain ⟨v, z1, z2, z3⟩ := tok_zero (w := S.w) ht
    obtain ⟨S1, U, cs', e1, K1, g1, w1, l1, _, hf⟩ := buildP_ok hE ht hfs (ti.fo.map fun o => (o.1, o.2.1)) (fun i o' hi => by rw [nth_eq] at hi; rw [List.getElem?_map, hi]; rfl) ps.toList K hg (zeros_ok ti.ty ht.sz (fun j => .tm 0 [j]) 0) (zeros_storable _) hb
    simp only [List.nil_append] at e1
    subst e1
    let hh : Nat → List Nat → Option Lab := fun n q => if n = 0 then some (.pl d q) else none
    have L2 := putS_later S1 hh d (.agg l) (.agg cs'.toArray)
    have hsv : SvOk X.P (putS S1 hh d (.agg l) (.agg cs'.toArray)) d (.agg l) (.agg cs'.toArray) := ⟨cs', rfl, l1.imp (fun j x u hx => hx.later L2 (fun k hk => ⟨atO_tm hk (by simp [hh]), rfl⟩))⟩
    have K2 := K1.put hd hh (by intro n q p hp; simp only [hh] at hp; split at hp <;> first | (cases hp; exact ⟨q, rfl⟩) | cases hp) _ _ hsv
    refine ⟨_, h, goes_value (S := putS S1 hh d (.agg l) (.agg cs'.toArray)) ?_ (by rw [hod]; exact K2) ?_⟩
    ·show _ = Result.ok _ S1.w
     rw [w1]
     unfold execOp
     simp only [ho, Sem.run_bind]
     unfold Instr.build
     simp only [Sem.run_bind, z1, Result.andThen_ok, run_underlying hu, z2]
     have hm := mapM_sizes (P := X.P) (w := S.w) fs.toList ti.fo hfs
     have hm2 : (fs.mapM (fun f => do pure (f.offset, ← sizeOf f.type) : Field → Sem (Nat × Nat))).run X.P S.w = .ok (ti.fo.map fun o => (o.1, o.2.1)).toArray S.w := by
      rw [Array.mapM_eq_mapM_toList, Sem.run_map, hm]
      rfl
     simp only [Sem.run_bind, Sem.run_pure] at hm2 ⊢
     rw [hm2]
     simp only [Result.andThen_ok]
     have e2 : (ps.map fun x => (x.1, a.eval x.2)).toList = ps.toList.map fun p => (p.1, a.eval p.2) := by simp
     rw [e2, hf]
     rfl
    ·show upd S1.g d _ = _
     rw [ups_append, get_ups1, ← g1]
  ·cases h
 ·cases h
end
end Go.Proofs.YtgocagaijgcnmaaGreat.Vf
end
