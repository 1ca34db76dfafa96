import Derived.Test.YtehkignjdbkeiaaMae
import Derived.Laws.MakeOwn
import Derived.Laws.OwnMore
import Derived.Laws.IdiomStrings
section
set_option linter.unusedVariables false
set_option linter.unusedSimpArgs false
namespace Go.Proofs.Ytehkignjdbkeiaa.Vf
open Go
attribute [local irreducible] C H
section
variable {X : Cx} {S S' : Sit} {a : Act} {E : En} {A : Ab} {o : Oper} {R : Type} {Kc : List Up → Option R} {r : R}
theorem Okay.names (K : Okay X S a) (h : Nat → List Nat → Option Lab) (hno : ∀ n q, h n q ≠ some .no) : Okay X { S with O := atO S.O h } a ∧ Later S { S with O := atO S.O h } := by
 have L : Later S { S with O := atO S.O h } := ⟨fun _ => Nat.le_refl _, fun _ _ => rfl, fun p v e r xs' h _ => ⟨xs', h, rfl⟩, fun _ _ => rfl, fun k hk => ⟨atO_other hk (by simp), rfl⟩, Later.box_of (fun _ _ _ h => h) (fun k b h => ⟨atO_other h (by simp), rfl⟩), fun p _ hd => ⟨hd, fun _ _ _ h => h, fun k hk => ⟨.inl (atO_other hk (by simp)), rfl⟩⟩⟩
 exact ⟨K.ghost _ _ (fun k e => atO_other e (by simp)) (fun k e1 e2 => e1 (atO_other e2 (by simp))) (fun k e => atO_other e (by simp)) (fun k b e => atO_other e (by simp)) (fun _ _ e => e)
  (fun l => (K.at_ l).later L (fun p k e => ⟨atO_other e (by simp), rfl⟩)), L⟩
def frzH (i : Nat) : Nat → List Nat → Option Lab := fun n _ => if n = i then some .fz else none
theorem calm_rep {P : Program} {S : Sit} {i : Nat} {q : Nat → List Nat} : ∀ {l : List Lf} {j : Nat} {us : List Value}, storable l = true → LfsOk P S (fun n => .tm i (q n)) j l us → All2 (LfRep P (fun k => atO S.O (frzH i) k = .fz) S.w) (l.map calm) us
 | [], _, [], _, _ => .nil
 | [], _, _ :: _, _, h => h.elim
 | _ :: _, _, [], _, h => h.elim
 | x :: l, j, u :: us, hst, h => by
  have hfz : ∀ k, S.O k = .fz → atO S.O (frzH i) k = .fz := fun k hk => atO_other hk (by simp)
  cases x with
  | sc v => exact .cons h.1 (calm_rep (by simpa [storable] using hst) h.2)
  | fz e r xs => exact .cons (Ty.rep_mono (t := .sl e r) hfz (fun _ _ => rfl) _ _ h.1) (calm_rep (by simpa [storable] using hst) h.2)
  | own e r xs =>
   refine .cons ?_ (calm_rep (by simpa [storable] using hst) h.2)
   have h1 : OwnOk P S.O S.w (.tm i (q j)) e r xs u := h.1
   exact h1.reads (O' := fun k => atO S.O (frzH i) k) hfz (fun k hk => atO_tm hk (by simp [frzH]))
  | _ => simp [storable] at hst
theorem storable_calm : ∀ l : List Lf, storable (l.map calm) = true → storable l = true
 | [], _ => rfl
 | x :: l, h => by
  cases x <;> first | (simp [storable, calm] at h; done) | exact storable_calm l (by simpa [storable, calm] using h)
theorem rep_storable {P : Program} {G : Nat → Prop} {w : World} {l : List Lf} {us : List Value} (h : All2 (LfRep P G w) l us) : storable l = true := by
 induction h with
 | nil => rfl
 | @cons x u xs us hx _ ih => cases x <;> first | exact ih | exact hx.elim
theorem owned_storable : ∀ {m : List Lf}, owned m = true → storable m = true
 | [], _ => rfl
 | x :: m, h => by
  cases x <;> first | (simp [owned] at h; done) | (simp only [owned] at h; simp only [storable]; exact owned_storable h)
theorem one_of {P : Program} {f : Nat → Lab} : ∀ {l : List Lf} {j : Nat} {us : List Value}, storable l = true → LfsOk P S f j l us → ∀ u ∈ us, u.oneCell' = true
 | [], _, [], _, _ => by simp
 | [], _, _ :: _, _, h => h.elim
 | _ :: _, _, [], _, h => h.elim
 | x :: l, j, u :: us, hst, h => by
  intro v hv
  rcases List.mem_cons.1 hv with rfl | hv
  ·cases x with
   | sc w =>
    obtain ⟨rfl, h2⟩ := h.1
    unfold isSc at h2
    split at h2 <;> first | rfl | cases h2
   | fz e r xs =>
    obtain ⟨ad, cap, e1⟩ := len_of_fz (X := ⟨P, fun _ => .no, S.w, fun _ => (0, 0), 0, 0⟩) h.1
    rw [e1]; rfl
   | own e r xs =>
    obtain ⟨ad, cap, e1⟩ := len_of_own (X := ⟨P, fun _ => .no, S.w, fun _ => (0, 0), 0, 0⟩) h.1
    rw [e1]; rfl
   | _ => simp [storable] at hst
  ·refine one_of (l := l) (us := us) ?_ h.2 v hv
   cases x <;> first | (simp [storable] at hst; done) | simpa [storable] using hst
theorem one_ofD {X : Cx} {S : Sit} {A : Ab} (hg : S.g = get A) {f : Nat → Lab} : ∀ {l : List Lf} {j : Nat} {us : List Value}, storableD A l = true → LfsOk X.P S f j l us → (∀ u ∈ us, u.oneCell' = true) ∧ ∀ k, .hd k ∉ l
 | [], _, [], _, _ => by simp
 | [], _, _ :: _, _, h => h.elim
 | _ :: _, _, [], _, h => h.elim
 | x :: l, j, u :: us, hst, h => by
  have rest : storableD A l = true := by
   cases x <;> first | (simp [storableD] at hst; done) | (simp only [storableD, Bool.and_eq_true] at hst; exact hst.2) | simpa [storableD] using hst
  obtain ⟨r1, r2⟩ := one_ofD hg rest h.2
  refine ⟨fun v hv => ?_, fun k hk => ?_⟩
  ·rcases List.mem_cons.1 hv with hv | hv
   ·rw [hv]
    have one : storable [x] = true → u.oneCell' = true := fun hs => one_of (P := X.P) (S := S) (f := f) (l := [x]) (j := j) (us := [u]) hs ⟨h.1, trivial⟩ u (by simp)
    cases x with
    | da p v pi e r xs =>
     simp only [storableD, Bool.and_eq_true] at hst
     obtain ⟨ad, cap, e1⟩ := len_of_da (X := X) h.1 (by rw [hg]; exact Nat.eq_of_beq_eq_true hst.1)
     rw [e1]; rfl
    | sc w => exact one rfl
    | fz e r xs => exact one rfl
    | own e r xs => exact one rfl
    | _ => simp [storableD] at hst
   ·exact r1 v hv
  ·rcases List.mem_cons.1 hk with rfl | hk
   ·simp [storableD] at hst
   ·exact r2 k hk
theorem shape_cells {s : Sv} {u : Value} {us : List Value} (hs : Shape s u us) (hnt : ∀ vs, s ≠ .tup vs) (h1 : ∀ v ∈ us, v.oneCell' = true) : u.cells = us.toArray := by
 cases s with
 | agg l => have : u = .agg us.toArray := hs; rw [this]; rfl
 | one x =>
  have : us = [u] := hs
  subst this
  have := h1 u (by simp)
  cases u <;> first | (simp [Value.oneCell'] at this; done) | rfl
 | tup vs => exact absurd rfl (hnt vs)
theorem parts_nt {s : Sv} {T : TypeId} {t : TI} {l : List Lf} (hl : l.length = (parts s).length) (h : l.length = t.ty.sz) (ht : TOk X.P T t) : ∀ vs, s ≠ .tup vs := by
 intro vs e
 subst e
 have : ∀ t : Ty, 0 < t.sz := by intro t; induction t <;> simp [Ty.sz] <;> omega
 have := this t.ty
 simp [parts] at hl
 simp [hl] at h
 omega
theorem run_storeAt {P : Program} {w : World} {T : TypeId} {t : TI} {x y : Operand} {k o' : Nat} {us : List Value} {c : Array Value} {e : TypeId} {u : Value} (ht : TOk P T t) (ho : o.op = .store T x y) (hx : a.eval x = .pointer (some ⟨k, o', none⟩)) (hy : a.eval y = u) (hu : u.cells = us.toArray)
  (hl : us.length = t.ty.sz) (hc : w.heap[k]? = some (.cells c e (0, 0))) (hle : o' + us.length ≤ c.size) (h1 : ∀ v ∈ us, v.oneCell' = true) :
  (execOp a.eval o).run P w = .ok .skip (w.setRow k (c.toList.take o' ++ us ++ c.toList.drop (o' + us.length)).toArray) := by
 have hst := run_storeCells_at P k o' e us 0 c w hc (by simpa using hle) h1
 simp only [Nat.add_zero] at hst
 unfold execOp
 simp only [ho, hx, hy, Instr.storeAt, Instr.sureAddr, Sem.run_bind, Sem.run_pure, Result.andThen_ok, storeVar, hu, info_size (tok_size ht), List.size_toArray]
 rw [if_neg (by simp [hl])]
 simp [hst]
theorem boxH_q {s : Sv} {b off : Nat} {m : List Lf} (hm : m.length = (parts s).length) (hnt : ∀ vs, s ≠ .tup vs) : ∀ j, j < m.length → boxH b off 0 (pth s j) = some (.pl (C b (off + j)) []) := by
 intro j hj
 cases s with
 | one x =>
  have : j = 0 := by simp [parts] at hm; omega
  subst this
  rfl
 | agg l => rfl
 | tup vs => exact absurd rfl (hnt vs)
theorem giveL_len {y : Operand} {s : Sv} {ts : List Ty} {m : List Lf} {us : List Up} (h : giveL A y s ts = some (m, us)) : m.length = (parts s).length := by
 unfold giveL at h
 split at h
 ·rename_i m0 vs0 ht
  cases hst : storable m0 with
  | false => rw [hst] at h; simp at h
  | true =>
   rw [hst] at h
   simp only [cond_true, Option.some.injEq, Prod.mk.injEq] at h
   obtain ⟨rfl, _⟩ := h
   exact (xferLs_len _ _ ht).1
 ·cases h
theorem storable_nohd {m : List Lf} (h : storable m = true) : ∀ k, .hd k ∉ m := by
 induction m with
 | nil => simp
 | cons x l ih =>
  intro k hk
  rcases List.mem_cons.1 hk with rfl | hk
  ·simp [storable] at h
  ·exact ih (by cases x <;> first | (simp [storable] at h; done) | simpa [storable] using h) k hk
theorem same_at {p : Nat} : ∀ (U : List Up) (A0 : Ab), apart p U = true → get (ups A0 U) p = get A0 p
 | [], A0, _ => rfl
 | u :: U, A0, hU => by
  simp only [apart, Bool.and_eq_true, Bool.not_eq_true'] at hU
  show get (ups (up A0 u) U) p = _
  rw [same_at U _ hU.2, get_up, upd_ne]
  intro e2
  rw [e2] at hU
  simp at hU
theorem LfsRep.setAll {P : Program} {G : Nat → Prop} {w : World} {l m : List Lf} {cs us : List Value} {off : Nat} (h : All2 (LfRep P G w) l cs) (hm : All2 (LfRep P G w) m us) :
  All2 (LfRep P G w) (Vf.setAll l off m) (cs.take off ++ us ++ cs.drop (off + us.length)) := by
 unfold Vf.setAll
 rw [hm.len]
 exact ((h.take off).append hm).append (h.drop _)
theorem own_store {P : Program} {O : Nat → Lab} {w : World} {p : Nat} {e : TypeId} {r' : Ty} {xs : List r'.den} {u : Value} {k cap i off : Nat} {cur : Array Value} {m : List Lf} {us : List Value} {z : r'.den}
  (hno : noOw r' = true) (h : OwnOk P O w (.pl p []) e r' xs u) (hu : u = .slice (some ⟨k, 0, none⟩) xs.length cap) (hc : w.heap[k]? = some (.cells cur e (0, 0))) (hk : O k = .pl p []) (hi : i < xs.length) (hm : All2 (LfRep P (fun k => O k = .fz) w) m us)
  (hz : mkW r' (Vf.setAll (lvs r' (xs.getD i r'.dflt)) off m) = some z) (hle : off + us.length ≤ r'.sz) :
  i * r'.sz + off + us.length ≤ cur.size ∧ OwnOk P O (w.setRow k (cur.toList.take (i * r'.sz + off) ++ us ++ cur.toList.drop (i * r'.sz + off + us.length)).toArray) (.pl p []) e r' (xs.set i z) u := by
 rw [OwnOk.flat hno]
 obtain ⟨hs, cs, hrow, hrows, hb⟩ := (OwnOk.flat hno).1 h
 rcases own_nil_or hrow with ⟨e1, _⟩ | ⟨k', cap', cur', e1, hcur, h1, h2, h3, h4⟩
 ·rw [hu] at e1; cases e1
 ·rw [hu] at e1
  cases e1
  rw [hc] at hcur
  cases hcur
  have hlt : (i + 1) * r'.sz ≤ xs.length * r'.sz := Nat.mul_le_mul_right _ hi
  have hcl : cs.length = xs.length * r'.sz := hrow.1
  have hcap : xs.length * r'.sz ≤ cap * r'.sz := Nat.mul_le_mul_right _ h1
  rw [Nat.add_mul, Nat.one_mul] at hlt
  have hget := hrows.get (Ty.rep_len r') i (xs.getD i r'.dflt) (by rw [List.getD_eq_getElem?_getD, List.getElem?_eq_getElem hi]; rfl)
  have hnew := mkW_rep hz (LfsRep.setAll (off := off) (lvs_rep _ _ _ hget) hm)
  have hrows2 := hrows.set (Ty.rep_len r') i z _ hi hnew
  rw [← splice (by omega) (by omega)] at hrows2
  refine ⟨by omega, hs, _, ⟨?_, .inr ⟨k, cap, _, by rw [List.length_set]; exact hu, Nat.zero_le _, setRow_heap _ _ _ _ _ _ hc, by rw [List.length_set]; exact h1, h2, ?_, ?_⟩⟩, hrows2.mono (fun x c => Ty.rep_mono (fun _ h => h) (fun j hj => setRow_other _ _ _ _ (fun e => by have : O k = .fz := e ▸ hj; rw [hk] at this; cases this)) r' x c), hb⟩
  ·simp only [List.length_append, List.length_take, List.length_drop, List.length_set]
   omega
  ·simp only [List.size_toArray, List.length_append, List.length_take, List.length_drop, Array.length_toList]
   omega
  ·rw [List.length_set, ← h4]
   exact take_splice (n := xs.length * r'.sz) (by omega) (by have h9 : cur.toList.length = cur.size := Array.length_toList; omega)
theorem Okay.rewrite (K : Okay X S a) {p n k : Nat} {e : TypeId} {r' : Ty} {xs ys : List r'.den} {w' : World} (hno : noOw r' = true) (hp : S.g p = (n, .one (.own e r' xs))) (hk : S.O k = .pl p []) (hold : ∀ j o', S.O j = o' → o' ≠ .pl p [] → w'.heap[j]? = S.w.heap[j]?)
  (hsz : w'.heap.size = S.w.heap.size) (h1 : w'.os = S.w.os) (h2 : w'.tape = S.w.tape) (h3 : w'.output = S.w.output) (hown : OwnOk X.P S.O w' (.pl p []) e r' ys (S.ph p)) (hlen : ys.length = xs.length) :
  Okay X { S with g := upd S.g p (n, .one (.own e r' ys)), w := w' } a ∧ ({ S with g := upd S.g p (n, .one (.own e r' ys)), w := w' } : Sit).g = upd S.g p (n, .one (.own e r' ys)) := by
 have L : Later S { S with g := upd S.g p (n, .one (.own e r' ys)), w := w' } := by
  refine ⟨fun q => ?_, fun _ _ => rfl, fun q v e2 r2 xs' hq hv => ?_, fun _ _ => rfl, fun j hj => ⟨hj, hold j _ hj (by simp)⟩, Later.box_of (fun b m hv hh => ?_) (fun j b h => ⟨h, hold j _ h (by simp)⟩), fun q hv hd => ?_⟩
  ·show _ ≤ (upd S.g p _ q).1
   by_cases h : q = p
   ·subst h; rw [upd_same, hp]; exact Nat.le_refl _
   ·rw [upd_ne _ _ h]; exact Nat.le_refl _
  ·have hq' : upd S.g p (n, .one (.own e r' ys)) q = (v, .one (.own e2 r2 xs')) := hq
   by_cases h : q = p
   ·subst h
    rw [upd_same] at hq'
    cases hq'
    exact ⟨xs, hp, hlen.symm⟩
   ·rw [upd_ne _ _ h] at hq'
    exact ⟨xs', hq', rfl⟩
  ·have hb : H b ≠ p := fun e => by subst e; rw [hp] at hh; cases hh
   exact (congrArg Prod.snd (upd_ne _ _ hb)).trans hh
  ·have h : q ≠ p := fun e => by subst e; rw [hp] at hd; simp [deepS, deepL, hno] at hd
   have e1 : ({ S with g := upd S.g p (n, .one (.own e r' ys)), w := w' } : Sit).g q = S.g q := upd_ne _ _ h
   rw [e1]
   exact ⟨hd, fun _ _ _ h => h, fun k hk => ⟨.inl hk, hold k _ hk (by simp [h])⟩⟩
 have F := K.fr
 refine ⟨⟨K.nt, fun j hj => by rw [show ({ S with g := upd S.g p (n, .one (.own e r' ys)), w := w' } : Sit).w = w' from rfl, hsz]; exact K.lt j hj, fun l => ?_, fun b m hb => ?_, fun b m hb => ?_, K.sl, K.sz, K.df, ⟨h1.trans F.os, h2.trans F.tape, h3.trans F.out, by rw [show ({ S with g := upd S.g p (n, .one (.own e r' ys)), w := w' } : Sit).w = w' from rfl, hsz]; exact F.size, fun j hj h0 => ?_, fun j hj h0 => ?_, fun j b hj h0 => ?_⟩⟩, rfl⟩
 ·show SvOk X.P _ l (upd S.g p _ l).2 _
  by_cases h : l = p
  ·subst h; rw [upd_same]; exact hown
  ·rw [upd_ne _ _ h]
   exact (K.at_ l).later L (fun q j hj => ⟨hj, hold j _ hj (by simp [h])⟩)
 ·have hne : H b ≠ p := by
   intro e2
   have : (upd S.g p (n, .one (.own e r' ys)) (H b)).2 = .one (.hd m) := hb
   rw [e2, upd_same] at this
   cases this
  have hb' : (S.g (H b)).2 = .one (.hd m) := by
   have : (upd S.g p (n, .one (.own e r' ys)) (H b)).2 = .one (.hd m) := hb
   rwa [upd_ne _ _ hne] at this
  obtain ⟨hn, c, e1, e2, e3, e4⟩ := K.box b m hb'
  exact ⟨hn, c, e1, (hold _ _ e3 (by simp)).trans e2, e3, e4⟩
 ·have hne : H b ≠ p := by
   intro e2
   have : (upd S.g p (n, .one (.own e r' ys)) (H b)).2 = .one (.hd m) := hb
   rw [e2, upd_same] at this
   cases this
  have hb' : (S.g (H b)).2 = .one (.hd m) := by
   have : (upd S.g p (n, .one (.own e r' ys)) (H b)).2 = .one (.hd m) := hb
   rwa [upd_ne _ _ hne] at this
  exact K.rgn b m hb'
 ·obtain ⟨f1, f2⟩ := F.no j hj h0
  exact ⟨f1, (hold j _ f1 (by simp)).trans f2⟩
 ·obtain ⟨f1, f2⟩ := F.fz j hj h0
  exact ⟨f1, (hold j _ f1 (by simp)).trans f2⟩
 ·obtain ⟨f1, c, c', e1, f, f2, f3, f4, f5⟩ := F.bx j b hj h0
  exact ⟨f1, c, c', e1, f, f2, (hold j _ f1 (by simp)).trans f3, f4, f5⟩
theorem st_store (hE : EnOk X E) (K : Okay X S a) (hg : S.g = get A) {T : TypeId} {x y : Operand} (ho : o.op = .store T x y) (hod : o.dst = none) (h : step E o A Kc = some r) : After X o a S.w A Kc r := by
 unfold step at h
 rw [ho, hod] at h
 simp only at h
 have skip : ∀ {S2 : Sit} {w : World} {A' : Ab}, (execOp a.eval o).run X.P w = .ok .skip S2.w → Okay X S2 a → S2.g = get A' → Goes X o a w A' := by
  intro S2 w A' hr K2 hg2
  refine goes_skip hr ?_ hg2
  rw [hod]
  exact K2
 split at h
 ·rename_i ti b v off s hti hsx hsy
  obtain ⟨pl, hsv⟩ := opT_ex hE K hg hsx
  have hlf : LfOk X.P S (.pl pl []) (.bp b v off) (a.eval x) := hsv
  cases hmv : mvO E y with
  | true =>
   rw [hmv, cond_true] at h
   split at h
   ·rename_i m vs hgive
    split at h
    ·rename_i n hd hp
     cases hq : (Nat.beq n v && Nat.beq m.length ti.ty.sz && Nat.ble (off + ti.ty.sz) hd) with
     | false => rw [hq] at h; simp at h
     | true =>
      rw [hq, cond_true] at h
      simp only [Bool.and_eq_true] at hq
      obtain ⟨⟨q1, q3⟩, q4⟩ := hq
      have hnv : n = v := by simpa using q1
      have hle : off + ti.ty.sz ≤ hd := Nat.le_of_ble_eq_true q4
      have hlen : m.length = ti.ty.sz := Nat.eq_of_beq_eq_true q3
      subst hnv
      have ht := hE.ti _ _ hti
      have hnt := parts_nt (X := X) (s := s) (giveL_len hgive) hlen ht
      have hh : (S.g (H b)).2 = .one (.hd hd) := by rw [hg, hp]
      obtain ⟨S1, K1, g1, G1, q2, _, us, hsh, hls⟩ := giveL_ok hE K hg (.inl hsy) hnt hgive 0
      have hh1 : (S1.g (H b)).2 = .one (.hd hd) := by rw [G1.heads b hd hh]; exact hh
      obtain ⟨_, c, e, c1, c2, c3, c4⟩ := K1.box b hd hh1
      have hpt : a.eval x = .pointer (some ⟨(S1.bb b).1, (S1.bb b).2 + off, none⟩) := by rw [G1.bb]; exact hlf.2 (by rw [hg, hp])
      have hul := hls.len
      have hone := one_of q2 hls
      obtain ⟨K2, L2⟩ := K1.cells (b := b) (off := off) hh1 (by rw [hlen]; exact hle) c1 hls (boxH_q (giveL_len hgive) hnt) (storable_nohd q2)
      have hr := run_storeAt (w := S1.w) ht ho hpt rfl (shape_cells hsh hnt hone) (hul.trans hlen) c1 (by omega) hone
      refine ⟨_, h, skip (by rw [← G1.w]; exact hr) K2 ?_⟩
      show gput S1.g b off _ = _
      rw [ups_append, get_putCells, ← g1]
    ·cases h
   ·cases h
  | false =>
  rw [hmv, cond_false] at h
  split at h
  ·rename_i n hd hp
   cases hq : (Nat.beq n v && storableD (ups A (costs A (parts s) ++ gone y s)) ((parts s).map (kept A)) && Nat.beq ((parts s).map (kept A)).length ti.ty.sz && Nat.ble (off + ti.ty.sz) hd) with
   | false => rw [hq] at h; simp at h
   | true =>
    rw [hq, cond_true] at h
    simp only [Bool.and_eq_true] at hq
    obtain ⟨⟨⟨q1, q2⟩, q3⟩, q4⟩ := hq
    have hnv : n = v := by simpa using q1
    have hle : off + ti.ty.sz ≤ hd := Nat.le_of_ble_eq_true q4
    have hlen : ((parts s).map (kept A)).length = ti.ty.sz := Nat.eq_of_beq_eq_true q3
    subst hnv
    have ht := hE.ti _ _ hti
    have hnt := parts_nt (X := X) (s := s) (by simp) hlen ht
    have hh : (S.g (H b)).2 = .one (.hd hd) := by rw [hg, hp]
    obtain ⟨S1, K1, g1, w1, b1, p1, L1, x1, heads, _, us, hsh, hls⟩ := taken hE K hg hsy hnt 0
    have hh1 : (S1.g (H b)).2 = .one (.hd hd) := by rw [(heads b).2 hd hh]; exact hh
    obtain ⟨_, c, e, c1, c2, c3, c4⟩ := K1.box b hd hh1
    have hpt : a.eval x = .pointer (some ⟨(S1.bb b).1, (S1.bb b).2 + off, none⟩) := by rw [b1]; exact hlf.2 (by rw [hg, hp])
    have hul := hls.len
    obtain ⟨hone, hnohd⟩ := one_ofD g1 q2 hls
    obtain ⟨K2, L2⟩ := K1.cells (b := b) (off := off) hh1 (by rw [hlen]; exact hle) c1 hls (boxH_q (by simp) hnt) hnohd
    have hr := run_storeAt (w := S1.w) ht ho hpt rfl (shape_cells hsh hnt hone) (hul.trans hlen) c1 (by omega) hone
    refine ⟨_, h, skip (by rw [← w1]; exact hr) K2 ?_⟩
    show gput S1.g b off _ = _
    rw [ups_append, get_putCells, ← g1]
  ·cases h
 ·rename_i ti p v i off s hti hsx hsy
  obtain ⟨pl, hsv⟩ := opT_ex hE K hg hsx
  have hlf : LfOk X.P S (.pl pl []) (.ep p v i off) (a.eval x) := hsv
  split at h
  ·rename_i n e r' xs hp
   cases hq : (Nat.beq n v && noOw r' && storable ((parts s).map (kept A)) && Nat.beq ((parts s).map fun x => calm (kept A x)).length ti.ty.sz && Nat.ble (off + ((parts s).map fun x => calm (kept A x)).length) r'.sz && apart p (costs A (parts s) ++ gone y s)) with
   | false => rw [hq] at h; simp at h
   | true =>
    rw [hq, cond_true] at h
    simp only [Bool.and_eq_true] at hq
    obtain ⟨⟨⟨⟨⟨q1, hno⟩, q2⟩, q3⟩, q4⟩, q5⟩ := hq
    have hnv : n = v := by simpa using q1
    have hlen : ((parts s).map fun x => calm (kept A x)).length = ti.ty.sz := Nat.eq_of_beq_eq_true q3
    have hle : off + ((parts s).map fun x => calm (kept A x)).length ≤ r'.sz := Nat.le_of_ble_eq_true q4
    subst hnv
    split at h
    ·rename_i z hz
     have ht := hE.ti _ _ hti
     have hnt := parts_nt (X := X) (s := s) (by simp) hlen ht
     obtain ⟨S1, K1, g1, w1, b1, p1, L1, x1, heads, _, us, hsh, hls⟩ := taken hE K hg hsy hnt 0
     have hul := hls.len
     have hone := one_of q2 hls
     have hrep := calm_rep q2 hls
     rw [List.map_map] at hrep
     rw [List.length_map] at hul hlen hle
     obtain ⟨K2, L2⟩ := K1.names (frzH 0) (by intro n q; unfold frzH; split <;> simp)
     have L12 := L1.trans L2
     have hp2 : ({ S1 with O := atO S1.O (frzH 0) } : Sit).g p = (n, .one (.own e r' xs)) := by
      show S1.g p = _
      rw [g1, same_at _ _ q5, hp]
     have hlf2 : LfOk X.P { S1 with O := atO S1.O (frzH 0) } .fz (.ep p n i off) (a.eval x) := (LfOk.relab (lab' := .fz) rfl hlf).later L12 (fun k hk => L12.fz k hk)
     obtain ⟨k, _, cur, cap, e1, _, _, hi, e4, e5, e6⟩ := ep_cells K2 hno hp2 hlf2
     have hown : OwnOk X.P (atO S1.O (frzH 0)) S1.w (.pl p []) e r' xs (S1.ph p) := by
      have h0 := K2.at_ p
      rw [hp2] at h0
      exact h0
     obtain ⟨hsz, hown3⟩ := own_store (us := us) hno hown e4 e5 e6 hi hrep hz (by omega)
     have hr := run_storeAt (w := S1.w) ht ho e1 rfl (shape_cells hsh hnt hone) (by omega) e5 hsz hone
     have hold : ∀ j, j ≠ k → (S1.w.setRow k (cur.toList.take (i.toNat * r'.sz + off) ++ us ++ cur.toList.drop (i.toNat * r'.sz + off + us.length)).toArray).heap[j]? = S1.w.heap[j]? := fun j hj => setRow_other _ _ _ _ hj
     have hne : ∀ j o', atO S1.O (frzH 0) j = o' → o' ≠ .pl p [] → (S1.w.setRow k (cur.toList.take (i.toNat * r'.sz + off) ++ us ++ cur.toList.drop (i.toNat * r'.sz + off + us.length)).toArray).heap[j]? = S1.w.heap[j]? := fun j o' hj ho' => hold j (fun e => ho' (by rw [← hj, e]; exact e6))
     obtain ⟨K3, g3⟩ := K2.rewrite hno hp2 e6 hne (by simp [World.setRow]) rfl rfl rfl hown3 (by simp)
     refine ⟨_, h, skip (by rw [← w1]; exact hr) K3 ?_⟩
     rw [g3, ups_append, get_keep, ← g1]
     show upd S1.g p _ = _
     congr 1
     have : S1.g p = (n, .one (.own e r' xs)) := hp2
     rw [this]
    ·cases h
  ·cases h
 ·rename_i ti p v q e r1 xs i off s hti hsx hsy
  obtain ⟨pl, hsv⟩ := opT_ex hE K hg hsx
  obtain ⟨hd', hda, hdp⟩ : LfOk X.P S (.pl pl []) (.dp p v (some q) e r1 xs i off) (a.eval x) := hsv
  split at h
  ·rename_i m us hgive
   split at h
   ·rename_i n E0 R0 XS hp
    cases hq : (Nat.beq n v && owned m && Nat.beq m.length ti.ty.sz && Nat.ble (off + m.length) r1.sz && apart p us && allOw R0) with
    | false => rw [hq] at h; simp at h
    | true =>
     rw [hq, cond_true] at h
     simp only [Bool.and_eq_true] at hq
     obtain ⟨⟨⟨⟨⟨q1, q2⟩, q3⟩, q4⟩, q5⟩, q6⟩ := hq
     have hnv : n = v := Nat.eq_of_beq_eq_true q1
     have hlen : m.length = ti.ty.sz := Nat.eq_of_beq_eq_true q3
     have hle : off + m.length ≤ r1.sz := Nat.le_of_ble_eq_true q4
     subst hnv
     split at h
     ·rename_i z hz
      split at h
      ·rename_i XS' hput
       have ht := hE.ti _ _ hti
       have hnt := parts_nt (X := X) (s := s) (give_len hgive) hlen ht
       obtain ⟨S1, K1, g1, G1, uv, hsh, hl⟩ := give_ok hE K hg hsy hnt hgive 0
       have hp0 : S.g p = (n, .one (.own E0 R0 XS)) := by rw [hg, hp]
       have hp1 : S1.g p = (n, .one (.own E0 R0 XS)) := by rw [g1, same_at _ _ q5, hp]
       obtain ⟨k, j, cur, e0, e1, e2, e3, K3⟩ := path_store (u := a.eval x) K1 hp1 (hda.later G1.later) (hdp (by rw [hp0])) q6 q2 hl (pth_inj hnt (give_len hgive)) hz hle hput
       have hone := one_of (owned_storable q2) hl
       have hul := hl.len
       have hr := run_storeAt (w := S1.w) ht ho e1 rfl (shape_cells hsh hnt hone) (hul.trans hlen) e2 e3 hone
       refine ⟨_, h, skip (by rw [← G1.w]; exact hr) K3 ?_⟩
       show upd S1.g p _ = _
       rw [ups_append, get_ups1, ← g1, hp1]
      ·cases h
     ·cases h
   ·cases h
  ·cases h
 ·cases h
end
end Go.Proofs.Ytehkignjdbkeiaa.Vf
end
section
set_option linter.unusedVariables false
set_option linter.unusedSimpArgs false
namespace Go.Proofs.Ytehkignjdbkeiaa.Vf
open Go
attribute [local irreducible] C H
section
variable {X : Cx} {S S' : Sit} {a : Act} {E : En} {A : Ab} {o : Oper} {R : Type} {Kc : List Up → Option R} {r : R}
theorem zeros_len : ∀ t : Ty, (zeros t).length = t.sz
 | .i _ => rfl
 | .b => rfl
 | .s => rfl
 | .sl _ _ => rfl
 | .ow _ _ => rfl
 | .pr x y => by show (zeros x ++ zeros y).length = x.sz + y.sz; rw [List.length_append, zeros_len x, zeros_len y]
theorem zeros_storable : ∀ t : Ty, storable (zeros t) = true
 | .i _ => rfl
 | .b => rfl
 | .s => rfl
 | .sl _ _ => rfl
 | .ow _ _ => rfl
 | .pr x y => by
  have app : ∀ l m, storable l = true → storable m = true → storable (l ++ m) = true := by
   intro l m hl hm
   induction l with
   | nil => exact hm
   | cons x l ih => cases x <;> first | (simp [storable] at hl; done) | exact ih (by simpa [storable] using hl)
  exact app _ _ (zeros_storable x) (zeros_storable y)
theorem zeros_ok {P : Program} : ∀ (t : Ty), szB P t = true → ∀ (f : Nat → Lab) (j : Nat), LfsOk P S f j (zeros t) (zcells t)
 | .i _, _, _, _ => ⟨⟨rfl, rfl⟩, trivial⟩
 | .b, _, _, _ => ⟨⟨rfl, rfl⟩, trivial⟩
 | .s, _, _, _ => ⟨⟨rfl, rfl⟩, trivial⟩
 | .sl e r, h, f, j => ⟨own_nil (by simp only [szB, Bool.and_eq_true, beq_iff_eq] at h; exact h.1), trivial⟩
 | .ow e r, h, f, j => ⟨own_nil (by simp only [szB, Bool.and_eq_true, beq_iff_eq] at h; exact h.1), trivial⟩
 | .pr x y, h, f, j => by
  simp [szB] at h
  exact LfsOk.app (zeros_ok x h.1 f j) (zeros_ok y h.2 f _)
theorem tok_zero {P : Program} {w : World} {T : TypeId} {t : TI} (h : TOk P T t) : ∃ v, (zeroValue T).run P w = .ok v w ∧ v.cells = (zcells t.ty).toArray ∧ (if t.ag then v = .agg (zcells t.ty).toArray else zcells t.ty = [v]) := by
 obtain ⟨i, h1, h2, h3, h4, h5⟩ := h.info
 refine ⟨if t.ag then .agg (zcells t.ty).toArray else (zcells t.ty).headD undef, ?_, ?_, ?_⟩
 ·simp [zeroValue, typeInfo, h1, h4]
 ·cases ha : t.ag with
  | true => rfl
  | false =>
   rw [if_neg (by simp)]
   have h6 := h5 ha
   have hone := one_of (S := ⟨fun _ => .no, fun _ => (0, 0), fun _ => (0, .one .dead), fun _ => undef, w⟩) (zeros_storable t.ty) (zeros_ok t.ty h.sz (fun _ => .no) 0)
   generalize (zcells t.ty).headD undef = v at h6
   rw [h6] at hone ⊢
   have := hone v (by simp)
   cases v <;> first | (simp [Value.oneCell'] at this; done) | rfl
 ·cases ha : t.ag with
  | true => rfl
  | false => exact h5 ha
theorem newptr (K : Okay X S a) {A1 : Ab} (hg : S.g = get A1) {T : TypeId} {m : List Lf} {us : List Value} {q : Nat → List Nat} {d : Nat} (hd : d < X.nt) (hl : LfsOk X.P S (fun j => .tm 0 (q j)) 0 m us)
  (hq : ∀ j, j < m.length → boxH d 0 0 (q j) = some (.pl (C d (0 + j)) [])) (hm : m.length < 999) (hst : ∀ k, .hd k ∉ m) (hnp : X.np ≤ d) :
  ∃ S', Okay X S' (a.put (some d) (.pointer (some ⟨S.w.heap.size, 0, none⟩))) ∧ S'.w = S.w.alloc (.cells us.toArray T) ∧
   S'.g = get (ups A1 (⟨H d, false, .one (.hd m.length)⟩ :: putCells d 0 m ++ [⟨d, false, .one (.bp d ((get A1 (H d)).1 + 1) 0)⟩])) := by
 have hlen := hl.len
 have hd1 : d < 1000 := Nat.lt_of_lt_of_le hd K.nt
 obtain ⟨K1, L1⟩ := K.grow (w' := S.w.alloc (.cells us.toArray T)) (row := none) (O' := fun k => if k = S.w.heap.size then .tm 1 [] else S.O k) (World.grownBy_alloc _ _ _) (by simp)
  (fun k hk _ => by show (if k = S.w.heap.size then _ else _) = _; rw [if_neg (by omega)])
  (fun k hk => by
   show k < (S.w.heap.push _).size
   rw [Array.size_push]
   by_cases h : k = S.w.heap.size
   ·omega
   ·simp only [h, if_false] at hk
    have := K.lt k hk
    omega)
 have hl1 : LfsOk X.P (groS S (S.w.alloc (.cells us.toArray T)) (fun k => if k = S.w.heap.size then .tm 1 [] else S.O k)) (fun j => .tm 0 (q j)) 0 m us := by
  refine hl.imp (fun j x u hx => hx.later L1 (fun k hk => ?_))
  have hkl : k < S.w.heap.size := K.lt k (by simp [hk])
  refine ⟨?_, heap_alloc_old _ _ _ hkl⟩
  show (if k = S.w.heap.size then _ else _) = _
  rw [if_neg (by omega)]
  exact hk
 obtain ⟨K2, L2⟩ := K1.newbox (d := d) (k := S.w.heap.size) (o := 0) (n0 := 1) (l0 := []) (by show (if _ then _ else _) = _; rw [if_pos rfl]) (by decide) K.fr.size (heap_alloc_new _ _) (by simp [hlen]) (by intro j hj; simp) hl1 hq hm hst hnp hd1
 have hv : ((boxS (groS S (S.w.alloc (.cells us.toArray T)) (fun k => if k = S.w.heap.size then .tm 1 [] else S.O k)) d S.w.heap.size 0 m us).g (H d)).1 = (S.g (H d)).1 + 1 := by
  show (gput (upd S.g (H d) _) d 0 m (H d)).1 = _
  unfold gput
  rw [if_neg (heads_apart (by omega)), upd_same]
  rfl
 have K3 := K2.put0 hd (.one (.bp d ((S.g (H d)).1 + 1) 0)) (.pointer (some ⟨S.w.heap.size, 0, none⟩)) 0 rfl ⟨by rw [hv]; exact Nat.le_refl _, fun _ => by
  show Value.pointer _ = .pointer (some ⟨(upd S.bb d (S.w.heap.size, 0) d).1, (upd S.bb d (S.w.heap.size, 0) d).2 + 0, none⟩)
  rw [upd_same]⟩
 have e1 : (boxS (groS S (S.w.alloc (.cells us.toArray T)) (fun k => if k = S.w.heap.size then .tm 1 [] else S.O k)) d S.w.heap.size 0 m us).g = get (ups A1 (⟨H d, false, .one (.hd m.length)⟩ :: putCells d 0 m)) := by
  show gput (upd S.g (H d) ((S.g (H d)).1 + 1, .one (.hd m.length))) d 0 m = get (ups (up A1 ⟨H d, false, .one (.hd m.length)⟩) (putCells d 0 m))
  rw [get_putCells, get_up, ← hg]
  rfl
 refine ⟨_, K3, rfl, ?_⟩
 show upd (boxS (groS S (S.w.alloc (.cells us.toArray T)) (fun k => if k = S.w.heap.size then .tm 1 [] else S.O k)) d S.w.heap.size 0 m us).g d _ = _
 rw [ups_append, get_ups1, ← e1, ← hg]
theorem st_alloc (hE : EnOk X E) (K : Okay X S a) (hg : S.g = get A) {T : TypeId} {d : Nat} (ho : o.op = .alloc T) (hod : o.dst = some d) (hd : d < X.nt) (h : step E o A Kc = some r) : After X o a S.w A Kc r := by
 unfold step at h
 rw [ho, hod] at h
 simp only at h
 split at h
 ·rename_i ti hti
  cases hq : (Nat.blt ti.ty.sz 999 && Nat.ble E.np d) with
  | false => rw [hq] at h; simp at h
  | true =>
   rw [hq, cond_true] at h
   simp only [Bool.and_eq_true] at hq
   have hlt : ti.ty.sz < 999 := Nat.le_of_ble_eq_true hq.1
   have hnp : X.np ≤ d := hE.np ▸ (Nat.le_of_ble_eq_true hq.2)
   have ht := hE.ti _ _ hti
   obtain ⟨v, h1, h2, _⟩ := tok_zero (w := S.w) ht
   obtain ⟨S', K', w', g'⟩ := newptr K hg (T := T) (m := zeros ti.ty) (us := zcells ti.ty) (q := fun j => [j]) hd (zeros_ok ti.ty ht.sz _ 0) (fun j hj => rfl) (by rw [zeros_len]; exact hlt) (storable_nohd (zeros_storable _)) hnp
   rw [zeros_len] at g'
   refine ⟨_, h, goes_value (S := S') (v := .pointer (some ⟨S.w.heap.size, 0, none⟩)) ?_ (by rw [hod]; exact K') g'⟩
   rw [w']
   unfold execOp
   simp [ho, Instr.alloc, h1, newVar, newRow, h2]
 ·cases h
theorem storableA_own : ∀ {l : List Lf}, storableA A l = true → ownIn l = false
 | [], _ => rfl
 | x :: l, h => by
  have rest : storableA A l = true := by
   cases x <;> first | (simp [storableA] at h; done) | (simp only [storableA, Bool.and_eq_true] at h; exact h.2) | simpa [storableA] using h
  cases x <;> first | (simp [storableA] at h; done) | exact storableA_own (l := l) rest
theorem one_ofA (K : Okay X S a) (hg : S.g = get A) {f : Nat → Lab} : ∀ {l : List Lf} {j : Nat} {us : List Value}, storableA A l = true → LfsOk X.P S f j l us → (∀ u ∈ us, u.oneCell' = true) ∧ ∀ k, .hd k ∉ l
 | [], _, [], _, _ => by simp
 | [], _, _ :: _, _, h => h.elim
 | _ :: _, _, [], _, h => h.elim
 | x :: l, j, u :: us, hst, h => by
  have rest : storableA A l = true := by
   cases x <;> first | (simp [storableA] at hst; done) | (simp only [storableA, Bool.and_eq_true] at hst; exact hst.2) | simpa [storableA] using hst
  obtain ⟨r1, r2⟩ := one_ofA K hg rest h.2
  refine ⟨fun v hv => ?_, fun k hk => ?_⟩
  ·rcases List.mem_cons.1 hv with hv | hv
   ·rw [hv]
    have one : storable [x] = true → u.oneCell' = true := fun hs => one_of (P := X.P) (S := S) (f := f) (l := [x]) (j := j) (us := [u]) hs ⟨h.1, trivial⟩ u (by simp)
    cases x with
    | al p v =>
     simp only [storableA, Bool.and_eq_true] at hst
     obtain ⟨lab', h4⟩ := seen_ok K hg h.1
     have h3 := hst.1
     split at h3
     ·rename_i hs
      rw [hs] at h4
      obtain ⟨ad, cap, e1⟩ := len_of_own (X := X) h4
      rw [e1]; rfl
     ·rename_i hs
      rw [hs] at h4
      obtain ⟨ad, cap, e1⟩ := len_of_fz (X := X) h4
      rw [e1]; rfl
     ·cases h3
    | sc w => exact one rfl
    | fz e r xs => exact one rfl
    | _ => simp [storableA] at hst
   ·exact r1 v hv
  ·rcases List.mem_cons.1 hk with rfl | hk
   ·simp [storableA] at hst
   ·exact r2 k hk
theorem st_box (hE : EnOk X E) (K : Okay X S a) (hg : S.g = get A) {T : TypeId} {x : Operand} {d : Nat} (ho : o.op = .box T x) (hod : o.dst = some d) (hd : d < X.nt) (h : step E o A Kc = some r) : After X o a S.w A Kc r := by
 unfold step at h
 rw [ho, hod] at h
 simp only at h
 split at h
 ·rename_i ti s hti hs
  cases hmv : mvO E x with
  | true =>
   rw [hmv, cond_true] at h
   cases hq : (storableA A (parts s) && Nat.beq (parts s).length ti.ty.sz && Nat.blt ti.ty.sz 999 && Nat.ble E.np d) with
   | false => rw [hq] at h; simp at h
   | true =>
    rw [hq, cond_true] at h
    simp only [Bool.and_eq_true] at hq
    obtain ⟨⟨⟨q1, q2⟩, q3⟩, q4⟩ := hq
    have hnp : X.np ≤ d := hE.np ▸ (Nat.le_of_ble_eq_true q4)
    have hlt : ti.ty.sz < 999 := Nat.le_of_ble_eq_true q3
    have hlen : (parts s).length = ti.ty.sz := Nat.eq_of_beq_eq_true q2
    have ht := hE.ti _ _ hti
    have hnt := parts_nt (X := X) (s := s) rfl hlen ht
    obtain ⟨pl, hsv⟩ := opT_ex hE K hg hs
    have hown := storableA_own q1
    obtain ⟨us, hsh, hls⟩ : ∃ us, Shape s (a.eval x) us ∧ LfsOk X.P S (fun n => .tm 0 (pth s n)) 0 (parts s) us := by
     cases s with
     | one y => exact ⟨[_], rfl, LfsOk.relab (f := fun _ => .pl pl []) (xs := [y]) hown ⟨hsv, trivial⟩⟩
     | agg l =>
      obtain ⟨us, e1, e2⟩ := hsv
      exact ⟨us, e1, e2.relab hown⟩
     | tup vs => exact absurd rfl (hnt vs)
    obtain ⟨hone, hnohd⟩ := one_ofA K hg q1 hls
    obtain ⟨S', K', w', g'⟩ := newptr K hg (T := T) hd hls (boxH_q rfl hnt) (by rw [hlen]; exact hlt) hnohd hnp
    rw [hlen] at g'
    refine ⟨_, h, goes_value (S := S') (v := .pointer (some ⟨S.w.heap.size, 0, none⟩)) ?_ (by rw [hod]; exact K') g'⟩
    rw [w']
    unfold execOp
    simp [ho, Instr.box, newVar, newRow, shape_cells hsh hnt hone]
  | false =>
  rw [hmv, cond_false] at h
  cases hq : (storable ((parts s).map (kept A)) && Nat.beq ((parts s).map (kept A)).length ti.ty.sz && Nat.blt ti.ty.sz 999 && Nat.ble E.np d) with
  | false => rw [hq] at h; simp at h
  | true =>
   rw [hq, cond_true] at h
   simp only [Bool.and_eq_true] at hq
   obtain ⟨⟨⟨q1, q2⟩, q3⟩, q4⟩ := hq
   have hnp : X.np ≤ d := hE.np ▸ (Nat.le_of_ble_eq_true q4)
   have hlt : ti.ty.sz < 999 := Nat.le_of_ble_eq_true q3
   have hlen : ((parts s).map (kept A)).length = ti.ty.sz := Nat.eq_of_beq_eq_true q2
   have ht := hE.ti _ _ hti
   have hnt := parts_nt (X := X) (s := s) (by simp) hlen ht
   obtain ⟨S1, K1, g1, w1, b1, p1, L1, x1, heads, _, us, hsh, hls⟩ := taken hE K hg hs hnt 0
   obtain ⟨S', K', w', g'⟩ := newptr K1 g1 (T := T) hd hls (boxH_q (by simp) hnt) (by rw [hlen]; exact hlt) (storable_nohd q1) hnp
   have hv : (get (ups A (costs A (parts s) ++ gone x s)) (H d)).1 = (get A (H d)).1 := by rw [← g1, ← hg]; exact (heads d).1
   rw [hv, hlen, ← ups_append] at g'
   refine ⟨_, h, goes_value (S := S') (v := .pointer (some ⟨S1.w.heap.size, 0, none⟩)) ?_ (by rw [hod]; exact K') g'⟩
   rw [w', w1]
   unfold execOp
   simp [ho, Instr.box, newVar, newRow, shape_cells hsh hnt (one_of q1 hls)]
 ·cases h
theorem fill_one : ∀ (us : List Value) (n off : Nat) (cells : Array Value), off + n + us.length ≤ cells.size →
  (us.zipIdx n).foldl (fun cs (x : Value × Nat) => cs.setIfInBounds (off + x.2) x.1) cells = (cells.toList.take (off + n) ++ us ++ cells.toList.drop (off + n + us.length)).toArray
 | [], n, off, cells, h => by simp
 | c :: us, n, off, cells, h => by
  simp only [List.length_cons] at h
  simp only [List.zipIdx_cons, List.foldl_cons]
  rw [fill_one us (n + 1) off _ (by simp; omega)]
  have hlt : off + n < cells.toList.length := by rw [Array.length_toList]; omega
  congr 1
  rw [Array.toList_setIfInBounds]
  have e1 : (cells.toList.set (off + n) c).take (off + (n + 1)) = cells.toList.take (off + n) ++ [c] := by
   rw [← Nat.add_assoc, List.take_add_one, List.getElem?_set_self hlt, List.take_set_of_le (Nat.le_refl _)]
   rfl
  have e2 : (cells.toList.set (off + n) c).drop (off + (n + 1) + us.length) = cells.toList.drop (off + n + (c :: us).length) := by
   rw [List.drop_set_of_lt (by omega)]
   congr 1
   simp only [List.length_cons]
   omega
  rw [e1, e2]
  simp
theorem fill_cons {place : Nat → Option (Nat × Nat)} {cells : Array Value} {i off z : Nat} {v : Value} {us : List Value} {rest : List (Nat × Value)} (hp : place i = some (off, z)) (hv : v.cells = us.toArray) (hz : us.length = z) (hle : off + z ≤ cells.size) :
  Instr.fill place cells ((i, v) :: rest) = Instr.fill place (cells.toList.take off ++ us ++ cells.toList.drop (off + z)).toArray rest := by
 subst hz
 have hf := fill_one us 0 off cells (by omega)
 simp only [Nat.add_zero] at hf
 simp only [Instr.fill, hp, hv, List.size_toArray]
 rw [if_neg (by simp; omega)]
 congr 1
 rw [← hf]
 simp
def leafH (off : Nat) : Nat → List Nat → Option Lab := fun n q => if n = 1 then (match q with
 | [] => some (.tm 0 [off])
 | [j] => some (.tm 0 [off + j])
 | _ => none) else none
theorem leafH_no (off : Nat) : ∀ n q, leafH off n q ≠ some .no := by
 intro n q
 unfold leafH
 split
 ·split <;> simp
 ·simp
theorem leafH_q {s : Sv} {off : Nat} {m : List Lf} (hm : m.length = (parts s).length) (hnt : ∀ vs, s ≠ .tup vs) : ∀ j, j < m.length → leafH off 1 (pth s j) = some (.tm 0 [off + j]) := by
 intro j hj
 cases s with
 | one x =>
  have : j = 0 := by simp [parts] at hm; omega
  subst this
  rfl
 | agg l => rfl
 | tup vs => exact absurd rfl (hnt vs)
theorem nt_of_len {s : Sv} {m : List Lf} {z : Nat} (hm : m.length = (parts s).length) (h : m.length = z) (hz : 0 < z) : ∀ vs, s ≠ .tup vs := by
 intro vs e
 subst e
 simp [parts] at hm
 simp [hm] at h
 omega
structure Built (X : Cx) (S : Sit) (a : Act) (l : List Lf) (cells : Array Value) : Prop where
 leaf : LfsOk X.P S (fun j => .tm 0 [j]) 0 l cells.toList
theorem buildP_ok (hE : EnOk X E) {T : TypeId} {t : TI} (ht : TOk X.P T t) {fs : Array Field} (hfs : fieldsB X.P fs.toList t.fo = true) (places : List (Nat × Nat)) (hpl : ∀ i o, nth t.fo i = some o → places[i]? = some (o.1, o.2.1)) :
  ∀ (ps : List (Nat × Operand)) {S : Sit} {A : Ab} {l : List Lf} {us0 : List Up} {cs : List Value} {l' : List Lf} {us' : List Up}, Okay X S a → S.g = get A → LfsOk X.P S (fun j => .tm 0 [j]) 0 l cs → storable l = true → buildP E A t l us0 ps = some (l', us') →
  ∃ S' U cs', us' = us0 ++ U ∧ Okay X S' a ∧ S'.g = get (ups A U) ∧ S'.w = S.w ∧ LfsOk X.P S' (fun j => .tm 0 [j]) 0 l' cs' ∧ l'.length = l.length ∧
   Instr.fill (places.toArray[·]?) cs.toArray (ps.map fun p => (p.1, a.eval p.2)) = some cs'.toArray
 | [], S, A, l, us0, cs, l', us', K, hg, hl, hst, h => by
  simp only [buildP, Option.some.injEq, Prod.mk.injEq] at h
  obtain ⟨rfl, rfl⟩ := h
  exact ⟨S, [], cs, by simp, K, hg, rfl, hl, rfl, rfl⟩
 | (i, x) :: ps, S, A, l, us0, cs, l', us', K, hg, hl, hst, h => by
  simp only [buildP] at h
  split at h
  ·cases h
  ·rename_i off z ag hn
   have hpi := hpl i _ hn
   obtain ⟨fd, _, _, _, hz0, _⟩ := fields_get hfs hn
   simp only at hz0
   have hlen := hl.len
   split at h
   ·-- the literal nil
    cases hb : Nat.beq z 1 with
    | false => rw [hb] at h; simp at h
    | true =>
     rw [hb, cond_true] at h
     have hz1 : z = 1 := Nat.eq_of_beq_eq_true hb
     subst hz1
     split at h
     ·rename_i e r' hleaf
      rw [nth_eq] at hleaf
      have hoff : off < l.length := (List.getElem?_eq_some_iff.1 hleaf).1
      have hl2 : LfsOk X.P S (fun j => .tm 0 [j]) 0 l (cs.take off ++ [.slice none 0 0] ++ cs.drop (off + 1)) := by
       have hsz : SzOk X.P e r'.sz := by
        obtain ⟨x', u', e1, _, _, e4⟩ := hl.at off hoff
        rw [List.getD_eq_getElem?_getD, hleaf] at e1
        simp only [Option.getD_some] at e1
        subst e1
        exact OwnOk.top e4 |>.1
       have h1 := LfsOk.setAll (P := X.P) (S := S) (f := fun j => .tm 0 [j]) (l := l) (us := cs) (m := [.own e r' []]) (ms := [.slice none 0 0]) (off := off) (hl.take off) ⟨own_nil hsz, trivial⟩ (by have := hl.drop (off + 1); rwa [Nat.zero_add] at this) (by simp only [List.length_singleton]; omega)
       have h2 : Vf.setAll l off [.own e r' []] = l := by
        unfold Vf.setAll
        rw [List.getElem?_eq_getElem hoff] at hleaf
        simp only [Option.some.injEq] at hleaf
        rw [← hleaf]
        simp only [List.length_singleton, List.append_assoc, List.singleton_append]
        rw [← List.drop_eq_getElem_cons hoff, List.take_append_drop]
       rw [h2] at h1
       exact h1
      obtain ⟨S', U, cs', e1, K', g', w', l1, l2, hf⟩ := buildP_ok hE ht hfs places hpl ps K hg hl2 hst h
      refine ⟨S', U, cs', e1, K', g', w', l1, l2, ?_⟩
      rw [List.map_cons, fill_cons (us := [.slice none 0 0]) (off := off) (z := 1) (by simpa using hpi) rfl rfl (by simp; omega)]
      exact hf
     ·cases h
   ·split at h
    ·rename_i s hs
     cases hq : (storable ((parts s).map (kept A)) && Nat.beq ((parts s).map (kept A)).length z && Nat.ble (off + z) l.length) with
     | false => rw [hq] at h; simp at h
     | true =>
      rw [hq, cond_true] at h
      simp only [Bool.and_eq_true] at hq
      obtain ⟨⟨q1, q2⟩, q3⟩ := hq
      have hmz : ((parts s).map (kept A)).length = z := Nat.eq_of_beq_eq_true q2
      have hle : off + z ≤ l.length := Nat.le_of_ble_eq_true q3
      have hnt := nt_of_len (s := s) (by simp) hmz hz0
      obtain ⟨S1, K1, g1, w1, b1, p1, L1, x1, heads, tms, us, hsh, hls⟩ := taken hE K hg hs hnt 1
      obtain ⟨K2, L2⟩ := K1.names (leafH off) (leafH_no off)
      have hone := one_of q1 hls
      have hul := hls.len
      have old : ∀ j x u, LfOk X.P S (.tm 0 [j]) x u → LfOk X.P { S1 with O := atO S1.O (leafH off) } (.tm 0 [j]) x u := fun j x u hx =>
       (tms 0 [j] x u hx).later L2 (fun k hk => ⟨atO_keep hk (by simp [leafH]), rfl⟩)
      have hl2 := LfsOk.setAll (P := X.P) (S := { S1 with O := atO S1.O (leafH off) }) (f := fun j => .tm 0 [j]) (l := l) (us := cs) (m := (parts s).map (kept A)) (ms := us) (off := off)
       ((hl.take off).imp (fun j x u hx => old j x u hx))
       (by
        have h1 : LfsOk X.P { S1 with O := atO S1.O (leafH off) } (fun j => .tm 0 [off + j]) 0 ((parts s).map (kept A)) us := by
         refine LfsOk.impAt (fun n _ n2 x u hx => ?_) hls
         exact hx.later L2 (fun k hk => ⟨atO_tm hk (leafH_q (m := (parts s).map (kept A)) (by simp) hnt n (by omega)), rfl⟩)
        have shiftBack : ∀ (m : List Lf) (us : List Value) (i : Nat), LfsOk X.P { S1 with O := atO S1.O (leafH off) } (fun j => .tm 0 [off + j]) i m us → LfsOk X.P { S1 with O := atO S1.O (leafH off) } (fun j => .tm 0 [j]) (off + i) m us := by
         intro m
         induction m with
         | nil => intro us i h; cases us <;> first | trivial | exact h.elim
         | cons x m ih =>
          intro us i h
          cases us with
          | nil => exact h.elim
          | cons u us => exact ⟨h.1, ih us (i + 1) h.2⟩
        exact shiftBack _ _ 0 h1)
       (by
        have := (hl.drop (off + ((parts s).map (kept A)).length)).imp (S' := { S1 with O := atO S1.O (leafH off) }) (f' := fun j => .tm 0 [j]) (fun j x u hx => old j x u hx)
        rwa [Nat.zero_add] at this) (by rw [hmz]; exact hle)
      have hst2 : storable (Vf.setAll l off ((parts s).map (kept A))) = true := by
       have tk : ∀ (l : List Lf) n, storable l = true → storable (l.take n) = true := by
        intro l
        induction l with
        | nil => intro n _; cases n <;> rfl
        | cons x l ih =>
         intro n h
         cases n with
         | zero => rfl
         | succ n => cases x <;> first | (simp [storable] at h; done) | exact ih n (by simpa [storable] using h)
       have dr : ∀ (l : List Lf) n, storable l = true → storable (l.drop n) = true := by
        intro l
        induction l with
        | nil => intro n _; cases n <;> rfl
        | cons x l ih =>
         intro n h
         cases n with
         | zero => exact h
         | succ n => cases x <;> first | (simp [storable] at h; done) | exact ih n (by simpa [storable] using h)
       have app : ∀ l m, storable l = true → storable m = true → storable (l ++ m) = true := by
        intro l m hl hm
        induction l with
        | nil => exact hm
        | cons x l ih => cases x <;> first | (simp [storable] at hl; done) | exact ih (by simpa [storable] using hl)
       exact app _ _ (app _ _ (tk _ _ hst) q1) (dr _ _ hst)
      obtain ⟨S', U, cs', e1, K', g', w', l1, l2, hf⟩ := buildP_ok hE ht hfs places hpl ps K2 g1 hl2 hst2 h
      refine ⟨S', (costs A (parts s) ++ gone x s) ++ U, cs', by rw [e1, List.append_assoc], K', by rw [ups_append]; exact g', w'.trans w1, l1, l2.trans ?_, ?_⟩
      ·unfold Vf.setAll
       simp only [List.length_append, List.length_take, List.length_drop]
       omega
      ·rw [List.map_cons, fill_cons (us := us) (off := off) (z := z) (by simpa using hpi) (shape_cells hsh hnt hone) (hul.trans hmz) (by simp; omega)]
       rw [hmz] at hf
       exact hf
    ·cases h
theorem mapM_sizes {P : Program} {w : World} : ∀ (fs : List Field) (os : List (Nat × Nat × Bool)), fieldsB P fs os = true → (fs.mapM (fun f => do pure (f.offset, ← sizeOf f.type) : Field → Sem (Nat × Nat))).run P w = .ok (os.map fun o => (o.1, o.2.1)) w
 | [], [], _ => rfl
 | [], _ :: _, h => by simp [fieldsB] at h
 | _ :: _, [], h => by simp [fieldsB] at h
 | f :: fs, o :: os, h => by
  simp only [fieldsB, Bool.and_eq_true] at h
  obtain ⟨⟨⟨⟨⟨h1, h2⟩, _⟩, _⟩, _⟩, h5⟩ := h
  have e1 : f.offset = o.1 := by simpa using h1
  have e2 : (P.info? f.type).map (fun i => i.size) = some o.2.1 := by simpa using h2
  rw [List.mapM_cons]
  simp only [Sem.run_bind, info_size e2, Result.andThen_ok, Sem.run_pure, mapM_sizes fs os h5, e1, List.map_cons]
theorem st_build (hE : EnOk X E) (K : Okay X S a) (hg : S.g = get A) {T : TypeId} {ps : Array (Nat × Operand)} {d : Nat} (ho : o.op = .build T ps) (hod : o.dst = some d) (hd : d < X.nt) (h : step E o A Kc = some r) : After X o a S.w A Kc r := by
 unfold step at h
 rw [ho, hod] at h
 simp only at h
 split at h
 ·rename_i ti hti
  split at h
  ·rename_i l us hb
   cases hag : ti.ag with
   | false => rw [hag] at h; simp at h
   | true =>
    rw [hag, cond_true] at h
    have ht := hE.ti _ _ hti
    obtain ⟨fs, hu, hfs⟩ := struct_of ht hag
    obtain ⟨v, z1, z2, z3⟩ := tok_zero (w := S.w) ht
    obtain ⟨S1, U, cs', e1, K1, g1, w1, l1, _, hf⟩ := buildP_ok hE ht hfs (ti.fo.map fun o => (o.1, o.2.1)) (fun i o' hi => by rw [nth_eq] at hi; rw [List.getElem?_map, hi]; rfl) ps.toList K hg (zeros_ok ti.ty ht.sz (fun j => .tm 0 [j]) 0) (zeros_storable _) hb
    simp only [List.nil_append] at e1
    subst e1
    let hh : Nat → List Nat → Option Lab := fun n q => if n = 0 then some (.pl d q) else none
    have L2 := putS_later S1 hh d (.agg l) (.agg cs'.toArray)
    have hsv : SvOk X.P (putS S1 hh d (.agg l) (.agg cs'.toArray)) d (.agg l) (.agg cs'.toArray) := ⟨cs', rfl, l1.imp (fun j x u hx => hx.later L2 (fun k hk => ⟨atO_tm hk (by simp [hh]), rfl⟩))⟩
    have K2 := K1.put hd hh (by intro n q p hp; simp only [hh] at hp; split at hp <;> first | (cases hp; exact ⟨q, rfl⟩) | cases hp) _ _ hsv
    refine ⟨_, h, goes_value (S := putS S1 hh d (.agg l) (.agg cs'.toArray)) ?_ (by rw [hod]; exact K2) ?_⟩
    ·show _ = Result.ok _ S1.w
     rw [w1]
     unfold execOp
     simp only [ho, Sem.run_bind]
     unfold Instr.build
     simp only [Sem.run_bind, z1, Result.andThen_ok, run_underlying hu, z2]
     have hm := mapM_sizes (P := X.P) (w := S.w) fs.toList ti.fo hfs
     have hm2 : (fs.mapM (fun f => do pure (f.offset, ← sizeOf f.type) : Field → Sem (Nat × Nat))).run X.P S.w = .ok (ti.fo.map fun o => (o.1, o.2.1)).toArray S.w := by
      rw [Array.mapM_eq_mapM_toList, Sem.run_map, hm]
      rfl
     simp only [Sem.run_bind, Sem.run_pure] at hm2 ⊢
     rw [hm2]
     simp only [Result.andThen_ok]
     have e2 : (ps.map fun x => (x.1, a.eval x.2)).toList = ps.toList.map fun p => (p.1, a.eval p.2) := by simp
     rw [e2, hf]
     rfl
    ·show upd S1.g d _ = _
     rw [ups_append, get_ups1, ← g1]
  ·cases h
 ·cases h
end
end Go.Proofs.Ytehkignjdbkeiaa.Vf
end
section
set_option linter.unusedVariables false
set_option linter.unusedSimpArgs false
namespace Go.Proofs.Ytehkignjdbkeiaa.Vf
open Go
attribute [local irreducible] C H
section
variable {X : Cx} {S S' : Sit} {a : Act} {E : En} {A : Ab} {o : Oper} {R : Type} {Kc : List Up → Option R} {r : R}
theorem sz_pos : ∀ t : Ty, 0 < t.sz
 | .i _ => Nat.one_pos
 | .b => Nat.one_pos
 | .s => Nat.one_pos
 | .sl _ _ => Nat.one_pos
 | .ow _ _ => Nat.one_pos
 | .pr x y => by have := sz_pos x; show 0 < x.sz + y.sz; omega
theorem rep_one {P : Program} {G : Nat → Prop} {w : World} : ∀ (t : Ty) (x : t.den) (vs : List Value), t.rep P G w x vs → ∀ u ∈ vs, u.oneCell' = true
 | .i _, _, _, h => by subst h; simp [Value.oneCell']
 | .b, _, _, h => by subst h; simp [Value.oneCell']
 | .s, _, _, h => by subst h; simp [Value.oneCell']
 | .sl _ _, _, _, ⟨v, e, _, ad, cap, cs, e2, _⟩ => by subst e e2; simp [Value.oneCell']
 | .ow _ _, _, _, ⟨v, e, _, ad, cap, cs, e2, _⟩ => by subst e e2; simp [Value.oneCell']
 | .pr x y, p, _, ⟨c, d, e, h1, h2⟩ => by
  subst e
  intro u hu
  rcases List.mem_append.1 hu with h | h
  ·exact rep_one x p.1 c h1 u h
  ·exact rep_one y p.2 d h2 u h
theorem Rows.all {α : Type} {R' : α → List Value → Prop} {Q : Value → Prop} (hR : ∀ x c, R' x c → ∀ u ∈ c, Q u) : ∀ {xs : List α} {cs : List Value}, Rows R' xs cs → ∀ u ∈ cs, Q u
 | [], _, h => by simp only [Rows] at h; subst h; simp
 | _ :: _, _, ⟨c, d, e, h1, h2⟩ => by
  subst e
  intro u hu
  rcases List.mem_append.1 hu with h | h
  ·exact hR _ _ h1 u h
  ·exact h2.all hR u h
theorem put_newD (K : Okay X S a) {A1 : Ab} (hg : S.g = get A1) {d : Nat} (hd : d < X.nt) {w' : World} {row : Option Nat} {e : TypeId} {r' : Ty} {xs : List r'.den} {v : Value} {cs : List Value} {b2 : List Nat} (hw : S.w.grownBy w' row) (hrow : ∀ k, row = some k → ∃ n q, S.O k = .tm n q)
  (hsz : SzOk X.P e r'.sz) (hown : w'.ownsRow 0 e r'.sz v xs.length cs) (hrows : DRows (fun x c b => r'.dep X.P (fun k => S.O k = .fz) S.w x c b) xs cs b2) (hn : b2.Nodup) (hb : ∀ k ∈ b2, ∃ q, S.O k = .tm 0 q) (hb2 : ∀ k ∈ b2, row ≠ some k ∧ v.ownBlock ≠ some k)
  (hv : ∀ k, v.ownBlock = some k → row = some k ∨ S.w.heap.size ≤ k) :
  ∃ S', Okay X S' (a.put (some d) v) ∧ S'.w = w' ∧ S'.g = get (ups A1 [⟨d, false, .one (.own e r' xs)⟩]) := by
 obtain ⟨K1, L1⟩ := K.grow (w' := w') (row := row) (O' := fun k => if v.ownBlock = some k then .tm 0 [] else S.O k) hw hrow
  (fun k hk hnt => by
   show (if v.ownBlock = some k then _ else _) = _
   rw [if_neg]
   intro e1
   rcases hv k e1 with h | h
   ·obtain ⟨n, q, h2⟩ := hrow k h
    exact hnt n q h2
   ·omega)
  (fun k hk => by
   by_cases h : v.ownBlock = some k
   ·exact (hown.lt k h).2
   ·simp only [h, if_false] at hk
    exact Nat.lt_of_lt_of_le (K.lt k hk) hw.size)
 let O1 : Nat → Lab := fun k => if v.ownBlock = some k then .tm 0 [] else S.O k
 let hh : Nat → List Nat → Option Lab := fun n q => if n = 0 then some (.pl d []) else none
 have L2 := putS_later (groS S w' O1) hh d (.one (.own e r' xs)) v
 have hlab : ∀ k ∈ v.ownBlock.toList ++ b2, (putS (groS S w' O1) hh d (.one (.own e r' xs)) v).O k = .pl d [] := fun k hk => by
  have h1 : ∃ q, O1 k = .tm 0 q := by
   rcases List.mem_append.1 hk with hk | hk
   ·refine ⟨[], if_pos ?_⟩
    cases hvb : v.ownBlock with
    | none => rw [hvb] at hk; simp at hk
    | some j => rw [hvb] at hk; simp at hk; rw [hk]
   ·obtain ⟨q, hq⟩ := hb k hk
    exact ⟨q, (if_neg (hb2 k hk).2).trans hq⟩
  obtain ⟨q, hq⟩ := h1
  exact atO_tm (h := hh) hq (by simp [hh])
 have hown1 : OwnOk X.P (putS (groS S w' O1) hh d (.one (.own e r' xs)) v).O w' (.pl d []) e r' xs v := by
  refine ⟨v.ownBlock.toList ++ b2, ⟨v, cs, b2, rfl, hsz, hown, hrows.mono (fun x c b hbb h => Ty.dep_mono (fun k hk => (L2.fz k (L1.fz k hk).1).1) (fun k hk => (L1.fz k hk).2) r' x c b (fun k hk => ?_) h), rfl⟩, ?_, hlab⟩
  ·have hk2 := hbb k hk
   obtain ⟨q, hq⟩ := hb k hk2
   exact hw.block k (K.lt k (by rw [hq]; simp)) (fun e => (hb2 k hk2).1 e.symm)
  ·rw [List.nodup_append]
   refine ⟨by cases v.ownBlock <;> simp, hn, fun k hk k' hk' e => ?_⟩
   subst e
   cases hvb : v.ownBlock with
   | none => rw [hvb] at hk; simp at hk
   | some j =>
    rw [hvb] at hk
    simp at hk
    exact (hb2 k hk').2 (by rw [hvb, hk])
 have K2 := K1.put hd hh (by intro n q p hp; simp only [hh] at hp; split at hp <;> first | (cases hp; exact ⟨[], rfl⟩) | cases hp) (.one (.own e r' xs)) v hown1
 refine ⟨_, K2, rfl, ?_⟩
 show upd S.g d _ = _
 rw [get_ups1, ← hg]
 rfl
theorem put_new (K : Okay X S a) {A1 : Ab} (hg : S.g = get A1) {d : Nat} (hd : d < X.nt) {w' : World} {row : Option Nat} {e : TypeId} {r' : Ty} {xs : List r'.den} {v : Value} {cs : List Value} (hno : noOw r' = true) (hw : S.w.grownBy w' row) (hrow : ∀ k, row = some k → ∃ n q, S.O k = .tm n q)
  (hsz : SzOk X.P e r'.sz) (hown : w'.ownsRow 0 e r'.sz v xs.length cs) (hrows : Rows (fun x c => r'.rep X.P (fun k => S.O k = .fz) S.w x c) xs cs) (hv : ∀ k, v.ownBlock = some k → row = some k ∨ S.w.heap.size ≤ k) :
  ∃ S', Okay X S' (a.put (some d) v) ∧ S'.w = w' ∧ S'.g = get (ups A1 [⟨d, false, .one (.own e r' xs)⟩]) :=
 put_newD K hg hd hw hrow hsz hown ((DRows.flat (fun x c b => Ty.dep_flat r' x c b hno)).2 ⟨hrows, rfl⟩) (by simp) (by simp) (by simp) hv
theorem zsame_cells : ∀ (t t' : Ty), zsame t t' = true → zcells t = zcells t'
 | .i k, .i k', h => by simp [zsame] at h; subst h; rfl
 | .b, .b, _ => rfl
 | .s, .s, _ => rfl
 | .sl _ _, .sl _ _, _ => rfl
 | .sl _ _, .ow _ _, _ => rfl
 | .ow _ _, .sl _ _, _ => rfl
 | .ow _ _, .ow _ _, _ => rfl
 | .pr x y, .pr x' y', h => by
  simp only [zsame, Bool.and_eq_true] at h
  show zcells x ++ zcells y = _
  rw [zsame_cells x x' h.1, zsame_cells y y' h.2]
  rfl
 | .i _, .b, h | .i _, .s, h | .i _, .sl _ _, h | .i _, .ow _ _, h | .i _, .pr _ _, h => by simp [zsame] at h
 | .b, .i _, h | .b, .s, h | .b, .sl _ _, h | .b, .ow _ _, h | .b, .pr _ _, h => by simp [zsame] at h
 | .s, .i _, h | .s, .b, h | .s, .sl _ _, h | .s, .ow _ _, h | .s, .pr _ _, h => by simp [zsame] at h
 | .sl _ _, .i _, h | .sl _ _, .b, h | .sl _ _, .s, h | .sl _ _, .pr _ _, h => by simp [zsame] at h
 | .ow _ _, .i _, h | .ow _ _, .b, h | .ow _ _, .s, h | .ow _ _, .pr _ _, h => by simp [zsame] at h
 | .pr _ _, .i _, h | .pr _ _, .b, h | .pr _ _, .s, h | .pr _ _, .sl _ _, h | .pr _ _, .ow _ _, h => by simp [zsame] at h
theorem rep_dflt {P : Program} {G : Nat → Prop} {w : World} : ∀ (t : Ty), szB P t = true → t.rep P G w t.dflt (zcells t)
 | .i _, _ => rfl
 | .b, _ => rfl
 | .s, _ => rfl
 | .sl e r, h => by
  simp only [szB, Bool.and_eq_true, beq_iff_eq] at h
  exact ⟨_, rfl, h.1, none, 0, [], rfl, Nat.le_refl _, rfl, fun h => absurd rfl h⟩
 | .ow e r, h => by
  simp only [szB, Bool.and_eq_true, beq_iff_eq] at h
  exact ⟨_, rfl, h.1, none, 0, [], rfl, Nat.le_refl _, rfl, fun h => absurd rfl h⟩
 | .pr x y, h => by
  simp only [szB, Bool.and_eq_true] at h
  exact ⟨_, _, rfl, rep_dflt x h.1, rep_dflt y h.2⟩
theorem shp_zcells : ∀ t : Ty, zcells (shp t) = zcells t
 | .i _ => rfl
 | .b => rfl
 | .s => rfl
 | .sl _ _ => rfl
 | .ow _ _ => rfl
 | .pr x y => by show zcells (shp x) ++ zcells (shp y) = zcells x ++ zcells y; rw [shp_zcells x, shp_zcells y]
theorem shp_szB {P : Program} : ∀ t : Ty, szB P (shp t) = szB P t
 | .i _ => rfl
 | .b => rfl
 | .s => rfl
 | .sl e r => by show (_ && szB P (shp r)) = (_ && szB P r); rw [shp_szB r, shp_sz r]
 | .ow e r => by show (_ && szB P (shp r)) = (_ && szB P r); rw [shp_szB r, shp_sz r]
 | .pr x y => by show (szB P (shp x) && szB P (shp y)) = _; rw [shp_szB x, shp_szB y]; rfl
theorem dep_dflt {P : Program} {G : Nat → Prop} {w : World} : ∀ (t : Ty), szB P t = true → t.dep P G w t.dflt (zcells t) []
 | .i _, _ => ⟨rfl, rfl⟩
 | .b, _ => ⟨rfl, rfl⟩
 | .s, _ => ⟨rfl, rfl⟩
 | .sl e r, h => ⟨rep_dflt (.sl e r) h, rfl⟩
 | .ow e r, h => by
  simp only [szB, Bool.and_eq_true, beq_iff_eq] at h
  exact ⟨_, [], [], rfl, h.1, World.ownsRow_nil _ _ _ _, ⟨rfl, rfl⟩, rfl⟩
 | .pr x y, h => by
  simp only [szB, Bool.and_eq_true] at h
  exact ⟨_, _, [], [], rfl, rfl, dep_dflt x h.1, dep_dflt y h.2⟩
theorem DRows.replicate {α : Type} {R : α → List Value → List Nat → Prop} {x : α} {c : List Value} (h : R x c []) : ∀ n, DRows R (List.replicate n x) (List.replicate n c).flatten []
 | 0 => by simp [DRows]
 | n + 1 => ⟨c, _, [], [], by simp [List.replicate_succ], rfl, h, DRows.replicate h n⟩
theorem made_flat (l : List Value) (hl : 0 < l.length) : ∀ n, (madeCells l.toArray (n * l.length)).toList = (List.replicate n l).flatten := by
 have key : ∀ n, (List.range (n * l.length)).map (fun j => l.toArray[j % l.toArray.size]!) = (List.replicate n l).flatten := by
  intro n
  induction n with
  | zero => simp
  | succ n ih =>
   rw [Nat.add_mul, Nat.one_mul, Nat.add_comm, List.range_add, List.map_append, List.map_map, List.replicate_succ, List.flatten_cons, ← ih]
   congr 1
   ·apply List.ext_getElem
    ·simp
    ·intro i h1 h2
     simp at h1
     simp [Nat.mod_eq_of_lt h1, h1]
   ·apply List.map_congr_left
    intro j _
    simp
 intro n
 rw [← key n]
 simp [madeCells]
theorem st_makeSlice (hE : EnOk X E) (K : Okay X S a) (hg : S.g = get A) {T : TypeId} {x y : Operand} {d : Nat} (ho : o.op = .makeSlice T x y) (hod : o.dst = some d) (hd : d < X.nt) (h : step E o A Kc = some r) : After X o a S.w A Kc r := by
 unfold step at h
 rw [ho, hod] at h
 simp only at h
 split at h
 ·rename_i e r' by_ fo n m hT hx hy
  have ex := (opT_sc hE K hg hx).1
  have ey := (opT_sc hE K hg hy).1
  split at h
  ·rename_i te hte
   cases hq : (zsame te.ty r' && decide (n = m)) with
   | false => rw [hq] at h; simp at h
   | true =>
    rw [hq, cond_true] at h
    simp only [Bool.and_eq_true, decide_eq_true_eq] at hq
    obtain ⟨hz, rfl⟩ := hq
    by_cases h0 : 0 ≤ n
    ·by_cases hb : n * te.by_ ≤ 140737488355328
     ·simp only [h0, hb, decide_true, cond_true] at h
      have hTk := hE.ti _ _ hT
      have hek := hE.ti _ _ hte
      have hu : X.P.underlying T = some (.slice e) := by
       have := hTk.desc
       unfold descB at this
       split at this <;> simp_all
      have hszs := hTk.sz
      simp only [szB, Bool.and_eq_true, beq_iff_eq] at hszs
      obtain ⟨i, i1, i2, i3, i4, i5⟩ := hek.info
      obtain ⟨z, z1, z2, z3⟩ := tok_zero (w := S.w) hek
      have iz : i.zero = some z := by
       simp only [zeroValue, typeInfo, Sem.run_bind, run_program, Result.andThen_ok, i1, Sem.run_pure] at z1
       rw [i4] at z1 ⊢
       simp only [Sem.run_pure, Result.ok.injEq, and_true] at z1
       rw [z1]
      have hsame := zsame_cells _ _ hz
      have hsz1 : i.size = r'.sz := by
       have := hszs.1
       rw [i1] at this
       simpa using this
      have hb1 : (i.bytes : Int) * n ≤ 281474976710656 := by rw [i3, Int.mul_comm]; omega
      have h63 : n ≤ 140737488355328 := by
       have h1 : (1 : Int) ≤ te.by_ := by have := hek.by0; omega
       have := Int.mul_le_mul_of_nonneg_left h1 h0
       rw [Int.mul_one] at this
       omega
      have hr := run_make (P := X.P) S.w T e i z hu i1 iz .i64 .i64 n n h0 (Int.le_refl _) hb1 (by omega)
      have key : ∀ r2 : Ty, shp r2 = shp r' → Kc [⟨d, false, .one (.own e r2 (List.replicate n.toNat r2.dflt))⟩] = some r → After X o a S.w A Kc r := by
       intro r2 hs2 hk
       have hsz2 : r2.sz = r'.sz := by rw [← shp_sz r2, hs2, shp_sz r']
       have hzc2 : zcells r2 = zcells r' := by rw [← shp_zcells r2, hs2, shp_zcells r']
       have hszb2 : szB X.P r2 = true := by rw [← shp_szB r2, hs2, shp_szB r']; exact hszs.2
       have hcl : (zcells r2).length = r2.sz := zcells_len r2
       have hflat : (madeCells z.cells (n.toNat * i.size)).toList = (List.replicate n.toNat (zcells r2)).flatten := by
        rw [z2, hsame, hsz1, ← hzc2, ← hsz2, ← hcl]
        exact made_flat _ (by rw [hcl]; exact sz_pos r2) _
       obtain ⟨S', K', w', g'⟩ := put_newD K hg hd (w' := S.w.alloc (.cells (madeCells z.cells (n.toNat * i.size)) e)) (row := none) (e := e) (r' := r2) (xs := List.replicate n.toNat r2.dflt) (v := .slice (some ⟨S.w.heap.size, 0, none⟩) n.toNat n.toNat)
        (cs := (madeCells z.cells (n.toNat * i.size)).toList) (b2 := []) (World.grownBy_alloc _ _ _) (by simp) (by rw [hsz2]; exact hszs.1)
        (by rw [List.length_replicate]; exact World.ownsRow_lit S.w _ n.toNat (Nat.zero_le _) (by simp only [maxLen]; omega) (by rw [size_madeCells, hsz1, hsz2]))
        (by rw [hflat]; exact DRows.replicate (dep_dflt r2 hszb2) _) (by simp) (by simp) (by simp) (by
         intro k hk
         simp only [Value.ownBlock, Option.some.injEq] at hk
         exact .inr (Nat.le_of_eq hk))
       refine ⟨_, hk, goes_value (S := S') (v := .slice (some ⟨S.w.heap.size, 0, none⟩) n.toNat n.toNat) ?_ (by rw [hod]; exact K') g'⟩
       rw [w']
       unfold execOp
       simp [ho, ex, ey, hr]
      split at h
      ·exact key r' rfl h
      ·rename_i r2 _
       by_cases hs2 : shp r2 = shp r'
       ·simp only [hs2, decide_true, cond_true] at h
        exact key r2 hs2 h
       ·simp [hs2] at h
     ·simp [h0, hb] at h
    ·simp [h0] at h
  ·cases h
 ·cases h
theorem rowsP_ok (hE : EnOk X E) {e : TypeId} {r' : Ty} (N : Nat) : ∀ (ps : List (Nat × Operand)) {S : Sit} {A : Ab} {i : Nat} {ys : List r'.den} {us' : List Up} {zs : List r'.den} {cs : List Value}, Okay X S a → S.g = get A → rowsP E A e r' i ps = some (ys, us') → zs.length = i →
  Rows (fun x c => r'.rep X.P (fun k => S.O k = .fz) S.w x c) zs (cs.take (i * r'.sz)) → cs.length = N * r'.sz → i + ps.length ≤ N →
  ∃ S', ∃ cs' : List Value, Okay X S' a ∧ S'.g = get (ups A us') ∧ S'.w = S.w ∧ ys.length = ps.length ∧ cs'.length = N * r'.sz ∧ Rows (fun x c => r'.rep X.P (fun k => S'.O k = .fz) S'.w x c) (zs ++ ys) (cs'.take ((i + ps.length) * r'.sz)) ∧
   Instr.fill (fun j => some (j * r'.sz, r'.sz)) cs.toArray (ps.map fun p => (p.1, a.eval p.2)) = some cs'.toArray
 | [], S, A, i, ys, us', zs, cs, K, hg, h, hi, hz, hcl, hN => by
  simp only [rowsP, Option.some.injEq, Prod.mk.injEq] at h
  obtain ⟨rfl, rfl⟩ := h
  exact ⟨S, cs, K, hg, rfl, rfl, hcl, by simpa using hz, rfl⟩
 | (j, x) :: ps, S, A, i, ys, us', zs, cs, K, hg, h, hi, hz, hcl, hN => by
  simp only [rowsP] at h
  cases hb : Nat.beq i j with
  | false => rw [hb] at h; simp at h
  | true =>
   rw [hb, cond_true] at h
   have hij : i = j := Nat.eq_of_beq_eq_true hb
   subst hij
   split at h
   ·rename_i s hs
    cases hst : storable ((parts s).map (kept A)) with
    | false => rw [hst] at h; simp at h
    | true =>
     rw [hst, cond_true] at h
     split at h
     ·rename_i y hy
      split at h
      ·rename_i ys1 us1 hrec
       simp only [Option.some.injEq, Prod.mk.injEq] at h
       obtain ⟨rfl, rfl⟩ := h
       have hnt : ∀ vs, s ≠ .tup vs := by
        intro vs e1
        subst e1
        have : ∀ t : Ty, mkT t [] = none := by intro t; induction t <;> simp_all [mkT]
        simp [parts, mkW, this] at hy
       obtain ⟨S1, K1, g1, w1, b1, p1, L1, x1, heads, tms, us, hsh, hls⟩ := taken hE K hg hs hnt 0
       obtain ⟨K2, L2⟩ := K1.names (frzH 0) (by intro n q; unfold frzH; split <;> simp)
       have hrep := calm_rep hst hls
       rw [List.map_map] at hrep
       have hyr := mkW_rep hy hrep
       have hul := Ty.rep_len _ _ _ hyr
       have hone := one_of hst hls
       have hle : i * r'.sz + r'.sz ≤ cs.length := by
        rw [hcl]
        have := Nat.mul_le_mul_right r'.sz (show i + 1 ≤ N by simp only [List.length_cons] at hN; omega)
        rw [Nat.add_mul, Nat.one_mul] at this
        exact this
       have hz2 : Rows (fun x c => r'.rep X.P (fun k => ({ S1 with O := atO S1.O (frzH 0) } : Sit).O k = .fz) ({ S1 with O := atO S1.O (frzH 0) } : Sit).w x c) (zs ++ [y]) ((cs.take (i * r'.sz) ++ us ++ cs.drop (i * r'.sz + r'.sz)).take ((i + 1) * r'.sz)) := by
        have e1 : (cs.take (i * r'.sz) ++ us ++ cs.drop (i * r'.sz + r'.sz)).take ((i + 1) * r'.sz) = cs.take (i * r'.sz) ++ us := by
         rw [List.take_left' (by rw [List.length_append, List.length_take, hul, Nat.add_mul, Nat.one_mul]; omega)]
        rw [e1]
        refine Rows.append (hz.mono (fun x c => Ty.rep_mono (fun k hk => (L2.fz k (L1.fz k hk).1).1) (fun k hk => by show S1.w.heap[k]? = _; rw [w1]) r' x c)) ⟨us, [], by simp, hyr, rfl⟩
       obtain ⟨S', cs', K', g', w', l1, l2, l3, hf⟩ := rowsP_ok hE N ps K2 (by show S1.g = _; exact g1) hrec (by simp [hi]) hz2 (by
        simp only [List.length_append, List.length_take, List.length_drop, hul]; omega) (by simp only [List.length_cons] at hN; omega)
       refine ⟨S', cs', K', by rw [ups_append]; exact g', w'.trans w1, by simp [l1], l2, ?_, ?_⟩
       ·rw [List.append_assoc, List.singleton_append] at l3
        rw [List.length_cons, show i + (ps.length + 1) = i + 1 + ps.length by omega]
        exact l3
       ·rw [List.map_cons, fill_cons (us := us) (off := i * r'.sz) (z := r'.sz) rfl (shape_cells hsh hnt hone) hul (by simpa using hle)]
        exact hf
      ·cases h
     ·cases h
   ·cases h
theorem rowsD_ok (hE : EnOk X E) {e : TypeId} {r' : Ty} (N : Nat) (hall : allOw r' = true) : ∀ (ps : List (Nat × Operand)) {S : Sit} {A : Ab} {i : Nat} {ys : List r'.den} {us' : List Up} {zs : List r'.den} {cs : List Value} {bz : List Nat}, Okay X S a → S.g = get A → rowsD E A e r' i ps = some (ys, us') → zs.length = i →
  DRows (fun x c b => r'.dep X.P (fun k => S.O k = .fz) S.w x c b) zs (cs.take (i * r'.sz)) bz → bz.Nodup → (∀ k ∈ bz, ∃ n q, 1000 ≤ n ∧ n < 1000 + i ∧ S.O k = .tm n q) → cs.length = N * r'.sz → i + ps.length ≤ N →
  ∃ S', ∃ cs' : List Value, ∃ b2, Okay X S' a ∧ S'.g = get (ups A us') ∧ S'.w = S.w ∧ ys.length = ps.length ∧ cs'.length = N * r'.sz ∧ DRows (fun x c b => r'.dep X.P (fun k => S'.O k = .fz) S'.w x c b) (zs ++ ys) (cs'.take ((i + ps.length) * r'.sz)) b2 ∧
   b2.Nodup ∧ (∀ k ∈ b2, ∃ n q, 1000 ≤ n ∧ n < 1000 + (i + ps.length) ∧ S'.O k = .tm n q) ∧ Instr.fill (fun j => some (j * r'.sz, r'.sz)) cs.toArray (ps.map fun p => (p.1, a.eval p.2)) = some cs'.toArray
 | [], S, A, i, ys, us', zs, cs, bz, K, hg, h, hi, hz, hbn, hbl, hcl, hN => by
  simp only [rowsD, Option.some.injEq, Prod.mk.injEq] at h
  obtain ⟨rfl, rfl⟩ := h
  exact ⟨S, cs, bz, K, hg, rfl, rfl, hcl, by simpa using hz, hbn, by simpa using hbl, rfl⟩
 | (j, x) :: ps, S, A, i, ys, us', zs, cs, bz, K, hg, h, hi, hz, hbn, hbl, hcl, hN => by
  simp only [rowsD] at h
  cases hb : Nat.beq i j with
  | false => rw [hb] at h; simp at h
  | true =>
   rw [hb, cond_true] at h
   have hij : i = j := Nat.eq_of_beq_eq_true hb
   subst hij
   split at h
   ·rename_i s hs
    split at h
    ·rename_i m us0 hgive
     cases hst : owned m with
     | false => rw [hst] at h; simp at h
     | true =>
      rw [hst, cond_true] at h
      split at h
      ·rename_i y hy
       split at h
       ·rename_i ys1 us1 hrec
        simp only [Option.some.injEq, Prod.mk.injEq] at h
        obtain ⟨rfl, rfl⟩ := h
        have hnt : ∀ vs, s ≠ .tup vs := by
         intro vs e1
         subst e1
         have h1 : ∀ t : Ty, mkT t [] = none := by intro t; induction t <;> simp_all [mkT]
         have h2 := give_len hgive
         have : m = [] := List.eq_nil_of_length_eq_zero (by simpa [parts] using h2)
         subst this
         simp [mkW, h1] at hy
        obtain ⟨S1, K1, g1, G1, us, hsh, hls⟩ := give_ok hE K hg hs hnt hgive (1000 + i)
        obtain ⟨mb, m1, m2, m3⟩ := owned_deps hst hls (pth_inj hnt (give_len hgive))
        have hyr := mkW_dep hall hy m1
        have hul := Ty.dep_len _ _ _ _ hyr
        have hone := one_of (owned_storable hst) hls
        have hle : i * r'.sz + r'.sz ≤ cs.length := by
         rw [hcl]
         have := Nat.mul_le_mul_right r'.sz (show i + 1 ≤ N by simp only [List.length_cons] at hN; omega)
         rw [Nat.add_mul, Nat.one_mul] at this
         exact this
        have hbl1 : ∀ k ∈ bz, ∃ n q, 1000 ≤ n ∧ n < 1000 + i ∧ S1.O k = .tm n q := fun k hk => by
         obtain ⟨n, q, h1, h2, h3⟩ := hbl k hk
         exact ⟨n, q, h1, h2, G1.tm n q k h3⟩
        have hz1 : DRows (fun x c b => r'.dep X.P (fun k => S1.O k = .fz) S1.w x c b) zs (cs.take (i * r'.sz)) bz := hz.mono (fun x c b _ h => Ty.dep_mono (fun k hk => (G1.later.fz k hk).1) (fun k _ => by rw [G1.w]) r' x c b (fun k _ => by rw [G1.w]) h)
        have hz2 : DRows (fun x c b => r'.dep X.P (fun k => S1.O k = .fz) S1.w x c b) (zs ++ [y]) ((cs.take (i * r'.sz) ++ us ++ cs.drop (i * r'.sz + r'.sz)).take ((i + 1) * r'.sz)) (bz ++ mb) := by
         have e1 : (cs.take (i * r'.sz) ++ us ++ cs.drop (i * r'.sz + r'.sz)).take ((i + 1) * r'.sz) = cs.take (i * r'.sz) ++ us := by
          rw [List.take_left' (by rw [List.length_append, List.length_take, hul, Nat.add_mul, Nat.one_mul]; omega)]
         rw [e1]
         exact hz1.append ⟨us, [], mb, [], by simp, by simp, hyr, rfl, rfl⟩
        have hbn2 : (bz ++ mb).Nodup := by
         rw [List.nodup_append]
         refine ⟨hbn, m2, fun k hk k' hk' e => ?_⟩
         subst e
         obtain ⟨n, q, _, h2, h3⟩ := hbl1 k hk
         obtain ⟨n', _, _, h4⟩ := m3 k hk'
         rw [h3] at h4
         cases h4
         omega
        have hbl2 : ∀ k ∈ bz ++ mb, ∃ n q, 1000 ≤ n ∧ n < 1000 + (i + 1) ∧ S1.O k = .tm n q := fun k hk => by
         rcases List.mem_append.1 hk with hk | hk
         ·obtain ⟨n, q, h1, h2, h3⟩ := hbl1 k hk
          exact ⟨n, q, h1, by omega, h3⟩
         ·obtain ⟨n', _, _, h4⟩ := m3 k hk
          exact ⟨_, _, by omega, by omega, h4⟩
        obtain ⟨S', cs', b2, K', g', w', l1, l2, l3, l4, l5, hf⟩ := rowsD_ok hE N hall ps K1 g1 hrec (by simp [hi]) hz2 hbn2 hbl2 (by
         simp only [List.length_append, List.length_take, List.length_drop, hul]; omega) (by simp only [List.length_cons] at hN; omega)
        refine ⟨S', cs', b2, K', by rw [ups_append]; exact g', w'.trans G1.w, by simp [l1], l2, ?_, l4, ?_, ?_⟩
        ·rw [List.append_assoc, List.singleton_append] at l3
         rw [List.length_cons, show i + (ps.length + 1) = i + 1 + ps.length by omega]
         exact l3
        ·rw [List.length_cons, show i + (ps.length + 1) = i + 1 + ps.length by omega]
         exact l5
        ·rw [List.map_cons, fill_cons (us := us) (off := i * r'.sz) (z := r'.sz) rfl (shape_cells hsh hnt hone) hul (by simpa using hle)]
         exact hf
       ·cases h
      ·cases h
    ·cases h
   ·cases h
theorem st_buildSlice (hE : EnOk X E) (K : Okay X S a) (hg : S.g = get A) {T : TypeId} {n d : Nat} {ps : Array (Nat × Operand)} (ho : o.op = .buildSlice T n ps) (hod : o.dst = some d) (hd : d < X.nt) (h : step E o A Kc = some r) : After X o a S.w A Kc r := by
 unfold step at h
 rw [ho, hod] at h
 simp only at h
 split at h
 ·rename_i e r' by_ fo hT
  cases hq : (Nat.beq n ps.size && Nat.ble (n * r'.sz) 16777216 && (E.ti e).isSome) with
  | false => rw [hq] at h; simp at h
  | true =>
   rw [hq, cond_true] at h
   simp only [Bool.and_eq_true] at hq
   have hn : n = ps.size := Nat.eq_of_beq_eq_true hq.1.1
   have hle : n * r'.sz ≤ 16777216 := Nat.le_of_ble_eq_true hq.1.2
   obtain ⟨te, hte⟩ := Option.isSome_iff_exists.1 hq.2
   have hTk := hE.ti _ _ hT
   have hek := hE.ti _ _ hte
   have hu : X.P.underlying T = some (.slice e) := by
    have := hTk.desc
    unfold descB at this
    split at this <;> simp_all
   have hszs := hTk.sz
   simp only [szB, Bool.and_eq_true, beq_iff_eq] at hszs
   obtain ⟨z, z1, z2, z3⟩ := tok_zero (w := S.w) hek
   have hps : ps.toList.length = n := by rw [hn]; simp
   have fin : ∀ {r2 : Ty} {ys : List r2.den} {us : List Up}, r2.sz = r'.sz → Kc (us ++ [⟨d, false, .one (.own e r2 ys)⟩]) = some r →
     (∀ cs : List Value, cs.length = n * r2.sz → ∃ (S1 : Sit) (cs' : List Value) (b2 : List Nat), Okay X S1 a ∧ S1.g = get (ups A us) ∧ S1.w = S.w ∧ ys.length = n ∧ cs'.length = n * r2.sz ∧ DRows (fun x c b => r2.dep X.P (fun k => S1.O k = .fz) S1.w x c b) ys cs' b2 ∧
      b2.Nodup ∧ (∀ k ∈ b2, ∃ q, S1.O k = .tm 0 q) ∧ Instr.fill (fun j => some (j * r2.sz, r2.sz)) cs.toArray (ps.toList.map fun p => (p.1, a.eval p.2)) = some cs'.toArray) → After X o a S.w A Kc r := by
    intro r2 ys us hsz2 hk hrows
    rw [← hsz2] at hle hszs
    have run : ∀ zero : Array Value, ((if n * r2.sz = 0 then pure #[] else do pure (← zeroValue e).cells : Sem (Array Value)).run X.P S.w = .ok zero S.w) → After X o a S.w A Kc r := by
     intro zero hzero
     obtain ⟨S1, cs', b2, K1, g1, w1, l1, l2, l3, l4, l5, hf⟩ := hrows ((Array.range (n * r2.sz)).map (zero[· % zero.size]!)).toList (by simp)
     obtain ⟨S', K', w', g'⟩ := put_newD K1 g1 hd (w' := S1.w.alloc (.cells cs'.toArray e)) (row := none) (e := e) (r' := r2) (xs := ys) (v := .slice (some ⟨S1.w.heap.size, 0, none⟩) n n)
      (cs := cs'.toArray.toList) (World.grownBy_alloc _ _ _) (by simp) hszs.1
      (by rw [l1]; exact World.ownsRow_lit S1.w _ n (Nat.zero_le _) (by
       have h1 := sz_pos r2
       have h2 : n * 1 ≤ n * r2.sz := Nat.mul_le_mul_left _ h1
       simp only [maxLen]; omega) (by simpa using l2))
      l3 l4 l5 (by
       intro k hk
       refine ⟨by simp, fun e1 => ?_⟩
       simp only [Value.ownBlock, Option.some.injEq] at e1
       obtain ⟨q, hq⟩ := l5 k hk
       have := K1.lt k (by rw [hq]; simp)
       omega) (by
       intro k hk
       simp only [Value.ownBlock, Option.some.injEq] at hk
       exact .inr (Nat.le_of_eq hk))
     rw [← ups_append] at g'
     refine ⟨_, hk, goes_value (S := S') (v := .slice (some ⟨S1.w.heap.size, 0, none⟩) n n) ?_ (by rw [hod]; exact K') g'⟩
     rw [w', w1]
     unfold execOp
     simp only [ho, Sem.run_bind]
     unfold Instr.buildSlice
     simp only [Sem.run_bind, run_underlying hu, Result.andThen_ok, info_size hszs.1]
     rw [if_neg (by omega)]
     have e2 : (ps.map fun x => (x.1, a.eval x.2)).toList = ps.toList.map fun p => (p.1, a.eval p.2) := by simp
     simp only [Array.toArray_toList] at hf
     by_cases hz0 : n * r2.sz = 0
     ·rw [if_pos hz0] at hzero ⊢
      simp only [Sem.run_pure, Result.ok.injEq, and_true] at hzero
      subst hzero
      simp only [Sem.run_bind, Sem.run_pure, Result.andThen_ok, e2, hf]
      simp [newRow]
     ·rw [if_neg hz0] at hzero ⊢
      simp only [Sem.run_bind, Sem.run_pure, z1, Result.andThen_ok, Result.ok.injEq, and_true] at hzero
      subst hzero
      simp only [Sem.run_bind, Sem.run_pure, z1, Result.andThen_ok, e2, hf]
      simp [newRow]
    by_cases hz : n * r2.sz = 0
    ·exact run #[] (by rw [if_pos hz]; rfl)
    ·exact run z.cells (by rw [if_neg hz]; simp [z1])
   split at h
   ·cases hno : noOw r' with
    | false => rw [hno] at h; simp at h
    | true =>
     rw [hno, cond_true] at h
     split at h
     ·rename_i ys us hrows
      refine fin rfl h (fun cs hcs => ?_)
      obtain ⟨S1, cs', K1, g1, w1, l1, l2, l3, hf⟩ := rowsP_ok hE n ps.toList (zs := []) (cs := cs) K hg hrows rfl (by simp [Rows]) hcs (by simp [hn])
      simp only [List.nil_append, Nat.zero_add] at l3
      rw [hps] at l1 l3
      rw [List.take_of_length_le (by omega)] at l3
      exact ⟨S1, cs', [], K1, g1, w1, l1, l2, (DRows.flat (fun x c b => Ty.dep_flat r' x c b hno)).2 ⟨l3, rfl⟩, by simp, by simp, hf⟩
     ·cases h
   ·rename_i r2 _
    cases hq2 : (decide (shp r2 = shp r') && allOw r2) with
    | false => rw [hq2] at h; simp at h
    | true =>
     rw [hq2, cond_true] at h
     simp only [Bool.and_eq_true, decide_eq_true_eq] at hq2
     have hsz2 : r2.sz = r'.sz := by rw [← shp_sz r2, hq2.1, shp_sz r']
     split at h
     ·rename_i ys us hrows
      refine fin hsz2 h (fun cs hcs => ?_)
      obtain ⟨S1, cs', b2, K1, g1, w1, l1, l2, l3, l4, l5, hf⟩ := rowsD_ok hE n hq2.2 ps.toList (zs := []) (bz := []) (cs := cs) K hg hrows rfl (by simp [DRows]) (by simp) (by simp) hcs (by simp [hn])
      simp only [List.nil_append, Nat.zero_add] at l3
      rw [hps] at l1 l3
      rw [List.take_of_length_le (by omega)] at l3
      obtain ⟨K2, L2⟩ := K1.names (fun n _ => if 1000 ≤ n then some (.tm 0 []) else none) (by intro n q; split <;> simp)
      refine ⟨_, cs', b2, K2, g1, w1, l1, l2, l3.mono (fun x c b _ h => Ty.dep_mono (fun k hk => (L2.fz k hk).1) (fun _ _ => rfl) r2 x c b (fun _ _ => rfl) h), l4, fun k hk => ?_, hf⟩
      obtain ⟨m, q, m1, _, m2⟩ := l5 k hk
      exact ⟨[], atO_tm m2 (by simp [m1])⟩
     ·cases h
 ·cases h
end
end Go.Proofs.Ytehkignjdbkeiaa.Vf
end
