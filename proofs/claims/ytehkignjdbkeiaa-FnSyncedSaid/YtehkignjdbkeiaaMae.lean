import Derived.Test.YtehkignjdbkeiaaMad
section
set_option linter.unusedVariables false
set_option linter.unusedSimpArgs false
namespace Go.Proofs.Ytehkignjdbkeiaa.Vf
open Go
attribute [local irreducible] C H
section
variable {X : Cx} {S S' : Sit} {a : Act} {E : En} {A : Ab} {o : Oper} {R : Type} {Kc : List Up → Option R} {r : R}
structure Given (X : Cx) (S S' : Sit) : Prop where
 w : S'.w = S.w
 bb : S'.bb = S.bb
 ph : S'.ph = S.ph
 later : Later S S'
 bx : ∀ b k, S.O k = .bx b → S'.O k = .bx b
 heads : ∀ b n, (S.g (H b)).2 = .one (.hd n) → S'.g (H b) = S.g (H b)
 tms : ∀ n q x u, LfOk X.P S (.tm n q) x u → LfOk X.P S' (.tm n q) x u
 tm : ∀ n q k, S.O k = .tm n q → S'.O k = .tm n q
theorem Given.refl (S : Sit) : Given X S S := ⟨rfl, rfl, rfl, .refl S, fun _ _ h => h, fun _ _ _ => rfl, fun _ _ _ _ h => h, fun _ _ _ h => h⟩
theorem Given.trans {S1 S2 : Sit} (h : Given X S S1) (h' : Given X S1 S2) : Given X S S2 :=
 ⟨h'.w.trans h.w, h'.bb.trans h.bb, h'.ph.trans h.ph, h.later.trans h'.later, fun b k e => h'.bx b k (h.bx b k e), fun b n e => by
  have e1 := h.heads b n e
  exact (h'.heads b n (by rw [e1]; exact e)).trans e1, fun n q x u hx => h'.tms n q x u (h.tms n q x u hx), fun n q k hk => h'.tm n q k (h.tm n q k hk)⟩
theorem takeLs_cons {A : Ab} {x : Lf} {l m : List Lf} {us : List Up} (hx : ∀ p v, x ≠ .al p v) (h : takeLs A (x :: l) = some (m, us)) : ∃ m', m = x :: m' ∧ takeLs A l = some (m', us) := by
 have e : takeLs A (x :: l) = match takeLs A l with | some (m, us) => some (x :: m, us) | none => none := by
  cases x <;> first | rfl | exact absurd rfl (hx _ _)
 rw [e] at h
 split at h
 ·rename_i m' us' h'
  cases h
  exact ⟨m', rfl, h'⟩
 ·cases h
theorem takeLs_ok (i : Nat) (path : Nat → List Nat) : ∀ (l : List Lf) {S : Sit} {A : Ab} {j : Nat} {us : List Value} {m : List Lf} {vs : List Up}, Okay X S a → S.g = get A → takeLs A l = some (m, vs) → LfsOk X.P S (fun n => .tm i (path n)) j l us →
  ∃ S', Okay X S' a ∧ S'.g = get (ups A vs) ∧ Given X S S' ∧ LfsOk X.P S' (fun n => .tm i (path n)) j m us
 | [], S, A, j, [], m, vs, K, hg, h, _ => by
  simp only [takeLs, Option.some.injEq, Prod.mk.injEq] at h
  obtain ⟨rfl, rfl⟩ := h
  exact ⟨S, K, hg, .refl S, trivial⟩
 | [], S, A, j, _ :: _, m, vs, K, hg, h, hl => hl.elim
 | _ :: _, S, A, j, [], m, vs, K, hg, h, hl => hl.elim
 | x :: l, S, A, j, u :: us, m, vs, K, hg, h, hl => by
  by_cases hal : ∃ p v, x = .al p v
  ·obtain ⟨p, v, rfl⟩ := hal
   simp only [takeLs] at h
   split at h
   ·rename_i e r' xs hsn
    obtain ⟨p', v', e0, hp⟩ := seen_alias hsn (fun e r xs hy => by cases hy)
    cases e0
    split at h
    ·rename_i m' vs' hrec
     simp only [Option.some.injEq, Prod.mk.injEq] at h
     obtain ⟨rfl, rfl⟩ := h
     have he : u = S.ph p := hl.1.2 (by rw [hg, hp])
     let f : List Nat → Option (List Nat) := fun q => match q with | [] => some (path j) | _ => none
     have L1 := detP_later S p i f (.one .dead)
     obtain ⟨K1, h1, h2⟩ := detachP K p i f (.one .dead) (by simp) trivial
     have hown : LfOk X.P S (.pl p []) (.own e r' xs) (S.ph p) := by have := K.at_ p; rw [hg, hp] at this; exact this
     have hown1 := h1 [] (path j) _ _ rfl hown
     have g1 : (detP S p i f (.one .dead)).g = get (up A ⟨p, false, .one .dead⟩) := by
      show upd S.g p _ = _
      rw [get_up, ← hg]; rfl
     have G1 : Given X S (detP S p i f (.one .dead)) := ⟨rfl, rfl, rfl, L1, fun b k hk => (reP_other (by simp [hk])).trans hk, fun b n hn => upd_ne _ _ (fun e1 => by rw [e1, hg, hp] at hn; cases hn), h2, fun n q k hk => (reP_other (by simp [hk])).trans hk⟩
     have hrest : LfsOk X.P (detP S p i f (.one .dead)) (fun n => .tm i (path n)) (j + 1) l us := hl.2.imp (fun n x u hx => h2 i (path n) x u hx)
     obtain ⟨S2, K2, g2, G2, hl2⟩ := takeLs_ok i path l K1 g1 hrec hrest
     refine ⟨S2, K2, g2, G1.trans G2, ?_, hl2⟩
     rw [he]
     exact G2.tms _ _ _ _ hown1
    ·cases h
   ·cases h
  ·obtain ⟨m', rfl, h'⟩ := takeLs_cons (fun p v e => hal ⟨p, v, e⟩) h
   obtain ⟨S2, K2, g2, G2, hl2⟩ := takeLs_ok i path l K hg h' hl.2
   exact ⟨S2, K2, g2, G2, G2.tms _ _ _ _ hl.1, hl2⟩
theorem give_ok (hE : EnOk X E) (K : Okay X S a) (hg : S.g = get A) {T : TypeId} {y : Operand} {s : Sv} {m : List Lf} {vs : List Up} (hs : opT E T A y = some s) (hnt : ∀ vs, s ≠ .tup vs) (h : give A y s = some (m, vs)) (i : Nat) :
  ∃ S', Okay X S' a ∧ S'.g = get (ups A vs) ∧ Given X S S' ∧ ∃ us, Shape s (a.eval y) us ∧ LfsOk X.P S' (fun n => .tm i (pth s n)) 0 m us := by
 unfold give at h
 split at h
 ·rename_i m0 vs0 ht
  simp only [Option.some.injEq, Prod.mk.injEq] at h
  obtain ⟨rfl, rfl⟩ := h
  have first : ∃ S1, Okay X S1 a ∧ S1.g = get (ups A (gone y s)) ∧ Given X S S1 ∧ ∃ us, Shape s (a.eval y) us ∧ LfsOk X.P S1 (fun n => .tm i (pth s n)) 0 (parts s) us := by
   rcases opT_ok hE K hg hs with ⟨t, rfl, htl, hst, het, hok⟩ | ⟨hnt', x, rfl, hx⟩
   ·cases ho : ownSv s with
    | false =>
     have hgo : gone (.tmp t) s = [] := by simp [gone, ho]
     refine ⟨S, K, by rw [hgo]; exact hg, .refl S, ?_⟩
     cases s with
     | tup vs => exact absurd rfl (hnt vs)
     | one x => exact ⟨[_], rfl, (LfsOk.relab (f := fun _ => .pl t []) ho ⟨hok, trivial⟩)⟩
     | agg l =>
      obtain ⟨us, e1, hl⟩ := hok
      exact ⟨us, e1, hl.relab ho⟩
    | true =>
     have hgo : gone (.tmp t) s = [⟨t, false, .one .dead⟩] := by simp [gone, ho]
     obtain ⟨K1, h1, h2⟩ := detach K t i
     have G1 : Given X S (detS S t i) := ⟨rfl, rfl, rfl, detS_later S t i, fun b k hk => (reO_other (by simp [hk])).trans hk, fun b n hn => upd_ne _ _ (fun e1 => by rw [e1, ← hst] at hn; subst hn; simp [ownSv, ownIn] at ho), h2, fun n q k hk => (reO_other (by simp [hk])).trans hk⟩
     refine ⟨_, K1, ?_, G1, ?_⟩
     ·rw [hgo, get_ups1, ← hg]; rfl
     ·cases s with
      | tup vs => exact absurd rfl (hnt vs)
      | one x => exact ⟨[_], rfl, h1 [] x _ hok, trivial⟩
      | agg l =>
       obtain ⟨us, e1, hl⟩ := hok
       exact ⟨us, e1, hl.imp (fun n x u hx => h1 [n] x u hx)⟩
   ·have hgo : gone y (.one x) = [] := by
     unfold gone
     split
     ·exact absurd rfl (hnt' _)
     ·rfl
    exact ⟨S, K, by rw [hgo]; exact hg, .refl S, [_], rfl, hx _, trivial⟩
  obtain ⟨S1, K1, g1, G1, us, hsh, hl⟩ := first
  obtain ⟨S2, K2, g2, G2, hl2⟩ := takeLs_ok i (pth s) (parts s) K1 g1 ht hl
  exact ⟨S2, K2, by rw [ups_append]; exact g2, G1.trans G2, us, hsh, hl2⟩
 ·cases h
theorem owned_deps {P : Program} {S : Sit} {f : Nat → Lab} : ∀ {m : List Lf} {j : Nat} {us : List Value}, owned m = true → LfsOk P S f j m us → (∀ n n', j ≤ n → n < j + m.length → j ≤ n' → n' < j + m.length → f n = f n' → n = n') →
  ∃ mb, LDeps P (fun k => S.O k = .fz) S.w m us mb ∧ mb.Nodup ∧ ∀ k ∈ mb, ∃ n, j ≤ n ∧ n < j + m.length ∧ S.O k = f n
 | [], j, [], _, _, _ => ⟨[], ⟨rfl, rfl⟩, by simp, by simp⟩
 | [], j, _ :: _, _, h, _ => h.elim
 | _ :: _, j, [], _, h, _ => h.elim
 | x :: m, j, u :: us, ho, h, hi => by
  have hrest : owned m = true := by cases x <;> first | (simp [owned] at ho; done) | simpa [owned] using ho
  obtain ⟨mb, h1, h2, h3⟩ := owned_deps hrest h.2 (fun n n' a1 a2 a3 a4 e => hi n n' (by omega) (by simp only [List.length_cons]; omega) (by omega) (by simp only [List.length_cons]; omega) e)
  have hx : ∃ b, LDep P (fun k => S.O k = .fz) S.w x u b ∧ b.Nodup ∧ ∀ k ∈ b, S.O k = f j := by
   cases x with
   | sc v => exact ⟨[], ⟨h.1.1, h.1.2, rfl⟩, by simp, by simp⟩
   | own e r xs => exact h.1
   | _ => simp [owned] at ho
  obtain ⟨b, b1, b2, b3⟩ := hx
  refine ⟨b ++ mb, ⟨u, us, b, mb, rfl, rfl, b1, h1⟩, ?_, fun k hk => ?_⟩
  ·rw [List.nodup_append]
   refine ⟨b2, h2, fun k hk k' hk' e => ?_⟩
   subst e
   obtain ⟨n, n1, n2, n3⟩ := h3 k hk'
   have := hi j n (Nat.le_refl _) (by simp) (by omega) (by simp only [List.length_cons]; omega) ((b3 k hk).symm.trans n3)
   omega
  ·rcases List.mem_append.1 hk with hk | hk
   ·exact ⟨j, Nat.le_refl _, by simp, b3 k hk⟩
   ·obtain ⟨n, n1, n2, n3⟩ := h3 k hk
    exact ⟨n, by omega, by simp only [List.length_cons]; omega, n3⟩
theorem pth_inj {s : Sv} {m : List Lf} {i : Nat} (hnt : ∀ vs, s ≠ .tup vs) (hl : m.length = (parts s).length) : ∀ n n', 0 ≤ n → n < 0 + m.length → 0 ≤ n' → n' < 0 + m.length → Lab.tm i (pth s n) = .tm i (pth s n') → n = n' := by
 intro n n' _ h1 _ h2 e
 cases s with
 | one x => simp only [parts, List.length_cons, List.length_nil] at hl; omega
 | agg l => simpa [pth] using e
 | tup vs => exact absurd rfl (hnt vs)
theorem takeLs_len : ∀ (l : List Lf) {A : Ab} {m : List Lf} {us : List Up}, takeLs A l = some (m, us) → m.length = l.length
 | [], A, m, us, h => by
  simp only [takeLs, Option.some.injEq, Prod.mk.injEq] at h
  obtain ⟨rfl, _⟩ := h
  rfl
 | x :: l, A, m, us, h => by
  by_cases hal : ∃ p v, x = .al p v
  ·obtain ⟨p, v, rfl⟩ := hal
   simp only [takeLs] at h
   split at h
   ·split at h
    ·rename_i m' vs' hrec
     simp only [Option.some.injEq, Prod.mk.injEq] at h
     obtain ⟨rfl, rfl⟩ := h
     simp [takeLs_len l hrec]
    ·cases h
   ·cases h
  ·obtain ⟨m', rfl, h'⟩ := takeLs_cons (fun p v e => hal ⟨p, v, e⟩) h
   simp [takeLs_len l h']
theorem give_len {y : Operand} {s : Sv} {m : List Lf} {us : List Up} (h : give A y s = some (m, us)) : m.length = (parts s).length := by
 unfold give at h
 split at h
 ·rename_i m0 vs0 ht
  simp only [Option.some.injEq, Prod.mk.injEq] at h
  obtain ⟨rfl, rfl⟩ := h
  exact takeLs_len _ ht
 ·cases h
def toP (p : Nat) : Nat → List Nat → Option Lab := fun n _ => if n = 0 then some (.pl p []) else none
theorem Okay.rewriteD (K : Okay X S a) {p n : Nat} {e : TypeId} {r' : Ty} {xs ys : List r'.den} {w' : World} (hp : S.g p = (n, .one (.own e r' xs))) (hold : ∀ j o', S.O j = o' → o' ≠ .pl p [] → w'.heap[j]? = S.w.heap[j]?)
  (hsz : w'.heap.size = S.w.heap.size) (h1 : w'.os = S.w.os) (h2 : w'.tape = S.w.tape) (h3 : w'.output = S.w.output) (hown : OwnOk X.P (atO S.O (toP p)) w' (.pl p []) e r' ys (S.ph p)) :
  Okay X { S with O := atO S.O (toP p), g := upd S.g p (n + 1, .one (.own e r' ys)), w := w' } a := by
 have keep : ∀ k o', S.O k = o' → (∀ n q, o' ≠ .tm n q) → atO S.O (toP p) k = o' := fun k o' h h' => atO_other h h'
 have L : Later S { S with O := atO S.O (toP p), g := upd S.g p (n + 1, .one (.own e r' ys)), w := w' } := by
  refine ⟨fun q => ?_, fun _ _ => rfl, fun q v e2 r2 xs' hq hv => ?_, fun _ _ => rfl, fun j hj => ⟨keep j _ hj (by simp), hold j _ hj (by simp)⟩, Later.box_of (fun b m hv hh => ?_) (fun j b h => ⟨keep j _ h (by simp), hold j _ h (by simp)⟩), fun q hv hd => ?_⟩
  ·show _ ≤ (upd S.g p _ q).1
   by_cases h : q = p
   ·subst h; rw [upd_same, hp]; exact Nat.le_succ _
   ·rw [upd_ne _ _ h]; exact Nat.le_refl _
  ·have hq' : upd S.g p (n + 1, .one (.own e r' ys)) q = (v, .one (.own e2 r2 xs')) := hq
   by_cases h : q = p
   ·subst h
    rw [upd_same] at hq'
    cases hq'
    rw [hp] at hv
    simp at hv
   ·rw [upd_ne _ _ h] at hq'
    exact ⟨xs', hq', rfl⟩
  ·have hb : H b ≠ p := fun e => by subst e; rw [hp] at hh; cases hh
   exact (congrArg Prod.snd (upd_ne _ _ hb)).trans hh
  ·have hv' : (upd S.g p (n + 1, .one (.own e r' ys)) q).1 = (S.g q).1 := hv
   have h : q ≠ p := fun e => by subst e; rw [upd_same, hp] at hv'; simp at hv'
   have e1 : ({ S with O := atO S.O (toP p), g := upd S.g p (n + 1, .one (.own e r' ys)), w := w' } : Sit).g q = S.g q := upd_ne _ _ h
   rw [e1]
   exact ⟨hd, fun _ _ _ h => h, fun k hk => ⟨.inl (keep k _ hk (by simp)), hold k _ hk (by simp [h])⟩⟩
 have F := K.fr
 refine ⟨K.nt, fun j hj => ?_, fun l => ?_, fun b m hb => ?_, fun b m hb => ?_, K.sl, K.sz, K.df, ⟨h1.trans F.os, h2.trans F.tape, h3.trans F.out, ?_, fun j hj h0 => ?_, fun j hj h0 => ?_, fun j b hj h0 => ?_⟩⟩
 ·show j < w'.heap.size
  rw [hsz]
  refine K.lt j (fun e => hj (keep j _ e (by simp)))
 ·show SvOk X.P _ l (upd S.g p _ l).2 _
  by_cases h : l = p
  ·subst h; rw [upd_same]; exact hown
  ·rw [upd_ne _ _ h]
   exact (K.at_ l).later L (fun q j hj => ⟨keep j _ hj (by simp), hold j _ hj (by simp [h])⟩)
 ·have hne : H b ≠ p := by
   intro e2
   have : (upd S.g p (n + 1, .one (.own e r' ys)) (H b)).2 = .one (.hd m) := hb
   rw [e2, upd_same] at this
   cases this
  have hb' : (S.g (H b)).2 = .one (.hd m) := by
   have : (upd S.g p (n + 1, .one (.own e r' ys)) (H b)).2 = .one (.hd m) := hb
   rwa [upd_ne _ _ hne] at this
  obtain ⟨hn, c, e1, e2, e3, e4⟩ := K.box b m hb'
  exact ⟨hn, c, e1, (hold _ _ e3 (by simp)).trans e2, keep _ _ e3 (by simp), e4⟩
 ·have hne : H b ≠ p := by
   intro e2
   have : (upd S.g p (n + 1, .one (.own e r' ys)) (H b)).2 = .one (.hd m) := hb
   rw [e2, upd_same] at this
   cases this
  have hb' : (S.g (H b)).2 = .one (.hd m) := by
   have : (upd S.g p (n + 1, .one (.own e r' ys)) (H b)).2 = .one (.hd m) := hb
   rwa [upd_ne _ _ hne] at this
  exact K.rgn b m hb'
 ·show _ ≤ w'.heap.size
  rw [hsz]; exact F.size
 ·obtain ⟨f1, f2⟩ := F.no j hj h0
  exact ⟨keep j _ f1 (by simp), (hold j _ f1 (by simp)).trans f2⟩
 ·obtain ⟨f1, f2⟩ := F.fz j hj h0
  exact ⟨keep j _ f1 (by simp), (hold j _ f1 (by simp)).trans f2⟩
 ·obtain ⟨f1, c, c', e1, f, f2, f3, f4, f5⟩ := F.bx j b hj h0
  exact ⟨keep j _ f1 (by simp), c, c', e1, f, f2, (hold j _ f1 (by simp)).trans f3, f4, f5⟩
theorem path_store (K : Okay X S a) {p v : Nat} {q : List (Int × Nat)} {e : TypeId} {r1 : Ty} {xs : List r1.den} {i : Int} {off : Nat} {h u : Value} {E0 : TypeId} {R0 : Ty} {XS XS' : List R0.den} {m : List Lf} {us : List Value} {path : Nat → List Nat} {z : r1.den}
  (hp : S.g p = (v, .one (.own E0 R0 XS))) (hda : DaOk X.P S p v (some q) e r1 xs h) (hdp : 0 ≤ i ∧ i.toNat < xs.length ∧ ∃ k o cap, h = .slice (some ⟨k, o, none⟩) xs.length cap ∧ u = .pointer (some ⟨k, o + (i.toNat * r1.sz + off), none⟩))
  (hall : allOw R0 = true) (ho : owned m = true) (hl : LfsOk X.P S (fun n => .tm 0 (path n)) 0 m us) (hinj : ∀ n n', 0 ≤ n → n < 0 + m.length → 0 ≤ n' → n' < 0 + m.length → Lab.tm 0 (path n) = .tm 0 (path n') → n = n')
  (hz : mkW r1 (Vf.setAll (leaves r1 (xs.getD i.toNat r1.dflt)) off m) = some z) (hle : off + m.length ≤ r1.sz) (hput : putAt r1 (xs.set i.toNat z) q R0 XS = some XS') :
  ∃ k j cur e0, u = .pointer (some ⟨k, j, none⟩) ∧ S.w.heap[k]? = some (.cells cur e0 (0, 0)) ∧ j + us.length ≤ cur.size ∧
   Okay X { S with O := atO S.O (toP p), g := upd S.g p (v + 1, .one (.own E0 R0 XS')), w := S.w.setRow k (rowW cur j us) } a := by
 obtain ⟨i0, i1, k, o, cap, e1, e2⟩ := hdp
 obtain ⟨d1, _, d2⟩ := hda
 obtain ⟨_, _, hpath⟩ := d2 (by rw [hp])
 obtain ⟨f1, f2⟩ := hpath q rfl E0 R0 XS (by rw [hp])
 have hown : OwnOk X.P S.O S.w (.pl p []) E0 R0 XS (S.ph p) := by have := K.at_ p; rw [hp] at this; exact this
 obtain ⟨bs, hd, hn, hb⟩ := hown
 obtain ⟨mb, m1, m2, m3⟩ := owned_deps ho hl hinj
 have hmt : ∀ k ∈ mb, ∃ n, S.O k = .tm 0 (path n) := fun k hk => by obtain ⟨n, _, _, h⟩ := m3 k hk; exact ⟨n, h⟩
 rw [e1] at f2
 obtain ⟨cur, e0, c1, c2, c3, c4, bs', g1, g2, g3⟩ := dep_write (i := i.toNat) (off := off) i1 m1 m2 hz hle (fun k hk hf => by obtain ⟨n, hn⟩ := hmt k hk; rw [hn] at hf; cases hf) q E0 R0 XS XS' (S.ph p) bs hd hn hall
  (fun k hk hk' => by obtain ⟨n, hn⟩ := hmt k hk; rw [hb k hk'] at hn; cases hn) (fun k hk hf => by rw [hb k hk] at hf; cases hf) f1 f2 hput
 subst c3
 refine ⟨k, i.toNat * r1.sz + off, cur, e0, by rw [e2, Nat.zero_add], c1, c4, ?_⟩
 have hkl := hb k c2
 refine K.rewriteD hp (fun j o' hj ho' => setRow_other _ _ _ _ (fun e => ho' (by rw [← hj, e]; exact hkl))) (by simp [World.setRow]) rfl rfl rfl ⟨bs', ?_, g2, fun j hj => ?_⟩
 ·refine Ty.dep_mono (G := fun k => S.O k = .fz) (w := S.w.setRow k (rowW cur (i.toNat * r1.sz + off) us)) (fun j hj => atO_other hj (by simp)) (fun _ _ => rfl) (.ow E0 R0) XS' _ bs' (fun _ _ => rfl) g1
 ·rcases g3 j hj with h9 | h9
  ·exact atO_other (hb j h9) (by simp)
  ·obtain ⟨n, hn⟩ := hmt j h9
   exact atO_tm hn (by simp [toP])
end
end Go.Proofs.Ytehkignjdbkeiaa.Vf
end
section
set_option linter.unusedVariables false
set_option linter.unusedSimpArgs false
namespace Go.Proofs.Ytehkignjdbkeiaa.Vf
open Go
attribute [local irreducible] C H
section
variable {X : Cx} {S S' : Sit} {a : Act} {E : En} {A : Ab} {o : Oper} {R : Type} {Kc : List Up → Option R} {r : R}
theorem Okay.retm (K : Okay X S a) (O' : Nat → Lab) (h : ∀ k o, S.O k = o → (∀ n q, o ≠ .tm n q) → O' k = o) : Okay X { S with O := O' } a ∧ Later S { S with O := O' } := by
 have L : Later S { S with O := O' } := ⟨fun _ => Nat.le_refl _, fun _ _ => rfl, fun p v e r xs' h _ => ⟨xs', h, rfl⟩, fun _ _ => rfl, fun k hk => ⟨h k _ hk (by simp), rfl⟩, Later.box_of (fun _ _ _ h => h) (fun k b hk => ⟨h k _ hk (by simp), rfl⟩), fun p _ hd => ⟨hd, fun _ _ _ h => h, fun k hk => ⟨.inl (h k _ hk (by simp)), rfl⟩⟩⟩
 exact ⟨K.ghost _ _ (fun k e => h k _ e (by simp)) (fun k e1 e2 => e1 (h k _ e2 (by simp))) (fun k e => h k _ e (by simp)) (fun k b e => h k _ e (by simp)) (fun _ _ e => e)
  (fun l => (K.at_ l).later L (fun p k e => ⟨h k _ e (by simp), rfl⟩)), L⟩
theorem soften (K : Okay X S a) {i : Nat} {q : List Nat} {e : TypeId} {r r' : Ty} {xs : List r'.den} {ys : List r.den} {u : Value} (hno : noOw r = true) (hc : castL r r' xs = some ys) (h : OwnOk X.P S.O S.w (.tm i q) e r' xs u) :
  ∃ O', (∀ k, S.O k ≠ .tm i q → O' k = S.O k) ∧ Okay X { S with O := O' } a ∧ Later S { S with O := O' } ∧ OwnOk X.P O' S.w (.tm i q) e r ys u := by
 obtain ⟨bs, ⟨v, cs, b2, ev, hs, ho, hd, eb⟩, hn, hk⟩ := h
 simp only [List.cons.injEq, and_true] at ev
 subst ev
 let O' : Nat → Lab := fun k => if k ∈ b2 then .fz else S.O k
 have hlab : ∀ k ∈ b2, S.O k = .tm i q := fun k hk2 => hk k (by rw [eb]; exact List.mem_append_right _ hk2)
 have hO : ∀ k, S.O k ≠ .tm i q → O' k = S.O k := fun k h1 => if_neg (fun h2 => h1 (hlab k h2))
 obtain ⟨K1, L1⟩ := K.retm O' (fun k o h1 h2 => (hO k (by rw [h1]; exact h2 i q)).trans h1)
 refine ⟨O', hO, K1, L1, (OwnOk.flat hno).2 ?_⟩
 obtain ⟨e1, rfl⟩ := castL_some hc
 have hsz : r'.sz = r.sz := by rw [← shp_sz r', e1, shp_sz r]
 have hf : ∀ k, S.O k = .fz → O' k = .fz := fun k h1 => (hO k (by rw [h1]; simp)).trans h1
 refine ⟨by rw [← hsz]; exact hs, cs, by rw [← hsz, List.length_map]; exact ho, ?_, fun k h1 => ?_⟩
 ·have hr : Rows (fun x c => r'.rep X.P (fun k => O' k = .fz) S.w x c) xs cs := hd.rows (fun x c b hb h => Ty.dep_rep hf r' x c b (fun k hk => if_pos (hb k hk)) h)
  exact hr.map (fun x c hx => (rep_of e1 x c).1 hx)
 ·have h2 : k ∉ b2 := fun h3 => by
   rw [eb, h1] at hn
   simp only [Option.toList_some, List.singleton_append, List.nodup_cons] at hn
   exact hn.1 h3
  exact (if_neg h2).trans (hk k (by rw [eb, h1]; simp))
structure GivenX (X : Cx) (S S' : Sit) (ex : Nat → List Nat → Prop) : Prop where
 w : S'.w = S.w
 bb : S'.bb = S.bb
 ph : S'.ph = S.ph
 later : Later S S'
 bx : ∀ b k, S.O k = .bx b → S'.O k = .bx b
 heads : ∀ b n, (S.g (H b)).2 = .one (.hd n) → S'.g (H b) = S.g (H b)
 tms : ∀ n q x u, ¬ ex n q → LfOk X.P S (.tm n q) x u → LfOk X.P S' (.tm n q) x u
 tm : ∀ n q k, ¬ ex n q → S.O k = .tm n q → S'.O k = .tm n q
theorem GivenX.trans {S1 S2 : Sit} {e1 e2 e3 : Nat → List Nat → Prop} (h1 : ∀ n q, e1 n q → e3 n q) (h2 : ∀ n q, e2 n q → e3 n q) (h : GivenX X S S1 e1) (h' : GivenX X S1 S2 e2) : GivenX X S S2 e3 :=
 ⟨h'.w.trans h.w, h'.bb.trans h.bb, h'.ph.trans h.ph, h.later.trans h'.later, fun b k e => h'.bx b k (h.bx b k e), fun b n e => by
  have e1 := h.heads b n e
  exact (h'.heads b n (by rw [e1]; exact e)).trans e1, fun n q x u hn hx => h'.tms n q x u (fun h => hn (h2 n q h)) (h.tms n q x u (fun h => hn (h1 n q h)) hx), fun n q k hn hk => h'.tm n q k (fun h => hn (h2 n q h)) (h.tm n q k (fun h => hn (h1 n q h)) hk)⟩
theorem GivenX.refl (S : Sit) (ex : Nat → List Nat → Prop) : GivenX X S S ex := ⟨rfl, rfl, rfl, .refl S, fun _ _ h => h, fun _ _ _ => rfl, fun _ _ _ _ _ h => h, fun _ _ _ _ h => h⟩
theorem Given.x {ex : Nat → List Nat → Prop} (h : Given X S S') : GivenX X S S' ex := ⟨h.w, h.bb, h.ph, h.later, h.bx, h.heads, fun n q x u _ hx => h.tms n q x u hx, fun n q k _ hk => h.tm n q k hk⟩
theorem ownAs_ok (K : Okay X S a) {i : Nat} {q : List Nat} {e : TypeId} {r : Ty} {x y : Lf} {u : Value} (ha : ownAs e r x = some y) (h : LfOk X.P S (.tm i q) x u) :
  ∃ S', Okay X S' a ∧ S'.g = S.g ∧ GivenX X S S' (fun n q' => n = i ∧ q' = q) ∧ LfOk X.P S' (.tm i q) y u := by
 unfold ownAs at ha
 split at ha
 ·rename_i e' r' xs
  cases hb : Nat.beq e e' with
  | false => rw [hb] at ha; simp at ha
  | true =>
   rw [hb, cond_true] at ha
   have he : e = e' := Nat.eq_of_beq_eq_true hb
   subst he
   split at ha
   ·rename_i ys hys
    simp only [Option.some.injEq] at ha
    subst ha
    exact ⟨S, K, rfl, .refl S _, OwnOk.cast hys h⟩
   ·cases hno : noOw r with
    | false => rw [hno] at ha; simp at ha
    | true =>
     rw [hno, cond_true] at ha
     split at ha
     ·rename_i ys hys
      simp only [Option.some.injEq] at ha
      subst ha
      obtain ⟨O', h1, K1, L1, h2⟩ := soften K hno hys h
      have hO : ∀ k n q', ¬ (n = i ∧ q' = q) → S.O k = .tm n q' → O' k = .tm n q' := fun k n q' hn hk => (h1 k (by rw [hk]; intro e1; cases e1; exact hn ⟨rfl, rfl⟩)).trans hk
      exact ⟨_, K1, rfl, ⟨rfl, rfl, rfl, L1, fun b k hk => (h1 k (by rw [hk]; simp)).trans hk, fun _ _ _ => rfl, fun n q' x u hn hx => hx.later L1 (fun k hk => ⟨hO k n q' hn hk, rfl⟩), fun n q' k hn hk => hO k n q' hn hk⟩, h2⟩
     ·cases ha
 ·cases ha
theorem xferLs_len : ∀ (ts : List Ty) (l : List Lf) {A : Ab} {m : List Lf} {us : List Up}, xferLs A ts l = some (m, us) → m.length = l.length ∧ ts.length = l.length
 | [], [], A, m, us, h => by
  simp only [xferLs, Option.some.injEq, Prod.mk.injEq] at h
  obtain ⟨rfl, _⟩ := h
  exact ⟨rfl, rfl⟩
 | [], _ :: _, A, m, us, h => by simp [xferLs] at h
 | t :: ts, [], A, m, us, h => by cases t <;> simp [xferLs] at h
 | t :: ts, x :: l, A, m, us, h => by
  have rest : ∀ {A : Ab} {m' : List Lf} {us' : List Up}, xferLs A ts l = some (m', us') → m'.length = l.length ∧ ts.length = l.length := fun h => xferLs_len ts l h
  cases t with
  | ow e r =>
   simp only [xferLs] at h
   split at h
   ·split at h
    ·rename_i hr
     simp only [Option.some.injEq, Prod.mk.injEq] at h
     obtain ⟨rfl, _⟩ := h
     simp [rest hr]
    ·cases h
   ·cases h
  | _ =>
   simp only [xferLs] at h
   split at h
   ·rename_i hr
    simp only [Option.some.injEq, Prod.mk.injEq] at h
    obtain ⟨rfl, _⟩ := h
    simp [rest hr]
   ·cases h
theorem storable_cons {x : Lf} {l : List Lf} (h : storable (x :: l) = true) : storable l = true ∧ ((∃ v, x = .sc v) ∨ (∃ e r, ∃ xs : List (Ty.den r), x = .fz e r xs) ∨ ∃ e r, ∃ xs : List (Ty.den r), x = .own e r xs) := by
 cases x <;> first | (simp [storable] at h; done) | skip
 ·exact ⟨by simpa [storable] using h, .inl ⟨_, rfl⟩⟩
 ·exact ⟨by simpa [storable] using h, .inr (.inl ⟨_, _, _, rfl⟩)⟩
 ·exact ⟨by simpa [storable] using h, .inr (.inr ⟨_, _, _, rfl⟩)⟩
theorem xferLs_ok (i : Nat) (path : Nat → List Nat) : ∀ (ts : List Ty) (l : List Lf) {S : Sit} {A : Ab} {j : Nat} {us : List Value} {m : List Lf} {vs : List Up}, Okay X S a → S.g = get A → xferLs A ts l = some (m, vs) → storable m = true → LfsOk X.P S (fun n => .tm i (path n)) j l us →
  (∀ n n', j ≤ n → n < j + l.length → j ≤ n' → n' < j + l.length → path n = path n' → n = n') →
  ∃ S', Okay X S' a ∧ S'.g = get (ups A vs) ∧ GivenX X S S' (fun n q => n = i ∧ ∃ k, j ≤ k ∧ k < j + l.length ∧ q = path k) ∧ LfsOk X.P S' (fun n => .tm i (path n)) j m us
 | [], [], S, A, j, [], m, vs, K, hg, h, _, _, _ => by
  simp only [xferLs, Option.some.injEq, Prod.mk.injEq] at h
  obtain ⟨rfl, rfl⟩ := h
  exact ⟨S, K, hg, .refl S _, trivial⟩
 | [], [], S, A, j, _ :: _, m, vs, K, hg, h, _, hl, _ => hl.elim
 | [], _ :: _, S, A, j, us, m, vs, K, hg, h, _, hl, _ => by simp [xferLs] at h
 | t :: _, [], S, A, j, us, m, vs, K, hg, h, _, hl, _ => by cases t <;> simp [xferLs] at h
 | _ :: _, _ :: _, S, A, j, [], m, vs, K, hg, h, _, hl, _ => hl.elim
 | t :: ts, x :: l, S, A, j, u :: us, m, vs, K, hg, h, hst, hl, hi => by
  have go : ∀ {y : Lf} {v0 vs' : List Up} {m' : List Lf} {S1 : Sit}, m = y :: m' → vs = v0 ++ vs' → xferLs (ups A v0) ts l = some (m', vs') → Okay X S1 a → S1.g = get (ups A v0) → GivenX X S S1 (fun n q => n = i ∧ q = path j) → LfOk X.P S1 (.tm i (path j)) y u →
    ∃ S', Okay X S' a ∧ S'.g = get (ups A vs) ∧ GivenX X S S' (fun n q => n = i ∧ ∃ k, j ≤ k ∧ k < j + (x :: l).length ∧ q = path k) ∧ LfsOk X.P S' (fun n => .tm i (path n)) j m (u :: us) := by
   intro y v0 vs' m' S1 e1 e2 hrec K1 g1 G1 hy
   subst e1 e2
   have hrest : LfsOk X.P S1 (fun n => .tm i (path n)) (j + 1) l us := LfsOk.impAt (fun n n1 n2 x u hx => G1.tms _ _ _ _ (fun h => by
    have := hi n j (by omega) (by simp only [List.length_cons]; omega) (Nat.le_refl _) (by simp only [List.length_cons]; omega) h.2
    omega) hx) hl.2
   obtain ⟨S2, K2, g2, G2, hl2⟩ := xferLs_ok i path ts l K1 g1 hrec (storable_cons hst).1 hrest (fun n n' a1 a2 a3 a4 e => hi n n' (by omega) (by simp only [List.length_cons]; omega) (by omega) (by simp only [List.length_cons]; omega) e)
   refine ⟨S2, K2, by rw [ups_append]; exact g2, GivenX.trans (fun n q h => ⟨h.1, j, Nat.le_refl _, by simp only [List.length_cons]; omega, h.2⟩) (fun n q h => ?_) G1 G2, G2.tms _ _ _ _ (fun h => ?_) hy, hl2⟩
   ·obtain ⟨h1, k, k1, k2, k3⟩ := h
    exact ⟨h1, k, by omega, by simp only [List.length_cons]; omega, k3⟩
   ·obtain ⟨_, k, k1, k2, k3⟩ := h
    have := hi j k (Nat.le_refl _) (by simp only [List.length_cons]; omega) (by omega) (by simp only [List.length_cons]; omega) k3
    omega
  have h0 : LfOk X.P S (.tm i (path j)) x u := hl.1
  have plain : xferLs A (t :: ts) (x :: l) = (match xferLs (ups A (cost A x)) ts l with | some (m, us) => some (calm (kept A x) :: m, cost A x ++ us) | none => none) →
    ∃ S', Okay X S' a ∧ S'.g = get (ups A vs) ∧ GivenX X S S' (fun n q => n = i ∧ ∃ k, j ≤ k ∧ k < j + (x :: l).length ∧ q = path k) ∧ LfsOk X.P S' (fun n => .tm i (path n)) j m (u :: us) := by
   intro hpl
   rw [hpl] at h
   split at h
   ·rename_i m' vs' hrec
    simp only [Option.some.injEq, Prod.mk.injEq] at h
    obtain ⟨rfl, rfl⟩ := h
    obtain ⟨hst1, hst2⟩ := storable_cons hst
    cases x with
    | al p v =>
     have hk : kept A (.al p v) = calm (seen A (.al p v)) := rfl
     by_cases hown : ∃ e r, ∃ xs : List (Ty.den r), get A p = (v, .one (.own e r xs))
     ·obtain ⟨e, r', xs, hp⟩ := hown
      have hc : cost A (.al p v) = [⟨p, true, .one (.fz e r' xs)⟩] := by simp [cost, hp]
      have hs : calm (kept A (.al p v)) = .fz e r' xs := by simp [kept, seen, hp, calm]
      rw [hc] at hrec
      rw [hc, hs] at go ⊢
      have hSp : (S.g p).2 = .one (.own e r' xs) := by rw [hg, hp]
      obtain ⟨K1, _, hf⟩ := freeze_ K hSp
      have E1 := frS_eased K hSp
      have g1 : (frS S p e r' xs).g = get (ups A [⟨p, true, .one (.fz e r' xs)⟩]) := by
       show upd S.g p _ = _
       rw [get_keep, ← hg]
      refine go rfl rfl hrec K1 g1 ⟨rfl, rfl, rfl, E1.later, fun b k hk => E1.bx b k hk, fun b n hn => upd_ne _ _ (fun e1 => by rw [e1, hSp] at hn; cases hn), fun n q x u _ hx => hx.later E1.later (fun k hk => ⟨E1.tm n q k hk, rfl⟩), fun n q k _ hk => E1.tm n q k hk⟩ ?_
      rw [h0.2 (by rw [hg, hp])]
      exact LfOk.relab (lab' := .tm i (path j)) rfl hf
     ·have hc : cost A (.al p v) = [] := by
       simp only [cost]
       split
       ·rename_i n e r' xs hp
        cases hb : Nat.beq n v with
        | false => rfl
        | true =>
         have : n = v := by simpa using hb
         subst this
         exact absurd ⟨e, r', xs, hp⟩ hown
       ·rfl
      rw [hc] at hrec
      rw [hc] at go ⊢
      refine go rfl rfl hrec K hg (.refl S _) ?_
      rw [hk] at hst2 ⊢
      simp only [seen] at hst2 ⊢
      split
      ·rename_i n e r' xs hp
       cases hb : Nat.beq n v with
       | false => exact trivial
       | true =>
        have : n = v := by simpa using hb
        subst this
        exact absurd ⟨e, r', xs, hp⟩ hown
      ·rename_i n e r' xs hp
       cases hb : Nat.beq n v with
       | false => exact trivial
       | true =>
        have hnv : n = v := by simpa using hb
        subst hnv
        rw [cond_true]
        have h3 := K.at_ p
        rw [hg, hp, ← h0.2 (by rw [hg, hp])] at h3
        exact LfOk.relab (x := .fz e r' xs) (lab := .pl p []) (lab' := .tm i (path j)) rfl h3
      ·exact trivial
    | own e r' xs =>
     obtain ⟨K1, L1⟩ := K.retm (atO S.O (fun n q => if n = i ∧ q = path j then some .fz else none)) (fun k o e1 ho => atO_other e1 ho)
     have hO : ∀ n q k, ¬ (n = i ∧ q = path j) → S.O k = .tm n q → atO S.O (fun n q => if n = i ∧ q = path j then some .fz else none) k = .tm n q := fun n q k hn hk => atO_keep hk (if_neg hn)
     refine go (v0 := []) rfl rfl hrec K1 hg ⟨rfl, rfl, rfl, L1, fun b k hk => atO_other hk (by simp), fun _ _ _ => rfl, fun n q x u hn hx => hx.later L1 (fun k hk => ⟨hO n q k hn hk, rfl⟩), fun n q k hn hk => hO n q k hn hk⟩ ?_
     exact OwnOk.reads (O' := atO S.O (fun n q => if n = i ∧ q = path j then some .fz else none)) h0 (fun k hk => atO_other hk (by simp)) (fun k hk => atO_tm hk (if_pos ⟨rfl, rfl⟩))
    | sc v => exact go (v0 := []) rfl rfl hrec K hg (.refl S _) h0
    | fz e r' xs => exact go (v0 := []) rfl rfl hrec K hg (.refl S _) h0
    | _ => rcases hst2 with ⟨_, e1⟩ | ⟨_, _, _, e1⟩ | ⟨_, _, _, e1⟩ <;> simp [kept, calm] at e1
   ·cases h
  cases t with
  | ow e r =>
   simp only [xferLs] at h
   split at h
   ·rename_i y hy
    split at h
    ·rename_i m' vs' hrec
     simp only [Option.some.injEq, Prod.mk.injEq] at h
     obtain ⟨rfl, rfl⟩ := h
     by_cases hal : ∃ p v, x = .al p v
     ·obtain ⟨p, v, rfl⟩ := hal
      have hown : ∃ e' r', ∃ xs : List (Ty.den r'), seen A (.al p v) = .own e' r' xs := by
       generalize seen A (.al p v) = z at hy
       unfold ownAs at hy
       split at hy
       ·exact ⟨_, _, _, rfl⟩
       ·cases hy
      obtain ⟨e', r', xs, hsn⟩ := hown
      obtain ⟨p', v', e0, hp⟩ := seen_alias hsn (fun e r xs hy => by cases hy)
      cases e0
      rw [hsn] at hy
      have he : u = S.ph p := h0.2 (by rw [hg, hp])
      let f : List Nat → Option (List Nat) := fun q => match q with | [] => some (path j) | _ => none
      have L1 := detP_later S p i f (.one .dead)
      obtain ⟨K1, h1, h2⟩ := detachP K p i f (.one .dead) (by simp) trivial
      have hown : LfOk X.P S (.pl p []) (.own e' r' xs) (S.ph p) := by have := K.at_ p; rw [hg, hp] at this; exact this
      have hown1 := h1 [] (path j) _ _ rfl hown
      have g1 : (detP S p i f (.one .dead)).g = get (ups A (tookP (.al p v))) := by
       show upd S.g p _ = get (ups A [⟨p, false, .one .dead⟩])
       rw [get_ups1, ← hg]
      have G1 : GivenX X S (detP S p i f (.one .dead)) (fun n q => n = i ∧ q = path j) := ⟨rfl, rfl, rfl, L1, fun b k hk => (reP_other (by simp [hk])).trans hk, fun b n hn => upd_ne _ _ (fun e1 => by rw [e1, hg, hp] at hn; cases hn), fun n q x u _ hx => h2 n q x u hx, fun n q k _ hk => (reP_other (by simp [hk])).trans hk⟩
      obtain ⟨S2, K2, g2, G2, hy2⟩ := ownAs_ok K1 hy hown1
      exact go rfl rfl hrec K2 (g2.trans g1) (GivenX.trans (fun _ _ h => h) (fun _ _ h => h) G1 G2) (by rw [he]; exact hy2)
     ·have ht : tookP x = [] := by cases x <;> first | rfl | exact absurd ⟨_, _, rfl⟩ hal
      have hsn : seen A x = x := by cases x <;> first | rfl | exact absurd ⟨_, _, rfl⟩ hal
      rw [hsn] at hy
      rw [ht] at hrec
      rw [ht] at go ⊢
      obtain ⟨S2, K2, g2, G2, hy2⟩ := ownAs_ok K hy h0
      exact go rfl rfl hrec K2 (g2.trans hg) G2 hy2
    ·cases h
   ·cases h
  | _ => exact plain rfl
theorem pth_inj' {s : Sv} {l : List Lf} (hnt : ∀ vs, s ≠ .tup vs) (hl : l = parts s) : ∀ n n', 0 ≤ n → n < 0 + l.length → 0 ≤ n' → n' < 0 + l.length → pth s n = pth s n' → n = n' := by
 intro n n' _ h1 _ h2 e
 subst hl
 cases s with
 | one x => simp only [parts, List.length_cons, List.length_nil] at h1 h2; omega
 | agg l => simpa [pth] using e
 | tup vs => exact absurd rfl (hnt vs)
theorem giveL_ok (hE : EnOk X E) (K : Okay X S a) (hg : S.g = get A) {T : TypeId} {y : Operand} {s : Sv} {ts : List Ty} {m : List Lf} {vs : List Up} (hs : (opT E T A y = some s ∨ ∃ x, s = .one x ∧ (∀ t, y ≠ .tmp t) ∧ ∀ lab, LfOk X.P S lab x (a.eval y))) (hnt : ∀ vs, s ≠ .tup vs) (h : giveL A y s ts = some (m, vs)) (i : Nat) :
  ∃ S', Okay X S' a ∧ S'.g = get (ups A vs) ∧ GivenX X S S' (fun n _ => n = i) ∧ storable m = true ∧ m.length = ts.length ∧ ∃ us, Shape s (a.eval y) us ∧ LfsOk X.P S' (fun n => .tm i (pth s n)) 0 m us := by
 unfold giveL at h
 split at h
 ·rename_i m0 vs0 ht
  cases hst : storable m0 with
  | false => rw [hst] at h; simp at h
  | true =>
  rw [hst] at h
  simp only [cond_true, Option.some.injEq, Prod.mk.injEq] at h
  obtain ⟨rfl, rfl⟩ := h
  have none1 : ∀ x, s = .one x → (∀ t, y ≠ .tmp t) → (∀ lab, LfOk X.P S lab x (a.eval y)) → ∃ S1, Okay X S1 a ∧ S1.g = get (ups A (gone y s)) ∧ Given X S S1 ∧ ∃ us, Shape s (a.eval y) us ∧ LfsOk X.P S1 (fun n => .tm i (pth s n)) 0 (parts s) us := by
   intro x e hnt' hx
   subst e
   have hgo : gone y (.one x) = [] := by
    unfold gone
    split
    ·exact absurd rfl (hnt' _)
    ·rfl
   exact ⟨S, K, by rw [hgo]; exact hg, .refl S, [_], rfl, hx _, trivial⟩
  have first : ∃ S1, Okay X S1 a ∧ S1.g = get (ups A (gone y s)) ∧ Given X S S1 ∧ ∃ us, Shape s (a.eval y) us ∧ LfsOk X.P S1 (fun n => .tm i (pth s n)) 0 (parts s) us := by
   rcases hs with hs | ⟨x, e, hnt', hx⟩
   ·rcases opT_ok hE K hg hs with ⟨t, rfl, htl, hst, het, hok⟩ | ⟨hnt', x, e, hx⟩
    ·cases ho : ownSv s with
     | false =>
      have hgo : gone (.tmp t) s = [] := by simp [gone, ho]
      refine ⟨S, K, by rw [hgo]; exact hg, .refl S, ?_⟩
      cases s with
      | tup vs => exact absurd rfl (hnt vs)
      | one x => exact ⟨[_], rfl, (LfsOk.relab (f := fun _ => .pl t []) ho ⟨hok, trivial⟩)⟩
      | agg l =>
       obtain ⟨us, e1, hl⟩ := hok
       exact ⟨us, e1, hl.relab ho⟩
     | true =>
      have hgo : gone (.tmp t) s = [⟨t, false, .one .dead⟩] := by simp [gone, ho]
      obtain ⟨K1, h1, h2⟩ := detach K t i
      have G1 : Given X S (detS S t i) := ⟨rfl, rfl, rfl, detS_later S t i, fun b k hk => (reO_other (by simp [hk])).trans hk, fun b n hn => upd_ne _ _ (fun e1 => by rw [e1, ← hst] at hn; subst hn; simp [ownSv, ownIn] at ho), h2, fun n q k hk => (reO_other (by simp [hk])).trans hk⟩
      refine ⟨_, K1, ?_, G1, ?_⟩
      ·rw [hgo, get_ups1, ← hg]; rfl
      ·cases s with
       | tup vs => exact absurd rfl (hnt vs)
       | one x => exact ⟨[_], rfl, h1 [] x _ hok, trivial⟩
       | agg l =>
        obtain ⟨us, e1, hl⟩ := hok
        exact ⟨us, e1, hl.imp (fun n x u hx => h1 [n] x u hx)⟩
    ·exact none1 x e hnt' hx
   ·exact none1 x e hnt' hx
  obtain ⟨S1, K1, g1, G1, us, hsh, hl⟩ := first
  obtain ⟨S2, K2, g2, G2, hl2⟩ := xferLs_ok i (pth s) ts (parts s) K1 g1 ht hst hl (pth_inj' hnt rfl)
  obtain ⟨l1, l2⟩ := xferLs_len _ _ ht
  exact ⟨S2, K2, by rw [ups_append]; exact g2, GivenX.trans (fun n q h => h) (fun n q h => h.1) (Given.x (ex := fun n _ => n = i) G1) G2, hst, by rw [l1, ← l2], us, hsh, hl2⟩
 ·cases h
theorem giveT_ok (hE : EnOk X E) (K : Okay X S a) (hg : S.g = get A) {T : TypeId} {y : Operand} {s : Sv} {t : Ty} {m : List Lf} {vs : List Up} (hs : (opT E T A y = some s ∨ ∃ x, s = .one x ∧ (∀ t, y ≠ .tmp t) ∧ ∀ lab, LfOk X.P S lab x (a.eval y))) (hnt : ∀ vs, s ≠ .tup vs) (h : giveT A y s t = some (m, vs)) (i : Nat) :
  ∃ S', Okay X S' a ∧ S'.g = get (ups A vs) ∧ GivenX X S S' (fun n _ => n = i) ∧ storable m = true ∧ m.length = t.sz ∧ ∃ us, Shape s (a.eval y) us ∧ LfsOk X.P S' (fun n => .tm i (pth s n)) 0 m us := by
 rw [← slots_len]
 exact giveL_ok hE K hg hs hnt h i
theorem giveB_ok (K : Okay X S a) (hg : S.g = get A) {b v : Nat} {t t' : Ty} {m : List Lf} {vs : List Up} (h : giveB A b v t t' = some (m, vs)) (i : Nat) :
  (S.g (H b)).1 = v ∧ (S.g (H b)).2 = .one (.hd t.sz) ∧ t'.sz = t.sz ∧ storable m = true ∧ m.length = t.sz ∧
  ∃ S', Okay X S' a ∧ S'.g = get (ups A vs) ∧ GivenX X S S' (fun n _ => n = i) ∧ LfsOk X.P S' (fun n => .tm i [n]) 0 m ((List.range t.sz).map fun j => S.ph (C b (0 + j))) := by
 unfold giveB at h
 split at h
 ·rename_i n hd hp
  cases hq : (Nat.beq n v && Nat.beq hd t.sz && Nat.beq hd t'.sz) with
  | false => rw [hq] at h; simp at h
  | true =>
   rw [hq, cond_true] at h
   simp only [Bool.and_eq_true] at hq
   obtain ⟨⟨q1, q2⟩, q3⟩ := hq
   have e1 : n = v := Nat.eq_of_beq_eq_true q1
   have e2 : hd = t.sz := Nat.eq_of_beq_eq_true q2
   have e3 : hd = t'.sz := Nat.eq_of_beq_eq_true q3
   split at h
   ·rename_i l us hx
    cases hst : storable l with
    | false => rw [hst] at h; simp at h
    | true =>
     rw [hst] at h
     simp only [cond_true, Option.some.injEq, Prod.mk.injEq] at h
     obtain ⟨rfl, rfl⟩ := h
     obtain ⟨c1, c2, c3⟩ := cellsOf_ok K hg b hd 0
     obtain ⟨S2, K2, g2, G2, hl2⟩ := xferLs_ok i (fun n => [n]) (slots t) (cellsOf A b 0 hd) K hg hx hst (c3 _ 0) (fun n n' _ _ _ _ e => by simpa using e)
     obtain ⟨l1, l2⟩ := xferLs_len _ _ hx
     rw [e2] at hl2
     exact ⟨by rw [hg, hp]; exact e1, by rw [hg, hp, e2], by omega, hst, by rw [l1, c1, e2], S2, K2, g2, GivenX.trans (fun n q h => h) (fun n q h => h.1) (GivenX.refl S (fun n _ => n = i)) G2, hl2⟩
   ·cases h
 ·cases h
end
end Go.Proofs.Ytehkignjdbkeiaa.Vf
end
section
set_option linter.unusedVariables false
set_option linter.unusedSimpArgs false
namespace Go.Proofs.Ytehkignjdbkeiaa.Vf
open Go
attribute [local irreducible] C H
theorem DRows.split {α : Type} {R : α → List Value → List Nat → Prop} {n : Nat} (hn : ∀ x c b, R x c b → c.length = n) (d : α) : ∀ {xs : List α} {cs : List Value} {bs : List Nat} (_ : DRows R xs cs bs) (i : Nat) (_ : i < xs.length),
  ∃ b1 bi b2, bs = b1 ++ (bi ++ b2) ∧ DRows R (xs.take i) (cs.take (i * n)) b1 ∧ R (xs.getD i d) ((cs.drop (i * n)).take n) bi ∧ DRows R (xs.drop (i + 1)) (cs.drop (i * n + n)) b2
 | [], _, _, _, i, hi => absurd hi (by simp)
 | x :: xs, cs, bs, ⟨c, d', b1, b2, e, eb, h1, h2⟩, 0, _ => by
  subst e eb
  have hl := hn _ _ _ h1
  refine ⟨[], b1, b2, rfl, by simp [DRows], ?_, ?_⟩
  ·simp only [Nat.zero_mul, List.drop_zero]
   rw [← hl, List.take_left]
   exact h1
  ·simp only [Nat.zero_mul, Nat.zero_add]
   rw [← hl, List.drop_left]
   exact h2
 | x :: xs, cs, bs, ⟨c, d', b1, b2, e, eb, h1, h2⟩, i + 1, hi => by
  subst e eb
  have hl := hn _ _ _ h1
  obtain ⟨b3, bi, b4, e3, r1, r2, r3⟩ := h2.split hn d i (by simpa using hi)
  have em : (i + 1) * n = c.length + i * n := by rw [hl, Nat.add_mul, Nat.one_mul, Nat.add_comm]
  refine ⟨b1 ++ b3, bi, b4, by rw [e3, List.append_assoc], ⟨c, _, b1, b3, ?_, rfl, h1, r1⟩, ?_, ?_⟩
  ·rw [em, List.take_length_add_append]
  ·rw [em, ← List.drop_drop, List.drop_left]
   exact r2
  ·rw [em, Nat.add_assoc c.length, List.drop_length_add_append]
   exact r3
theorem ldeps_lfs {P : Program} {S : Sit} : ∀ {l : List Lf} {us : List Value} {bs : List Nat} (j0 : Nat), LDeps P (fun k => S.O k = .fz) S.w l us bs → bs.Nodup →
  ∃ f : Nat → Option Nat, (∀ k, k ∉ bs → f k = none) ∧ (∀ k ∈ bs, ∃ j, f k = some j ∧ j0 ≤ j ∧ j < j0 + l.length) ∧
   ∀ (S' : Sit) (lab : Nat → Lab), S'.w = S.w → (∀ k, S.O k = .fz → S'.O k = .fz) → (∀ k j, f k = some j → S'.O k = lab j) → LfsOk P S' lab j0 l us
 | [], us, bs, j0, h, _ => by
  obtain ⟨rfl, rfl⟩ := h
  exact ⟨fun _ => none, fun _ _ => rfl, by simp, fun _ _ _ _ _ => trivial⟩
 | x :: l, us, bs, j0, ⟨u, us', b1, b2, e1, e2, h1, h2⟩, hn => by
  subst e1 e2
  rw [List.nodup_append] at hn
  obtain ⟨n1, n2, n3⟩ := hn
  obtain ⟨f, f1, f2, f3⟩ := ldeps_lfs (j0 + 1) h2 n2
  have hb : ∀ k j, f k = some j → k ∉ b1 := fun k j hk h' => by
   by_cases hk2 : k ∈ b2
   ·exact n3 k h' k hk2 rfl
   ·rw [f1 k hk2] at hk; cases hk
  refine ⟨fun k => if k ∈ b1 then some j0 else f k, fun k hk => ?_, fun k hk => ?_, fun S' lab hw hf hl => ⟨?_, f3 S' lab hw hf (fun k j hk => hl k j ((if_neg (hb k j hk)).trans hk))⟩⟩
  ·exact (if_neg (fun h => hk (List.mem_append_left _ h))).trans (f1 k (fun h => hk (List.mem_append_right _ h)))
  ·rcases List.mem_append.1 hk with h | h
   ·exact ⟨j0, if_pos h, Nat.le_refl _, by simp⟩
   ·obtain ⟨j, h3, h4, h5⟩ := f2 k h
    exact ⟨j, (if_neg (hb k j h3)).trans h3, by omega, by simp only [List.length_cons]; omega⟩
  ·cases x with
   | sc v => exact ⟨h1.1, h1.2.1⟩
   | own e r xs => exact ⟨b1, Ty.dep_mono hf (fun k _ => by rw [hw]) (.ow e r) xs [u] b1 (fun k _ => by rw [hw]) h1, n1, fun k hk => hl k j0 (if_pos hk)⟩
   | _ => exact h1.elim
theorem noOw_lvs : ∀ (t : Ty) (x : t.den), noOw t = true → leaves t x = lvs t x
 | .i _, _, _ => rfl
 | .b, _, _ => rfl
 | .s, _, _ => rfl
 | .sl _ _, _, _ => rfl
 | .ow _ _, _, h => by simp [noOw] at h
 | .pr x y, p, h => by
  simp only [noOw, Bool.and_eq_true] at h
  show leaves x p.1 ++ leaves y p.2 = lvs x p.1 ++ lvs y p.2
  rw [noOw_lvs x p.1 h.1, noOw_lvs y p.2 h.2]
theorem leaves_nohd : ∀ (t : Ty) (x : t.den) (n : Nat), .hd n ∉ leaves t x
 | .i _, _, _ => by simp [leaves]
 | .b, _, _ => by simp [leaves]
 | .s, _, _ => by simp [leaves]
 | .sl _ _, _, _ => by simp [leaves]
 | .ow _ _, _, _ => by simp [leaves]
 | .pr x y, p, n => by
  intro h
  rcases List.mem_append.1 (show _ ∈ leaves x p.1 ++ leaves y p.2 from h) with h | h
  ·exact leaves_nohd x p.1 n h
  ·exact leaves_nohd y p.2 n h
section
variable {X : Cx} {S S' : Sit} {a : Act} {E : En} {A : Ab} {o : Oper} {R : Type} {Kc : List Up → Option R} {r : R}
theorem row_lfs {P : Program} {S : Sit} {r : Ty} (hr : noOw r = true ∨ allOw r = true) {x : r.den} {c : List Value} {bs : List Nat} (h : r.dep P (fun k => S.O k = .fz) S.w x c bs) (hn : bs.Nodup) :
  ∃ f : Nat → Option Nat, (∀ k, k ∉ bs → f k = none) ∧ (∀ k ∈ bs, ∃ j, f k = some j ∧ j < r.sz) ∧
   ∀ (S' : Sit) (lab : Nat → Lab), S'.w = S.w → (∀ k, S.O k = .fz → S'.O k = .fz) → (∀ k j, f k = some j → S'.O k = lab j) → LfsOk P S' lab 0 (leaves r x) c := by
 rcases hr with hr | hr
 ·obtain ⟨h1, rfl⟩ := (Ty.dep_flat r x c bs hr).1 h
  refine ⟨fun _ => none, fun _ _ => rfl, by simp, fun S' lab hw hf _ => ?_⟩
  rw [noOw_lvs r x hr]
  exact LfsOk.ofRep (lvs_rep r x c (Ty.rep_mono hf (fun k _ => by rw [hw]) r x c h1)) lab 0
 ·obtain ⟨f, f1, f2, f3⟩ := ldeps_lfs 0 (leaves_dep r x c bs hr h) hn
  exact ⟨f, f1, fun k hk => by obtain ⟨j, h1, _, h2⟩ := f2 k hk; exact ⟨j, h1, by rw [leaves_sz] at h2; omega⟩, f3⟩
def opnG (g : Nat → Nat × Sv) (p B : Nat) (e : TypeId) (r : Ty) (xs : List r.den) (i : Int) (l : List Lf) : Nat → Nat × Sv := fun q =>
 if q = p then ((g p).1 + 1, .one (.opn e r xs i B ((g (H B)).1 + 1))) else if q = H B then ((g (H B)).1 + 1, .one (.hd r.sz)) else
 if C B 0 ≤ q ∧ q < C B 0 + l.length then ((g q).1 + 1, .one (l.getD (q - C B 0) .dead)) else g q
theorem opnG_get {p B : Nat} {e : TypeId} {r : Ty} {xs : List r.den} {i : Int} {l : List Lf} (hpH : p ≠ H B) (hpC : ¬ (C B 0 ≤ p ∧ p < C B 0 + l.length)) (hl : l.length ≤ 999) :
  get (ups A (⟨p, false, .one (.opn e r xs i B ((get A (H B)).1 + 1))⟩ :: ⟨H B, false, .one (.hd r.sz)⟩ :: putCells B 0 l)) = opnG (get A) p B e r xs i l := by
 have hHC : ¬ (C B 0 ≤ H B ∧ H B < C B 0 + l.length) := heads_apart (by omega)
 have e1 : get (ups A (⟨p, false, .one (.opn e r xs i B ((get A (H B)).1 + 1))⟩ :: ⟨H B, false, .one (.hd r.sz)⟩ :: putCells B 0 l)) = gput (upd (upd (get A) p ((get A p).1 + 1, .one (.opn e r xs i B ((get A (H B)).1 + 1)))) (H B) ((get A (H B)).1 + 1, .one (.hd r.sz))) B 0 l := by
  show get (ups (up (up A ⟨p, false, .one (.opn e r xs i B ((get A (H B)).1 + 1))⟩) ⟨H B, false, .one (.hd r.sz)⟩) (putCells B 0 l)) = _
  rw [get_putCells, get_up, get_up]
  simp only [cond_false]
  rw [upd_ne _ _ (Ne.symm hpH)]
 rw [e1]
 funext q
 unfold opnG gput
 by_cases h2 : C B 0 ≤ q ∧ q < C B 0 + l.length
 ·have h3 : q ≠ p := fun e => hpC (e ▸ h2)
  have h4 : q ≠ H B := fun e => hHC (e ▸ h2)
  rw [if_pos h2, upd_ne _ _ h4, upd_ne _ _ h3, if_neg h3, if_neg h4, if_pos h2]
 ·rw [if_neg h2]
  by_cases h3 : q = p
  ·subst h3
   rw [upd_ne _ _ hpH, upd_same, if_pos rfl]
  ·rw [if_neg h3]
   by_cases h4 : q = H B
   ·subst h4; rw [upd_same, if_pos rfl]
   ·rw [upd_ne _ _ h4, upd_ne _ _ h3, if_neg h4, if_neg h2]
theorem open_core (K : Okay X S a) {p v B : Nat} {e : TypeId} {r : Ty} {xs : List r.den} {i : Int} (hB : 2000 ≤ B) (hp : S.g p = (v, .one (.own e r xs))) (hpH : p ≠ H B) (hpC : ¬ (C B 0 ≤ p ∧ p < C B 0 + r.sz)) (hr : noOw r = true ∨ allOw r = true) (hz : r.sz < 999)
  (i0 : 0 ≤ i) (i1 : i.toNat < xs.length) :
  ∃ S' k cap, Okay X S' a ∧ S'.g = opnG S.g p B e r xs i (leaves r (xs.getD i.toNat r.dflt)) ∧ S'.w = S.w ∧ S.ph p = .slice (some ⟨k, 0, none⟩) xs.length cap ∧ S'.bb B = (k, i.toNat * r.sz) ∧ (∀ q, ¬ (C B 0 ≤ q ∧ q < C B 0 + r.sz) → S'.ph q = S.ph q) := by
 have hown : OwnOk X.P S.O S.w (.pl p []) e r xs (S.ph p) := by have := K.at_ p; rw [hp] at this; exact this
 obtain ⟨bs, ⟨u, cs, b0, eu, hs, ho, hrows, eb⟩, hnd, hlab⟩ := hown
 simp only [List.cons.injEq, and_true] at eu
 subst eu
 rcases own_nil_or ho with ⟨_, e1, _⟩ | ⟨k, cap, cur, hph, hc, h1, h2, h3, h4⟩
 ·omega
 rw [hph] at ho eb
 simp only [Value.ownBlock, Option.toList_some, List.singleton_append] at eb
 obtain ⟨b1, bi, b2, e2, r1, r2, r3⟩ := hrows.split (Ty.dep_len r) r.dflt i.toNat i1
 subst e2 eb
 have hki : k ∉ b1 ++ (bi ++ b2) := (List.nodup_cons.1 hnd).1
 have hnd2 := (List.nodup_cons.1 hnd).2
 rw [List.nodup_append] at hnd2
 obtain ⟨n1, n2, n3⟩ := hnd2
 rw [List.nodup_append] at n2
 obtain ⟨n4, n5, n6⟩ := n2
 have hlk : S.O k = .pl p [] := hlab k (by simp)
 have hl1 : ∀ j ∈ b1, S.O j = .pl p [] := fun j hj => hlab j (by simp [hj])
 have hli : ∀ j ∈ bi, S.O j = .pl p [] := fun j hj => hlab j (by simp [hj])
 have hl2 : ∀ j ∈ b2, S.O j = .pl p [] := fun j hj => hlab j (by simp [hj])
 obtain ⟨f, f1, f2, f3⟩ := row_lfs (P := X.P) (S := S) hr r2 n4
 generalize hrow : (cs.drop (i.toNat * r.sz)).take r.sz = row at r2 f3
 have hrl : row.length = r.sz := Ty.dep_len _ _ _ _ r2
 let O' : Nat → Lab := fun j => if j = k then .bx B else match f j with
  | some n => .pl (C B n) []
  | none => S.O j
 have hfn : ∀ j n, f j = some n → j ∈ bi := fun j n h => Classical.byContradiction fun h' => by rw [f1 j h'] at h; cases h
 have hOk : O' k = .bx B := if_pos rfl
 have hOi : ∀ j n, f j = some n → O' j = .pl (C B n) [] := fun j n h => by
  have h5 : j ≠ k := fun e => hki (by rw [← e]; simp [hfn j n h])
  show (if j = k then _ else _) = _
  rw [if_neg h5, h]
 have hOo : ∀ j o', S.O j = o' → o' ≠ .pl p [] → O' j = o' := fun j o' h ho' => by
  have h5 : j ≠ k := fun e => ho' (by rw [← h, e, hlk])
  have h6 : f j = none := f1 j (fun hj => ho' (by rw [← h, hli j hj]))
  show (if j = k then _ else _) = _
  rw [if_neg h5, h6]
  exact h
 have hOb : ∀ j, j ∈ b1 ∨ j ∈ b2 → O' j = .pl p [] := fun j hj => by
  have h5 : j ≠ k := fun e => hki (by rw [← e]; rcases hj with hj | hj <;> simp [hj])
  have h6 : f j = none := f1 j (fun hj' => by
   rcases hj with hj | hj
   ·exact n3 j hj j (by simp [hj']) rfl
   ·exact n6 j hj' j hj rfl)
  show (if j = k then _ else _) = _
  rw [if_neg h5, h6]
  rcases hj with hj | hj
  ·exact hl1 j hj
  ·exact hl2 j hj
 let S' : Sit := ⟨O', upd S.bb B (k, i.toNat * r.sz), opnG S.g p B e r xs i (leaves r (xs.getD i.toNat r.dflt)), phput S.ph B 0 row, S.w⟩
 have hll : (leaves r (xs.getD i.toNat r.dflt)).length = r.sz := leaves_sz _ _
 have gp : S'.g p = ((S.g p).1 + 1, .one (.opn e r xs i B ((S.g (H B)).1 + 1))) := if_pos rfl
 have gH : S'.g (H B) = ((S.g (H B)).1 + 1, .one (.hd r.sz)) := by
  show (if H B = p then _ else _) = _
  rw [if_neg (Ne.symm hpH), if_pos rfl]
 have hHC : ¬ (C B 0 ≤ H B ∧ H B < C B 0 + r.sz) := heads_apart (by omega)
 have gC : ∀ q, C B 0 ≤ q ∧ q < C B 0 + r.sz → S'.g q = ((S.g q).1 + 1, .one ((leaves r (xs.getD i.toNat r.dflt)).getD (q - C B 0) .dead)) := fun q hq => by
  show (if q = p then _ else _) = _
  rw [if_neg (fun h : q = p => hpC (h ▸ hq)), if_neg (fun h : q = H B => hHC (h ▸ hq)), if_pos (by rw [hll]; exact hq)]
 have gO : ∀ q, q ≠ p → q ≠ H B → ¬ (C B 0 ≤ q ∧ q < C B 0 + r.sz) → S'.g q = S.g q := fun q q2 q3 q4 => by
  show (if q = p then _ else _) = _
  rw [if_neg q2, if_neg q3, if_neg (by rw [hll]; exact q4)]
 have same : ∀ q, (S'.g q).1 = (S.g q).1 → S'.g q = S.g q ∧ q ≠ p ∧ q ≠ H B ∧ ¬ (C B 0 ≤ q ∧ q < C B 0 + r.sz) := fun q hq => by
  have q2 : q ≠ p := fun e => by rw [e, gp] at hq; simp at hq
  have q3 : q ≠ H B := fun e => by rw [e, gH] at hq; simp at hq
  have q4 : ¬ (C B 0 ≤ q ∧ q < C B 0 + r.sz) := fun e => by rw [gC q e] at hq; simp at hq
  exact ⟨gO q q2 q3 q4, q2, q3, q4⟩
 have phO : ∀ q, ¬ (C B 0 ≤ q ∧ q < C B 0 + r.sz) → S'.ph q = S.ph q := fun q hq => by
  show phput S.ph B 0 row q = _
  unfold phput
  rw [if_neg (by rw [hrl]; exact hq)]
 have L : Later S S' := by
  refine ⟨fun q => ?_, fun q hq => phO q (same q hq).2.2.2, fun q v' e' r' xs' hq hv => ?_, fun b hb => ?_, fun j hj => ⟨hOo j _ hj (by simp), rfl⟩, fun b n hb hh hO => ?_, fun q hq hdp => ?_⟩
  ·by_cases q2 : q = p
   ·rw [q2, gp]; exact Nat.le_succ _
   by_cases q3 : q = H B
   ·rw [q3, gH]; exact Nat.le_succ _
   by_cases q4 : C B 0 ≤ q ∧ q < C B 0 + r.sz
   ·rw [gC q q4]; exact Nat.le_succ _
   ·rw [gO q q2 q3 q4]; exact Nat.le_refl _
  ·have := (same q (by rw [hq]; exact hv.symm)).1
   rw [this] at hq
   exact ⟨xs', hq, rfl⟩
  ·have h5 : b ≠ B := fun e => (same _ hb).2.2.1 (by rw [e])
   exact upd_ne _ _ h5
  ·have h5 := (same _ hb).1
   refine ⟨by rw [h5]; exact hh, hOo _ _ hO (by simp), fun c e' f' hc' => ⟨c, hc', rfl, fun _ _ => rfl⟩⟩
  ·obtain ⟨h5, q2, _⟩ := same q hq
   rw [h5]
   exact ⟨hdp, fun _ _ _ h => h, fun j hj => ⟨.inl (hOo j _ hj (by simp [q2])), rfl⟩⟩
 have hcell : ∀ j, j < r.sz → cur[i.toNat * r.sz + j]? = row[j]? := fun j hj => by
  rw [← hrow, List.getElem?_take, if_pos hj, List.getElem?_drop, ← h4, List.getElem?_take, Array.getElem?_toList]
  have : (i.toNat + 1) * r.sz ≤ xs.length * r.sz := Nat.mul_le_mul_right _ i1
  rw [Nat.add_mul, Nat.one_mul] at this
  rw [if_pos (by omega)]
 have hfit : i.toNat * r.sz + r.sz ≤ cur.size := by
  have h5 : (i.toNat + 1) * r.sz ≤ xs.length * r.sz := Nat.mul_le_mul_right _ i1
  have h6 : xs.length * r.sz ≤ cap * r.sz := Nat.mul_le_mul_right _ h1
  rw [Nat.add_mul, Nat.one_mul] at h5
  omega
 refine ⟨S', k, cap, ⟨K.nt, fun j hj => ?_, fun l => ?_, fun b n hb => ?_, fun b n hb => ?_, fun t ht => ?_, K.sz, K.df, K.fr.relab (fun j h => hOo j _ h (by simp)) (fun j h => hOo j _ h (by simp)) (fun j b h => hOo j _ h (by simp))⟩, rfl, rfl, hph, upd_same _ _ _, phO⟩
 ·-- blocks
  refine K.lt j (fun e => hj (hOo j _ e (by simp)))
 ·show SvOk X.P S' l (S'.g l).2 (S'.ph l)
  by_cases q2 : l = p
  ·rw [q2, gp, phO p hpC, hph]
   refine ⟨by rw [gH]; exact Nat.le_refl _, ⟨hs, i0, i1, k, cap, rfl⟩, fun _ => ⟨k, cap, cur, b1, b2, rfl, hs, hc, ⟨h1, h2, h3⟩, ⟨i0, i1⟩, upd_same _ _ _, hOk, by rw [gH], ?_, ?_, ?_, fun j hj => hOb j (List.mem_append.1 hj)⟩⟩
   ·have h5 : cs.take (i.toNat * r.sz) = cur.toList.take (i.toNat * r.sz) := by
     rw [← h4, List.take_take, Nat.min_eq_left (Nat.mul_le_mul_right _ (Nat.le_of_lt i1))]
    rw [h5] at r1
    exact r1.mono (fun x c b hb h => Ty.dep_mono (fun j hj => hOo j _ hj (by simp)) (fun _ _ => rfl) r x c b (fun _ _ => rfl) h)
   ·rw [h4]
    exact r3.mono (fun x c b hb h => Ty.dep_mono (fun j hj => hOo j _ hj (by simp)) (fun _ _ => rfl) r x c b (fun _ _ => rfl) h)
   ·rw [List.nodup_append]
    exact ⟨n1, n5, fun x hx y hy => n3 x hx y (List.mem_append_right _ hy)⟩
  by_cases q3 : l = H B
  ·rw [q3, gH]; trivial
  by_cases q4 : C B 0 ≤ l ∧ l < C B 0 + r.sz
  ·rw [gC l q4]
   have h5 := f3 S' (fun n => .pl (C B n) []) rfl (fun j hj => hOo j _ hj (by simp)) hOi
   obtain ⟨x, u', w1, w2, w3, w4⟩ := h5.at (l - C B 0) (by rw [hll]; omega)
   have w5 : S'.ph l = u' := by
    show phput S.ph B 0 row l = _
    unfold phput
    rw [if_pos (by rw [hrl]; exact q4), w2]
   rw [w1, w5]
   rw [Nat.zero_add] at w4
   have w6 : C B (l - C B 0) = l := by
    have : C B (l - C B 0) = C B 0 + (l - C B 0) := by unfold C; omega
    omega
   rw [w6] at w4
   exact w4
  ·rw [gO l q2 q3 q4, phO l q4]
   exact (K.at_ l).later L (fun q j hj => ⟨hOo j _ hj (by simp [q2]), rfl⟩)
 ·by_cases hbB : b = B
  ·subst hbB
   rw [gH] at hb
   cases hb
   refine ⟨hz, cur, e, ?_, ?_, ?_, fun j hj => ?_⟩
   ·show S.w.heap[(upd S.bb b (k, i.toNat * r.sz) b).1]? = _
    rw [upd_same]; exact hc
   ·show O' (upd S.bb b (k, i.toNat * r.sz) b).1 = _
    rw [upd_same]; exact hOk
   ·show (upd S.bb b (k, i.toNat * r.sz) b).2 + _ ≤ _
    rw [upd_same]; exact hfit
   ·show cur[(upd S.bb b (k, i.toNat * r.sz) b).2 + j]? = some (phput S.ph b 0 row (C b j))
    rw [upd_same, hcell j hj]
    unfold phput
    have h2' : C b 0 ≤ C b j ∧ C b j < C b 0 + row.length := by unfold C; omega
    rw [if_pos h2', show C b j - C b 0 = j by unfold C; omega, List.getD_eq_getElem?_getD, List.getElem?_eq_getElem (by omega)]
    rfl
  ·have hne : H b ≠ H B := fun e => hbB (H_inj e)
   have h6 : ¬ (C B 0 ≤ H b ∧ H b < C B 0 + r.sz) := heads_apart (by omega)
   have h7 : H b ≠ p := fun e => by rw [e, gp] at hb; cases hb
   rw [gO _ h7 hne h6] at hb
   obtain ⟨g1, c1, e2, g2, g3, g4, g5⟩ := K.box b n hb
   have hbb : S'.bb b = S.bb b := upd_ne _ _ hbB
   rw [hbb]
   refine ⟨g1, c1, e2, g2, hOo _ _ g3 (by simp), g4, fun j hj => ?_⟩
   rw [phO _ (cells_apart (by omega) (by omega) hbB)]
   exact g5 j hj
 ·by_cases hbB : b = B
  ·subst hbB
   refine ⟨fun h => absurd h (by omega), fun h => absurd h (by unfold Cx.pb; omega), fun _ hlt b' h0 => ?_⟩
   have h5 : X.O0 k = .bx b' := by
    have : X.O0 (upd S.bb b (k, i.toNat * r.sz) b).1 = .bx b' := h0
    rwa [upd_same] at this
   have h6 : k < X.w0.heap.size := by
    have : (upd S.bb b (k, i.toNat * r.sz) b).1 < X.w0.heap.size := hlt
    rwa [upd_same] at this
   have := (K.fr.bx k b' h6 h5).1
   rw [hlk] at this
   cases this
  ·have hne : H b ≠ H B := fun e => hbB (H_inj e)
   have h6 : ¬ (C B 0 ≤ H b ∧ H b < C B 0 + r.sz) := heads_apart (by omega)
   have h7 : H b ≠ p := fun e => by rw [e, gp] at hb; cases hb
   rw [gO _ h7 hne h6] at hb
   have hbb : S'.bb b = S.bb b := upd_ne _ _ hbB
   rw [hbb]
   exact K.rgn b n hb
 ·show a.tmps.getD t undef = S'.ph t
  rw [phO t (slots_apart (Nat.lt_of_lt_of_le ht K.nt))]
  exact K.sl t ht
end
end Go.Proofs.Ytehkignjdbkeiaa.Vf
end
section
set_option linter.unusedVariables false
set_option linter.unusedSimpArgs false
namespace Go.Proofs.Ytehkignjdbkeiaa.Vf
open Go
attribute [local irreducible] C H
theorem beq_div {p B : Nat} (h : Nat.beq (p / 1000) (B + 1) = false) {n : Nat} (hn : n ≤ 999) : p ≠ H B ∧ ¬ (C B 0 ≤ p ∧ p < C B 0 + n) := by
 have h1 : p / 1000 ≠ B + 1 := fun e => by rw [e, Nat.beq_refl] at h; cases h
 refine ⟨fun e => h1 ?_, fun ⟨h2, h3⟩ => h1 ?_⟩
 ·rw [e]; unfold H; omega
 ·have : C B 0 = 1000 * (B + 1) := by unfold C; omega
  omega
section
variable {X : Cx} {S S' : Sit} {a : Act} {E : En} {A : Ab} {o : Oper} {R : Type} {Kc : List Up → Option R} {r : R}
theorem openUp_ok (K : Okay X S a) (hg : S.g = get A) {p v B : Nat} {e : TypeId} {r : Ty} {xs : List r.den} {i : Int} {us : List Up} (hp : S.g p = (v, .one (.own e r xs))) (h : openUp A B p e r xs i = some us) :
  ∃ S' k cap, Okay X S' a ∧ S'.g = get (ups A us) ∧ S'.w = S.w ∧ S.ph p = .slice (some ⟨k, 0, none⟩) xs.length cap ∧ S'.bb B = (k, i.toNat * r.sz) ∧ (∀ q, q < 1000 → S'.ph q = S.ph q) ∧ (S'.g (H B)).1 = (S.g (H B)).1 + 1 ∧
   (∀ q, q < 1000 → q ≠ p → S'.g q = S.g q) := by
 unfold openUp at h
 cases hq : ((noOw r || allOw r) && Nat.blt r.sz 999 && !(Nat.beq (p / 1000) (B + 1)) && Nat.ble 2000 B) with
 | false => rw [hq] at h; simp at h
 | true =>
  rw [hq, cond_true] at h
  simp only [Bool.and_eq_true, Bool.or_eq_true, Bool.not_eq_true'] at hq
  obtain ⟨⟨⟨q1, q2⟩, q3⟩, q4⟩ := hq
  have hz : r.sz < 999 := Nat.le_of_ble_eq_true q2
  have hB : 2000 ≤ B := Nat.le_of_ble_eq_true q4
  by_cases h0 : 0 ≤ i
  ·by_cases h1 : i < (xs.length : Int)
   ·simp only [h0, h1, decide_true, cond_true, Option.some.injEq] at h
    subst h
    obtain ⟨hpH, hpC⟩ := beq_div q3 (n := r.sz) (by omega)
    obtain ⟨S', k, cap, K', g', w', ph', bb', pq⟩ := open_core K hB hp hpH hpC q1 hz h0 (by omega)
    have hl : (leaves r (xs.getD i.toNat r.dflt)).length = r.sz := leaves_sz _ _
    have hg' : S'.g = get (ups A (⟨p, false, .one (.opn e r xs i B ((get A (H B)).1 + 1))⟩ :: ⟨H B, false, .one (.hd r.sz)⟩ :: putCells B 0 (leaves r (xs.getD i.toNat r.dflt)))) := by
     rw [opnG_get hpH (by rw [hl]; exact hpC) (by omega), ← hg, g']
    refine ⟨S', k, cap, K', hg', w', ph', bb', fun q hq => pq q (slots_apart hq), ?_, fun q hq hne => ?_⟩
    ·rw [g']
     show (if H B = p then _ else _ : Nat × Sv).1 = _
     rw [if_neg (Ne.symm hpH), if_pos rfl]
    ·rw [g']
     show (if q = p then _ else _ : Nat × Sv) = _
     rw [if_neg hne, if_neg (fun e => by have := H_ge B; omega), if_neg (slots_apart hq)]
   ·simp [h0, h1] at h
  ·simp [h0] at h
theorem Okay.point (K : Okay X S a) {d : Nat} (hd : d < X.nt) {z : Lf} (hz : LfOk X.P S (.pl d []) z (S.ph d)) (hown : z.isOwn = false) (hnh : ∀ n, z ≠ .hd n) : Okay X { S with g := upd S.g d ((S.g d).1 + 1, .one z) } a := by
 have hd1 : d < 1000 := Nat.lt_of_lt_of_le hd K.nt
 have hdH : ∀ b, H b ≠ d := fun b e => by have := H_ge b; omega
 have L : Later S { S with g := upd S.g d ((S.g d).1 + 1, .one z) } := by
  refine ⟨fun p => ?_, fun _ _ => rfl, fun p v e r xs' hp hv => ?_, fun _ _ => rfl, fun k h => ⟨h, rfl⟩, Later.box_of (fun b n hv hh => ?_) (fun _ _ h => ⟨h, rfl⟩), fun p hp hdp => ?_⟩
  ·by_cases h : p = d
   ·subst h; show _ ≤ (upd S.g p _ p).1; rw [upd_same]; exact Nat.le_succ _
   ·show _ ≤ (upd S.g d _ p).1; rw [upd_ne _ _ h]; exact Nat.le_refl _
  ·have hp' : upd S.g d ((S.g d).1 + 1, .one z) p = (v, .one (.own e r xs')) := hp
   by_cases h : p = d
   ·subst h; rw [upd_same] at hp'; simp only [Prod.mk.injEq] at hp'; omega
   ·rw [upd_ne _ _ h] at hp'; exact ⟨xs', hp', rfl⟩
  ·exact (congrArg Prod.snd (upd_ne _ _ (hdH b))).trans hh
  ·have hp' : (upd S.g d ((S.g d).1 + 1, .one z) p).1 = (S.g p).1 := hp
   have h : p ≠ d := fun e => by subst e; rw [upd_same] at hp'; simp at hp'
   have e1 : ({ S with g := upd S.g d ((S.g d).1 + 1, .one z) } : Sit).g p = S.g p := upd_ne _ _ h
   rw [e1]
   exact ⟨hdp, fun _ _ _ h => h, fun k hk => ⟨.inl hk, rfl⟩⟩
 refine K.ghost S.O _ (fun _ h => h) (fun _ h => h) (fun _ h => h) (fun _ _ h => h) (fun b n h => ?_) (fun l => ?_)
 ·rwa [upd_ne _ _ (hdH b)] at h
 ·by_cases h : l = d
  ·subst h
   show SvOk X.P _ l (upd S.g l _ l).2 _
   rw [upd_same]
   exact LfOk.later L hz (fun k hk => ⟨hk, rfl⟩)
  ·show SvOk X.P _ l (upd S.g d _ l).2 _
   rw [upd_ne _ _ h]
   exact (K.at_ l).later L (fun p k hk => ⟨hk, rfl⟩)
theorem openI_ok (K : Okay X S a) (hg : S.g = get A) {p t B : Nat} {us : List Up} (h : openI A p t B = some us) : ∃ S', Okay X S' a ∧ S'.g = get (ups A us) ∧ S'.w = S.w := by
 unfold openI at h
 split at h
 ·rename_i e r xs k i hp _
  obtain ⟨S', _, _, K', g', w', _⟩ := openUp_ok K hg (p := p) (v := (S.g p).1) (by rw [← hg] at hp; rw [← hp]) h
  exact ⟨S', K', g', w'⟩
 ·cases h
theorem openD_ok (K : Okay X S a) (hg : S.g = get A) {d B : Nat} (hd : d < X.nt) {us : List Up} (h : openD A d B = some us) : ∃ S', Okay X S' a ∧ S'.g = get (ups A us) ∧ S'.w = S.w := by
 have hd1 : d < 1000 := Nat.lt_of_lt_of_le hd K.nt
 have hat := K.at_ d
 have go : ∀ {p v : Nat} {e : TypeId} {r : Ty} {xs : List r.den} {i : Int} {off : Nat} {us0 : List Up}, S.g p = (v, .one (.own e r xs)) → p ≠ d → openUp A B p e r xs i = some us0 → us = us0 ++ [⟨d, false, .one (.bp B ((get A (H B)).1 + 1) off)⟩] →
   (∀ k cap, S.ph p = .slice (some ⟨k, 0, none⟩) xs.length cap → S.ph d = .pointer (some ⟨k, i.toNat * r.sz + off, none⟩)) → ∃ S', Okay X S' a ∧ S'.g = get (ups A us) ∧ S'.w = S.w := by
  intro p v e r xs i off us0 hp hpd ho hus hpt
  obtain ⟨S', k, cap, K', g', w', ph', bb', pq, gH, gq⟩ := openUp_ok K hg hp ho
  have hz : LfOk X.P S' (.pl d []) (.bp B ((S.g (H B)).1 + 1) off) (S'.ph d) := by
   refine ⟨by rw [gH]; exact Nat.le_refl _, fun _ => ?_⟩
   rw [pq d hd1, hpt k cap ph', bb']
  refine ⟨_, K'.point hd hz rfl (by simp), ?_, w'⟩
  show upd S'.g d _ = _
  rw [hus, ups_append, get_ups1, ← g', ← hg]
 unfold openD at h
 split at h
 ·rename_i p v i off hd2
  have hat' : LfOk X.P S (.pl d []) (.ep p v i off) (S.ph d) := by rw [hg, hd2] at hat; exact hat
  split at h
  ·rename_i n e r xs hp
   cases hq : (Nat.beq n v && noOw r && !(Nat.beq p d)) with
   | false => rw [hq] at h; simp at h
   | true =>
    rw [hq, cond_true] at h
    simp only [Bool.and_eq_true, Bool.not_eq_true'] at hq
    obtain ⟨⟨q1, q2⟩, q3⟩ := hq
    have hnv : n = v := Nat.eq_of_beq_eq_true q1
    subst hnv
    have hpd : p ≠ d := fun e => by rw [e, Nat.beq_refl] at q3; cases q3
    split at h
    ·rename_i us0 ho
     simp only [Option.some.injEq] at h
     have hp' : S.g p = (n, .one (.own e r xs)) := by rw [hg, hp]
     refine go hp' hpd ho h.symm (fun k cap hk => ?_)
     obtain ⟨_, _, k', cap', e1, e2⟩ := hat'.2 e r xs hp'
     rw [hk] at e1
     cases e1
     exact e2
    ·cases h
  ·cases h
 ·rename_i p v e0 r0 xs0 i off hd2
  have hat' : LfOk X.P S (.pl d []) (.dp p v (some []) e0 r0 xs0 i off) (S.ph d) := by rw [hg, hd2] at hat; exact hat
  split at h
  ·rename_i n e r xs hp
   cases hq : (Nat.beq n v && !(noOw r) && !(Nat.beq p d)) with
   | false => rw [hq] at h; simp at h
   | true =>
    rw [hq, cond_true] at h
    simp only [Bool.and_eq_true, Bool.not_eq_true'] at hq
    obtain ⟨⟨q1, q2⟩, q3⟩ := hq
    have hnv : n = v := Nat.eq_of_beq_eq_true q1
    subst hnv
    have hpd : p ≠ d := fun e => by rw [e, Nat.beq_refl] at q3; cases q3
    split at h
    ·rename_i us0 ho
     simp only [Option.some.injEq] at h
     have hp' : S.g p = (n, .one (.own e r xs)) := by rw [hg, hp]
     have hv : (S.g p).1 = n := by rw [hp']
     refine go hp' hpd ho h.symm (fun k cap hk => ?_)
     obtain ⟨hh, hda, hdp⟩ := hat'
     obtain ⟨_, _, k', o', cap', e1, e2⟩ := hdp hv
     obtain ⟨_, _, hpath⟩ := hda.2.2 hv
     obtain ⟨f1, f2⟩ := hpath [] rfl e r xs (by rw [hp'])
     simp only [look, Option.some.injEq] at f1
     cases f1
     have f3 : hh = S.ph p := f2
     rw [f3, hk] at e1
     cases e1
     rw [e2, Nat.zero_add]
    ·cases h
  ·cases h
 ·cases h
theorem DRows.set3 {α : Type} {R : α → List Value → List Nat → Prop} {xs : List α} {i : Nat} {z : α} {c1 c c2 : List Value} {b1 bi b2 : List Nat} (hi : i < xs.length) (h1 : DRows R (xs.take i) c1 b1) (h : R z c bi) (h2 : DRows R (xs.drop (i + 1)) c2 b2) :
  DRows R (xs.set i z) (c1 ++ (c ++ c2)) (b1 ++ (bi ++ b2)) := by
 rw [List.set_eq_take_append_cons_drop, if_pos hi]
 exact h1.append ⟨c, c2, bi, b2, rfl, rfl, h, h2⟩
theorem close_ok (K : Okay X S a) (hg : S.g = get A) {p : Nat} {us : List Up} (h : closeT A p = some us) : ∃ S', Okay X S' a ∧ S'.g = get (ups A us) ∧ S'.w = S.w := by
 unfold closeT at h
 split at h
 ·rename_i e0 r0 xs0 i0 b v hop0
  split at h
  ·rename_i l us1 hgive
   obtain ⟨_, _, _, hst, hlen, S1, K1, g1, G1, hls⟩ := giveB_ok K hg hgive 7
   split at h
   ·rename_i e r xs i b' v' hop
    cases hq : (Nat.beq b b' && Nat.beq (get (ups A us1) (H b)).1 v' && Nat.ble 2000 b && Nat.beq l.length r.sz && ((noOw r && !(ownIn l)) || (allOw r && owned l))) with
    | false => rw [hq] at h; simp at h
    | true =>
     rw [hq, cond_true] at h
     simp only [Bool.and_eq_true] at hq
     obtain ⟨⟨⟨⟨q1, q2⟩, q3⟩, q5⟩, q4⟩ := hq
     have hbb' : b = b' := Nat.eq_of_beq_eq_true q1
     subst hbb'
     have hb2 : 2000 ≤ b := Nat.le_of_ble_eq_true q3
     have hv : (S1.g (H b)).1 = v' := by rw [g1]; exact Nat.eq_of_beq_eq_true q2
     split at h
     ·rename_i z hz
      simp only [Option.some.injEq] at h
      have hat : LfOk X.P S1 (.pl p []) (.opn e r xs i b v') (S1.ph p) := by have := K1.at_ p; rw [g1, hop] at this; exact this
      obtain ⟨_, _, hopn⟩ := hat
      obtain ⟨k, cap, cur, b1, b2, h1, h2, h3, ⟨h4, h5, h6⟩, ⟨i0, i1⟩, h8, h9, h10, h11, h12, h13, h14⟩ := hopn hv
      obtain ⟨hn, c, e', x1, x2, x3, x4⟩ := K1.box b r.sz h10
      rw [h8] at x1 x2 x3 x4
      rw [h3] at x1
      cases x1
      have hrl : ((List.range r0.sz).map fun j => S.ph (C b (0 + j))).length = l.length := by rw [List.length_map, List.length_range, hlen]
      have hzl : l.length = r.sz := Nat.eq_of_beq_eq_true q5
      have hr0 : r0.sz = r.sz := by omega
      generalize hrow : (List.range r0.sz).map (fun j => S.ph (C b (0 + j))) = row at hls hrl
      have hrow2 : row = (cur.toList.drop (i.toNat * r.sz)).take r.sz := by
       refine List.ext_getElem? fun j => ?_
       rw [List.getElem?_take, List.getElem?_drop]
       by_cases hj : j < r.sz
       ·have e1 : cur.toList[i.toNat * r.sz + j]? = cur[i.toNat * r.sz + j]? := Array.getElem?_toList
        have e2 : cur[i.toNat * r.sz + j]? = some (S1.ph (C b j)) := x4 j hj
        rw [if_pos hj, e1, e2, G1.ph, ← hrow]
        simp [hr0, hj]
       ·rw [if_neg hj, List.getElem?_eq_none (by omega)]
      have hdep : ∃ bi, r.dep X.P (fun k => S1.O k = .fz) S1.w z row bi ∧ bi.Nodup ∧ ∀ k ∈ bi, ∃ q, S1.O k = .tm 7 q := by
       rcases Bool.or_eq_true _ _ ▸ q4 with q | q
       ·simp only [Bool.and_eq_true, Bool.not_eq_true'] at q
        have hrep : All2 (LfRep X.P (fun k => S1.O k = .fz) S1.w) l row := by
         have key : ∀ (l : List Lf) (j : Nat) (us : List Value), storable l = true → ownIn l = false → LfsOk X.P S1 (fun n => .tm 7 [n]) j l us → All2 (LfRep X.P (fun k => S1.O k = .fz) S1.w) l us := by
          intro l
          induction l with
          | nil => intro j us _ _ h; cases us <;> first | exact .nil | exact h.elim
          | cons x l ih =>
           intro j us hs ho h
           cases us with
           | nil => exact h.elim
           | cons u us =>
            cases x with
            | sc v => exact .cons h.1 (ih _ _ (by simpa [storable] using hs) (by simpa [ownIn] using ho) h.2)
            | fz e r xs => exact .cons h.1 (ih _ _ (by simpa [storable] using hs) (by simpa [ownIn] using ho) h.2)
            | own e r xs => simp [ownIn] at ho
            | _ => simp [storable] at hs
         exact key l 0 row hst q.2 hls
        exact ⟨[], (Ty.dep_flat r z row [] q.1).2 ⟨mkW_rep hz hrep, rfl⟩, by simp, by simp⟩
       ·simp only [Bool.and_eq_true] at q
        obtain ⟨mb, m1, m2, m3⟩ := owned_deps q.2 hls (fun n n' _ _ _ _ e => by simpa using e)
        exact ⟨mb, mkW_dep q.1 hz m1, m2, fun k hk => by obtain ⟨n, _, _, h⟩ := m3 k hk; exact ⟨_, h⟩⟩
      obtain ⟨bi, hd1, hd2, hd3⟩ := hdep
      let O' : Nat → Lab := fun j => if j = k then .pl p [] else match S1.O j with
       | .tm 7 _ => .pl p []
       | o => o
      have hOk : O' k = .pl p [] := if_pos rfl
      have hOn : ∀ j o', S1.O j = o' → j ≠ k → (∀ q, o' ≠ .tm 7 q) → O' j = o' := fun j o' hj h3 h2 => by
       show (if j = k then _ else _) = _
       rw [if_neg h3, hj]
       cases o' <;> first | rfl | skip
       rename_i n q
       by_cases hn7 : n = 7
       ·subst hn7; exact absurd rfl (h2 q)
       ·split
        ·rename_i heq
         simp only [Lab.tm.injEq] at heq
         exact absurd heq.1 hn7
        ·rfl
      have hOo : ∀ j o', S1.O j = o' → o' ≠ .bx b → (∀ q, o' ≠ .tm 7 q) → O' j = o' := fun j o' hj h1 h2 => hOn j o' hj (fun e => h1 (by rw [← hj, e, h9])) h2
      have hO7 : ∀ j q, S1.O j = .tm 7 q → O' j = .pl p [] := fun j q hj => by
       have h3 : j ≠ k := fun e => by rw [e, h9] at hj; cases hj
       show (if j = k then _ else _) = _
       rw [if_neg h3, hj]
       rfl
      let g' := upd (upd S1.g (H b) ((S1.g (H b)).1 + 1, .one .dead)) p ((S1.g p).1 + 1, .one (.own e r (xs.set i.toNat z)))
      have hpH : p ≠ H b := fun e => by rw [e, ← g1, h10] at hop; cases hop
      let S' : Sit := { S1 with O := O', g := g' }
      have gp : S'.g p = ((S1.g p).1 + 1, .one (.own e r (xs.set i.toNat z))) := upd_same _ _ _
      have gH : S'.g (H b) = ((S1.g (H b)).1 + 1, .one .dead) := (upd_ne _ _ (Ne.symm hpH)).trans (upd_same _ _ _)
      have gO : ∀ q, q ≠ p → q ≠ H b → S'.g q = S1.g q := fun q q1 q2 => (upd_ne _ _ q1).trans (upd_ne _ _ q2)
      have same : ∀ q, (S'.g q).1 = (S1.g q).1 → S'.g q = S1.g q ∧ q ≠ p ∧ q ≠ H b := fun q hq => by
       have q1 : q ≠ p := fun e => by rw [e, gp] at hq; simp at hq
       have q2 : q ≠ H b := fun e => by rw [e, gH] at hq; simp at hq
       exact ⟨gO q q1 q2, q1, q2⟩
      have hfz : ∀ j, S1.O j = .fz → O' j = .fz := fun j hj => hOo j _ hj (by simp) (by simp)
      have L : Later S1 S' := by
       refine ⟨fun q => ?_, fun _ _ => rfl, fun q v2 e2 r2 xs' hq hv2 => ?_, fun _ _ => rfl, fun j hj => ⟨hfz j hj, rfl⟩, fun b3 n hb hh hO => ?_, fun q hq hdp => ?_⟩
       ·by_cases q1 : q = p
        ·rw [q1, gp]; exact Nat.le_succ _
        by_cases q2 : q = H b
        ·rw [q2, gH]; exact Nat.le_succ _
        ·rw [gO q q1 q2]; exact Nat.le_refl _
       ·have := (same q (by rw [hq]; exact hv2.symm)).1
        rw [this] at hq
        exact ⟨xs', hq, rfl⟩
       ·obtain ⟨s1, _, s2⟩ := same _ hb
        have hb3 : b3 ≠ b := fun e => s2 (by rw [e])
        exact ⟨by rw [s1]; exact hh, hOo _ _ hO (by simp [hb3]) (by simp), fun c e' f' hc' => ⟨c, hc', rfl, fun _ _ => rfl⟩⟩
       ·obtain ⟨s1, _, _⟩ := same q hq
        rw [s1]
        exact ⟨hdp, fun _ _ _ h => h, fun j hj => ⟨.inl (hOo j _ hj (by simp) (by simp)), rfl⟩⟩
      have hnd : (k :: (b1 ++ (bi ++ b2))).Nodup := by
       rw [List.nodup_append] at h13
       obtain ⟨n1, n2, n3⟩ := h13
       rw [List.nodup_cons, List.nodup_append, List.nodup_append]
       have hk1 : ∀ j ∈ b1 ++ b2, j ≠ k := fun j hj e => by have := h14 j hj; rw [e, h9] at this; cases this
       refine ⟨fun hk => ?_, n1, ⟨hd2, n2, fun x hx y hy e => ?_⟩, fun x hx y hy e => ?_⟩
       ·rcases List.mem_append.1 hk with hk | hk
        ·exact hk1 k (List.mem_append_left _ hk) rfl
        ·rcases List.mem_append.1 hk with hk | hk
         ·obtain ⟨q, hq⟩ := hd3 k hk
          rw [h9] at hq; cases hq
         ·exact hk1 k (List.mem_append_right _ hk) rfl
       ·obtain ⟨q, hq⟩ := hd3 x hx
        have := h14 y (List.mem_append_right _ hy)
        rw [← e, hq] at this; cases this
       ·rcases List.mem_append.1 hy with hy | hy
        ·obtain ⟨q, hq⟩ := hd3 y hy
         have := h14 x (List.mem_append_left _ hx)
         rw [e, hq] at this; cases this
        ·exact n3 x hx y hy e
      have hown : OwnOk X.P O' S1.w (.pl p []) e r (xs.set i.toNat z) (S1.ph p) := by
       have hcs : cur.toList.take (xs.length * r.sz) = cur.toList.take (i.toNat * r.sz) ++ (row ++ (cur.toList.take (xs.length * r.sz)).drop (i.toNat * r.sz + r.sz)) := by
        have hle : (i.toNat + 1) * r.sz ≤ xs.length * r.sz := Nat.mul_le_mul_right _ i1
        rw [Nat.add_mul, Nat.one_mul] at hle
        have e1 : cur.toList.take (i.toNat * r.sz) = (cur.toList.take (xs.length * r.sz)).take (i.toNat * r.sz) := by rw [List.take_take, Nat.min_eq_left (by omega)]
        have e2 : row = ((cur.toList.take (xs.length * r.sz)).drop (i.toNat * r.sz)).take r.sz := by
         rw [hrow2]
         refine List.ext_getElem? fun j => ?_
         rw [List.getElem?_take, List.getElem?_take]
         split
         ·rw [List.getElem?_drop, List.getElem?_drop, List.getElem?_take, if_pos (by omega)]
         ·rfl
        rw [e1, e2, ← List.drop_drop]
        rw [List.take_append_drop, List.take_append_drop]
       refine ⟨k :: (b1 ++ (bi ++ b2)), ⟨S1.ph p, cur.toList.take (xs.length * r.sz), b1 ++ (bi ++ b2), rfl, h2, ⟨?_, .inr ⟨k, cap, cur, by rw [List.length_set]; exact h1, Nat.zero_le _, h3, by rw [List.length_set]; exact h4, h5, h6, by rw [List.length_set]⟩⟩, ?_, ?_⟩, hnd, fun j hj => ?_⟩
       ·have e1 : cur.toList.length = cur.size := Array.length_toList
        rw [List.length_take, List.length_set, e1]
        have := Nat.mul_le_mul_right r.sz h4
        omega
       ·rw [hcs]
        have mono : ∀ {x : r.den} {c : List Value} {d : List Nat}, r.dep X.P (fun k => S1.O k = .fz) S1.w x c d → r.dep X.P (fun k => O' k = .fz) S1.w x c d := fun h => Ty.dep_mono hfz (fun _ _ => rfl) r _ _ _ (fun _ _ => rfl) h
        exact DRows.set3 i1 (h11.mono (fun x c d _ h => mono h)) (mono hd1) (h12.mono (fun x c d _ h => mono h))
       ·rw [h1]; rfl
       ·rcases List.mem_cons.1 hj with rfl | hj
        ·exact hOk
        ·rcases List.mem_append.1 hj with hj | hj
         ·exact hOo j _ (h14 j (List.mem_append_left _ hj)) (by simp) (by simp)
         ·rcases List.mem_append.1 hj with hj | hj
          ·obtain ⟨q, hq⟩ := hd3 j hj
           exact hO7 j q hq
          ·exact hOo j _ (h14 j (List.mem_append_right _ hj)) (by simp) (by simp)
      refine ⟨S', ⟨K1.nt, fun j hj => ?_, fun q => ?_, fun b3 n hb => ?_, fun b3 n hb => ?_, K1.sl, K1.sz, K1.df, ⟨K1.fr.os, K1.fr.tape, K1.fr.out, K1.fr.size, fun j hj h0 => ?_, fun j hj h0 => ?_, fun j b3 hj h0 => ?_⟩⟩, ?_, G1.w⟩
      ·exact K1.lt j (fun e => hj (hOo j _ e (by simp) (by simp)))
      ·show SvOk X.P S' q (S'.g q).2 (S1.ph q)
       by_cases q1 : q = p
       ·rw [q1, gp]; exact hown
       by_cases q2 : q = H b
       ·rw [q2, gH]; trivial
       ·rw [gO q q1 q2]
        exact (K1.at_ q).later L (fun w j hj => ⟨hOo j _ hj (by simp) (by simp), rfl⟩)
      ·have hb3 : b3 ≠ b := fun e => by rw [e, gH] at hb; cases hb
       have hbp : H b3 ≠ p := fun e => by rw [e, gp] at hb; cases hb
       rw [gO _ hbp (fun e => hb3 (H_inj e))] at hb
       obtain ⟨y1, c1, e1, y2, y3, y4, y5⟩ := K1.box b3 n hb
       exact ⟨y1, c1, e1, y2, hOo _ _ y3 (by simp [hb3]) (by simp), y4, y5⟩
      ·have hb3 : b3 ≠ b := fun e => by rw [e, gH] at hb; cases hb
       have hbp : H b3 ≠ p := fun e => by rw [e, gp] at hb; cases hb
       rw [gO _ hbp (fun e => hb3 (H_inj e))] at hb
       exact K1.rgn b3 n hb
      ·obtain ⟨f1, f2⟩ := K1.fr.no j hj h0
       exact ⟨hOo j _ f1 (by simp) (by simp), f2⟩
      ·obtain ⟨f1, f2⟩ := K1.fr.fz j hj h0
       exact ⟨hOo j _ f1 (by simp) (by simp), f2⟩
      ·obtain ⟨f1, rest⟩ := K1.fr.bx j b3 hj h0
       refine ⟨hOn j _ f1 (fun e => ?_) (by simp), rest⟩
       rw [e] at hj h0
       exact (K1.rgn b r.sz h10).2.2 hb2 (by rw [h8]; exact hj) b3 (by rw [h8]; exact h0)
      ·show upd (upd S1.g (H b) _) p _ = _
       rw [← h, ups_append]
       show _ = get (ups (up (ups A us1) ⟨H b, false, .one .dead⟩) [⟨p, false, .one (.own e r (xs.set i.toNat z))⟩])
       rw [get_ups1, get_up, ← g1]
       simp only [cond_false]
       rw [upd_ne _ _ hpH]
     ·cases h
   ·cases h
  ·cases h
 ·cases h
theorem openK_ok {R : Type} {B p : Nat} {e : TypeId} {r : Ty} {xs : List r.den} {i : Int} {K : List Up → Option R} {Z : Option R} {y : R} (h : openK A B p e r xs i K Z = some y) : Z = some y ∨ ∃ us, openUp A B p e r xs i = some us ∧ K us = some y := by
 unfold openK at h
 unfold openUp
 cases h1 : ((noOw r || allOw r) && Nat.blt r.sz 999 && !(Nat.beq (p / 1000) (B + 1)) && Nat.ble 2000 B) with
 | false => rw [h1, cond_false] at h; exact .inl h
 | true =>
  rw [h1, cond_true] at h
  cases h2 : decide (0 ≤ i) with
  | false => rw [h2] at h; simp at h
  | true =>
   rw [h2, cond_true] at h
   cases h3 : decide (i < (xs.length : Int)) with
   | false => rw [h3] at h; simp at h
   | true =>
    rw [h3, cond_true] at h
    exact .inr ⟨_, rfl, h⟩
theorem ghost_ok {R : Type} {K' : Ab → Option R} {y : R} (hE : EnOk X E) (g : Gh) (K : Okay X S a) (hg : S.g = get A) (h : ghostK E A K' g = some y) : ∃ A' S', K' A' = some y ∧ Okay X S' a ∧ S'.g = get A' ∧ S'.w = S.w := by
 have keep : K' A = some y → ∃ A' S', K' A' = some y ∧ Okay X S' a ∧ S'.g = get A' ∧ S'.w = S.w := fun h => ⟨A, S, h, K, hg, rfl⟩
 cases g with
 | cl p =>
  simp only [ghostK] at h
  split at h
  ·rename_i us hus
   obtain ⟨S1, K1, g1, w1⟩ := close_ok K hg hus
   exact ⟨_, S1, h, K1, g1, w1⟩
  ·exact keep h
 | op p t B =>
  simp only [ghostK] at h
  cases hb : Nat.blt t E.nt with
  | false => rw [hb, cond_false] at h; exact keep h
  | true =>
   rw [hb, cond_true] at h
   split at h
   ·rename_i e r xs k i hp ht
    rcases openK_ok h with h | ⟨us, hus, h⟩
    ·exact keep h
    ·have : openI A p t B = some us := by unfold openI; rw [hp, ht]; exact hus
     obtain ⟨S1, K1, g1, w1⟩ := openI_ok K hg this
     exact ⟨_, S1, h, K1, g1, w1⟩
   ·exact keep h
 | oc p i B =>
  simp only [ghostK] at h
  split at h
  ·rename_i e r xs hp
   rcases openK_ok h with h | ⟨us, hus, h⟩
   ·exact keep h
   ·obtain ⟨S1, _, _, K1, g1, w1, _⟩ := openUp_ok K hg (p := p) (v := (S.g p).1) (by rw [← hg] at hp; rw [← hp]) hus
    exact ⟨_, S1, h, K1, g1, w1⟩
  ·exact keep h
 | od d B =>
  simp only [ghostK] at h
  cases hb : Nat.blt d E.nt with
  | false => rw [hb, cond_false] at h; exact keep h
  | true =>
   have hd : d < X.nt := hE.nt ▸ (Nat.le_of_ble_eq_true hb : d + 1 ≤ E.nt)
   rw [hb, cond_true] at h
   split at h
   ·rename_i p v i off hp
    split at h
    ·rename_i n e r xs hpp
     cases hq : (Nat.beq n v && noOw r && !(Nat.beq p d)) with
     | false => rw [hq, cond_false] at h; exact keep h
     | true =>
      rw [hq, cond_true] at h
      rcases openK_ok h with h | ⟨us, hus, h⟩
      ·exact keep h
      ·have : openD A d B = some (us ++ [⟨d, false, .one (.bp B ((get A (H B)).1 + 1) off)⟩]) := by unfold openD; simp only [hp, hpp, hq, cond_true, hus]
       obtain ⟨S1, K1, g1, w1⟩ := openD_ok K hg hd this
       exact ⟨_, S1, h, K1, g1, w1⟩
    ·exact keep h
   ·rename_i p v e0 r0 xs0 i off hp
    split at h
    ·rename_i n e r xs hpp
     cases hq : (Nat.beq n v && !(noOw r) && !(Nat.beq p d)) with
     | false => rw [hq, cond_false] at h; exact keep h
     | true =>
      rw [hq, cond_true] at h
      rcases openK_ok h with h | ⟨us, hus, h⟩
      ·exact keep h
      ·have : openD A d B = some (us ++ [⟨d, false, .one (.bp B ((get A (H B)).1 + 1) off)⟩]) := by unfold openD; simp only [hp, hpp, hq, cond_true, hus]
       obtain ⟨S1, K1, g1, w1⟩ := openD_ok K hg hd this
       exact ⟨_, S1, h, K1, g1, w1⟩
    ·exact keep h
   ·exact keep h
theorem ghosts_ok {R : Type} {K' : Ab → Option R} {y : R} (hE : EnOk X E) : ∀ (l : List Gh) {S : Sit} {A : Ab}, Okay X S a → S.g = get A → ghostsK E l A K' = some y → ∃ A' S', K' A' = some y ∧ Okay X S' a ∧ S'.g = get A' ∧ S'.w = S.w
 | [], S, A, K, hg, h => ⟨A, S, h, K, hg, rfl⟩
 | g :: l, S, A, K, hg, h => by
  obtain ⟨A1, S1, h1, K1, g1, w1⟩ := ghost_ok hE g K hg h
  obtain ⟨A2, S2, h2, K2, g2, w2⟩ := ghosts_ok hE l K1 g1 h1
  exact ⟨A2, S2, h2, K2, g2, w2.trans w1⟩
end
end Go.Proofs.Ytehkignjdbkeiaa.Vf
end
section
set_option linter.unusedVariables false
set_option linter.unusedSimpArgs false
namespace Go.Proofs.Ytehkignjdbkeiaa.Vf
open Go
attribute [local irreducible] C H
section
variable {X : Cx} {S S' : Sit} {a : Act} {E : En} {A : Ab} {o : Oper} {R : Type} {Kc : List Up → Option R} {r : R}
theorem st_indexOpen (hE : EnOk X E) (K : Okay X S a) (hg : S.g = get A) {T : TypeId} {x i : Operand} {d : Nat} (ho : o.op = .indexAddr T x i) (hod : o.dst = some d) (hd : d < X.nt) (hopn : E.opn d = true) (h : step E o A Kc = some r) : After X o a S.w A Kc r := by
 unfold step at h
 rw [ho, hod] at h
 simp only [hopn, cond_true] at h
 split at h
 ·rename_i p v k n hs hn
  have ei := (opT_sc hE K hg hn).1
  obtain ⟨l, hl⟩ := opT_ex hE K hg hs
  have hl' : LfOk X.P S (.pl l []) (.al p v) (a.eval x) := hl
  split at h
  ·rename_i m e r' xs hp
   cases hq : (Nat.beq m v && isEl E T e && !(Nat.beq p d)) with
   | false => rw [hq] at h; simp at h
   | true =>
    rw [hq, cond_true] at h
    simp only [Bool.and_eq_true, Bool.not_eq_true'] at hq
    obtain ⟨⟨q1, q2⟩, q3⟩ := hq
    have hmv : m = v := Nat.eq_of_beq_eq_true q1
    subst hmv
    have hpd : p ≠ d := fun e => by rw [e, Nat.beq_refl] at q3; cases q3
    rcases openK_ok h with h | ⟨us, hus, h⟩
    ·cases h
    ·have hp' : S.g p = (m, .one (.own e r' xs)) := by rw [hg, hp]
     have he : a.eval x = S.ph p := hl'.2 (by rw [hp'])
     have hown : OwnOk X.P S.O S.w (.pl p []) e r' xs (S.ph p) := by have := K.at_ p; rw [hp'] at this; exact this
     have hb : 0 ≤ n ∧ n < (xs.length : Int) := by
      unfold openUp at hus
      generalize ((noOw r' || allOw r') && Nat.blt r'.sz 999 && !(Nat.beq (p / 1000) (2000 + d + 1)) && Nat.ble 2000 (2000 + d)) = bb at hus
      cases bb with
      | false => simp at hus
      | true =>
       rw [cond_true] at hus
       by_cases h0 : 0 ≤ n
       ·by_cases h1 : n < (xs.length : Int)
        ·exact ⟨h0, h1⟩
        ·simp [h0, h1] at hus
       ·simp [h0] at hus
     obtain ⟨S', k', cap, K', g', w', ph', bb', pq, gH, gq⟩ := openUp_ok K hg hp' hus
     have hr := run_indexAddr (w := S.w) (desc_el q2 hE.ti) hown.top.1 ho (he.trans ph') ei hb.1 hb.2
     rw [Nat.zero_add, ← w'] at hr
     have hsv : SvOk X.P S' 0 (.one (.bp (2000 + d) ((S.g (H (2000 + d))).1 + 1) 0)) (.pointer (some ⟨k', n.toNat * r'.sz, none⟩)) := by
      refine ⟨by rw [gH]; exact Nat.le_refl _, fun _ => ?_⟩
      rw [bb']
      rfl
     have K2 := K'.put0 hd _ _ 0 rfl hsv
     refine ⟨_, h, ?_⟩
     rw [← w']
     refine goes_value (S := putS S' (fun _ _ => none) d _ _) hr (by rw [hod]; exact K2) ?_
     show upd S'.g d _ = _
     rw [ups_append, get_ups1, ← g', ← hg]
  ·cases h
 ·cases h
end
end Go.Proofs.Ytehkignjdbkeiaa.Vf
end
