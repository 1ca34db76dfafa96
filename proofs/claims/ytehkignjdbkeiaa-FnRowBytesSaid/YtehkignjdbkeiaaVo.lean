/- New boxes; structs out of parts. -/
import Derived.Test.YtehkignjdbkeiaaVn
set_option linter.unusedVariables false
set_option linter.unusedSimpArgs false
namespace Go.Proofs.Ytehkignjdbkeiaa.Vf
open Go
attribute [local irreducible] C H

section
variable {X : Cx} {S S' : Sit} {a : Act} {E : En} {A : Ab} {o : Oper} {R : Type} {Kc : List Up → Option R} {r : R}

theorem zeros_len : ∀ t : Ty, (zeros t).length = t.sz
  | .i _ => rfl
  | .b => rfl
  | .s => rfl
  | .sl _ _ => rfl
  | .ow _ _ => rfl
  | .pr x y => by show (zeros x ++ zeros y).length = x.sz + y.sz; rw [List.length_append, zeros_len x, zeros_len y]

theorem zeros_storable : ∀ t : Ty, storable (zeros t) = true
  | .i _ => rfl
  | .b => rfl
  | .s => rfl
  | .sl _ _ => rfl
  | .ow _ _ => rfl
  | .pr x y => by
    have app : ∀ l m, storable l = true → storable m = true → storable (l ++ m) = true := by
      intro l m hl hm
      induction l with
      | nil => exact hm
      | cons x l ih => cases x <;> first | (simp [storable] at hl; done) | exact ih (by simpa [storable] using hl)
    exact app _ _ (zeros_storable x) (zeros_storable y)

theorem own_nil {P : Program} {O : Nat → Lab} {w : World} {lab : Lab} {e : TypeId} {r' : Ty} (h : SzOk P e r'.sz) : OwnOk P O w lab e r' [] (.slice none 0 0) :=
  ⟨h, [], World.ownsRow_nil _ _ _ _, rfl, by simp [Value.ownBlock]⟩

theorem zeros_ok {P : Program} : ∀ (t : Ty), szB P t = true → ∀ (f : Nat → Lab) (j : Nat), LfsOk P S f j (zeros t) (zcells t)
  | .i _, _, _, _ => ⟨⟨rfl, rfl⟩, trivial⟩
  | .b, _, _, _ => ⟨⟨rfl, rfl⟩, trivial⟩
  | .s, _, _, _ => ⟨⟨rfl, rfl⟩, trivial⟩
  | .sl e r, h, f, j => ⟨own_nil (by simp only [szB, Bool.and_eq_true, beq_iff_eq] at h; exact h.1), trivial⟩
  | .ow e r, h, f, j => ⟨own_nil (by simp only [szB, Bool.and_eq_true, beq_iff_eq] at h; exact h.1), trivial⟩
  | .pr x y, h, f, j => by
    simp [szB] at h
    exact LfsOk.app (zeros_ok x h.1 f j) (zeros_ok y h.2 f _)

theorem tok_zero {P : Program} {w : World} {T : TypeId} {t : TI} (h : TOk P T t) : ∃ v, (zeroValue T).run P w = .ok v w ∧ v.cells = (zcells t.ty).toArray ∧ (if t.ag then v = .agg (zcells t.ty).toArray else zcells t.ty = [v]) := by
  obtain ⟨i, h1, h2, h3, h4, h5⟩ := h.info
  refine ⟨if t.ag then .agg (zcells t.ty).toArray else (zcells t.ty).headD undef, ?_, ?_, ?_⟩
  · simp [zeroValue, typeInfo, h1, h4]
  · cases ha : t.ag with
    | true => rfl
    | false =>
      rw [if_neg (by simp)]
      have h6 := h5 ha
      have hone := one_of (S := ⟨fun _ => .no, fun _ => (0, 0), fun _ => (0, .one .dead), fun _ => undef, w⟩) (zeros_storable t.ty) (zeros_ok t.ty h.sz (fun _ => .no) 0)
      generalize (zcells t.ty).headD undef = v at h6
      rw [h6] at hone ⊢
      have := hone v (by simp)
      cases v <;> first | (simp [Value.oneCell'] at this; done) | rfl
  · cases ha : t.ag with
    | true => rfl
    | false => exact h5 ha

/-- A new box and its pointer. -/
theorem newptr (K : Okay X S a) {A1 : Ab} (hg : S.g = get A1) {T : TypeId} {m : List Lf} {us : List Value} {q : Nat → List Nat} {d : Nat} (hd : d < X.nt) (hl : LfsOk X.P S (fun j => .tm 0 (q j)) 0 m us)
    (hq : ∀ j, j < m.length → boxH d 0 0 (q j) = some (.pl (C d (0 + j)) [])) (hm : m.length < 999) (hst : storable m = true) (hnp : X.np ≤ d) :
    ∃ S', Okay X S' (a.put (some d) (.pointer (some ⟨S.w.heap.size, 0, none⟩))) ∧ S'.w = S.w.alloc (.cells us.toArray T) ∧
      S'.g = get (ups A1 (⟨H d, false, .one (.hd m.length)⟩ :: putCells d 0 m ++ [⟨d, false, .one (.bp d ((get A1 (H d)).1 + 1) 0)⟩])) := by
  have hlen := hl.len
  have hd1 : d < 1000 := Nat.lt_of_lt_of_le hd K.nt
  obtain ⟨K1, L1⟩ := K.grow (w' := S.w.alloc (.cells us.toArray T)) (row := none) (O' := fun k => if k = S.w.heap.size then .tm 1 [] else S.O k) (World.grownBy_alloc _ _ _) (by simp)
    (fun k hk _ => by show (if k = S.w.heap.size then _ else _) = _; rw [if_neg (by omega)])
    (fun k hk => by
      show k < (S.w.heap.push _).size
      rw [Array.size_push]
      by_cases h : k = S.w.heap.size
      · omega
      · simp only [h, if_false] at hk
        have := K.lt k hk
        omega)
  have hl1 : LfsOk X.P (groS S (S.w.alloc (.cells us.toArray T)) (fun k => if k = S.w.heap.size then .tm 1 [] else S.O k)) (fun j => .tm 0 (q j)) 0 m us := by
    refine hl.imp (fun j x u hx => hx.later L1 (fun k hk => ?_))
    have hkl : k < S.w.heap.size := K.lt k (by simp [hk])
    refine ⟨?_, heap_alloc_old _ _ _ hkl⟩
    show (if k = S.w.heap.size then _ else _) = _
    rw [if_neg (by omega)]
    exact hk
  obtain ⟨K2, L2⟩ := K1.newbox (d := d) (k := S.w.heap.size) (o := 0) (n0 := 1) (l0 := []) (by show (if _ then _ else _) = _; rw [if_pos rfl]) (by decide) K.fr.size (heap_alloc_new _ _) (by simp [hlen]) (by intro j hj; simp) hl1 hq hm (storable_nohd hst) hnp
  have hv : ((boxS (groS S (S.w.alloc (.cells us.toArray T)) (fun k => if k = S.w.heap.size then .tm 1 [] else S.O k)) d S.w.heap.size 0 m us).g (H d)).1 = (S.g (H d)).1 + 1 := by
    show (gput (upd S.g (H d) _) d 0 m (H d)).1 = _
    unfold gput
    rw [if_neg (heads_apart (by omega)), upd_same]
    rfl
  have K3 := K2.put0 hd (.one (.bp d ((S.g (H d)).1 + 1) 0)) (.pointer (some ⟨S.w.heap.size, 0, none⟩)) 0 rfl ⟨by rw [hv]; exact Nat.le_refl _, fun _ => by
    show Value.pointer _ = .pointer (some ⟨(upd S.bb d (S.w.heap.size, 0) d).1, (upd S.bb d (S.w.heap.size, 0) d).2 + 0, none⟩)
    rw [upd_same]⟩
  have e1 : (boxS (groS S (S.w.alloc (.cells us.toArray T)) (fun k => if k = S.w.heap.size then .tm 1 [] else S.O k)) d S.w.heap.size 0 m us).g = get (ups A1 (⟨H d, false, .one (.hd m.length)⟩ :: putCells d 0 m)) := by
    show gput (upd S.g (H d) ((S.g (H d)).1 + 1, .one (.hd m.length))) d 0 m = get (ups (up A1 ⟨H d, false, .one (.hd m.length)⟩) (putCells d 0 m))
    rw [get_putCells, get_up, ← hg]
    rfl
  refine ⟨_, K3, rfl, ?_⟩
  show upd (boxS (groS S (S.w.alloc (.cells us.toArray T)) (fun k => if k = S.w.heap.size then .tm 1 [] else S.O k)) d S.w.heap.size 0 m us).g d _ = _
  rw [ups_append, get_ups1, ← e1, ← hg]

theorem st_alloc (hE : EnOk X E) (K : Okay X S a) (hg : S.g = get A) {T : TypeId} {d : Nat} (ho : o.op = .alloc T) (hod : o.dst = some d) (hd : d < X.nt) (h : step E o A Kc = some r) : After X o a S.w A Kc r := by
  unfold step at h
  rw [ho, hod] at h
  simp only at h
  split at h
  · rename_i ti hti
    cases hq : (Nat.blt ti.ty.sz 999 && Nat.ble E.np d) with
    | false => rw [hq] at h; simp at h
    | true =>
      rw [hq, cond_true] at h
      simp only [Bool.and_eq_true] at hq
      have hlt : ti.ty.sz < 999 := Nat.le_of_ble_eq_true hq.1
      have hnp : X.np ≤ d := hE.np ▸ (Nat.le_of_ble_eq_true hq.2)
      have ht := hE.ti _ _ hti
      obtain ⟨v, h1, h2, _⟩ := tok_zero (w := S.w) ht
      obtain ⟨S', K', w', g'⟩ := newptr K hg (T := T) (m := zeros ti.ty) (us := zcells ti.ty) (q := fun j => [j]) hd (zeros_ok ti.ty ht.sz _ 0) (fun j hj => rfl) (by rw [zeros_len]; exact hlt) (zeros_storable _) hnp
      rw [zeros_len] at g'
      refine ⟨_, h, goes_value (S := S') (v := .pointer (some ⟨S.w.heap.size, 0, none⟩)) ?_ (by rw [hod]; exact K') g'⟩
      rw [w']
      unfold execOp
      simp [ho, Instr.alloc, h1, newVar, newRow, h2]
  · cases h

theorem st_box (hE : EnOk X E) (K : Okay X S a) (hg : S.g = get A) {T : TypeId} {x : Operand} {d : Nat} (ho : o.op = .box T x) (hod : o.dst = some d) (hd : d < X.nt) (h : step E o A Kc = some r) : After X o a S.w A Kc r := by
  unfold step at h
  rw [ho, hod] at h
  simp only at h
  split at h
  · rename_i ti s hti hs
    cases hq : (storable ((parts s).map (kept A)) && Nat.beq ((parts s).map (kept A)).length ti.ty.sz && Nat.blt ti.ty.sz 999 && Nat.ble E.np d) with
    | false => rw [hq] at h; simp at h
    | true =>
      rw [hq, cond_true] at h
      simp only [Bool.and_eq_true] at hq
      obtain ⟨⟨⟨q1, q2⟩, q3⟩, q4⟩ := hq
      have hnp : X.np ≤ d := hE.np ▸ (Nat.le_of_ble_eq_true q4)
      have hlt : ti.ty.sz < 999 := Nat.le_of_ble_eq_true q3
      have hlen : ((parts s).map (kept A)).length = ti.ty.sz := Nat.eq_of_beq_eq_true q2
      have ht := hE.ti _ _ hti
      have hnt := parts_nt (X := X) (s := s) (by simp) hlen ht
      obtain ⟨S1, K1, g1, w1, b1, p1, L1, x1, heads, _, us, hsh, hls⟩ := taken hE K hg hs hnt 0
      obtain ⟨S', K', w', g'⟩ := newptr K1 g1 (T := T) hd hls (boxH_q (by simp) hnt) (by rw [hlen]; exact hlt) q1 hnp
      have hv : (get (ups A (costs A (parts s) ++ gone x s)) (H d)).1 = (get A (H d)).1 := by rw [← g1, ← hg]; exact (heads d).1
      rw [hv, hlen, ← ups_append] at g'
      refine ⟨_, h, goes_value (S := S') (v := .pointer (some ⟨S1.w.heap.size, 0, none⟩)) ?_ (by rw [hod]; exact K') g'⟩
      rw [w', w1]
      unfold execOp
      simp [ho, Instr.box, newVar, newRow, shape_cells hsh hnt (one_of q1 hls)]
  · cases h

/-! ### Structs out of parts -/
theorem fill_one : ∀ (us : List Value) (n off : Nat) (cells : Array Value), off + n + us.length ≤ cells.size →
    (us.zipIdx n).foldl (fun cs (x : Value × Nat) => cs.setIfInBounds (off + x.2) x.1) cells = (cells.toList.take (off + n) ++ us ++ cells.toList.drop (off + n + us.length)).toArray
  | [], n, off, cells, h => by simp
  | c :: us, n, off, cells, h => by
    simp only [List.length_cons] at h
    simp only [List.zipIdx_cons, List.foldl_cons]
    rw [fill_one us (n + 1) off _ (by simp; omega)]
    have hlt : off + n < cells.toList.length := by rw [Array.length_toList]; omega
    congr 1
    rw [Array.toList_setIfInBounds]
    have e1 : (cells.toList.set (off + n) c).take (off + (n + 1)) = cells.toList.take (off + n) ++ [c] := by
      rw [← Nat.add_assoc, List.take_add_one, List.getElem?_set_self hlt, List.take_set_of_le (Nat.le_refl _)]
      rfl
    have e2 : (cells.toList.set (off + n) c).drop (off + (n + 1) + us.length) = cells.toList.drop (off + n + (c :: us).length) := by
      rw [List.drop_set_of_lt (by omega)]
      congr 1
      simp only [List.length_cons]
      omega
    rw [e1, e2]
    simp

theorem fill_cons {place : Nat → Option (Nat × Nat)} {cells : Array Value} {i off z : Nat} {v : Value} {us : List Value} {rest : List (Nat × Value)} (hp : place i = some (off, z)) (hv : v.cells = us.toArray) (hz : us.length = z) (hle : off + z ≤ cells.size) :
    Instr.fill place cells ((i, v) :: rest) = Instr.fill place (cells.toList.take off ++ us ++ cells.toList.drop (off + z)).toArray rest := by
  subst hz
  have hf := fill_one us 0 off cells (by omega)
  simp only [Nat.add_zero] at hf
  simp only [Instr.fill, hp, hv, List.size_toArray]
  rw [if_neg (by simp; omega)]
  congr 1
  rw [← hf]
  simp

/-- The names of a struct's leaves. -/
def leafH (off : Nat) : Nat → List Nat → Option Lab := fun n q => if n = 1 then (match q with
  | [] => some (.tm 0 [off])
  | [j] => some (.tm 0 [off + j])
  | _ => none) else none

theorem leafH_no (off : Nat) : ∀ n q, leafH off n q ≠ some .no := by
  intro n q
  unfold leafH
  split
  · split <;> simp
  · simp

theorem leafH_q {s : Sv} {off : Nat} {m : List Lf} (hm : m.length = (parts s).length) (hnt : ∀ vs, s ≠ .tup vs) : ∀ j, j < m.length → leafH off 1 (pth s j) = some (.tm 0 [off + j]) := by
  intro j hj
  cases s with
  | one x =>
    have : j = 0 := by simp [parts] at hm; omega
    subst this
    rfl
  | agg l => rfl
  | tup vs => exact absurd rfl (hnt vs)

theorem nt_of_len {s : Sv} {m : List Lf} {z : Nat} (hm : m.length = (parts s).length) (h : m.length = z) (hz : 0 < z) : ∀ vs, s ≠ .tup vs := by
  intro vs e
  subst e
  simp [parts] at hm
  simp [hm] at h
  omega

/-- What is behind the filling of a struct. -/
structure Built (X : Cx) (S : Sit) (a : Act) (l : List Lf) (cells : Array Value) : Prop where
  leaf : LfsOk X.P S (fun j => .tm 0 [j]) 0 l cells.toList

theorem buildP_ok (hE : EnOk X E) {T : TypeId} {t : TI} (ht : TOk X.P T t) {fs : Array Field} (hfs : fieldsB X.P fs.toList t.fo = true) (places : List (Nat × Nat)) (hpl : ∀ i o, nth t.fo i = some o → places[i]? = some (o.1, o.2.1)) :
    ∀ (ps : List (Nat × Operand)) {S : Sit} {A : Ab} {l : List Lf} {us0 : List Up} {cs : List Value} {l' : List Lf} {us' : List Up}, Okay X S a → S.g = get A → LfsOk X.P S (fun j => .tm 0 [j]) 0 l cs → storable l = true → buildP E A t l us0 ps = some (l', us') →
    ∃ S' U cs', us' = us0 ++ U ∧ Okay X S' a ∧ S'.g = get (ups A U) ∧ S'.w = S.w ∧ LfsOk X.P S' (fun j => .tm 0 [j]) 0 l' cs' ∧ l'.length = l.length ∧
      Instr.fill (places.toArray[·]?) cs.toArray (ps.map fun p => (p.1, a.eval p.2)) = some cs'.toArray
  | [], S, A, l, us0, cs, l', us', K, hg, hl, hst, h => by
    simp only [buildP, Option.some.injEq, Prod.mk.injEq] at h
    obtain ⟨rfl, rfl⟩ := h
    exact ⟨S, [], cs, by simp, K, hg, rfl, hl, rfl, rfl⟩
  | (i, x) :: ps, S, A, l, us0, cs, l', us', K, hg, hl, hst, h => by
    simp only [buildP] at h
    split at h
    · cases h
    · rename_i off z ag hn
      have hpi := hpl i _ hn
      obtain ⟨fd, _, _, _, hz0, _⟩ := fields_get hfs hn
      simp only at hz0
      have hlen := hl.len
      split at h
      · -- the literal nil
        cases hb : Nat.beq z 1 with
        | false => rw [hb] at h; simp at h
        | true =>
          rw [hb, cond_true] at h
          have hz1 : z = 1 := Nat.eq_of_beq_eq_true hb
          subst hz1
          split at h
          · rename_i e r' hleaf
            rw [nth_eq] at hleaf
            have hoff : off < l.length := (List.getElem?_eq_some_iff.1 hleaf).1
            -- the cell held nil already, or an empty own slice: nil is put there
            have hl2 : LfsOk X.P S (fun j => .tm 0 [j]) 0 l (cs.take off ++ [.slice none 0 0] ++ cs.drop (off + 1)) := by
              have hsz : SzOk X.P e r'.sz := by
                obtain ⟨x', u', e1, _, _, e4⟩ := hl.at off hoff
                rw [List.getD_eq_getElem?_getD, hleaf] at e1
                simp only [Option.getD_some] at e1
                subst e1
                exact e4.1
              have h1 := LfsOk.setAll (P := X.P) (S := S) (f := fun j => .tm 0 [j]) (l := l) (us := cs) (m := [.own e r' []]) (ms := [.slice none 0 0]) (off := off) (hl.take off) ⟨own_nil hsz, trivial⟩ (by have := hl.drop (off + 1); rwa [Nat.zero_add] at this) (by simp only [List.length_singleton]; omega)
              have h2 : Vf.setAll l off [.own e r' []] = l := by
                unfold Vf.setAll
                rw [List.getElem?_eq_getElem hoff] at hleaf
                simp only [Option.some.injEq] at hleaf
                rw [← hleaf]
                simp only [List.length_singleton, List.append_assoc, List.singleton_append]
                rw [← List.drop_eq_getElem_cons hoff, List.take_append_drop]
              rw [h2] at h1
              exact h1
            obtain ⟨S', U, cs', e1, K', g', w', l1, l2, hf⟩ := buildP_ok hE ht hfs places hpl ps K hg hl2 hst h
            refine ⟨S', U, cs', e1, K', g', w', l1, l2, ?_⟩
            rw [List.map_cons, fill_cons (us := [.slice none 0 0]) (off := off) (z := 1) (by simpa using hpi) rfl rfl (by simp; omega)]
            exact hf
          · cases h
      · split at h
        · rename_i s hs
          cases hq : (storable ((parts s).map (kept A)) && Nat.beq ((parts s).map (kept A)).length z && Nat.ble (off + z) l.length) with
          | false => rw [hq] at h; simp at h
          | true =>
            rw [hq, cond_true] at h
            simp only [Bool.and_eq_true] at hq
            obtain ⟨⟨q1, q2⟩, q3⟩ := hq
            have hmz : ((parts s).map (kept A)).length = z := Nat.eq_of_beq_eq_true q2
            have hle : off + z ≤ l.length := Nat.le_of_ble_eq_true q3
            have hnt := nt_of_len (s := s) (by simp) hmz hz0
            obtain ⟨S1, K1, g1, w1, b1, p1, L1, x1, heads, tms, us, hsh, hls⟩ := taken hE K hg hs hnt 1
            obtain ⟨K2, L2⟩ := K1.names (leafH off) (leafH_no off)
            have hone := one_of q1 hls
            have hul := hls.len
            have old : ∀ j x u, LfOk X.P S (.tm 0 [j]) x u → LfOk X.P { S1 with O := atO S1.O (leafH off) } (.tm 0 [j]) x u := fun j x u hx =>
              (tms 0 [j] x u hx).later L2 (fun k hk => ⟨atO_keep hk (by simp [leafH]), rfl⟩)
            have hl2 := LfsOk.setAll (P := X.P) (S := { S1 with O := atO S1.O (leafH off) }) (f := fun j => .tm 0 [j]) (l := l) (us := cs) (m := (parts s).map (kept A)) (ms := us) (off := off)
              ((hl.take off).imp (fun j x u hx => old j x u hx))
              (by
                have h1 : LfsOk X.P { S1 with O := atO S1.O (leafH off) } (fun j => .tm 0 [off + j]) 0 ((parts s).map (kept A)) us := by
                  refine LfsOk.impAt (fun n _ n2 x u hx => ?_) hls
                  exact hx.later L2 (fun k hk => ⟨atO_tm hk (leafH_q (m := (parts s).map (kept A)) (by simp) hnt n (by omega)), rfl⟩)
                have shiftBack : ∀ (m : List Lf) (us : List Value) (i : Nat), LfsOk X.P { S1 with O := atO S1.O (leafH off) } (fun j => .tm 0 [off + j]) i m us → LfsOk X.P { S1 with O := atO S1.O (leafH off) } (fun j => .tm 0 [j]) (off + i) m us := by
                  intro m
                  induction m with
                  | nil => intro us i h; cases us <;> first | trivial | exact h.elim
                  | cons x m ih =>
                    intro us i h
                    cases us with
                    | nil => exact h.elim
                    | cons u us => exact ⟨h.1, ih us (i + 1) h.2⟩
                exact shiftBack _ _ 0 h1)
              (by
                have := (hl.drop (off + ((parts s).map (kept A)).length)).imp (S' := { S1 with O := atO S1.O (leafH off) }) (f' := fun j => .tm 0 [j]) (fun j x u hx => old j x u hx)
                rwa [Nat.zero_add] at this) (by rw [hmz]; exact hle)
            have hst2 : storable (Vf.setAll l off ((parts s).map (kept A))) = true := by
              have tk : ∀ (l : List Lf) n, storable l = true → storable (l.take n) = true := by
                intro l
                induction l with
                | nil => intro n _; cases n <;> rfl
                | cons x l ih =>
                  intro n h
                  cases n with
                  | zero => rfl
                  | succ n => cases x <;> first | (simp [storable] at h; done) | exact ih n (by simpa [storable] using h)
              have dr : ∀ (l : List Lf) n, storable l = true → storable (l.drop n) = true := by
                intro l
                induction l with
                | nil => intro n _; cases n <;> rfl
                | cons x l ih =>
                  intro n h
                  cases n with
                  | zero => exact h
                  | succ n => cases x <;> first | (simp [storable] at h; done) | exact ih n (by simpa [storable] using h)
              have app : ∀ l m, storable l = true → storable m = true → storable (l ++ m) = true := by
                intro l m hl hm
                induction l with
                | nil => exact hm
                | cons x l ih => cases x <;> first | (simp [storable] at hl; done) | exact ih (by simpa [storable] using hl)
              exact app _ _ (app _ _ (tk _ _ hst) q1) (dr _ _ hst)
            obtain ⟨S', U, cs', e1, K', g', w', l1, l2, hf⟩ := buildP_ok hE ht hfs places hpl ps K2 g1 hl2 hst2 h
            refine ⟨S', (costs A (parts s) ++ gone x s) ++ U, cs', by rw [e1, List.append_assoc], K', by rw [ups_append]; exact g', w'.trans w1, l1, l2.trans ?_, ?_⟩
            · unfold Vf.setAll
              simp only [List.length_append, List.length_take, List.length_drop]
              omega
            · rw [List.map_cons, fill_cons (us := us) (off := off) (z := z) (by simpa using hpi) (shape_cells hsh hnt hone) (hul.trans hmz) (by simp; omega)]
              rw [hmz] at hf
              exact hf
        · cases h

theorem mapM_sizes {P : Program} {w : World} : ∀ (fs : List Field) (os : List (Nat × Nat × Bool)), fieldsB P fs os = true → (fs.mapM (fun f => do pure (f.offset, ← sizeOf f.type) : Field → Sem (Nat × Nat))).run P w = .ok (os.map fun o => (o.1, o.2.1)) w
  | [], [], _ => rfl
  | [], _ :: _, h => by simp [fieldsB] at h
  | _ :: _, [], h => by simp [fieldsB] at h
  | f :: fs, o :: os, h => by
    simp only [fieldsB, Bool.and_eq_true] at h
    obtain ⟨⟨⟨⟨⟨h1, h2⟩, _⟩, _⟩, _⟩, h5⟩ := h
    have e1 : f.offset = o.1 := by simpa using h1
    have e2 : (P.info? f.type).map (fun i => i.size) = some o.2.1 := by simpa using h2
    rw [List.mapM_cons]
    simp only [Sem.run_bind, info_size e2, Result.andThen_ok, Sem.run_pure, mapM_sizes fs os h5, e1, List.map_cons]

theorem st_build (hE : EnOk X E) (K : Okay X S a) (hg : S.g = get A) {T : TypeId} {ps : Array (Nat × Operand)} {d : Nat} (ho : o.op = .build T ps) (hod : o.dst = some d) (hd : d < X.nt) (h : step E o A Kc = some r) : After X o a S.w A Kc r := by
  unfold step at h
  rw [ho, hod] at h
  simp only at h
  split at h
  · rename_i ti hti
    split at h
    · rename_i l us hb
      cases hag : ti.ag with
      | false => rw [hag] at h; simp at h
      | true =>
        rw [hag, cond_true] at h
        have ht := hE.ti _ _ hti
        obtain ⟨fs, hu, hfs⟩ := struct_of ht hag
        obtain ⟨v, z1, z2, z3⟩ := tok_zero (w := S.w) ht
        obtain ⟨S1, U, cs', e1, K1, g1, w1, l1, _, hf⟩ := buildP_ok hE ht hfs (ti.fo.map fun o => (o.1, o.2.1)) (fun i o' hi => by rw [nth_eq] at hi; rw [List.getElem?_map, hi]; rfl) ps.toList K hg (zeros_ok ti.ty ht.sz (fun j => .tm 0 [j]) 0) (zeros_storable _) hb
        simp only [List.nil_append] at e1
        subst e1
        let hh : Nat → List Nat → Option Lab := fun n q => if n = 0 then some (.pl d q) else none
        have L2 := putS_later S1 hh d (.agg l) (.agg cs'.toArray)
        have hsv : SvOk X.P (putS S1 hh d (.agg l) (.agg cs'.toArray)) d (.agg l) (.agg cs'.toArray) := ⟨cs', rfl, l1.imp (fun j x u hx => hx.later L2 (fun k hk => ⟨atO_tm hk (by simp [hh]), rfl⟩))⟩
        have K2 := K1.put hd hh (by intro n q p hp; simp only [hh] at hp; split at hp <;> first | (cases hp; exact ⟨q, rfl⟩) | cases hp) _ _ hsv
        refine ⟨_, h, goes_value (S := putS S1 hh d (.agg l) (.agg cs'.toArray)) ?_ (by rw [hod]; exact K2) ?_⟩
        · show _ = Result.ok _ S1.w
          rw [w1]
          unfold execOp
          simp only [ho, Sem.run_bind]
          unfold Instr.build
          simp only [Sem.run_bind, z1, Result.andThen_ok, run_underlying hu, z2]
          have hm := mapM_sizes (P := X.P) (w := S.w) fs.toList ti.fo hfs
          have hm2 : (fs.mapM (fun f => do pure (f.offset, ← sizeOf f.type) : Field → Sem (Nat × Nat))).run X.P S.w = .ok (ti.fo.map fun o => (o.1, o.2.1)).toArray S.w := by
            rw [Array.mapM_eq_mapM_toList, Sem.run_map, hm]
            rfl
          simp only [Sem.run_bind, Sem.run_pure] at hm2 ⊢
          rw [hm2]
          simp only [Result.andThen_ok]
          have e2 : (ps.map fun x => (x.1, a.eval x.2)).toList = ps.toList.map fun p => (p.1, a.eval p.2) := by simp
          rw [e2, hf]
          rfl
        · show upd S1.g d _ = _
          rw [ups_append, get_ups1, ← g1]
    · cases h
  · cases h
end
end Go.Proofs.Ytehkignjdbkeiaa.Vf
