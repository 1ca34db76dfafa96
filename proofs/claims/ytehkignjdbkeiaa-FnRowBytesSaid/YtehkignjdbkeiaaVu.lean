/- Calls. -/
import Derived.Test.YtehkignjdbkeiaaVt
set_option linter.unusedVariables false
set_option linter.unusedSimpArgs false
namespace Go.Proofs.Ytehkignjdbkeiaa.Vf
open Go
attribute [local irreducible] C H

section
variable {X : Cx} {S S' : Sit} {a : Act} {E : En} {A : Ab} {o : Oper} {R : Type} {Kc : List Up → Option R} {r : R}

theorem LfsOk.impM {P : Program} {S1 S2 : Sit} {f f' : Nat → Lab} : ∀ {l : List Lf} {j : Nat} {us : List Value}, (∀ x ∈ l, ∀ n u, LfOk P S1 (f n) x u → LfOk P S2 (f' n) x u) → LfsOk P S1 f j l us → LfsOk P S2 f' j l us
  | [], _, [], _, _ => trivial
  | [], _, _ :: _, _, h => h.elim
  | _ :: _, _, [], _, h => h.elim
  | y :: l, j, u :: us, hi, h => ⟨hi y (by simp) j u h.1, LfsOk.impM (fun z hz => hi z (List.mem_cons_of_mem _ hz)) h.2⟩

theorem ResOk.imp {P : Program} {S1 S2 : Sit} {n0 i : Nat} {k : RK} {l : List Lf} {u : Value} (hw : S2.w = S1.w) (hO : ∀ k i, S1.O k = .tm i [] → S2.O k = .tm i []) (hi : ∀ y ∈ l, ∀ i q u, LfOk P S1 (.tm i q) y u → LfOk P S2 (.tm i q) y u) (h : ResOk P S1 n0 i k l u) : ResOk P S2 n0 i k l u := by
  cases k with
  | one => exact LfsOk.impM (fun x hx n u h => hi x hx _ _ u h) h
  | agg =>
    obtain ⟨us, e, h⟩ := h
    exact ⟨us, e, h.impM (fun x hx n u h => hi x hx _ _ u h)⟩
  | ptr =>
    obtain ⟨k, o, c, e, us, e1, e2, e3, e4, e5, e6, e7, h⟩ := h
    exact ⟨k, o, c, e, us, e1, by rw [hw]; exact e2, e3, hO _ _ e4, e5, e6, e7, h.impM (fun x hx n u h => hi x hx _ _ u h)⟩

theorem ResAll.imp {P : Program} {S1 S2 : Sit} {n0 : Nat} (hw : S2.w = S1.w) (hO : ∀ k i, S1.O k = .tm i [] → S2.O k = .tm i []) : ∀ {rs : List (RK × Ty)} {i : Nat} {ls : List (List Lf)} {us : List Value},
    (∀ l ∈ ls, ∀ y ∈ l, ∀ i q u, LfOk P S1 (.tm i q) y u → LfOk P S2 (.tm i q) y u) → ResAll P S1 n0 i rs ls us → ResAll P S2 n0 i rs ls us
  | [], _, _, _, _, h => h
  | k :: ks, i, l :: ls, u :: us, hi, h => ⟨h.1.imp hw hO (hi l (by simp)), ResAll.imp hw hO (fun l' hl' => hi l' (List.mem_cons_of_mem _ hl')) h.2⟩
  | _ :: _, _, [], _, _, h => h.elim
  | _ :: _, _, _ :: _, [], _, h => h.elim

theorem Results.imp {P : Program} {S1 S2 : Sit} {n0 : Nat} {rs : List (RK × Ty)} {ls : List (List Lf)} {v : Value} (hw : S2.w = S1.w) (hO : ∀ k i, S1.O k = .tm i [] → S2.O k = .tm i [])
    (hi : ∀ l ∈ ls, ∀ y ∈ l, ∀ i q u, LfOk P S1 (.tm i q) y u → LfOk P S2 (.tm i q) y u) (h : Results P S1 n0 rs ls v) : Results P S2 n0 rs ls v := by
  unfold Results at h ⊢
  split at h
  · obtain ⟨l, ls', rfl, h⟩ := h
    exact ⟨l, ls', rfl, h.imp hw hO (hi l (by simp))⟩
  · obtain ⟨us, e, h⟩ := h
    exact ⟨us, e, h.imp hw hO hi⟩

/-- A block that is held by name becomes a box, and its pointer is put. -/
theorem boxput (K : Okay X S a) {A1 : Ab} (hg : S.g = get A1) {d k o n0 : Nat} {l0 : List Nat} {m : List Lf} {us : List Value} {q : Nat → List Nat} {c : Array Value} {e : TypeId} (hd : d < X.nt) (hk : S.O k = .tm n0 l0) (hn0 : n0 ≠ 0) (hk0 : X.w0.heap.size ≤ k)
    (hc : S.w.heap[k]? = some (.cells c e (0, 0))) (ho : o + m.length ≤ c.size) (hcs : ∀ j, j < m.length → c[o + j]? = us[j]?) (hl : LfsOk X.P S (fun j => .tm 0 (q j)) 0 m us)
    (hq : ∀ j, j < m.length → boxH d 0 0 (q j) = some (.pl (C d (0 + j)) [])) (hm : m.length < 999) (hst : ∀ k, .hd k ∉ m) (hnp : X.np ≤ d) :
    ∃ S', Okay X S' (a.put (some d) (.pointer (some ⟨k, o, none⟩))) ∧ S'.w = S.w ∧ S'.g = get (ups A1 (⟨H d, false, .one (.hd m.length)⟩ :: putCells d 0 m ++ [⟨d, false, .one (.bp d ((get A1 (H d)).1 + 1) 0)⟩])) := by
  obtain ⟨K2, L2⟩ := K.newbox (d := d) (k := k) (o := o) hk hn0 hk0 hc ho hcs hl hq hm hst hnp
  have hv : ((boxS S d k o m us).g (H d)).1 = (S.g (H d)).1 + 1 := by
    show (gput (upd S.g (H d) _) d 0 m (H d)).1 = _
    unfold gput
    rw [if_neg (heads_apart (by omega)), upd_same]
  have K3 := K2.put0 hd (.one (.bp d ((S.g (H d)).1 + 1) 0)) (.pointer (some ⟨k, o, none⟩)) 0 rfl ⟨by rw [hv]; exact Nat.le_refl _, fun _ => by
    show Value.pointer _ = .pointer (some ⟨(upd S.bb d (k, o) d).1, (upd S.bb d (k, o) d).2 + 0, none⟩)
    rw [upd_same]
    rfl⟩
  have e1 : (boxS S d k o m us).g = get (ups A1 (⟨H d, false, .one (.hd m.length)⟩ :: putCells d 0 m)) := by
    show gput (upd S.g (H d) ((S.g (H d)).1 + 1, .one (.hd m.length))) d 0 m = get (ups (up A1 ⟨H d, false, .one (.hd m.length)⟩) (putCells d 0 m))
    rw [get_putCells, get_up, ← hg]
    rfl
  refine ⟨_, K3, rfl, ?_⟩
  show upd (boxS S d k o m us).g d _ = _
  rw [ups_append, get_ups1, ← e1, ← hg]

/-- The names of results, at a temporary. -/
def resH (d : Nat) (many : Bool) : Nat → List Nat → Option Lab := fun n q => if many then (match q with
  | [] => some (.pl d [n, 0])
  | [j] => some (.pl d [n, j])
  | _ => none) else (if n = 0 then some (.pl d q) else none)

theorem resH_pl (d : Nat) (many : Bool) : ∀ n q p, resH d many n q = some p → ∃ p', p = .pl d p' := by
  intro n q p hp
  unfold resH at hp
  split at hp
  · split at hp <;> first | (cases hp; exact ⟨_, rfl⟩) | cases hp
  · split at hp <;> first | (cases hp; exact ⟨_, rfl⟩) | cases hp

theorem put_res (K : Okay X S a) {A1 : Ab} (hg : S.g = get A1) {rs : List (RK × Ty)} {ls : List (List Lf)} {d : Option Nat} {us : List Up} {v : Value} {n0 : Nat} (hd : ∀ d', d = some d' → d' < X.nt) (hn0 : X.w0.heap.size ≤ n0) (hls : ∀ l ∈ ls, ∀ y ∈ l, solid y = true) (hnp : ∀ d', d = some d' → anyPtr rs = true → X.np ≤ d')
    (hr : Results X.P S n0 rs ls v) (h : resUp A1 rs ls d = some us) : ∃ S', Okay X S' (a.put d v) ∧ S'.w = S.w ∧ S'.g = get (ups A1 us) := by
  cases d with
  | none =>
    have : us = [] := by unfold resUp at h; cases rs <;> simpa using h.symm
    subst this
    exact ⟨S, K, rfl, hg⟩
  | some d =>
    cases rs with
    | nil =>
      have : us = [⟨d, false, .tup []⟩] := by unfold resUp at h; simpa using h.symm
      subst this
      obtain ⟨vs, rfl, h2⟩ := hr
      have : vs = [] := by cases ls <;> exact h2
      subst this
      have K2 := K.put0 (hd d rfl) (.tup []) (.tuple #[]) 0 rfl ⟨[], rfl, trivial⟩
      exact ⟨_, K2, rfl, by show upd S.g d _ = _; rw [get_ups1, ← hg]⟩
    | cons r1 rs =>
      cases rs with
      | nil =>
        obtain ⟨l, ls', e1, h2⟩ := hr
        subst e1
        obtain ⟨k, t⟩ := r1
        cases k with
        | one =>
          have h2' : LfsOk X.P S (fun _ => .tm 0 []) 0 l [v] := h2
          cases l with
          | nil => exact h2'.elim
          | cons x l =>
            cases l with
            | cons y l => exact h2'.2.elim
            | nil =>
              have : us = [⟨d, false, .one x⟩] := by unfold resUp at h; simpa using h.symm
              subst this
              have h3 : LfOk X.P S (.tm 0 []) x v := h2'.1
              have L := putS_later S (resH d false) d (.one x) v
              have hsv : SvOk X.P (putS S (resH d false) d (.one x) v) d (.one x) v := LfOk.later (lab := .tm 0 []) (lab' := .pl d []) L h3 (fun k hk => ⟨atO_tm hk rfl, rfl⟩)
              have K2 := K.put (hd d rfl) (resH d false) (resH_pl d false) (.one x) v hsv
              exact ⟨_, K2, rfl, by show upd S.g d _ = _; rw [get_ups1, ← hg]⟩
        | agg =>
          have : us = [⟨d, false, .agg l⟩] := by unfold resUp at h; simpa using h.symm
          subst this
          obtain ⟨vs, rfl, h3⟩ := h2
          have L := putS_later S (resH d false) d (.agg l) (.agg vs.toArray)
          have hsv : SvOk X.P (putS S (resH d false) d (.agg l) (.agg vs.toArray)) d (.agg l) (.agg vs.toArray) := ⟨vs, rfl, h3.imp (fun j x u hx => hx.later L (fun k hk => ⟨atO_tm hk rfl, rfl⟩))⟩
          have K2 := K.put (hd d rfl) (resH d false) (resH_pl d false) (.agg l) _ hsv
          exact ⟨_, K2, rfl, by show upd S.g d _ = _; rw [get_ups1, ← hg]⟩
        | ptr =>
          have : us = ptrRes A1 d l := by unfold resUp at h; simpa using h.symm
          subst this
          obtain ⟨k, o, c, e, vs, rfl, e2, e3, e4, e5, e6, e7, h3⟩ := h2
          obtain ⟨S', K', w', g'⟩ := boxput K hg (hd d rfl) e4 (by decide) (Nat.le_trans hn0 e3) e2 e5 e7 h3 (fun j hj => rfl) e6 (by
            intro k hk
            have := hls l (by simp) _ hk
            simp [solid] at this) (hnp d rfl rfl)
          exact ⟨S', K', w', by rw [g']; rfl⟩
      | cons r2 rs =>
        have h' : (bif anyPtr (r1 :: r2 :: rs) then none else some [(⟨d, false, .tup (tupOf (r1 :: r2 :: rs) ls)⟩ : Up)]) = some us := by
          unfold resUp at h
          obtain ⟨k1, t1⟩ := r1
          cases k1 <;> exact h
        cases hp : anyPtr (r1 :: r2 :: rs) with
        | true => rw [hp] at h'; simp at h'
        | false =>
          rw [hp] at h'
          simp only [cond_false, Option.some.injEq] at h'
          subst h'
          obtain ⟨vs, rfl, h2⟩ := hr
          generalize hR : (r1 :: r2 :: rs) = R2 at hp h2
          have key : ∀ (s : Sv) (rs : List (RK × Ty)) (i : Nat) (ls : List (List Lf)) (us : List Value), anyPtr rs = false → ResAll X.P S n0 i rs ls us → TupOk X.P (putS S (resH d true) d s (.tuple vs.toArray)) d i (tupOf rs ls) us := by
            intro s rs
            induction rs with
            | nil =>
              intro i ls us _ h
              have : us = [] := by cases ls <;> exact h
              subst this
              simp [tupOf, TupOk]
            | cons r rs ih =>
              intro i ls us hp h
              cases ls with
              | nil => exact h.elim
              | cons l ls =>
                cases us with
                | nil => exact h.elim
                | cons u us =>
                  obtain ⟨k, t⟩ := r
                  have L := putS_later S (resH d true) d s (.tuple vs.toArray)
                  have hp2 : anyPtr rs = false := by cases k <;> first | (simp [anyPtr] at hp; done) | simpa [anyPtr] using hp
                  refine ⟨?_, ih (i + 1) ls us hp2 h.2⟩
                  cases k with
                  | ptr => simp [anyPtr] at hp
                  | one =>
                    have h2' : LfsOk X.P S (fun _ => .tm i []) 0 l [u] := h.1
                    refine ⟨[u], rfl, ?_⟩
                    cases l with
                    | nil => exact h2'.elim
                    | cons x l =>
                      cases l with
                      | cons y l => exact h2'.2.elim
                      | nil => exact ⟨LfOk.later (lab := .tm i []) (lab' := .pl d [i, 0]) L h2'.1 (fun k hk => ⟨atO_tm hk rfl, rfl⟩), trivial⟩
                  | agg =>
                    obtain ⟨ws, e1, h3⟩ := h.1
                    exact ⟨ws, e1, h3.imp (fun j x u hx => hx.later L (fun k hk => ⟨atO_tm hk rfl, rfl⟩))⟩
          have hsv : SvOk X.P (putS S (resH d true) d (.tup (tupOf R2 ls)) (.tuple vs.toArray)) d (.tup (tupOf R2 ls)) (.tuple vs.toArray) := ⟨vs, rfl, key _ _ 0 ls vs hp h2⟩
          have K2 := K.put (hd d rfl) (resH d true) (resH_pl d true) (.tup (tupOf R2 ls)) _ hsv
          exact ⟨_, K2, rfl, by show upd S.g d _ = _; rw [get_ups1, ← hg]⟩
end
end Go.Proofs.Ytehkignjdbkeiaa.Vf
