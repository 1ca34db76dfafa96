/- One operation: what it reads, and the operations that only compute. -/
import Derived.Test.YtehkignjdbkeiaaVd
import Derived.Laws.Strings
namespace Go.Proofs.Ytehkignjdbkeiaa.Vf
open Go

/-! ### Types -/
def zcells : Ty → List Value
  | .i k => [.int k 0]
  | .b => [.bool false]
  | .s => [.string ⟨#[]⟩]
  | .sl _ _ => [.slice none 0 0]
  | .ow _ _ => [.slice none 0 0]
  | .pr x y => zcells x ++ zcells y

def zeroB : List Value → Ty → Option (List Value)
  | .int k 0 :: l, .i k' => if k = k' then some l else none
  | .bool false :: l, .b => some l
  | .string s :: l, .s => match s.data.toList with
    | [] => some l
    | _ => none
  | .slice none 0 0 :: l, .sl _ _ => some l
  | .slice none 0 0 :: l, .ow _ _ => some l
  | l, .pr x y => match zeroB l x with
    | some l' => zeroB l' y
    | none => none
  | _, _ => none

theorem zeroB_eq : ∀ (t : Ty) (l l' : List Value), zeroB l t = some l' → l = zcells t ++ l' := by
  intro t
  induction t with
  | i k =>
    intro l l' h
    unfold zeroB at h
    split at h <;> first | (cases h; done) | skip
    all_goals simp_all [zcells]
  | b => intro l l' h; unfold zeroB at h; split at h <;> simp_all [zcells]
  | s =>
    intro l l' h
    unfold zeroB at h
    split at h <;> first | (cases h; done) | skip
    all_goals first | (simp_all [zcells]; done) | skip
    rename_i s1 l1 _
    split at h
    · rename_i hs
      simp at h
      subst h
      have : s1 = ⟨#[]⟩ := by
        cases s1 with
        | mk d => simp at hs; subst hs; rfl
      subst this
      rfl
    · cases h
  | sl e r _ => intro l l' h; unfold zeroB at h; split at h <;> simp_all [zcells]
  | ow e r _ => intro l l' h; unfold zeroB at h; split at h <;> simp_all [zcells]
  | pr x y ihx ihy =>
    intro l l' h
    have h' : (match zeroB l x with | some l' => zeroB l' y | none => none) = some l' := by
      unfold zeroB at h
      split at h <;> first | exact h | (cases h; done) | simp_all
    split at h'
    · rename_i l1 h1
      rw [ihx _ _ h1, ihy _ _ h', zcells, List.append_assoc]
    · cases h'

def szB (P : Program) : Ty → Bool
  | .sl e r => ((P.info? e).map (fun i => i.size) == some r.sz) && szB P r
  | .ow e r => ((P.info? e).map (fun i => i.size) == some r.sz) && szB P r
  | .pr x y => szB P x && szB P y
  | _ => true

def isStruct : Option TypeDesc → Bool
  | some (.struct _) => true
  | _ => false
def isAggD : Option TypeDesc → Bool
  | some (.struct _) => true
  | some (.array _ _) => true
  | _ => false

def fieldsB (P : Program) : List Field → List (Nat × Nat × Bool) → Bool
  | [], [] => true
  | f :: fs, o :: os => Nat.beq f.offset o.1 && ((P.info? f.type).map (fun i => i.size) == some o.2.1) && Nat.blt 0 o.2.1 && (isAggD (P.underlying f.type) == o.2.2) && (P.underlying f.type).isSome && fieldsB P fs os
  | _, _ => false

/-- A number's elements are numbers. -/
def elemB (P : Program) (e : TypeId) : Ty → Bool
  | .i k => (match P.underlying e with | some (.int k') => decide (k = k') | _ => false)
  | _ => true

def descB (P : Program) : Option TypeDesc → TI → Bool
  | some (.struct fs), ⟨_, true, _, fo⟩ => fieldsB P fs.toList fo
  | some (.int k), ⟨.i k', false, _, _⟩ => decide (k = k')
  | some .bool, ⟨.b, false, _, _⟩ => true
  | some .string, ⟨.s, false, _, _⟩ => true
  | some (.slice e), ⟨.sl e' r, false, _, _⟩ => Nat.beq e e' && elemB P e r
  | _, _ => false

def tokB (P : Program) (T : TypeId) (t : TI) : Bool :=
  (match P.info? T with
  | some i => Nat.beq i.size t.ty.sz && Nat.beq i.bytes t.by_ && Nat.blt 0 t.by_ && (match i.zero with
    | some (.agg cs) => t.ag && (match zeroB cs.toList t.ty with | some [] => true | _ => false)
    | some v => !t.ag && (match zeroB [v] t.ty with | some [] => true | _ => false)
    | none => false)
  | none => false) && descB P (P.underlying T) t && szB P t.ty

structure TOk (P : Program) (T : TypeId) (t : TI) : Prop where
  info : ∃ i, P.info? T = some i ∧ i.size = t.ty.sz ∧ i.bytes = t.by_ ∧ i.zero = some (if t.ag then .agg (zcells t.ty).toArray else (zcells t.ty).headD undef) ∧ (t.ag = false → zcells t.ty = [(zcells t.ty).headD undef])
  by0 : 0 < t.by_
  desc : descB P (P.underlying T) t = true
  sz : szB P t.ty = true

theorem tok_of (P : Program) (T : TypeId) (t : TI) (h : tokB P T t = true) : TOk P T t := by
  unfold tokB at h
  simp only [Bool.and_eq_true] at h
  obtain ⟨⟨h1, h2⟩, h3⟩ := h
  split at h1
  · rename_i i hi
    simp only [Bool.and_eq_true] at h1
    obtain ⟨⟨⟨e1, e2⟩, e3⟩, h4⟩ := h1
    refine ⟨⟨i, hi, by simpa using e1, by simpa using e2, ?_⟩, by simp [Nat.blt] at e3; omega, h2, h3⟩
    split at h4
    · rename_i cs hz
      simp only [Bool.and_eq_true] at h4
      obtain ⟨ha, hb⟩ := h4
      split at hb
      · rename_i hb'
        have := zeroB_eq _ _ _ hb'
        rw [List.append_nil] at this
        refine ⟨?_, by simp [ha]⟩
        rw [hz, ha, ← this]
        simp
      · cases hb
    · rename_i v _ hz
      simp only [Bool.and_eq_true, Bool.not_eq_true'] at h4
      obtain ⟨ha, hb⟩ := h4
      split at hb
      · rename_i hb'
        have := zeroB_eq _ _ _ hb'
        rw [List.append_nil] at this
        refine ⟨?_, by rw [← this]; simp⟩
        rw [hz, ha, ← this]
        simp
      · cases hb
    · cases h4
  · cases h1

/-! ### What surrounds -/
structure EnOk (X : Cx) (E : En) : Prop where
  nt : E.nt = X.nt
  np : E.np = X.np
  ti : ∀ T t, E.ti T = some t → TOk X.P T t
  eq : ∀ T, E.eq T = true → ∀ (G : Nat → Prop) (w w' : World) (x y : Operand) (l l' : List Lf) (us vs : List Value) (b : Bool), All2 (LfRep X.P G w) l us → All2 (LfRep X.P G w) l' vs → eqLeaves l l' = some b → allSc l = true → allSc l' = true → kindsOk (E.ti T) l = true → kindsOk (E.ti T) l' = true →
    (Op.equal T (.agg us.toArray) (.agg vs.toArray)).run X.P w' = .ok b w' ∧ (eqGuard .eql T x y (.agg us.toArray) (.agg vs.toArray)).run X.P w' = .ok () w' ∧ (eqGuard .neq T x y (.agg us.toArray) (.agg vs.toArray)).run X.P w' = .ok () w'

def Goes (X : Cx) (o : Oper) (a : Act) (w : World) (A' : Ab) : Prop :=
  ∀ (next : Act → World → Prop) (Q : Exit → Act → World → Prop), (∀ S' a', Okay X S' a' → S'.g = get A' → next a' S'.w) → o.wp X.P a w next Q

section
variable {X : Cx} {S : Sit} {a : Act} {E : En} {A : Ab} {o : Oper}

theorem goes_value {A' : Ab} {v : Value} {w : World} (hr : (execOp a.eval o).run X.P w = .ok (.value v) S.w) (K : Okay X S (a.put o.dst v)) (hg : S.g = get A') : Goes X o a w A' := by
  intro next Q hn
  unfold Oper.wp
  rw [hr, Oper.upon_value]
  exact hn S _ K hg

theorem goes_skip {A' : Ab} {w : World} (hr : (execOp a.eval o).run X.P w = .ok .skip S.w) (K : Okay X S (a.put o.dst undef)) (hg : S.g = get A') : Goes X o a w A' := by
  intro next Q hn
  unfold Oper.wp
  rw [hr, Oper.upon_skip]
  exact hn S _ K hg

/-- What an operand is: a temporary's content, or a value that is nobody's. -/
theorem opT_ok (hE : EnOk X E) (K : Okay X S a) (hg : S.g = get A) {T : TypeId} {x : Operand} {s : Sv} (h : opT E T A x = some s) :
    (∃ t, x = .tmp t ∧ t < X.nt ∧ s = (S.g t).2 ∧ a.eval x = S.ph t ∧ SvOk X.P S t s (a.eval x)) ∨
    ((∀ t, x ≠ .tmp t) ∧ ∃ y, s = .one y ∧ ∀ lab, LfOk X.P S lab y (a.eval x)) := by
  unfold opT at h
  split at h
  · rename_i t
    cases hb : Nat.blt t E.nt with
    | false => simp [hb] at h
    | true =>
      simp [hb] at h
      have ht : t < X.nt := hE.nt ▸ (Nat.le_of_ble_eq_true hb : t + 1 ≤ E.nt)
      have e : a.eval (.tmp t) = S.ph t := K.sl t ht
      refine .inl ⟨t, rfl, ht, by rw [hg]; exact h.symm, e, ?_⟩
      rw [e, ← h, ← hg]
      exact K.at_ t
  · refine .inr ⟨by simp, ?_⟩
    split at h
    · rename_i e r by_ fo hT
      simp at h
      refine ⟨_, h.symm, fun lab => ⟨?_, [], ?_, rfl, ?_⟩⟩
      · have := (hE.ti _ _ hT).sz
        simp only [szB, Bool.and_eq_true, beq_iff_eq] at this
        exact this.1
      · exact World.ownsRow_nil _ _ _ _
      · intro k hk
        simp [Act.eval, Value.ownBlock] at hk
    · cases h
  · rename_i v _
    refine .inr ⟨by simp, ?_⟩
    cases hs : isSc v with
    | false => simp [hs] at h
    | true =>
      simp [hs] at h
      exact ⟨_, h.symm, fun lab => ⟨rfl, hs⟩⟩
  · rename_i f
    refine .inr ⟨by simp, ?_⟩
    simp at h
    exact ⟨_, h.symm, fun lab => ⟨rfl, rfl⟩⟩
  · cases h

theorem opT_sc (hE : EnOk X E) (K : Okay X S a) (hg : S.g = get A) {T : TypeId} {x : Operand} {v : Value} (h : opT E T A x = some (.one (.sc v))) : a.eval x = v ∧ isSc v = true := by
  rcases opT_ok hE K hg h with ⟨t, _, _, _, _, hs⟩ | ⟨_, y, e, hy⟩
  · exact hs
  · cases e
    exact hy .no

/-- A number, a text or a truth value is put. -/
theorem put_sc (K : Okay X S a) {d : Nat} (hd : d < X.nt) (hg : S.g = get A) (v : Value) (hv : isSc v = true) :
    ∃ S', Okay X S' (a.put (some d) v) ∧ S'.g = get (ups A [⟨d, false, .one (.sc v)⟩]) ∧ S'.w = S.w := by
  refine ⟨_, K.put0 hd (.one (.sc v)) v 0 rfl ⟨rfl, hv⟩, ?_, rfl⟩
  show upd S.g d _ = _
  rw [show ups A [⟨d, false, .one (.sc v)⟩] = up A ⟨d, false, .one (.sc v)⟩ from rfl, get_up, hg]
  rfl

/-- An operation that comes to a number, a text or a truth value. -/
theorem goes_sc (K : Okay X S a) (hg : S.g = get A) {d : Nat} (hd : d < X.nt) (ho : o.dst = some d) {v : Value} (hv : isSc v = true) (hr : (execOp a.eval o).run X.P S.w = .ok (.value v) S.w) :
    Goes X o a S.w (ups A [⟨d, false, .one (.sc v)⟩]) := by
  obtain ⟨S', K', hg', hw⟩ := put_sc K hd hg v hv
  exact goes_value (S := S') (by rw [hw]; exact hr) (by rw [ho]; exact K') hg'

theorem bopInt_ok {op : BinOp} {T : TypeId} {k : IntKind} {x y : Int} {R : Type} {Kc : Value → Option R} {r : R} (h : bopInt op k x y Kc = some r) (hne : op ≠ .shl ∧ op ≠ .shr) (P : Program) (w : World) :
    ∃ v, Kc v = some r ∧ isSc v = true ∧ (binOp op T (.int k x) (.int k y)).run P w = .ok v w := by
  unfold bopInt at h
  split at h
  case h_4 =>
    by_cases hy : y = 0
    · simp [hy] at h
    · simp [hy] at h
      exact ⟨_, h, rfl, by simp [binOp, Op.intDiv, hy]⟩
  case h_5 =>
    by_cases hy : y = 0
    · simp [hy] at h
    · simp [hy] at h
      exact ⟨_, h, rfl, by simp [binOp, Op.intDiv, hy]⟩
  all_goals first | (cases h; done) | exact ⟨_, h, rfl, by simp [binOp, Op.intArith, Op.intBits, Op.intCmp]⟩
end
end Go.Proofs.Ytehkignjdbkeiaa.Vf
