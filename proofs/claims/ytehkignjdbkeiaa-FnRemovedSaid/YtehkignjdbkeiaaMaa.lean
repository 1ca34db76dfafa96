import Derived.Calls
import Derived.Orders
import Derived.Laws.AppendOwn
import Derived.Laws.Cells
import Derived.Laws.World
section
/- A value-level reading of the model's code: types, abstract states, and an evaluator whose answers are ordinary Lean values. -/
namespace Go.Proofs.Ytehkignjdbkeiaa.Vf
open Go

/-- The layout of a row of cells. 'sl': a slice that nobody writes; 'ow': a slice that is the holder's own. -/
inductive Ty where
  | i (k : IntKind)
  | b
  | s
  | sl (e : TypeId) (r : Ty)
  | ow (e : TypeId) (r : Ty)
  | pr (x y : Ty)
  deriving DecidableEq

@[reducible] def Ty.den : Ty → Type
  | .i _ => Int
  | .b => Bool
  | .s => ByteArray
  | .sl _ r => List r.den
  | .ow _ r => List r.den
  | .pr x y => x.den × y.den

def Ty.dflt : (t : Ty) → t.den
  | .i _ => (0 : Int)
  | .b => false
  | .s => (⟨#[]⟩ : ByteArray)
  | .sl _ _ => []
  | .ow _ _ => []
  | .pr x y => (x.dflt, y.dflt)

def Ty.sz : Ty → Nat
  | .pr x y => x.sz + y.sz
  | _ => 1

/-- A type, whoever owns. -/
def shp : Ty → Ty
  | .i k => .i k
  | .b => .b
  | .s => .s
  | .sl e r => .sl e (shp r)
  | .ow e r => .sl e (shp r)
  | .pr x y => .pr (shp x) (shp y)

theorem shp_den : ∀ t : Ty, (shp t).den = t.den
  | .i _ => rfl
  | .b => rfl
  | .s => rfl
  | .sl _ r => congrArg List (shp_den r)
  | .ow _ r => congrArg List (shp_den r)
  | .pr x y => by show ((shp x).den × (shp y).den) = (x.den × y.den); rw [shp_den x, shp_den y]

theorem den_of {t u : Ty} (h : shp u = shp t) : u.den = t.den := (shp_den u).symm.trans ((congrArg Ty.den h).trans (shp_den t))

/-- Nothing here is its holder's own. -/
def noOw : Ty → Bool
  | .ow _ _ => false
  | .pr x y => noOw x && noOw y
  | _ => true

def noSl : Ty → Bool
  | .sl _ _ => false
  | .pr x y => noSl x && noSl y
  | _ => true

/-- All here is its holder's own, all the way down. -/
def allOw : Ty → Bool
  | .sl _ _ => false
  | .ow _ r => allOw r
  | .pr x y => allOw x && allOw y
  | _ => true

/-- A cell's content. -/
inductive Lf where
  | dead
  | un
  | sc (u : Value)
  | fz (e : TypeId) (r : Ty) (xs : List r.den)
  | own (e : TypeId) (r : Ty) (xs : List r.den)
  | al (p v : Nat)
  | bp (b v off : Nat)
  | ep (p v : Nat) (i : Int) (off : Nat)
  | fp (r : Ty) (x : r.den) (off : Nat)
  | hd (n : Nat)
  | da (p v : Nat) (pi : Option (List (Int × Nat))) (e : TypeId) (r : Ty) (xs : List r.den)
  | dp (p v : Nat) (pi : Option (List (Int × Nat))) (e : TypeId) (r : Ty) (xs : List r.den) (i : Int) (off : Nat)

/-- A temporary's content. -/
inductive Sv where
  | one (x : Lf)
  | agg (cs : List Lf)
  | tup (vs : List (Bool × List Lf))

/-- An abstract state: places, each with a version; the latest ahead. -/
abbrev Ab := List (Nat × Nat × Sv)

def get : Ab → Nat → Nat × Sv
  | [], _ => (0, .one .dead)
  | (k, n, s) :: t, l => bif Nat.beq k l then (n, s) else get t l

structure Up where
  l : Nat
  keep : Bool
  s : Sv

def up (A : Ab) (u : Up) : Ab := (u.l, bif u.keep then (get A u.l).1 else (get A u.l).1 + 1, u.s) :: A
def ups (A : Ab) : List Up → Ab
  | [] => A
  | u :: l => ups (up A u) l

/-- Two types whose zero cells are the same. -/
def zsame : Ty → Ty → Bool
  | .i k, .i k' => decide (k = k')
  | .b, .b => true
  | .s, .s => true
  | .sl _ _, .sl _ _ => true
  | .sl _ _, .ow _ _ => true
  | .ow _ _, .sl _ _ => true
  | .ow _ _, .ow _ _ => true
  | .pr x y, .pr x' y' => zsame x x' && zsame y y'
  | _, _ => false

/-- The place of cell j of box b; of its head. -/
def C (b j : Nat) : Nat := 1000 * (b + 1) + j
def H (b : Nat) : Nat := 1000 * (b + 1) + 999

/-- A list that is only read: whoever owns what is in it. -/
def castL (r r' : Ty) (xs : List r'.den) : Option (List r.den) := if h : shp r' = shp r then some (cast (congrArg List (den_of h)) xs) else none
/-- A list that is owned: of this very type, or empty. -/
def castO (r r' : Ty) (xs : List r'.den) : Option (List r.den) := if h : r' = r then some (h ▸ xs) else if shp r' = shp r then (match xs with | [] => some [] | _ => none) else none

def leaves : (t : Ty) → t.den → List Lf
  | .i k, n => [.sc (.int k n)]
  | .b, x => [.sc (.bool x)]
  | .s, x => [.sc (.string x)]
  | .sl e r, xs => [.fz e r xs]
  | .ow e r, xs => [.own e r xs]
  | .pr x y, p => leaves x p.1 ++ leaves y p.2

/-- The leaves of an element: nobody owns them. -/
def lvs : (t : Ty) → t.den → List Lf
  | .i k, n => [.sc (.int k n)]
  | .b, x => [.sc (.bool x)]
  | .s, x => [.sc (.string x)]
  | .sl e r, xs => [.fz e r xs]
  | .ow e r, xs => [.fz e r xs]
  | .pr x y, p => lvs x p.1 ++ lvs y p.2

/-- A value out of leaves (a slice that is only to be read may be someone's own). -/
def mkT : (t : Ty) → List Lf → Option (t.den × List Lf)
  | .i k, .sc (.int k' n) :: l => bif decide (k = k') then some (n, l) else none
  | .b, .sc (.bool x) :: l => some (x, l)
  | .s, .sc (.string x) :: l => some (x, l)
  | .sl e r, .fz e' r' xs :: l => bif Nat.beq e e' then (match castL r r' xs with | some ys => some (ys, l) | none => none) else none
  | .sl e r, .own e' r' xs :: l => bif Nat.beq e e' then (match castL r r' xs with | some ys => some (ys, l) | none => none) else none
  | .ow e r, .own e' r' xs :: l => bif Nat.beq e e' then (match castO r r' xs with | some ys => some (ys, l) | none => none) else none
  | .pr x y, l => match mkT x l with
    | some (p, l1) => (match mkT y l1 with
      | some (q, l2) => some ((p, q), l2)
      | none => none)
    | none => none
  | _, _ => none

/-- The whole of the leaves. -/
def mkW (t : Ty) (l : List Lf) : Option t.den := match mkT t l with
  | some (x, []) => some x
  | _ => none

/-- What is told of a type: its cells, whether it is a struct, its bytes, where its fields begin. -/
structure TI where
  ty : Ty
  ag : Bool
  by_ : Nat
  fo : List (Nat × Nat × Bool)

@[reducible] def Den : List Ty → Type
  | [] => Unit
  | [t] => t.den
  | t :: u :: l => t.den × Den (u :: l)

inductive Par where
  | val (ag : Bool) (t : Ty)
  | ptr (t t' : Ty)

def Par.ty : Par → Ty
  | .val _ t => t
  | .ptr t _ => t

def mkDen : (ts : List Ty) → List (List Lf) → Option (Den ts)
  | [], [] => some ()
  | [t], [l] => mkW t l
  | t :: u :: ts, l :: ls => match mkW t l with
    | some x => (match mkDen (u :: ts) ls with
      | some y => some (x, y)
      | none => none)
    | none => none
  | _, _ => none

def leavesD : (ts : List Ty) → Den ts → List (List Lf)
  | [], _ => []
  | [t], x => [leaves t x]
  | t :: u :: ts, x => leaves t x.1 :: leavesD (u :: ts) x.2

def ptrOuts : List Par → List Ty
  | [] => []
  | .val _ _ :: l => ptrOuts l
  | .ptr _ t' :: l => t' :: ptrOuts l

/-- A result: one cell, a struct, a pointer to a struct that is new. -/
inductive RK where
  | one
  | agg
  | ptr

/-- A callee's contract: its parameters, its results and (behind them) what its pointers hold then. -/
structure Ent where
  ps : List Par
  rs : List (RK × Ty)
  run : Den (ps.map Par.ty) → Option (Den (rs.map Prod.snd ++ ptrOuts ps))

inductive Ex where
  | normal
  | exit (id : Nat)
  | ret

/-- A loop's own function: what it holds at its head, where it ends, and what it holds there. -/
structure Live where
  cs : List (Nat × Lf)
  vs : List (Nat × Ty)

@[reducible] def Live.den (v : Live) : Type := Den (v.vs.map Prod.snd)

@[reducible] def AltD : List (Ex × Live) → Type
  | [] => Empty
  | [a] => a.2.den
  | a :: b :: l => a.2.den ⊕ AltD (b :: l)

structure Lp where
  ins : Live
  alts : List (Ex × Live)
  run : ins.den → Option (AltD alts)

/-- What surrounds a function's code. -/
structure En where
  nt : Nat
  ti : TypeId → Option TI
  eq : TypeId → Bool
  nm : Nat → Bool
  res : Nat → Bool
  call : FuncId → Option Ent
  lp : Nat → Option Lp
  np : Nat
  hint : Nat → Option Ty
  mv : Nat → Bool

/-! ### Reading -/
def isSc : Value → Bool
  | .int _ _ | .bool _ | .string _ | .func _ _ _ | .pointer none => true
  | _ => false

/-- An operand; nil by the type that is wanted. -/
def opT (E : En) (T : TypeId) (A : Ab) : Operand → Option Sv
  | .tmp t => bif Nat.blt t E.nt then some (get A t).2 else none
  | .const (.slice none 0 0) => match E.ti T with
    | some ⟨.sl e r, false, _, _⟩ => some (.one (.own e r []))
    | _ => none
  | .const v => bif isSc v then some (.one (.sc v)) else none
  | .func f => some (.one (.sc (.func (.func f) #[] #[])))
  | .global _ => none

/-- A slice type's elements. -/
def elT (E : En) (T : TypeId) : Option TypeId := match E.ti T with
  | some ⟨.sl e _, false, _, _⟩ => some e
  | _ => none
def isEl (E : En) (T e : TypeId) : Bool := match elT E T with
  | some e' => Nat.beq e' e
  | none => false
def isStr (E : En) (T : TypeId) : Bool := match E.ti T with
  | some ⟨.s, false, _, _⟩ => true
  | _ => false

/-- What stands at an alias' place. -/
def seen (A : Ab) : Lf → Lf
  | .al p v => match get A p with
    | (n, .one (.own e r xs)) => bif Nat.beq n v then .own e r xs else .dead
    | (n, .one (.fz e r xs)) => bif Nat.beq n v then .fz e r xs else .dead
    | _ => .dead
  | x => x

/-- What a leaf reads as, now. -/
def view (A : Ab) : Lf → Lf
  | .da p v _ e r xs => bif Nat.beq (get A p).1 v then .fz e r xs else .dead
  | x => seen A x

structure Sl where
  e : TypeId
  r : Ty
  xs : List r.den

def asSl : Lf → Option Sl
  | .fz e r xs => some ⟨e, r, xs⟩
  | .own e r xs => some ⟨e, r, xs⟩
  | _ => none

/-- What may be copied out of a leaf: what is in it is nobody's own. -/
def srcOf (A : Ab) (x : Lf) : Option Sl := match x with
  | .da p v _ e r xs => bif Nat.beq (get A p).1 v && noOw r then some ⟨e, r, xs⟩ else none
  | x => (match seen A x with
    | .fz e r xs => some ⟨e, r, xs⟩
    | .own e r xs => bif noOw r then some ⟨e, r, xs⟩ else none
    | _ => none)

/-- A pointer whose place still is what it was. -/
def liveP (A : Ab) : Lf → Bool
  | .bp b v _ => Nat.beq (get A (H b)).1 v
  | .ep p v _ _ => (match get A p with
    | (n, .one (.own _ _ _)) => Nat.beq n v
    | _ => false)
  | .fp _ _ _ => true
  | .dp p v _ _ _ _ _ _ => Nat.beq (get A p).1 v
  | _ => false

def addOff : Lf → Nat → Lf
  | .bp b v n, k => .bp b v (n + k)
  | .ep p v i n, k => .ep p v i (n + k)
  | .fp r x n, k => .fp r x (n + k)
  | .dp p v pi e r xs i n, k => .dp p v pi e r xs i (n + k)
  | x, _ => x

def ownIn : List Lf → Bool
  | [] => false
  | .own _ _ _ :: _ => true
  | _ :: l => ownIn l

def ownSv : Sv → Bool
  | .one x => ownIn [x]
  | .agg l => ownIn l
  | .tup vs => vs.any fun v => ownIn v.2

/-- A leaf that is to be kept where others may read it, too: nobody's own any more. -/
def calm : Lf → Lf
  | .own e r xs => .fz e r xs
  | x => x

/-- What a leaf that is kept elsewhere costs: an alias' place is nobody's own any more. -/
def cost (A : Ab) : Lf → List Up
  | .al p v => match get A p with
    | (n, .one (.own e r xs)) => bif Nat.beq n v then [⟨p, true, .one (.fz e r xs)⟩] else []
    | _ => []
  | _ => []

def costs (A : Ab) : List Lf → List Up
  | [] => []
  | x :: l => cost A x ++ costs A l

/-- None of these is at that place. -/
def apart (p : Nat) : List Up → Bool
  | [] => true
  | u :: l => !(Nat.beq u.l p) && apart p l

/-- A temporary that is given away. -/
def gone : Operand → Sv → List Up
  | .tmp t, s => bif ownSv s then [⟨t, false, .one .dead⟩] else []
  | _, _ => []

/-- What is appended to, given up. -/
def took : Lf → Operand → List Up
  | .al p _, _ => [⟨p, false, .one .dead⟩]
  | _, .tmp t => [⟨t, false, .one .dead⟩]
  | _, _ => []

def parts : Sv → List Lf
  | .one x => [x]
  | .agg l => l
  | .tup _ => []

def ofParts (ag : Bool) (l : List Lf) : Option Sv := bif ag then some (.agg l) else match l with
  | [x] => some (.one x)
  | _ => none

def nth {α : Type} : List α → Nat → Option α
  | [], _ => none
  | x :: _, 0 => some x
  | _ :: l, n + 1 => nth l n

section
variable {R : Type}

/-! ### Operations on numbers, texts and truth values -/
def bopInt (op : BinOp) (k : IntKind) (x y : Int) (K : Value → Option R) : Option R :=
  match op with
  | .add => K (.int k (k.wrap (x + y)))
  | .sub => K (.int k (k.wrap (x - y)))
  | .mul => K (.int k (k.wrap (x * y)))
  | .quo => bif decide (y = 0) then none else K (.int k (k.wrap (x.tdiv y)))
  | .rem => bif decide (y = 0) then none else K (.int k (x.tmod y))
  | .and => K (.int k (k.wrap ((BitVec.ofInt k.bits x &&& BitVec.ofInt k.bits y).toNat)))
  | .or => K (.int k (k.wrap ((BitVec.ofInt k.bits x ||| BitVec.ofInt k.bits y).toNat)))
  | .xor => K (.int k (k.wrap ((BitVec.ofInt k.bits x ^^^ BitVec.ofInt k.bits y).toNat)))
  | .andNot => K (.int k (k.wrap ((BitVec.ofInt k.bits x &&& ~~~ BitVec.ofInt k.bits y).toNat)))
  | .eql => K (.bool (x == y))
  | .neq => K (.bool (x != y))
  | .lss => K (.bool (x < y))
  | .leq => K (.bool (x ≤ y))
  | .gtr => K (.bool (x > y))
  | .geq => K (.bool (x ≥ y))
  | _ => none

def bopStr (op : BinOp) (x y : ByteArray) (K : Value → Option R) : Option R :=
  match op with
  | .add => bif Nat.ble (x.size + y.size) 9223372036854775807 then K (.string (x ++ y)) else none
  | .eql => K (.bool (x.toList == y.toList))
  | .neq => K (.bool !(x.toList == y.toList))
  | .lss => K (.bool (Op.bytesLess x.toList y.toList))
  | .leq => K (.bool (Op.bytesLess x.toList y.toList || x.toList == y.toList))
  | .gtr => K (.bool !(Op.bytesLess x.toList y.toList || x.toList == y.toList))
  | .geq => K (.bool !(Op.bytesLess x.toList y.toList))
  | _ => none

/-- '==' of two structs' cells. -/
def eqLeaves : List Lf → List Lf → Option Bool
  | [], [] => some true
  | [.sc (.int k x)], [.sc (.int k' y)] => bif decide (k = k') then some (x == y) else none
  | [.sc (.bool x)], [.sc (.bool y)] => some (x == y)
  | [.sc (.string x)], [.sc (.string y)] => some (x == y)
  | .sc (.int k x) :: l, .sc (.int k' y) :: l' => bif decide (k = k') then (match eqLeaves l l' with | some b => some ((x == y) && b) | none => none) else none
  | .sc (.bool x) :: l, .sc (.bool y) :: l' => match eqLeaves l l' with | some b => some ((x == y) && b) | none => none
  | .sc (.string x) :: l, .sc (.string y) :: l' => match eqLeaves l l' with | some b => some ((x == y) && b) | none => none
  | _, _ => none

def allSc : List Lf → Bool
  | [] => true
  | .sc _ :: l => allSc l
  | _ => false

/-- Leaves of this type's kinds. -/
def kindsOk (tT : Option TI) (l : List Lf) : Bool := match tT with
  | some ti => (mkW ti.ty l).isSome
  | none => false

def bop (op : BinOp) (tT : Option TI) (eqs : Bool) (x y : Sv) (K : Value → Option R) : Option R :=
  match x, y with
  | .one (.sc (.int k a)), .one (.sc (.int k' b)) =>
    match op with
    | .shl => bif decide (b < 0) then none else K (.int k (k.wrap (a * 2 ^ (min b.toNat k.bits))))
    | .shr => bif decide (b < 0) then none else K (.int k (a.fdiv (2 ^ (min b.toNat k.bits))))
    | _ => bif decide (k = k') then bopInt op k a b K else none
  | .one (.sc (.string a)), .one (.sc (.string b)) => bopStr op a b K
  | .one (.sc (.bool a)), .one (.sc (.bool b)) => match op, tT with
    | .eql, some ⟨.b, false, _, _⟩ => K (.bool (a == b))
    | .neq, some ⟨.b, false, _, _⟩ => K (.bool (!(a == b)))
    | _, _ => none
  | .agg l, .agg l' => bif eqs && allSc l && allSc l' && (kindsOk tT l && kindsOk tT l') then (match op with
    | .eql => (match eqLeaves l l' with | some b => K (.bool b) | none => none)
    | .neq => (match eqLeaves l l' with | some b => K (.bool (!b)) | none => none)
    | _ => none) else none
  | _, _ => none

def uop (op : UnOp) (x : Sv) (K : Value → Option R) : Option R :=
  match op, x with
  | .neg, .one (.sc (.int k n)) => K (.int k (k.wrap (0 - n)))
  | .xor, .one (.sc (.int k n)) => K (.int k (k.wrap ((BitVec.ofInt k.bits (if k.signed then -1 else k.max) ^^^ BitVec.ofInt k.bits n).toNat)))
  | .not, .one (.sc (.bool b)) => K (.bool !b)
  | _, _ => none

def strOf (xs : List Int) : ByteArray := ⟨(xs.map fun n => UInt8.ofNat n.toNat).toArray⟩
def bytesOf (s : ByteArray) : List Int := s.data.toList.map fun b => (b.toNat : Int)
def bt (s : ByteArray) (i : Int) : Int := ((s.data.toList.getD i.toNat 0).toNat : Int)

def conv (src dst : Option TI) (x : Sv) (K : Sv → Option R) : Option R :=
  match src, dst, x with
  | some ⟨.i _, false, _, _⟩, some ⟨.i k, false, _, _⟩, .one (.sc (.int _ n)) => K (.one (.sc (.int k (k.wrap n))))
  | some ⟨.s, false, _, _⟩, some ⟨.s, false, _, _⟩, .one (.sc (.string s)) => K (.one (.sc (.string s)))
  | some ⟨.sl e (.i .u8), false, _, _⟩, some ⟨.s, false, _, _⟩, .one (.fz e' (.i .u8) xs) => bif Nat.beq e e' then K (.one (.sc (.string (strOf xs)))) else none
  | some ⟨.sl e (.i .u8), false, _, _⟩, some ⟨.s, false, _, _⟩, .one (.own e' (.i .u8) xs) => bif Nat.beq e e' then K (.one (.sc (.string (strOf xs)))) else none
  | some ⟨.s, false, _, _⟩, some ⟨.sl e (.i .u8), false, _, _⟩, .one (.sc (.string s)) => bif Nat.ble s.size 140737488355328 then K (.one (.fz e (.i .u8) (bytesOf s))) else none
  | _, _, _ => none

def minMax (mx : Bool) : List Sv → IntKind → Int → (Value → Option R) → Option R
  | [], k, x, K => K (.int k x)
  | .one (.sc (.int k' y)) :: l, k, x, K => bif decide (k = k') then minMax mx l k (bif mx then (if x < y then y else x) else (if y < x then y else x)) K else none
  | _, _, _, _ => none

/-! ### Memory -/
/-- A box's cells j .. j + n - 1, as they are read. -/
def cellsOf (A : Ab) (b : Nat) : Nat → Nat → List Lf
  | _, 0 => []
  | j, n + 1 => (match get A (C b j) with
    | (v, .one (.own _ _ _)) => Lf.al (C b j) v
    | (_, .one x) => x
    | _ => .dead) :: cellsOf A b (j + 1) n

def rawOf (A : Ab) (b : Nat) : Nat → Nat → List Lf
  | _, 0 => []
  | j, n + 1 => (match get A (C b j) with
    | (_, .one x) => x
    | _ => .dead) :: rawOf A b (j + 1) n

def putCells (b : Nat) : Nat → List Lf → List Up
  | _, [] => []
  | j, x :: l => ⟨C b j, false, .one x⟩ :: putCells b (j + 1) l

/-- A leaf, as it is stored: what was an alias is read by all. -/
def kept (A : Ab) (x : Lf) : Lf := match x with
  | .al _ _ => calm (seen A x)
  | _ => x

def zeros : Ty → List Lf
  | .i k => [.sc (.int k 0)]
  | .b => [.sc (.bool false)]
  | .s => [.sc (.string ⟨#[]⟩)]
  | .sl e r => [.own e r []]
  | .ow e r => [.own e r []]
  | .pr x y => zeros x ++ zeros y

def storable : List Lf → Bool
  | [] => true
  | .sc _ :: l | .fz _ _ _ :: l | .own _ _ _ :: l => storable l
  | _ => false


def setAll (l : List Lf) (off : Nat) (m : List Lf) : List Lf := l.take off ++ m ++ l.drop (off + m.length)

/-- What is given: own leaves, and what aliases stand for; the places are empty then. -/
def takeLs : Ab → List Lf → Option (List Lf × List Up)
  | _, [] => some ([], [])
  | A, .al p v :: l => (match seen A (.al p v) with
    | .own e r xs => (match takeLs (up A ⟨p, false, .one .dead⟩) l with
      | some (m, us) => some (.own e r xs :: m, ⟨p, false, .one .dead⟩ :: us)
      | none => none)
    | _ => none)
  | A, x :: l => (match takeLs A l with
    | some (m, us) => some (x :: m, us)
    | none => none)
def give (A : Ab) (x : Operand) (s : Sv) : Option (List Lf × List Up) := match takeLs (ups A (gone x s)) (parts s) with
  | some (m, us) => some (m, gone x s ++ us)
  | none => none

/-- Numbers, texts and own slices alone. -/
def owned : List Lf → Bool
  | [] => true
  | .sc _ :: l | .own _ _ _ :: l => owned l
  | _ => false

/-- Which of an element's leaves are own slices. -/
def slots : Ty → List Ty
  | .pr x y => slots x ++ slots y
  | t => [t]
/-- The leaves of an element that is owned by another: its slices as aliases. -/
def daL (p v : Nat) (pi : Option (List (Int × Nat))) (i : Int) : Nat → List Lf → List Lf
  | _, [] => []
  | j, .own e r xs :: l => .da p v (match pi with | some q => some (q ++ [(i, j)]) | none => none) e r xs :: daL p v pi i (j + 1) l
  | j, x :: l => x :: daL p v pi i (j + 1) l
/-- The list along a path gets another content. -/
def putAt (r0 : Ty) (ys : List r0.den) : List (Int × Nat) → (r : Ty) → List r.den → Option (List r.den)
  | [], r, _ => if h : r0 = r then some (h ▸ ys) else none
  | (i, j) :: q, r, xs => match nth (leaves r (xs.getD i.toNat r.dflt)) j with
    | some (.own e1 r1 zs) => (match putAt r0 ys q r1 zs with
      | some zs' => (match mkW r (setAll (leaves r (xs.getD i.toNat r.dflt)) j [.own e1 r1 zs']) with
        | some z => some (xs.set i.toNat z)
        | none => none)
      | none => none)
    | _ => none

def lends : List Par → Bool
  | [] => true
  | .val _ t :: ps => noOw t && lends ps
  | .ptr _ _ :: _ => false

def news : List (RK × Ty) → Bool
  | [] => true
  | (.ptr, _) :: _ => false
  | (_, t) :: rs => allOw t && news rs

def ptrs : List Par → Nat
  | [] => 0
  | .val _ _ :: ps => ptrs ps
  | .ptr _ _ :: ps => ptrs ps + 1

def form : Sv → Option Bool
  | .one _ => some false
  | .agg _ => some true
  | .tup _ => none

def formOk (ag : Bool) (s : Sv) : Bool := match form s with
  | some b => bif ag then b else !b
  | none => false

/-- Arguments that are only read. -/
def lentOf (A : Ab) : List Par → List Sv → Option (List (List Lf))
  | [], [] => some []
  | .val ag _ :: ps, s :: ss => bif formOk ag s && storable ((parts s).map (fun y => calm (view A y))) then (match lentOf A ps ss with
    | some ls => some ((parts s).map (fun y => calm (view A y)) :: ls)
    | none => none) else none
  | _, _ => none

/-- Of a parameter: the leaves that it reads; what it costs; the box that is lent. -/
def argOf (A : Ab) (x : Operand) : Par → Sv → Option (List Lf × List Up × List Nat)
  | .val false (.ow _ _), .one y => (match seen A y with
    | .own e r xs => some ([.own e r xs], took y x, [])
    | _ => none)
  | .val ag t, s => bif noOw t then (bif formOk ag s && storable ((parts s).map (kept A)) then some (((parts s).map (kept A)).map calm, costs A (parts s) ++ gone x s, []) else none)
    else bif ag && noSl t && formOk true s then (match give A x s with
      | some (m, us) => bif owned m then some (m, us, []) else none
      | none => none) else none
  | .ptr t t', .one (.bp b v 0) => (match get A (H b) with
    | (n, .one (.hd m)) => bif noOw t && noOw t' && Nat.beq n v && Nat.beq m t.sz && Nat.beq m t'.sz && storable ((cellsOf A b 0 m).map (kept A)) then some ((cellsOf A b 0 m).map (kept A), costs A (cellsOf A b 0 m), [b]) else none
    | _ => none)
  | _, _ => none

def argsOf (E : En) : List TypeId → Ab → List Operand → List Par → Option (List (List Lf) × List Up × List Nat)
  | _, _, [], [] => some ([], [], [])
  | T :: Ts, A, x :: xs, p :: ps => match opT E T A x with
    | some s => (match argOf A x p s with
      | some (l, u, b) => (match argsOf E Ts (ups A u) xs ps with
        | some (ls, us, bs) => some (l :: ls, u ++ us, b ++ bs)
        | none => none)
      | none => none)
    | none => none
  | _, _, _, _ => none

/-- What comes back by the pointers. -/
def backs : List Nat → List (List Lf) → Option (List Up)
  | [], _ => some []
  | b :: bs, l :: ls => match backs bs ls with
    | some us => some (putCells b 0 l ++ us)
    | none => none
  | _, _ => none

def ptrRes (A : Ab) (d : Nat) (l : List Lf) : List Up :=
  ⟨H d, false, .one (.hd l.length)⟩ :: putCells d 0 l ++ [⟨d, false, .one (.bp d ((get A (H d)).1 + 1) 0)⟩]

def anyPtr : List (RK × Ty) → Bool
  | [] => false
  | (.ptr, _) :: _ => true
  | _ :: l => anyPtr l

def isAggK : RK → Bool
  | .agg => true
  | _ => false

def tupOf : List (RK × Ty) → List (List Lf) → List (Bool × List Lf)
  | r :: rs, l :: ls => (isAggK r.1, l) :: tupOf rs ls
  | _, _ => []

/-- What a call's results leave in its temporary. -/
def resUp (A : Ab) (rs : List (RK × Ty)) (ls : List (List Lf)) (d : Option Nat) : Option (List Up) :=
  match rs, ls, d with
  | _, _, none => some []
  | [], _, some d => some [⟨d, false, .tup []⟩]
  | [(.one, _)], [x] :: _, some d => some [⟨d, false, .one x⟩]
  | [(.agg, _)], l :: _, some d => some [⟨d, false, .agg l⟩]
  | [(.ptr, _)], l :: _, some d => some (ptrRes A d l)
  | r :: q :: rs, ls, some d => bif anyPtr (r :: q :: rs) then none else some [⟨d, false, .tup (tupOf (r :: q :: rs) ls)⟩]
  | _, _, _ => none

/-! ### One operation -/
def opsT (E : En) (Ts : List TypeId) (A : Ab) : List Operand → Option (List Sv)
  | [] => some []
  | x :: l => match Ts with
    | [] => none
    | T :: Ts => (match opT E T A x with
      | some s => (match opsT E Ts A l with
        | some ss => some (s :: ss)
        | none => none)
      | none => none)

/-- A pointer that comes back goes to no parameter's place. -/
def okPtr (E : En) (rs : List (RK × Ty)) (d : Option Nat) : Bool := !(anyPtr rs) || (match d with
  | some d => Nat.ble E.np d
  | none => true)

def callF (E : En) (Ts : List TypeId) (A : Ab) (en : Ent) (xs : List Operand) (ss : List Sv) (d : Option Nat) (K : List Up → Option R) : Option R :=
  bif lends en.ps && news en.rs then
    (match lentOf A en.ps ss with
    | none => none
    | some ls => match mkDen _ ls with
      | none => none
      | some x => (en.run x).bind fun r =>
        match resUp A en.rs (leavesD _ r) d with
        | none => none
        | some rs => K rs)
  else bif Nat.ble (ptrs en.ps) 1 && okPtr E en.rs d then
    (match argsOf E Ts A xs en.ps with
    | none => none
    | some (ls, us, bs) => match mkDen _ ls with
      | none => none
      | some x => (en.run x).bind fun r =>
        match backs bs ((leavesD _ r).drop en.rs.length) with
        | none => none
        | some ws => match resUp (ups (ups A us) ws) en.rs (leavesD _ r) d with
          | none => none
          | some rs => K (us ++ (ws ++ rs)))
  else none

def buildP (E : En) (A : Ab) (T : TI) (l : List Lf) (us : List Up) : List (Nat × Operand) → Option (List Lf × List Up)
  | [] => some (l, us)
  | (i, x) :: ps => match nth T.fo i with
    | none => none
    | some (off, z, _) => (match x with
      | .const (.slice none 0 0) => bif Nat.beq z 1 then (match nth l off with
        | some (.own _ _ []) => buildP E A T l us ps
        | _ => none) else none
      | _ => (match opT E 0 A x with
        | some s => let m := (parts s).map (kept A)
          bif storable m && Nat.beq m.length z && Nat.ble (off + z) l.length then buildP E (ups A (costs A (parts s) ++ gone x s)) T (setAll l off m) (us ++ (costs A (parts s) ++ gone x s)) ps else none
        | none => none))

def rowsP (E : En) (A : Ab) (e : TypeId) (r : Ty) (i : Nat) : List (Nat × Operand) → Option (List r.den × List Up)
  | [] => some ([], [])
  | (j, x) :: ps => bif Nat.beq i j then (match opT E e A x with
    | some s => (match bif storable ((parts s).map (kept A)) then mkW r ((parts s).map fun x => calm (kept A x)) else none with
      | some y => (match rowsP E (ups A (costs A (parts s) ++ gone x s)) e r (i + 1) ps with
        | some (ys, us) => some (y :: ys, (costs A (parts s) ++ gone x s) ++ us)
        | none => none)
      | none => none)
    | none => none) else none

/-- Rows that own what is in them. -/
def rowsD (E : En) (A : Ab) (e : TypeId) (r : Ty) (i : Nat) : List (Nat × Operand) → Option (List r.den × List Up)
  | [] => some ([], [])
  | (j, x) :: ps => bif Nat.beq i j then (match opT E e A x with
    | some s => (match give A x s with
      | some (m, us) => (match bif owned m then mkW r m else none with
        | some y => (match rowsD E (ups A us) e r (i + 1) ps with
          | some (ys, us') => some (y :: ys, us ++ us')
          | none => none)
        | none => none)
      | none => none)
    | none => none) else none

def cutS {α : Type} (xs : List α) (lo hi : Option Int) : List α :=
  match lo, hi with
  | none, none => xs
  | some l, none => xs.drop l.toNat
  | none, some h => xs.take h.toNat
  | some l, some h => (xs.take h.toNat).drop l.toNat

/-- 0 <= lo <= hi <= n -/
def bnds (lo hi : Option Int) (n : Nat) (K : Unit → Option R) : Option R :=
  match lo, hi with
  | none, none => K ()
  | some l, none => bif decide (0 ≤ l) then (bif decide (l ≤ (n : Int)) then K () else none) else none
  | none, some h => bif decide (0 ≤ h) then (bif decide (h ≤ (n : Int)) then K () else none) else none
  | some l, some h => bif decide (0 ≤ l) then (bif decide (l ≤ h) then (bif decide (h ≤ (n : Int)) then K () else none) else none) else none

def intOp (E : En) (A : Ab) : Option Operand → Option (Option Int)
  | none => some none
  | some x => match opT E 0 A x with
    | some (.one (.sc (.int .i64 n))) => some (some n)
    | _ => none

/-- A temporary that is given away where it is stored. -/
def mvO (E : En) : Operand → Bool
  | .tmp t => E.mv t
  | _ => false

def step (E : En) (o : Oper) (A : Ab) (K : List Up → Option R) : Option R :=
  match o.op, o.dst with
  | .move x, some d => match opT E o.type A x with
    | some s => (match x, s with
      | .tmp t, .one (.own e r xs) => bif E.nm t && !(E.mv d) then K [⟨d, false, .one (.al t (get A t).1)⟩] else K [⟨t, false, .one .dead⟩, ⟨d, false, .one (.own e r xs)⟩]
      | _, _ => K (gone x s ++ [⟨d, false, s⟩]))
    | none => none
  | .assign x, some d => match opT E o.type A x with
    | some (.one (.al p v)) => (match get A p with
      | (n, .one (.own e r xs)) => bif Nat.beq n v then (bif E.res d then K [⟨p, false, .one .dead⟩, ⟨d, false, .one (.own e r xs)⟩] else K [⟨p, true, .one (.fz e r xs)⟩, ⟨d, false, .one (.fz e r xs)⟩]) else none
      | (n, .one (.fz e r xs)) => bif Nat.beq n v then K [⟨d, false, .one (.fz e r xs)⟩] else none
      | _ => none)
    | some s => K (gone x s ++ [⟨d, false, s⟩])
    | none => none
  | .pick c x y, some d => match opT E 0 A c with
    | some (.one (.sc (.bool b))) => bif b then (match opT E o.type A x with
        | some (.one (.sc u)) => K [⟨d, false, .one (.sc u)⟩]
        | _ => none)
      else (match opT E o.type A y with
        | some (.one (.sc u)) => K [⟨d, false, .one (.sc u)⟩]
        | _ => none)
    | _ => none
  | .binOp op T x y T', some d => match opT E T A x, opT E T' A y with
    | some s, some s' => bop op (E.ti T) (E.eq T) s s' fun u => K [⟨d, false, .one (.sc u)⟩]
    | _, _ => none
  | .unOp op T x, some d => match opT E T A x with
    | some s => uop op s fun u => K [⟨d, false, .one (.sc u)⟩]
    | none => none
  | .convert T T' x, some d => match opT E T A x with
    | some (.one y) => conv (E.ti T) (E.ti T') (.one (view A y)) fun s => K [⟨d, false, s⟩]
    | _ => none
  | .nilCheck x, some d => match opT E 0 A x with
    | some (.one y) => bif liveP A y then K [⟨d, false, .one y⟩] else none
    | _ => none
  | .extract (.tmp t) j, some d => match bif Nat.blt t E.nt then (get A t).2 else .one .dead with
    | .tup vs => (match nth vs j with
      | some (ag, l) => (match ofParts ag l with
        | some s => bif ownIn l then K [⟨t, false, .tup (vs.set j (false, [.dead]))⟩, ⟨d, false, s⟩] else K [⟨d, false, s⟩]
        | none => none)
      | none => none)
    | _ => none
  | .field T (.tmp t) j, some d => match E.ti T, (get A t).2 with
    | some ti, .agg l => (match nth ti.fo j with
      | some (off, z, ag) => (match ofParts ag ((l.drop off).take z) with
        | some s => bif ti.ag && Nat.blt t E.nt && Nat.ble (off + z) l.length then (bif ownIn ((l.drop off).take z) then K [⟨t, false, .agg (setAll l off (List.replicate z .dead))⟩, ⟨d, false, s⟩] else K [⟨d, false, s⟩]) else none
        | none => none)
      | none => none)
    | _, _ => none
  | .build T ps, some d => match E.ti T with
    | some ti => (match buildP E A ti (zeros ti.ty) [] ps.toList with
      | some (l, us) => bif ti.ag then K (us ++ [⟨d, false, .agg l⟩]) else none
      | none => none)
    | none => none
  | .alloc T, some d => match E.ti T with
    | some ti => bif Nat.blt ti.ty.sz 999 && Nat.ble E.np d then K (⟨H d, false, .one (.hd ti.ty.sz)⟩ :: putCells d 0 (zeros ti.ty) ++ [⟨d, false, .one (.bp d ((get A (H d)).1 + 1) 0)⟩]) else none
    | none => none
  | .box T x, some d => match E.ti T, opT E T A x with
    | some ti, some s =>
      let m := (parts s).map (kept A)
      bif storable m && Nat.beq m.length ti.ty.sz && Nat.blt ti.ty.sz 999 && Nat.ble E.np d then K (costs A (parts s) ++ gone x s ++ (⟨H d, false, .one (.hd ti.ty.sz)⟩ :: putCells d 0 m ++ [⟨d, false, .one (.bp d ((get A (H d)).1 + 1) 0)⟩])) else none
    | _, _ => none
  | .load T x, some d => match E.ti T, opT E 0 A x with
    | some ti, some (.one (.bp b v off)) => (match get A (H b) with
      | (n, .one (.hd m)) => bif Nat.beq n v && Nat.ble (off + ti.ty.sz) m then (match ofParts ti.ag (cellsOf A b off ti.ty.sz) with
        | some s => K [⟨d, false, s⟩]
        | none => none) else none
      | _ => none)
    | some ti, some (.one (.ep p v i off)) => (match get A p with
      | (n, .one (.own _ r xs)) => bif Nat.beq n v && noOw r && Nat.ble (off + ti.ty.sz) r.sz then (match ofParts ti.ag (((lvs r (xs.getD i.toNat r.dflt)).drop off).take ti.ty.sz) with
        | some s => K [⟨d, false, s⟩]
        | none => none) else none
      | _ => none)
    | some ti, some (.one (.dp p v pi _ r xs i off)) => bif Nat.beq (get A p).1 v && Nat.ble (off + ti.ty.sz) r.sz then (match ofParts ti.ag (((daL p v pi i 0 (leaves r (xs.getD i.toNat r.dflt))).drop off).take ti.ty.sz) with
      | some s => K [⟨d, false, s⟩]
      | none => none) else none
    | some ti, some (.one (.fp r x off)) => bif Nat.ble (off + ti.ty.sz) r.sz then (match ofParts ti.ag (((lvs r x).drop off).take ti.ty.sz) with
      | some s => K [⟨d, false, s⟩]
      | none => none) else none
    | _, _ => none
  | .store T x y, none => match E.ti T, opT E 0 A x, opT E T A y with
    | some ti, some (.one (.bp b v off)), some s => bif mvO E y then (match give A y s with
      | some (m, us) => (match get A (H b) with
        | (n, .one (.hd h)) => bif Nat.beq n v && owned m && Nat.beq m.length ti.ty.sz && Nat.ble (off + ti.ty.sz) h then K (us ++ putCells b off m) else none
        | _ => none)
      | none => none) else
      let m := (parts s).map (kept A)
      (match get A (H b) with
      | (n, .one (.hd h)) => bif Nat.beq n v && storable m && Nat.beq m.length ti.ty.sz && Nat.ble (off + ti.ty.sz) h then K (costs A (parts s) ++ gone y s ++ putCells b off m) else none
      | _ => none)
    | some ti, some (.one (.ep p v i off)), some s =>
      let m := (parts s).map fun x => calm (kept A x)
      (match get A p with
      | (n, .one (.own e r xs)) => bif Nat.beq n v && noOw r && storable ((parts s).map (kept A)) && Nat.beq m.length ti.ty.sz && Nat.ble (off + m.length) r.sz && apart p (costs A (parts s) ++ gone y s) then (match mkW r (setAll (lvs r (xs.getD i.toNat r.dflt)) off m) with
        | some z => K (costs A (parts s) ++ gone y s ++ [⟨p, true, .one (.own e r (xs.set i.toNat z))⟩])
        | none => none) else none
      | _ => none)
    | some ti, some (.one (.dp p v (some pi) _ r xs i off)), some s => (match give A y s with
      | some (m, us) => (match get A p with
        | (n, .one (.own E0 R0 XS)) => bif Nat.beq n v && owned m && Nat.beq m.length ti.ty.sz && Nat.ble (off + m.length) r.sz && apart p us && allOw R0 then (match mkW r (setAll (leaves r (xs.getD i.toNat r.dflt)) off m) with
          | some z => (match putAt r (xs.set i.toNat z) pi R0 XS with
            | some XS' => K (us ++ [⟨p, false, .one (.own E0 R0 XS')⟩])
            | none => none)
          | none => none) else none
        | _ => none)
      | none => none)
    | _, _, _ => none
  | .fieldAddr T x j, some d => match E.ti T, opT E 0 A x with
    | some ti, some (.one y) => (match nth ti.fo j with
      | some o => bif ti.ag && liveP A y then K [⟨d, false, .one (addOff y o.1)⟩] else none
      | none => none)
    | _, _ => none
  | .indexAddr T x i, some d => match opT E T A x, opT E 0 A i with
    | some (.one y), some (.one (.sc (.int _ n))) => (match y, seen A y with
      | .al p v, .own e r xs => bif isEl E T e && decide (0 ≤ n) then (bif decide (n < (xs.length : Int)) then (bif noOw r then K [⟨d, false, .one (.ep p v n 0)⟩] else bif allOw r then K [⟨d, false, .one (.dp p v (some []) e r xs n 0)⟩] else none) else none) else none
      | .da p v pi e r xs, _ => bif isEl E T e && Nat.beq (get A p).1 v && decide (0 ≤ n) then (bif decide (n < (xs.length : Int)) then K [⟨d, false, .one (.dp p v pi e r xs n 0)⟩] else none) else none
      | _, .fz e r xs => bif isEl E T e && decide (0 ≤ n) then (bif decide (n < (xs.length : Int)) then K [⟨d, false, .one (.fp r (xs.getD n.toNat r.dflt) 0)⟩] else none) else none
      | _, .own e r xs => (match x with
        | .tmp t => bif isEl E T e && decide (0 ≤ n) then (bif decide (n < (xs.length : Int)) then (bif noOw r then K [⟨d, false, .one (.ep t (get A t).1 n 0)⟩] else bif allOw r then K [⟨d, false, .one (.dp t (get A t).1 (some []) e r xs n 0)⟩] else none) else none) else none
        | _ => none)
      | _, _ => none)
    | _, _ => none
  | .index T x i, some d => match opT E 0 A x, opT E 0 A i with
    | some (.one (.sc (.string s))), some (.one (.sc (.int _ n))) => bif isStr E T && decide (0 ≤ n) then (bif decide (n < (s.size : Int)) then K [⟨d, false, .one (.sc (.int .u8 (bt s n)))⟩] else none) else none
    | _, _ => none
  | .slice T x lo hi none, some d => match opT E T A x, intOp E A lo, intOp E A hi with
    | some (.one (.sc (.string s))), some lo, some hi => bif isStr E T then bnds lo hi s.size fun _ =>
      K [⟨d, false, .one (.sc (.string (s.extract (match lo with | some l => l.toNat | none => 0) (match hi with | some h => h.toNat | none => s.size))))⟩] else none
    | some (.one y), some lo, some hi => (match y, seen A y with
      | .own _ _ _, .own e r xs => bif isEl E T e then (match lo with
        | none => bnds lo hi xs.length fun _ => K (gone x (.one y) ++ [⟨d, false, .one (.own e r (cutS xs lo hi))⟩])
        | some _ => bnds lo hi xs.length fun _ => K (gone x (.one y) ++ [⟨d, false, .one (.fz e r (cutS xs lo hi))⟩])) else none
      | .al p v, .own e r xs => bif isEl E T e then (bif E.mv d then (match lo with
          | none => bnds lo hi xs.length fun _ => K [⟨p, false, .one .dead⟩, ⟨d, false, .one (.own e r (cutS xs lo hi))⟩]
          | some _ => none)
        else bif noOw r then bnds lo hi xs.length fun _ => K (cost A y ++ [⟨d, false, .one (.fz e r (cutS xs lo hi))⟩])
        else bif allOw r then bnds lo hi xs.length fun _ => K [⟨d, false, .one (.da p v none e r (cutS xs lo hi))⟩] else none) else none
      | .da p v _ e r xs, _ => bif isEl E T e && Nat.beq (get A p).1 v then bnds lo hi xs.length fun _ => K [⟨d, false, .one (.da p v none e r (cutS xs lo hi))⟩] else none
      | _, .fz e r xs => bif isEl E T e then bnds lo hi xs.length fun _ => K [⟨d, false, .one (.fz e r (cutS xs lo hi))⟩] else none
      | _, _ => none)
    | _, _, _ => none
  | .buildSlice T n ps, some d => match E.ti T with
    | some ⟨.sl e r, false, _, _⟩ => bif Nat.beq n ps.size && Nat.ble (n * r.sz) 16777216 && (E.ti e).isSome then (match E.hint d with
      | none => bif noOw r then (match rowsP E A e r 0 ps.toList with
        | some (ys, us) => K (us ++ [⟨d, false, .one (.own e r ys)⟩])
        | none => none) else none
      | some r2 => bif decide (shp r2 = shp r) && allOw r2 then (match rowsD E A e r2 0 ps.toList with
        | some (ys, us) => K (us ++ [⟨d, false, .one (.own e r2 ys)⟩])
        | none => none) else none) else none
    | _ => none
  | .makeSlice T x y, some d => match E.ti T, opT E 0 A x, opT E 0 A y with
    | some ⟨.sl e r, false, _, _⟩, some (.one (.sc (.int .i64 n))), some (.one (.sc (.int .i64 m))) => (match E.ti e with
      | some te => bif zsame te.ty r && decide (n = m) then (bif decide (0 ≤ n) then (bif decide (n * te.by_ ≤ 140737488355328) then (match E.hint d with
        | none => K [⟨d, false, .one (.own e r (List.replicate n.toNat r.dflt))⟩]
        | some r2 => bif decide (shp r2 = shp r) then K [⟨d, false, .one (.own e r2 (List.replicate n.toNat r2.dflt))⟩] else none) else none) else none) else none
      | none => none)
    | _, _, _ => none
  | .call c, d => match c.callee with
    | .builtin .len => (match c.argTypes.toList, c.args.toList, d with
      | [T], [x], some d => (match opT E T A x with
        | some (.one y) => (match seen A y with
          | .sc (.string s) => bif isStr E T then K [⟨d, false, .one (.sc (.int .i64 (s.size : Int)))⟩] else none
          | .da p v _ e _ xs => bif isEl E T e && Nat.beq (get A p).1 v then K [⟨d, false, .one (.sc (.int .i64 (xs.length : Int)))⟩] else none
          | .fz e _ xs => bif isEl E T e then K [⟨d, false, .one (.sc (.int .i64 (xs.length : Int)))⟩] else none
          | .own e _ xs => bif isEl E T e then K [⟨d, false, .one (.sc (.int .i64 (xs.length : Int)))⟩] else none
          | _ => none)
        | _ => none)
      | _, _, _ => none)
    | .builtin .min => (match opsT E c.argTypes.toList A c.args.toList, d with
      | some (.one (.sc (.int k x)) :: l), some d => minMax false l k x fun u => K [⟨d, false, .one (.sc u)⟩]
      | _, _ => none)
    | .builtin .max => (match opsT E c.argTypes.toList A c.args.toList, d with
      | some (.one (.sc (.int k x)) :: l), some d => minMax true l k x fun u => K [⟨d, false, .one (.sc u)⟩]
      | _, _ => none)
    | .builtin .append => (match c.argTypes.toList, c.args.toList, d with
      | [T, T'], [x, y], some d => (match opT E T A x, opT E T' A y with
        | some (.one u), some (.one w) => (match seen A u with
          | .own e r xs => (match E.hint d with
            | some r2 => (match opT E T' (ups A (took u x)) y with
              | some (.one w2) => (match seen (ups A (took u x)) w2, castO r2 r xs, E.ti e with
                | .own e' r' ys, some xs2, some te => (match castO r2 r' ys with
                  | some ys2 => bif allOw r2 && Nat.beq e e' && isEl E T e && Nat.beq T T' then (bif Nat.ble ((xs2.length + ys2.length) * te.by_) 140737488355328 then
                      K (took u x ++ (took w2 y ++ [⟨d, false, .one (.own e r2 (xs2 ++ ys2))⟩])) else none) else none
                  | none => none)
                | _, _, _ => none)
              | _ => none)
            | none => bif noOw r then (match srcOf A w with
              | some ⟨e', r', ys⟩ => (match castL r r' ys, E.ti e with
                | some ys, some te => bif Nat.beq e e' && isEl E T e && Nat.beq T T' then (bif Nat.ble ((xs.length + ys.length) * te.by_) 140737488355328 then
                    K (took u x ++ [⟨d, false, .one (.own e r (xs ++ ys))⟩]) else none) else none
                | _, _ => none)
              | none => (match w with
                | .sc (.string s) => (match castL r (.i .u8) (bytesOf s), E.ti e with
                  | some ys, some ⟨.i .u8, false, 1, _⟩ => bif isEl E T e && isStr E T' && Nat.ble ((xs.length + s.size) * 1) 140737488355328 then
                    K (took u x ++ [⟨d, false, .one (.own e r (xs ++ ys))⟩]) else none
                  | _, _ => none)
                | _ => none)) else none)
          | _ => none)
        | _, _ => none)
      | _, _, _ => none)
    | .value (.func f) => (match E.call f, opsT E c.argTypes.toList A c.args.toList with
      | some en, some ss => callF E c.argTypes.toList A en c.args.toList ss d K
      | _, _ => none)
    | _ => none
  | _, _ => none

/-! ### Code -/
def dstIn (E : En) (o : Oper) : Bool := match o.dst with
  | some d => Nat.blt d E.nt
  | none => true
def dstAt (ops : List Oper) (j : Nat) : Option Nat := match nth ops j with
  | some o => o.dst
  | none => none
/-- An operation that is not wanted. -/
def skipO (o : Oper) (A : Ab) : Ab := match o.dst with
  | some d => up A ⟨d, false, .one .un⟩
  | none => A
def lit (A : Ab) (d n : Nat) (v : Bool) : Ab := (d, n, .one (.sc (.bool v))) :: A

def evOps (E : En) (ops : List Oper) : List Nat → Ab → (Ab → Option R) → Option R
  | [], A, K => K A
  | i :: l, A, K => match nth ops i with
    | none => none
    | some o => bif dstIn E o then (match o.guard with
      | none => step E o A fun U => evOps E ops l (ups A U) K
      | some (j, want) => (match dstAt ops j with
        | none => none
        | some dj => bif Nat.blt dj E.nt then (match get A dj with
          | (n, .one (.sc (.bool b))) =>
            bif b then (bif want then step E o (lit A dj n true) fun U => evOps E ops l (ups (lit A dj n true) U) K else evOps E ops l (skipO o (lit A dj n true)) K)
            else (bif want then evOps E ops l (skipO o (lit A dj n false)) K else step E o (lit A dj n false) fun U => evOps E ops l (ups (lit A dj n false) U) K)
          | (_, .one .un) => evOps E ops l (skipO o A) K
          | _ => none) else none))
      else none

/-! ### A region whose order is drawn: in text order; what is not ordered touches other places -/
def rdC (A : Ab) (b : Nat) : Nat → Nat → List Nat
  | _, 0 => []
  | j, n + 1 => C b j :: ((match (get A (C b j)).2 with
    | .one (.al p _) => [p]
    | _ => []) ++ rdC A b (j + 1) n)
/-- The places that a leaf leads to. -/
def rdL (A : Ab) : Lf → List Nat
  | .al p _ => [p]
  | .ep p _ _ _ => [p]
  | .da p _ _ _ _ _ => [p]
  | .dp p _ _ _ _ _ _ _ => [p]
  | .bp b _ _ => H b :: (match (get A (H b)).2 with
    | .one (.hd n) => rdC A b 0 n
    | _ => [])
  | _ => []
def rdLs (A : Ab) : List Lf → List Nat
  | [] => []
  | y :: l => rdL A y ++ rdLs A l
def rdO (A : Ab) : Operand → List Nat
  | .tmp t => t :: rdLs A (parts (get A t).2)
  | _ => []
def rdOs (A : Ab) : List Operand → List Nat
  | [] => []
  | x :: l => rdO A x ++ rdOs A l
def opsOf : Op → List Operand
  | .move x | .assign x | .unOp _ _ x | .convert _ _ x | .nilCheck x | .extract x _ | .field _ x _ | .box _ x | .load _ x | .fieldAddr _ x _ => [x]
  | .pick c x y => [c, x, y]
  | .binOp _ _ x y _ | .store _ x y | .makeSlice _ x y | .indexAddr _ x y | .index _ x y => [x, y]
  | .build _ ps | .buildSlice _ _ ps => ps.toList.map Prod.snd
  | .slice _ x lo hi _ => x :: (lo.toList ++ hi.toList)
  | .call c => c.args.toList
  | _ => []
def rdD : Option Nat → List Nat
  | some d => [d, H d]
  | none => []
/-- Of a pointer that is not followed. -/
def rdH : Lf → List Nat
  | .bp b _ _ => [H b]
  | .ep p _ _ _ => [p]
  | .dp p _ _ _ _ _ _ _ => [p]
  | _ => []
def rdHs : List Lf → List Nat
  | [] => []
  | y :: l => rdH y ++ rdHs l
def rdP (A : Ab) : Operand → List Nat
  | .tmp t => t :: rdHs (parts (get A t).2)
  | _ => []
def rdT : Operand → List Nat
  | .tmp t => [t]
  | _ => []
def rdOp (A : Ab) : Op → List Nat
  | .move x => rdT x
  | .nilCheck x | .fieldAddr _ x _ => rdP A x
  | op => rdOs A (opsOf op)
/-- The places that an operation reads. -/
def rds (A : Ab) (o : Oper) : List Nat := rdD o.dst ++ rdOp A o.op

structure Lg where
  i : Nat
  anc : Nat
  F : List Nat
  W : List Nat
  ex : Option (Nat × Nat × Nat)

def memN (p : Nat) : List Nat → Bool
  | [] => false
  | q :: l => Nat.beq q p || memN p l
def disj : List Nat → List Nat → Bool
  | [], _ => true
  | p :: l, m => !(memN p m) && disj l m
def indep (x y : Lg) : Bool := (disj x.W y.F && disj y.W x.F) || (match x.ex, y.ex with
  | some (t, j, d), some (t', j', d') => Nat.beq t t' && !(Nat.beq j j') && !(Nat.beq d d') && !(Nat.beq d t) && !(Nat.beq d' t)
  | _, _ => false)
def aft (o : Oper) : List Nat := o.after.toList.filterMap fun e => bif Region.binds .any e then some e.on else none
/-- All that comes before, as a number's bits. -/
def ancAt : List Lg → Nat → Nat
  | [], _ => 0
  | x :: l, j => bif Nat.beq x.i j then x.anc else ancAt l j
def ancL (lg : List Lg) : List Nat → Nat
  | [] => 0
  | j :: l => (2 ^ j ||| ancAt lg j) ||| ancL lg l
def lgOk (l : List Lg) (y : Lg) : Bool := l.all fun x => Nat.testBit y.anc x.i || indep x y
def exOf (o : Oper) : Option (Nat × Nat × Nat) := match o.op, o.dst with
  | .extract (.tmp t) j, some d => some (t, j, d)
  | _, _ => none
def lgOf (o : Oper) (i : Nat) (lg : List Lg) (g : List Nat) (A : Ab) (U : List Up) : Lg := ⟨i, ancL lg (aft o), g ++ rds A o ++ U.map Up.l, U.map Up.l, bif g.isEmpty then exOf o else none⟩
def lgSkip (o : Oper) (i : Nat) (lg : List Lg) (g : List Nat) : Lg := ⟨i, ancL lg (aft o), g ++ o.dst.toList, o.dst.toList, none⟩

def evDrawOps (E : En) (ops : List Oper) : List Nat → List Lg → Ab → (Ab → Option R) → Option R
  | [], _, A, K => K A
  | i :: l, lg, A, K => match nth ops i with
    | none => none
    | some o => bif dstIn E o && (aft o).all (fun j => Nat.blt j i) then (match o.guard with
      | none => step E o A fun U => bif lgOk lg (lgOf o i lg [] A U) then evDrawOps E ops l (lgOf o i lg [] A U :: lg) (ups A U) K else none
      | some (j, want) => (match dstAt ops j with
        | none => none
        | some dj => bif Nat.blt dj E.nt then (match get A dj with
          | (n, .one (.sc (.bool b))) =>
            bif b then (bif want then step E o (lit A dj n true) fun U => bif lgOk lg (lgOf o i lg [dj] (lit A dj n true) U) then evDrawOps E ops l (lgOf o i lg [dj] (lit A dj n true) U :: lg) (ups (lit A dj n true) U) K else none
              else bif lgOk lg (lgSkip o i lg [dj]) then evDrawOps E ops l (lgSkip o i lg [dj] :: lg) (skipO o (lit A dj n true)) K else none)
            else (bif want then bif lgOk lg (lgSkip o i lg [dj]) then evDrawOps E ops l (lgSkip o i lg [dj] :: lg) (skipO o (lit A dj n false)) K else none
              else step E o (lit A dj n false) fun U => bif lgOk lg (lgOf o i lg [dj] (lit A dj n false) U) then evDrawOps E ops l (lgOf o i lg [dj] (lit A dj n false) U :: lg) (ups (lit A dj n false) U) K else none)
          | (_, .one .un) => bif lgOk lg (lgSkip o i lg [dj]) then evDrawOps E ops l (lgSkip o i lg [dj] :: lg) (skipO o A) K else none
          | _ => none) else none))
      else none

/-- A region whose order is drawn. -/
def evDraw (E : En) (ops : List Oper) (A : Ab) (K : Ab → Option R) : Option R := evDrawOps E ops (List.range ops.length) [] A K

def first : Code → Nat
  | .region id _ _ => id
  | .seq a _ => first a
  | .block _ c => first c
  | .loop c => first c
  | .scope c => first c
  | .cond _ a _ => first a
  | _ => 0

def keptOw (vs : List (Nat × Ty)) (p : Nat) : Bool := vs.any (fun x => Nat.beq x.1 p && (match x.2 with | .ow _ _ => true | _ => false))
def isOw : Ty → Bool
  | .ow _ _ => true
  | _ => false

/-- A leaf that is kept for later, at a place. -/
def absV (A : Ab) (vs : List (Nat × Ty)) (l : Nat) (t : Ty) : Option t.den :=
  match (get A l).2 with
  | .one (.al p v) => bif keptOw vs p then none else mkW t [calm (seen A (.al p v))]
  | .one (.own e r xs) => bif isOw t then mkW t [.own e r xs] else bif keptOw vs l then none else mkW t [.fz e r xs]
  | .one x => mkW t [x]
  | _ => none

def absVs (A : Ab) (all : List (Nat × Ty)) : (vs : List (Nat × Ty)) → Option (Den (vs.map Prod.snd))
  | [] => some ()
  | [v] => absV A all v.1 v.2
  | v :: w :: l => match absV A all v.1 v.2 with
    | some x => (match absVs A all (w :: l) with
      | some y => some (x, y)
      | none => none)
    | none => none

def absC (A : Ab) : List (Nat × Lf) → Bool
  | [] => true
  | (l, .bp b v0 off) :: cs => (match get A l with
    | (_, .one (.bp b' v off')) => Nat.beq v0 0 && Nat.beq b b' && Nat.beq off off' && (match get A (H b) with
      | (n, .one (.hd _)) => Nat.beq n v
      | _ => false)
    | _ => false) && absC A cs
  | (l, .hd m) :: cs => (match get A l with
    | (_, .one (.hd m')) => Nat.beq m m'
    | _ => false) && absC A cs
  | _ => false

def absL (v : Live) (A : Ab) : Option v.den := bif absC A v.cs then absVs A v.vs v.vs else none

def concVs : (vs : List (Nat × Ty)) → Den (vs.map Prod.snd) → Ab
  | [], _ => []
  | [v], x => (match leaves v.2 x with | [y] => [(v.1, 0, .one y)] | _ => [])
  | v :: w :: l, x => (match leaves v.2 x.1 with | [y] => [(v.1, 0, .one y)] | _ => []) ++ concVs (w :: l) x.2
def concL (v : Live) (x : v.den) : Ab := concVs v.vs x ++ v.cs.map fun c => (c.1, 0, .one c.2)

def altK (K : Ex → Ab → Option R) : (l : List (Ex × Live)) → AltD l → Option R
  | [], x => nomatch x
  | [a], x => K a.1 (concL a.2 x)
  | a :: b :: l, x => Sum.elim (fun y => K a.1 (concL a.2 y)) (fun z => altK K (b :: l) z) x

def exB : Ex → Ex → Bool
  | .normal, .normal => true
  | .exit i, .exit j => Nat.beq i j
  | .ret, .ret => true
  | _, _ => false

def altOf (e : Ex) (A : Ab) : (l : List (Ex × Live)) → Option (AltD l)
  | [] => none
  | [a] => bif exB e a.1 then absL a.2 A else none
  | a :: b :: l => bif exB e a.1 then (match absL a.2 A with | some x => some (.inl x) | none => none) else (match altOf e A (b :: l) with | some x => some (.inr x) | none => none)

def evCode (E : En) : Code → Ab → (Ex → Ab → Option R) → Option R
  | .skip, A, K => K .normal A
  | .region _ ops draw, A, K => bif draw then evDraw E ops.toList A (K .normal) else evOps E ops.toList (List.range ops.size) A (K .normal)
  | .seq a b, A, K => evCode E a A fun e A' => match e with
    | .normal => evCode E b A' K
    | e => K e A'
  | .cond c x y, A, K => match opT E 0 A c with
    | some (.one (.sc (.bool b))) => bif b then evCode E x A K else evCode E y A K
    | _ => none
  | .block id c, A, K => evCode E c A fun e A' => match e with
    | .exit i => bif Nat.beq i id then K .normal A' else K (.exit i) A'
    | e => K e A'
  | .loop c, A, K => match E.lp (first c) with
    | some L => (match absL L.ins A with
      | some x => (L.run x).bind fun r => altK K L.alts r
      | none => none)
    | none => none
  | .exit id, A, K => K (.exit id) A
  | .ret, A, K => K .ret A
  | _, _, _ => none

/-- The body of the loop with this number. -/
def loopAt (l : Nat) : Code → Code
  | .seq a b => match loopAt l a with
    | .skip => loopAt l b
    | c => c
  | .cond _ a b => match loopAt l a with
    | .skip => loopAt l b
    | c => c
  | .block _ c => loopAt l c
  | .loop c => bif Nat.beq (first c) l then c else loopAt l c
  | _ => .skip

/-- A loop's round: from its head back to it, or to one of its ends. -/
def evLoop (E : En) (L : Lp) (c : Code) (x : L.ins.den) : Option (AltD L.alts) :=
  evCode E c (concL L.ins x) fun e A => match e with
    | .normal => (match absL L.ins A with
      | some y => L.run y
      | none => none)
    | e => altOf e A L.alts

/-! ### A function -/
def oneL : List Lf → Lf
  | [x] => x
  | _ => .dead

def startP : Nat → List Par → List (List Lf) → Ab
  | i, .val ag _ :: ps, l :: ls => (i, 0, (bif ag then .agg l else .one (oneL l))) :: startP (i + 1) ps ls
  | i, .ptr t _ :: ps, l :: ls => (i, 0, .one (.bp i 0 0)) :: (H i, 0, .one (.hd t.sz)) :: (ups [] (putCells i 0 l) ++ startP (i + 1) ps ls)
  | _, _, _ => []

def start (ps : List Par) (x : Den (ps.map Par.ty)) : Ab := startP 0 ps (leavesD _ x)

/-- A result: its leaves, and what it costs. -/
def resOf (np : Nat) (A : Ab) (k : RK) (t : Ty) (x : Operand) (s : Sv) : Option (List Lf × List Up) := match k with
  | .ptr => (match s with
    | .one (.bp b v 0) => (match get A (H b) with
      | (n, .one (.hd m)) => bif Nat.beq n v && Nat.ble np b && noOw t && Nat.beq m t.sz && Nat.blt m 999 && storable ((cellsOf A b 0 m).map (kept A)) then some ((cellsOf A b 0 m).map (kept A), costs A (cellsOf A b 0 m) ++ [⟨H b, true, .one .dead⟩]) else none
      | _ => none)
    | _ => none)
  | k => bif noOw t then (bif formOk (isAggK k) s && storable ((parts s).map (kept A)) then some (((parts s).map (kept A)).map calm, costs A (parts s) ++ gone x s) else none)
    else bif noSl t && formOk (isAggK k) s then (match give A x s with
      | some (m, us) => bif owned m then some (m, us) else none
      | none => none) else none

/-- A result that stands in a box. -/
def resCell (np : Nat) (A : Ab) (t : Ty) : Sv → Option (List Lf × List Up)
  | .one (.bp b v 0) => (match get A (H b) with
    | (n, .one (.hd m)) => bif Nat.beq n v && Nat.beq m t.sz && Nat.ble np b then
        (bif noOw t then (bif storable ((cellsOf A b 0 m).map (kept A)) then some ((cellsOf A b 0 m).map (kept A), costs A (cellsOf A b 0 m)) else none)
         else bif noSl t && storable (rawOf A b 0 m) then some (rawOf A b 0 m, ⟨H b, true, .one .dead⟩ :: putCells b 0 (List.replicate m .dead)) else none) else none
    | _ => none)
  | _ => none

def resL (E : En) : Ab → List (RK × Ty) → List ResultVar → Option (List (List Lf) × List Up)
  | _, [], [] => some ([], [])
  | A, (k, t) :: ks, .tmp x :: rs => bif Nat.blt x E.nt then (match resOf E.np A k t (.tmp x) (get A x).2 with
    | some (l, u) => (match resL E (ups A u) ks rs with
      | some (ls, us) => some (l :: ls, u ++ us)
      | none => none)
    | none => none) else none
  | A, (.agg, t) :: ks, .cell x T :: rs => bif Nat.blt x E.nt && (match E.ti T with | some ti => ti.ag && Nat.beq ti.ty.sz t.sz | none => false) then (match resCell E.np A t (get A x).2 with
    | some (l, u) => (match resL E (ups A u) ks rs with
      | some (ls, us) => some (l :: ls, u ++ us)
      | none => none)
    | none => none) else none
  | _, _, _ => none

def ptrL : Ab → Nat → List Par → Option (List (List Lf))
  | _, _, [] => some []
  | A, i, .val _ _ :: ps => ptrL A (i + 1) ps
  | A, i, .ptr t t' :: ps => match get A (H i) with
    | (_, .one (.hd m)) => bif Nat.beq m t.sz && Nat.beq m t'.sz && noOw t' && storable ((cellsOf A i 0 m).map (kept A)) then (match ptrL (ups A (costs A (cellsOf A i 0 m))) (i + 1) ps with
      | some ls => some ((cellsOf A i 0 m).map (kept A) :: ls)
      | none => none) else none
    | _ => none

/-- What a body comes to. -/
def evBody (E : En) (c : Code) (rv : List ResultVar) (en : Ent) (x : Den (en.ps.map Par.ty)) : Option (Den (en.rs.map Prod.snd ++ ptrOuts en.ps)) :=
  evCode E c (start en.ps x) fun e A => match e with
    | .exit _ => none
    | _ => match resL E A en.rs rv with
      | some (ls, us) => (match ptrL (ups A us) 0 en.ps with
        | some bs => mkDen (en.rs.map Prod.snd ++ ptrOuts en.ps) (ls ++ bs)
        | none => none)
      | none => none
end
end Go.Proofs.Ytehkignjdbkeiaa.Vf
end

section
/- What an abstract content means: readings of cells, frozen and owned. -/
namespace Go.Proofs.Ytehkignjdbkeiaa.Vf
open Go

def CellsAt (w : World) (k o : Nat) (cs : List Value) : Prop := ∀ j u, cs[j]? = some u → w.cell? ⟨k, o + j, none⟩ = some u

def Rows {α : Type} (R : α → List Value → Prop) : List α → List Value → Prop
  | [], cs => cs = []
  | x :: xs, cs => ∃ c d, cs = c ++ d ∧ R x c ∧ Rows R xs d

def SzOk (P : Program) (e : TypeId) (n : Nat) : Prop := (P.info? e).map (fun i => i.size) = some n

/-- A slice that reads as a list. -/
def SlRep {α : Type} (G : Nat → Prop) (w : World) (R : α → List Value → Prop) (xs : List α) (v : Value) : Prop :=
  ∃ a cap cs, v = .slice a xs.length cap ∧ xs.length ≤ cap ∧ Rows R xs cs ∧ (xs ≠ [] → ∃ k o, a = some ⟨k, o, none⟩ ∧ G k ∧ CellsAt w k o cs)

def Ty.rep (P : Program) (G : Nat → Prop) (w : World) : (t : Ty) → t.den → List Value → Prop
  | .i k, n, vs => vs = [.int k n]
  | .b, x, vs => vs = [.bool x]
  | .s, x, vs => vs = [.string x]
  | .sl e r, xs, vs => ∃ v, vs = [v] ∧ SzOk P e r.sz ∧ SlRep G w (fun x c => r.rep P G w x c) xs v
  | .ow e r, xs, vs => ∃ v, vs = [v] ∧ SzOk P e r.sz ∧ SlRep G w (fun x c => r.rep P G w x c) xs v
  | .pr x y, p, vs => ∃ c d, vs = c ++ d ∧ x.rep P G w p.1 c ∧ y.rep P G w p.2 d

section
variable {P : Program} {G G' : Nat → Prop} {w w' : World} {α : Type}

theorem cell_same {k : Nat} (h : w'.heap[k]? = w.heap[k]?) (o : Nat) : w'.cell? ⟨k, o, none⟩ = w.cell? ⟨k, o, none⟩ := by
  simp [World.cell?, h]

theorem CellsAt.mono {k o : Nat} {cs : List Value} (h : CellsAt w k o cs) (hs : w'.heap[k]? = w.heap[k]?) : CellsAt w' k o cs :=
  fun j u hu => (cell_same hs _).trans (h j u hu)

theorem Rows.mono {R R' : α → List Value → Prop} (hR : ∀ x c, R x c → R' x c) : ∀ {xs : List α} {cs : List Value}, Rows R xs cs → Rows R' xs cs
  | [], _, h => h
  | _ :: _, _, ⟨c, d, e, h1, h2⟩ => ⟨c, d, e, hR _ _ h1, h2.mono hR⟩

theorem SlRep.mono {R R' : α → List Value → Prop} {xs : List α} {v : Value} (h : SlRep G w R xs v) (hR : ∀ x c, R x c → R' x c) (hG : ∀ k, G k → G' k)
    (hw : ∀ k, G k → w'.heap[k]? = w.heap[k]?) : SlRep G' w' R' xs v := by
  obtain ⟨a, cap, cs, e, hc, hr, hx⟩ := h
  refine ⟨a, cap, cs, e, hc, hr.mono hR, fun hn => ?_⟩
  obtain ⟨k, o, ea, hk, hcs⟩ := hx hn
  exact ⟨k, o, ea, hG k hk, hcs.mono (hw k hk)⟩

theorem Ty.rep_mono (hG : ∀ k, G k → G' k) (hw : ∀ k, G k → w'.heap[k]? = w.heap[k]?) : ∀ (t : Ty) (x : t.den) (vs : List Value), t.rep P G w x vs → t.rep P G' w' x vs
  | .i _, _, _, h => h
  | .b, _, _, h => h
  | .s, _, _, h => h
  | .sl _ r, _, _, ⟨v, e, hs, h⟩ => ⟨v, e, hs, h.mono (fun x c => Ty.rep_mono hG hw r x c) hG hw⟩
  | .ow _ r, _, _, ⟨v, e, hs, h⟩ => ⟨v, e, hs, h.mono (fun x c => Ty.rep_mono hG hw r x c) hG hw⟩
  | .pr x y, p, _, ⟨c, d, e, h1, h2⟩ => ⟨c, d, e, Ty.rep_mono hG hw x p.1 c h1, Ty.rep_mono hG hw y p.2 d h2⟩

theorem Ty.rep_len : ∀ (t : Ty) (x : t.den) (vs : List Value), t.rep P G w x vs → vs.length = t.sz
  | .i _, _, _, h => by subst h; rfl
  | .b, _, _, h => by subst h; rfl
  | .s, _, _, h => by subst h; rfl
  | .sl _ _, _, _, ⟨_, e, _⟩ => by subst e; rfl
  | .ow _ _, _, _, ⟨_, e, _⟩ => by subst e; rfl
  | .pr x y, p, _, ⟨c, d, e, h1, h2⟩ => by
    subst e
    rw [List.length_append, Ty.rep_len x p.1 c h1, Ty.rep_len y p.2 d h2]
    rfl

theorem Rows.len {R : α → List Value → Prop} {n : Nat} (hn : ∀ x c, R x c → c.length = n) : ∀ {xs : List α} {cs : List Value}, Rows R xs cs → cs.length = xs.length * n
  | [], _, h => by simp only [Rows] at h; subst h; simp
  | _ :: _, _, ⟨c, d, e, h1, h2⟩ => by
    subst e
    rw [List.length_append, hn _ _ h1, h2.len hn, List.length_cons, Nat.add_mul, Nat.one_mul, Nat.add_comm]

theorem Rows.get {R : α → List Value → Prop} {n : Nat} (hn : ∀ x c, R x c → c.length = n) : ∀ {xs : List α} {cs : List Value} (_ : Rows R xs cs) (i : Nat) (x : α), xs[i]? = some x → R x ((cs.drop (i * n)).take n)
  | [], _, _, i, x, hx => by simp at hx
  | y :: ys, _, ⟨c, d, e, h1, h2⟩, 0, x, hx => by
    simp at hx
    subst hx e
    have := hn _ _ h1
    simp only [Nat.zero_mul, List.drop_zero]
    rw [← this, List.take_left]
    exact h1
  | y :: ys, _, ⟨c, d, e, h1, h2⟩, i + 1, x, hx => by
    subst e
    have hl := hn _ _ h1
    rw [show (i + 1) * n = c.length + i * n by rw [hl, Nat.add_mul, Nat.one_mul, Nat.add_comm], ← List.drop_drop, List.drop_left]
    exact h2.get hn i x (by simpa using hx)

theorem Rows.append {R : α → List Value → Prop} : ∀ {xs ys : List α} {cs ds : List Value}, Rows R xs cs → Rows R ys ds → Rows R (xs ++ ys) (cs ++ ds)
  | [], _, _, _, h1, h2 => by simp only [Rows] at h1; subst h1; exact h2
  | _ :: _, _, _, _, ⟨c, d, e, h, h'⟩, h2 => by subst e; exact ⟨c, _, by rw [List.append_assoc], h, h'.append h2⟩

theorem Rows.set {R : α → List Value → Prop} {n : Nat} (hn : ∀ x c, R x c → c.length = n) : ∀ {xs : List α} {cs : List Value} (_ : Rows R xs cs) (i : Nat) (x : α) (c : List Value), i < xs.length → R x c →
    Rows R (xs.set i x) (cs.take (i * n) ++ c ++ cs.drop (i * n + n))
  | [], _, _, i, x, c, hi, _ => by simp at hi
  | y :: ys, _, ⟨c0, d, e, h1, h2⟩, 0, x, c, _, hc => by
    subst e
    have hl := hn _ _ h1
    refine ⟨c, d, ?_, hc, h2⟩
    simp only [Nat.zero_mul, List.take_zero, List.nil_append, Nat.zero_add, ← hl, List.drop_left]
  | y :: ys, _, ⟨c0, d, e, h1, h2⟩, i + 1, x, c, hi, hc => by
    subst e
    have hl := hn _ _ h1
    refine ⟨c0, _, ?_, h1, h2.set hn i x c (by simpa using hi) hc⟩
    have e1 : (i + 1) * n = c0.length + i * n := by rw [hl, Nat.add_mul, Nat.one_mul, Nat.add_comm]
    rw [e1, List.take_length_add_append, Nat.add_assoc, ← List.drop_drop, List.drop_left]
    simp [List.append_assoc]

theorem Rows.replicate {R : α → List Value → Prop} {x : α} {c : List Value} (h : R x c) : ∀ n, Rows R (List.replicate n x) (List.replicate n c).flatten
  | 0 => by simp [Rows]
  | n + 1 => ⟨c, _, by simp [List.replicate_succ], h, Rows.replicate h n⟩

theorem Rows.take {R : α → List Value → Prop} {n : Nat} (hn : ∀ x c, R x c → c.length = n) : ∀ {xs : List α} {cs : List Value} (_ : Rows R xs cs) (k : Nat), Rows R (xs.take k) (cs.take (k * n))
  | [], _, h, k => by simp only [Rows] at h; subst h; simp [Rows]
  | _ :: _, _, ⟨c, d, e, h1, h2⟩, 0 => by simp [Rows]
  | _ :: _, _, ⟨c, d, e, h1, h2⟩, k + 1 => by
    subst e
    have hl := hn _ _ h1
    refine ⟨c, _, ?_, h1, h2.take hn k⟩
    rw [show (k + 1) * n = c.length + k * n by rw [hl, Nat.add_mul, Nat.one_mul, Nat.add_comm], List.take_length_add_append]

theorem Rows.drop {R : α → List Value → Prop} {n : Nat} (hn : ∀ x c, R x c → c.length = n) : ∀ {xs : List α} {cs : List Value} (_ : Rows R xs cs) (k : Nat), Rows R (xs.drop k) (cs.drop (k * n))
  | [], _, h, k => by simp only [Rows] at h; subst h; simp [Rows]
  | _ :: _, _, h@⟨c, d, e, h1, h2⟩, 0 => by simpa using h
  | _ :: _, _, ⟨c, d, e, h1, h2⟩, k + 1 => by
    subst e
    have hl := hn _ _ h1
    have e1 : List.drop ((k + 1) * n) (c ++ d) = List.drop (k * n) d := by
      rw [show (k + 1) * n = c.length + k * n by rw [hl, Nat.add_mul, Nat.one_mul, Nat.add_comm], ← List.drop_drop, List.drop_left]
    rw [e1]
    exact h2.drop hn k

/-! ### Leaves that anybody may read -/
def LfRep (P : Program) (G : Nat → Prop) (w : World) : Lf → Value → Prop
  | .sc v, u => u = v ∧ isSc v = true
  | .fz e r xs, u => (Ty.sl e r).rep P G w xs [u]
  | _, _ => False

inductive All2 {β γ : Type} (R : β → γ → Prop) : List β → List γ → Prop
  | nil : All2 R [] []
  | cons {x : β} {y : γ} {xs : List β} {ys : List γ} : R x y → All2 R xs ys → All2 R (x :: xs) (y :: ys)

theorem All2.append {β γ : Type} {R : β → γ → Prop} {xs xs' : List β} {ys ys' : List γ} (h : All2 R xs ys) (h' : All2 R xs' ys') : All2 R (xs ++ xs') (ys ++ ys') := by
  induction h with
  | nil => exact h'
  | cons a _ ih => exact .cons a ih
theorem All2.len {β γ : Type} {R : β → γ → Prop} {xs : List β} {ys : List γ} (h : All2 R xs ys) : ys.length = xs.length := by
  induction h with
  | nil => rfl
  | cons _ _ ih => simp [ih]
theorem All2.imp {β γ : Type} {R R' : β → γ → Prop} {xs : List β} {ys : List γ} (h : All2 R xs ys) (hi : ∀ x y, R x y → R' x y) : All2 R' xs ys := by
  induction h with
  | nil => exact .nil
  | cons a _ ih => exact .cons (hi _ _ a) ih
theorem All2.drop {β γ : Type} {R : β → γ → Prop} {xs : List β} {ys : List γ} (h : All2 R xs ys) : ∀ n, All2 R (xs.drop n) (ys.drop n) := by
  induction h with
  | nil => intro n; cases n <;> exact .nil
  | cons a h ih => intro n; cases n with
    | zero => exact .cons a h
    | succ n => exact ih n
theorem All2.take {β γ : Type} {R : β → γ → Prop} {xs : List β} {ys : List γ} (h : All2 R xs ys) : ∀ n, All2 R (xs.take n) (ys.take n) := by
  induction h with
  | nil => intro n; cases n <;> exact .nil
  | cons a h ih => intro n; cases n with
    | zero => exact .nil
    | succ n => exact .cons a (ih n)

theorem lvs_len : ∀ (t : Ty) (x : t.den), (lvs t x).length = t.sz
  | .i _, _ => rfl
  | .b, _ => rfl
  | .s, _ => rfl
  | .sl _ _, _ => rfl
  | .ow _ _, _ => rfl
  | .pr x y, p => by
    show (lvs x p.1 ++ lvs y p.2).length = x.sz + y.sz
    rw [List.length_append, lvs_len x p.1, lvs_len y p.2]

theorem lvs_rep : ∀ (t : Ty) (x : t.den) (vs : List Value), t.rep P G w x vs → All2 (LfRep P G w) (lvs t x) vs
  | .i _, _, _, h => by subst h; exact .cons ⟨rfl, rfl⟩ .nil
  | .b, _, _, h => by subst h; exact .cons ⟨rfl, rfl⟩ .nil
  | .s, _, _, h => by subst h; exact .cons ⟨rfl, rfl⟩ .nil
  | .sl _ _, _, _, ⟨_, e, h⟩ => by subst e; exact .cons ⟨_, rfl, h⟩ .nil
  | .ow _ _, _, _, ⟨_, e, h⟩ => by subst e; exact .cons ⟨_, rfl, h⟩ .nil
  | .pr x y, p, _, ⟨c, d, e, h1, h2⟩ => by subst e; exact (lvs_rep x p.1 c h1).append (lvs_rep y p.2 d h2)

theorem cast_list {α β : Type} (h : α = β) (xs : List α) : cast (congrArg List h) xs = xs.map (cast h) := by
  subst h
  show xs = List.map (fun x => x) xs
  simp

theorem Rows.map {β : Type} {R : α → List Value → Prop} {R' : β → List Value → Prop} {f : α → β} (hR : ∀ x c, R x c → R' (f x) c) : ∀ {xs : List α} {cs : List Value}, Rows R xs cs → Rows R' (xs.map f) cs
  | [], _, h => h
  | _ :: _, _, ⟨c, d, e, h1, h2⟩ => ⟨c, d, e, hR _ _ h1, h2.map hR⟩

theorem Rows.unmap {β : Type} {R : α → List Value → Prop} {R' : β → List Value → Prop} {f : α → β} (hR : ∀ x c, R' (f x) c → R x c) : ∀ {xs : List α} {cs : List Value}, Rows R' (xs.map f) cs → Rows R xs cs
  | [], _, h => h
  | _ :: _, _, ⟨c, d, e, h1, h2⟩ => ⟨c, d, e, hR _ _ h1, h2.unmap hR⟩

theorem shp_sz : ∀ t : Ty, (shp t).sz = t.sz
  | .i _ => rfl
  | .b => rfl
  | .s => rfl
  | .sl _ _ => rfl
  | .ow _ _ => rfl
  | .pr x y => by show (shp x).sz + (shp y).sz = x.sz + y.sz; rw [shp_sz x, shp_sz y]

theorem SlRep.map {β : Type} {R : α → List Value → Prop} {R' : β → List Value → Prop} {f : α → β} {xs : List α} {v : Value} (hR : ∀ x c, R x c ↔ R' (f x) c) : SlRep G w R xs v ↔ SlRep G w R' (xs.map f) v := by
  constructor
  · rintro ⟨a, cap, cs, e, hc, hr, hx⟩
    exact ⟨a, cap, cs, by rw [List.length_map]; exact e, by rw [List.length_map]; exact hc, hr.map (fun x c => (hR x c).1), fun hn => hx (by intro e; subst e; simp at hn)⟩
  · rintro ⟨a, cap, cs, e, hc, hr, hx⟩
    rw [List.length_map] at e hc
    exact ⟨a, cap, cs, e, hc, hr.unmap (fun x c => (hR x c).2), fun hn => hx (by intro e; rw [List.map_eq_nil_iff] at e; exact hn e)⟩

theorem fst_cast {α α' β β' : Type} (h1 : α = α') (h2 : β = β') (h : (α × β) = (α' × β')) (x : α × β) : (cast h x).1 = cast h1 x.1 ∧ (cast h x).2 = cast h2 x.2 := by
  subst h1 h2
  exact ⟨rfl, rfl⟩

/-- Reading does not ask who owns. -/
theorem rep_shp : ∀ (t : Ty) (x : t.den) (vs : List Value), t.rep P G w x vs ↔ (shp t).rep P G w (cast (shp_den t).symm x) vs
  | .i _, _, _ => Iff.rfl
  | .b, _, _ => Iff.rfl
  | .s, _, _ => Iff.rfl
  | .sl e r, xs, vs => by
    have hc : cast (shp_den (.sl e r)).symm xs = List.map (cast (shp_den r).symm) xs := cast_list (shp_den r).symm xs
    rw [hc]
    show (∃ v, vs = [v] ∧ SzOk P e r.sz ∧ SlRep G w (fun x c => r.rep P G w x c) xs v) ↔ (∃ v, vs = [v] ∧ SzOk P e (shp r).sz ∧ SlRep G w (fun x c => (shp r).rep P G w x c) _ v)
    rw [shp_sz r]
    exact exists_congr fun v => and_congr_right fun _ => and_congr_right fun _ => SlRep.map (fun x c => rep_shp r x c)
  | .ow e r, xs, vs => by
    have hc : cast (shp_den (.ow e r)).symm xs = List.map (cast (shp_den r).symm) xs := cast_list (shp_den r).symm xs
    rw [hc]
    show (∃ v, vs = [v] ∧ SzOk P e r.sz ∧ SlRep G w (fun x c => r.rep P G w x c) xs v) ↔ (∃ v, vs = [v] ∧ SzOk P e (shp r).sz ∧ SlRep G w (fun x c => (shp r).rep P G w x c) _ v)
    rw [shp_sz r]
    exact exists_congr fun v => and_congr_right fun _ => and_congr_right fun _ => SlRep.map (fun x c => rep_shp r x c)
  | .pr x y, p, vs => by
    obtain ⟨e1, e2⟩ := fst_cast (shp_den x).symm (shp_den y).symm (shp_den (.pr x y)).symm p
    show (∃ c d, vs = c ++ d ∧ x.rep P G w p.1 c ∧ y.rep P G w p.2 d) ↔ (∃ c d, vs = c ++ d ∧ (shp x).rep P G w (cast (shp_den (.pr x y)).symm p).1 c ∧ (shp y).rep P G w (cast (shp_den (.pr x y)).symm p).2 d)
    have key : ∀ (q : (shp x).den × (shp y).den), q.1 = cast (shp_den x).symm p.1 → q.2 = cast (shp_den y).symm p.2 → ((∃ c d, vs = c ++ d ∧ x.rep P G w p.1 c ∧ y.rep P G w p.2 d) ↔ ∃ c d, vs = c ++ d ∧ (shp x).rep P G w q.1 c ∧ (shp y).rep P G w q.2 d) := by
      intro q h1 h2
      rw [h1, h2]
      exact exists_congr fun c => exists_congr fun d => and_congr_right fun _ => and_congr (rep_shp x p.1 c) (rep_shp y p.2 d)
    exact key _ e1 e2

theorem rep_eq {t u : Ty} (h : u = t) (h2 : u.den = t.den) (x : u.den) (vs : List Value) : u.rep P G w x vs ↔ t.rep P G w (cast h2 x) vs := by
  subst h
  exact Iff.rfl

theorem rep_of {t u : Ty} (h : shp u = shp t) (x : u.den) (vs : List Value) : u.rep P G w x vs ↔ t.rep P G w (cast (den_of h) x) vs := by
  rw [rep_shp u x vs, rep_shp t _ vs, rep_eq h (congrArg Ty.den h) _ vs]
  simp only [cast_cast]

theorem castL_some {r r' : Ty} {xs : List r'.den} {ys : List r.den} (h : castL r r' xs = some ys) : ∃ e : shp r' = shp r, ys = xs.map (cast (den_of e)) := by
  unfold castL at h
  split at h
  · rename_i e
    simp only [Option.some.injEq] at h
    exact ⟨e, by rw [← h]; exact cast_list (den_of e) xs⟩
  · cases h

theorem castL_rows {r r' : Ty} {xs : List r'.den} {ys : List r.den} {cs : List Value} (h : castL r r' xs = some ys) (hr : Rows (fun x c => r'.rep P G w x c) xs cs) : Rows (fun x c => r.rep P G w x c) ys cs ∧ ys.length = xs.length := by
  obtain ⟨e, rfl⟩ := castL_some h
  exact ⟨hr.map (fun x c hx => (rep_of e x c).1 hx), by rw [List.length_map]⟩

theorem castL_rep {r r' : Ty} {e : TypeId} {xs : List r'.den} {ys : List r.den} {vs : List Value} (h : castL r r' xs = some ys) (hr : (Ty.sl e r').rep P G w xs vs) : (Ty.sl e r).rep P G w ys vs := by
  obtain ⟨e1, rfl⟩ := castL_some h
  obtain ⟨v, ev, hs, hr⟩ := hr
  have hsz : r'.sz = r.sz := by rw [← shp_sz r', e1, shp_sz r]
  exact ⟨v, ev, by rw [← hsz]; exact hs, (SlRep.map (fun x c => rep_of e1 x c)).1 hr⟩

theorem castO_some {r r' : Ty} {xs : List r'.den} {ys : List r.den} (h : castO r r' xs = some ys) : (∃ e : r' = r, ys = e ▸ xs) ∨ (shp r' = shp r ∧ xs = [] ∧ ys = []) := by
  unfold castO at h
  split at h
  · rename_i e
    exact .inl ⟨e, by simpa using h.symm⟩
  · split at h
    · rename_i e
      split at h
      · simp only [Option.some.injEq] at h
        exact .inr ⟨e, rfl, h.symm⟩
      · cases h
    · cases h

/-- Out of leaves that anybody may read comes a value that reads so. -/
theorem mkT_rep : ∀ (t : Ty) (l l' : List Lf) (x : t.den) (us : List Value), mkT t l = some (x, l') → All2 (LfRep P G w) l us →
    ∃ vs ws, us = vs ++ ws ∧ t.rep P G w x vs ∧ All2 (LfRep P G w) l' ws := by
  intro t
  induction t with
  | i k =>
    intro l l' x us h hl
    cases hl with
    | nil => simp [mkT] at h
    | @cons y u ys us' hy hys =>
      cases y <;> first | (simp [mkT] at h; done) | skip
      rename_i v
      cases v <;> first | (simp [mkT] at h; done) | skip
      rename_i k' n
      simp only [mkT] at h
      by_cases hk : k = k'
      · subst hk
        simp at h
        obtain ⟨rfl, rfl⟩ := h
        exact ⟨[u], us', rfl, by rw [hy.1]; rfl, hys⟩
      · simp [hk] at h
  | b =>
    intro l l' x us h hl
    cases hl with
    | nil => simp [mkT] at h
    | @cons y u ys us' hy hys =>
      cases y <;> first | (simp [mkT] at h; done) | skip
      rename_i v
      cases v <;> first | (simp [mkT] at h; done) | skip
      simp [mkT] at h
      obtain ⟨rfl, rfl⟩ := h
      exact ⟨[u], us', rfl, by rw [hy.1]; rfl, hys⟩
  | s =>
    intro l l' x us h hl
    cases hl with
    | nil => simp [mkT] at h
    | @cons y u ys us' hy hys =>
      cases y <;> first | (simp [mkT] at h; done) | skip
      rename_i v
      cases v <;> first | (simp [mkT] at h; done) | skip
      simp [mkT] at h
      obtain ⟨rfl, rfl⟩ := h
      exact ⟨[u], us', rfl, by rw [hy.1]; rfl, hys⟩
  | sl e r _ =>
    intro l l' x us h hl
    cases hl with
    | nil => simp [mkT] at h
    | @cons y u ys us' hy hys =>
      cases y <;> first | (simp [mkT] at h; done) | exact hy.elim | skip
      rename_i e' r' xs
      simp only [mkT] at h
      cases he : Nat.beq e e' with
      | false => rw [he] at h; simp at h
      | true =>
        rw [he] at h
        simp only [cond_true] at h
        split at h
        · rename_i zs hz
          have : e = e' := by simpa using he
          subst this
          simp at h
          obtain ⟨rfl, rfl⟩ := h
          exact ⟨[u], us', rfl, castL_rep hz hy, hys⟩
        · cases h
  | ow e r _ =>
    intro l l' x us h hl
    cases hl with
    | nil => simp [mkT] at h
    | @cons y u ys us' hy hys =>
      cases y <;> first | (simp [mkT] at h; done) | exact hy.elim
  | pr x y ihx ihy =>
    intro l l' p us h hl
    simp only [mkT] at h
    split at h
    · rename_i a l1 h1
      split at h
      · rename_i b l2 h2
        simp at h
        obtain ⟨rfl, rfl⟩ := h
        obtain ⟨vs, ws, rfl, r1, hw1⟩ := ihx _ _ _ _ h1 hl
        obtain ⟨vs2, ws2, rfl, r2, hw2⟩ := ihy _ _ _ _ h2 hw1
        exact ⟨vs ++ vs2, ws2, by rw [List.append_assoc], ⟨vs, vs2, rfl, r1, r2⟩, hw2⟩
      · cases h
    · cases h

theorem mkW_rep {t : Ty} {l : List Lf} {x : t.den} {us : List Value} (h : mkW t l = some x) (hl : All2 (LfRep P G w) l us) : t.rep P G w x us := by
  unfold mkW at h
  split at h
  · rename_i y hy
    simp at h
    subst h
    obtain ⟨vs, ws, rfl, hr, hw⟩ := mkT_rep _ _ _ _ _ hy hl
    cases hw
    rw [List.append_nil]
    exact hr
  · cases h

theorem LfRep.mono {x : Lf} {u : Value} (h : LfRep P G w x u) (hG : ∀ k, G k → G' k) (hw : ∀ k, G k → w'.heap[k]? = w.heap[k]?) : LfRep P G' w' x u := by
  cases x <;> first | exact h | exact Ty.rep_mono hG hw _ _ _ h
end

/-! ### What is owned all the way down: rows with the blocks that belong to them -/
def DRows {α : Type} (R : α → List Value → List Nat → Prop) : List α → List Value → List Nat → Prop
  | [], cs, bs => cs = [] ∧ bs = []
  | x :: xs, cs, bs => ∃ c d b1 b2, cs = c ++ d ∧ bs = b1 ++ b2 ∧ R x c b1 ∧ DRows R xs d b2

def Ty.dep (P : Program) (G : Nat → Prop) (w : World) : (t : Ty) → t.den → List Value → List Nat → Prop
  | .i k, n, vs, bs => vs = [.int k n] ∧ bs = []
  | .b, x, vs, bs => vs = [.bool x] ∧ bs = []
  | .s, x, vs, bs => vs = [.string x] ∧ bs = []
  | .sl e r, xs, vs, bs => (Ty.sl e r).rep P G w xs vs ∧ bs = []
  | .ow e r, xs, vs, bs => ∃ v cs b2, vs = [v] ∧ SzOk P e r.sz ∧ w.ownsRow 0 e r.sz v xs.length cs ∧ DRows (fun x c b => r.dep P G w x c b) xs cs b2 ∧ bs = v.ownBlock.toList ++ b2
  | .pr x y, p, vs, bs => ∃ c d b1 b2, vs = c ++ d ∧ bs = b1 ++ b2 ∧ x.dep P G w p.1 c b1 ∧ y.dep P G w p.2 d b2

section
variable {P : Program} {G G' : Nat → Prop} {w w' : World} {α : Type}

theorem ownsRow_same {w w' : World} {e n m : Nat} {cs : List Value} {u : Value} (h : w.ownsRow 0 e n u m cs) (hk : ∀ k, u.ownBlock = some k → w'.heap[k]? = w.heap[k]?) : w'.ownsRow 0 e n u m cs := by
  refine ⟨h.1, ?_⟩
  rcases h.2 with hn | ⟨g, cap, cur, rfl, hb, hg, rest⟩
  · exact .inl hn
  · exact .inr ⟨g, cap, cur, rfl, hb, (hk g rfl).trans hg, rest⟩

theorem own_nil_or {w : World} {e n m : Nat} {cs : List Value} {u : Value} (h : w.ownsRow 0 e n u m cs) :
    (u = .slice none 0 0 ∧ m = 0 ∧ cs = []) ∨ ∃ k cap cur, u = .slice (some ⟨k, 0, none⟩) m cap ∧ w.heap[k]? = some (.cells cur e (0, 0)) ∧ m ≤ cap ∧ cap ≤ maxLen ∧ cur.size = cap * n ∧ cur.toList.take (m * n) = cs := by
  rcases h.2 with ⟨e1, e2⟩ | ⟨k, cap, cur, e1, _, e2, e3, e4, e5, e6⟩
  · refine .inl ⟨e1, e2, ?_⟩
    have := h.1
    rw [e2, Nat.zero_mul] at this
    exact List.eq_nil_of_length_eq_zero this
  · exact .inr ⟨k, cap, cur, e1, e2, e3, e4, e5, e6⟩

theorem cells_of_row {w : World} {k : Nat} {cur : Array Value} {e : TypeId} {f : Nat × Nat} {cs : List Value} {n : Nat} (h : w.heap[k]? = some (.cells cur e f)) (ht : cur.toList.take n = cs) : CellsAt w k 0 cs := by
  intro j u hu
  subst ht
  rw [List.getElem?_take] at hu
  split at hu
  · simp [World.cell?, h]
    simpa using hu
  · cases hu

theorem DRows.mono {R R' : α → List Value → List Nat → Prop} : ∀ {xs : List α} {cs : List Value} {bs : List Nat}, (∀ x c b, (∀ k ∈ b, k ∈ bs) → R x c b → R' x c b) → DRows R xs cs bs → DRows R' xs cs bs
  | [], _, _, _, h => h
  | _ :: _, _, _, hR, ⟨c, d, b1, b2, e1, e2, h1, h2⟩ => ⟨c, d, b1, b2, e1, e2, hR _ _ _ (fun k hk => by rw [e2]; exact List.mem_append_left _ hk) h1, h2.mono (fun x c b hb h => hR x c b (fun k hk => by rw [e2]; exact List.mem_append_right _ (hb k hk)) h)⟩

theorem Ty.dep_mono (hG : ∀ k, G k → G' k) (hw : ∀ k, G k → w'.heap[k]? = w.heap[k]?) : ∀ (t : Ty) (x : t.den) (vs : List Value) (bs : List Nat), (∀ k ∈ bs, w'.heap[k]? = w.heap[k]?) → t.dep P G w x vs bs → t.dep P G' w' x vs bs
  | .i _, _, _, _, _, h => h
  | .b, _, _, _, _, h => h
  | .s, _, _, _, _, h => h
  | .sl e r, xs, vs, _, _, ⟨h, hb⟩ => ⟨Ty.rep_mono hG hw (.sl e r) xs vs h, hb⟩
  | .ow _ r, _, _, bs, hb, ⟨v, cs, b2, e, hs, ho, hd, eb⟩ => ⟨v, cs, b2, e, hs, ownsRow_same ho (fun k hk => hb k (by rw [eb, hk]; simp)), hd.mono (fun x c b hbb h => Ty.dep_mono hG hw r x c b (fun k hk => hb k (by rw [eb]; exact List.mem_append_right _ (hbb k hk))) h), eb⟩
  | .pr x y, p, _, bs, hb, ⟨c, d, b1, b2, e, eb, h1, h2⟩ => ⟨c, d, b1, b2, e, eb, Ty.dep_mono hG hw x p.1 c b1 (fun k hk => hb k (by rw [eb]; exact List.mem_append_left _ hk)) h1, Ty.dep_mono hG hw y p.2 d b2 (fun k hk => hb k (by rw [eb]; exact List.mem_append_right _ hk)) h2⟩

theorem DRows.rows {R : α → List Value → List Nat → Prop} {R' : α → List Value → Prop} : ∀ {xs : List α} {cs : List Value} {bs : List Nat}, (∀ x c b, (∀ k ∈ b, k ∈ bs) → R x c b → R' x c) → DRows R xs cs bs → Rows R' xs cs
  | [], _, _, _, h => h.1
  | _ :: _, _, _, hR, ⟨c, d, b1, b2, e1, e2, h1, h2⟩ => ⟨c, d, e1, hR _ _ _ (fun k hk => by rw [e2]; exact List.mem_append_left _ hk) h1, h2.rows (fun x c b hb h => hR x c b (fun k hk => by rw [e2]; exact List.mem_append_right _ (hb k hk)) h)⟩

/-- What is owned is read by all, once its blocks may be. -/
theorem Ty.dep_rep (hG : ∀ k, G k → G' k) : ∀ (t : Ty) (x : t.den) (vs : List Value) (bs : List Nat), (∀ k ∈ bs, G' k) → t.dep P G w x vs bs → t.rep P G' w x vs
  | .i _, _, _, _, _, h => h.1
  | .b, _, _, _, _, h => h.1
  | .s, _, _, _, _, h => h.1
  | .sl e r, xs, vs, _, _, ⟨h, _⟩ => Ty.rep_mono hG (fun _ _ => rfl) (.sl e r) xs vs h
  | .ow e r, xs, _, bs, hb, ⟨v, cs, b2, ev, hs, ho, hd, eb⟩ => by
    have hr : Rows (fun x c => r.rep P G' w x c) xs cs := hd.rows (fun x c b hbb h => Ty.dep_rep hG r x c b (fun k hk => hb k (by rw [eb]; exact List.mem_append_right _ (hbb k hk))) h)
    refine ⟨v, ev, hs, ?_⟩
    rcases own_nil_or ho with ⟨rfl, hm, rfl⟩ | ⟨k, cap, cur, rfl, hg, hc, _, _, ht⟩
    · refine ⟨none, 0, [], ?_, by omega, hr, fun hn => ?_⟩
      · rw [hm]
      · exact absurd (List.eq_nil_of_length_eq_zero hm) hn
    · exact ⟨_, cap, cs, rfl, hc, hr, fun _ => ⟨k, 0, rfl, hb k (by rw [eb]; simp [Value.ownBlock]), cells_of_row hg ht⟩⟩
  | .pr x y, p, _, bs, hb, ⟨c, d, b1, b2, e, eb, h1, h2⟩ => ⟨c, d, e, Ty.dep_rep hG x p.1 c b1 (fun k hk => hb k (by rw [eb]; exact List.mem_append_left _ hk)) h1, Ty.dep_rep hG y p.2 d b2 (fun k hk => hb k (by rw [eb]; exact List.mem_append_right _ hk)) h2⟩

/-- Where nothing is owned, it is the plain reading. -/
theorem Ty.dep_flat : ∀ (t : Ty) (x : t.den) (vs : List Value) (bs : List Nat), noOw t = true → (t.dep P G w x vs bs ↔ t.rep P G w x vs ∧ bs = [])
  | .i _, _, _, _, _ => Iff.rfl
  | .b, _, _, _, _ => Iff.rfl
  | .s, _, _, _, _ => Iff.rfl
  | .sl _ _, _, _, _, _ => Iff.rfl
  | .ow _ _, _, _, _, h => by simp [noOw] at h
  | .pr x y, p, vs, bs, h => by
    simp only [noOw, Bool.and_eq_true] at h
    constructor
    · rintro ⟨c, d, b1, b2, e, eb, h1, h2⟩
      obtain ⟨r1, rfl⟩ := (Ty.dep_flat x p.1 c b1 h.1).1 h1
      obtain ⟨r2, rfl⟩ := (Ty.dep_flat y p.2 d b2 h.2).1 h2
      exact ⟨⟨c, d, e, r1, r2⟩, eb⟩
    · rintro ⟨⟨c, d, e, r1, r2⟩, rfl⟩
      exact ⟨c, d, [], [], e, rfl, (Ty.dep_flat x p.1 c [] h.1).2 ⟨r1, rfl⟩, (Ty.dep_flat y p.2 d [] h.2).2 ⟨r2, rfl⟩⟩

theorem DRows.flat {R : α → List Value → List Nat → Prop} {R' : α → List Value → Prop} (hR : ∀ x c b, R x c b ↔ R' x c ∧ b = []) : ∀ {xs : List α} {cs : List Value} {bs : List Nat}, DRows R xs cs bs ↔ Rows R' xs cs ∧ bs = []
  | [], _, _ => Iff.rfl
  | x :: xs, cs, bs => by
    constructor
    · rintro ⟨c, d, b1, b2, e, eb, h1, h2⟩
      obtain ⟨r1, rfl⟩ := (hR x c b1).1 h1
      obtain ⟨r2, rfl⟩ := (DRows.flat hR).1 h2
      exact ⟨⟨c, d, e, r1, r2⟩, eb⟩
    · rintro ⟨⟨c, d, e, r1, r2⟩, rfl⟩
      exact ⟨c, d, [], [], e, rfl, (hR x c []).2 ⟨r1, rfl⟩, (DRows.flat hR).2 ⟨r2, rfl⟩⟩

theorem Ty.dep_len : ∀ (t : Ty) (x : t.den) (vs : List Value) (bs : List Nat), t.dep P G w x vs bs → vs.length = t.sz
  | .i _, _, _, _, h => by obtain ⟨rfl, _⟩ := h; rfl
  | .b, _, _, _, h => by obtain ⟨rfl, _⟩ := h; rfl
  | .s, _, _, _, h => by obtain ⟨rfl, _⟩ := h; rfl
  | .sl e r, xs, vs, _, h => Ty.rep_len (.sl e r) xs vs h.1
  | .ow _ _, _, _, _, ⟨_, _, _, e, _⟩ => by subst e; rfl
  | .pr x y, p, _, _, ⟨c, d, b1, b2, e, _, h1, h2⟩ => by
    subst e
    rw [List.length_append, Ty.dep_len x p.1 c b1 h1, Ty.dep_len y p.2 d b2 h2]
    rfl

theorem DRows.len {R : α → List Value → List Nat → Prop} {n : Nat} (hn : ∀ x c b, R x c b → c.length = n) : ∀ {xs : List α} {cs : List Value} {bs : List Nat}, DRows R xs cs bs → cs.length = xs.length * n
  | [], _, _, h => by obtain ⟨rfl, _⟩ := h; simp
  | _ :: _, _, _, ⟨c, d, b1, b2, e, _, h1, h2⟩ => by
    subst e
    rw [List.length_append, hn _ _ _ h1, h2.len hn, List.length_cons, Nat.add_mul, Nat.one_mul, Nat.add_comm]

theorem DRows.take {R : α → List Value → List Nat → Prop} {n : Nat} (hn : ∀ x c b, R x c b → c.length = n) : ∀ {xs : List α} {cs : List Value} {bs : List Nat} (_ : DRows R xs cs bs) (k : Nat), ∃ b', DRows R (xs.take k) (cs.take (k * n)) b' ∧ b'.Sublist bs
  | [], _, _, h, k => by obtain ⟨rfl, rfl⟩ := h; exact ⟨[], by simp [DRows], List.Sublist.refl _⟩
  | _ :: _, _, _, ⟨c, d, b1, b2, e, eb, h1, h2⟩, 0 => ⟨[], by simp [DRows], List.nil_sublist _⟩
  | _ :: _, _, _, ⟨c, d, b1, b2, e, eb, h1, h2⟩, k + 1 => by
    subst e eb
    have hl := hn _ _ _ h1
    obtain ⟨b', h3, h4⟩ := h2.take hn k
    refine ⟨b1 ++ b', ⟨c, _, b1, b', ?_, rfl, h1, h3⟩, (List.Sublist.refl b1).append h4⟩
    rw [show (k + 1) * n = c.length + k * n by rw [hl, Nat.add_mul, Nat.one_mul, Nat.add_comm], List.take_length_add_append]

theorem DRows.drop {R : α → List Value → List Nat → Prop} {n : Nat} (hn : ∀ x c b, R x c b → c.length = n) : ∀ {xs : List α} {cs : List Value} {bs : List Nat} (_ : DRows R xs cs bs) (k : Nat), ∃ b', DRows R (xs.drop k) (cs.drop (k * n)) b' ∧ b'.Sublist bs
  | [], _, _, h, k => by obtain ⟨rfl, rfl⟩ := h; exact ⟨[], by simp [DRows], List.Sublist.refl _⟩
  | x :: xs, cs, bs, h@⟨c, d, b1, b2, e, eb, h1, h2⟩, 0 => ⟨bs, by simpa using h, List.Sublist.refl _⟩
  | _ :: _, _, _, ⟨c, d, b1, b2, e, eb, h1, h2⟩, k + 1 => by
    subst e eb
    have hl := hn _ _ _ h1
    obtain ⟨b', h3, h4⟩ := h2.drop hn k
    refine ⟨b', ?_, h4.trans (List.sublist_append_right b1 b2)⟩
    have e1 : List.drop ((k + 1) * n) (c ++ d) = List.drop (k * n) d := by
      rw [show (k + 1) * n = c.length + k * n by rw [hl, Nat.add_mul, Nat.one_mul, Nat.add_comm], ← List.drop_drop, List.drop_left]
    rw [e1]
    exact h3

theorem DRows.append {R : α → List Value → List Nat → Prop} : ∀ {xs ys : List α} {cs ds : List Value} {bs es : List Nat}, DRows R xs cs bs → DRows R ys ds es → DRows R (xs ++ ys) (cs ++ ds) (bs ++ es)
  | [], _, _, _, _, _, h1, h2 => by obtain ⟨rfl, rfl⟩ := h1; exact h2
  | _ :: _, _, _, _, _, _, ⟨c, d, b1, b2, e, eb, h, h'⟩, h2 => by subst e eb; exact ⟨c, _, b1, _, by rw [List.append_assoc], by rw [List.append_assoc], h, h'.append h2⟩

theorem DRows.get {R : α → List Value → List Nat → Prop} {n : Nat} (hn : ∀ x c b, R x c b → c.length = n) : ∀ {xs : List α} {cs : List Value} {bs : List Nat} (_ : DRows R xs cs bs) (i : Nat) (x : α), xs[i]? = some x → ∃ b, R x ((cs.drop (i * n)).take n) b ∧ b.Sublist bs
  | [], _, _, _, i, x, hx => by simp at hx
  | y :: ys, _, _, ⟨c, d, b1, b2, e, eb, h1, h2⟩, 0, x, hx => by
    simp at hx
    subst hx e eb
    have := hn _ _ _ h1
    simp only [Nat.zero_mul, List.drop_zero]
    rw [← this, List.take_left]
    exact ⟨b1, h1, List.sublist_append_left b1 b2⟩
  | y :: ys, _, _, ⟨c, d, b1, b2, e, eb, h1, h2⟩, i + 1, x, hx => by
    subst e eb
    have hl := hn _ _ _ h1
    rw [show (i + 1) * n = c.length + i * n by rw [hl, Nat.add_mul, Nat.one_mul, Nat.add_comm], ← List.drop_drop, List.drop_left]
    obtain ⟨b, h3, h4⟩ := h2.get hn i x (by simpa using hx)
    exact ⟨b, h3, h4.trans (List.sublist_append_right b1 b2)⟩

/-- What is owned all the way down asks for no one else's blocks. -/
theorem Ty.dep_all : ∀ (t : Ty) (x : t.den) (vs : List Value) (bs : List Nat), allOw t = true → (∀ k ∈ bs, w'.heap[k]? = w.heap[k]?) → t.dep P G w x vs bs → t.dep P G' w' x vs bs
  | .i _, _, _, _, _, _, h => h
  | .b, _, _, _, _, _, h => h
  | .s, _, _, _, _, _, h => h
  | .sl _ _, _, _, _, h, _, _ => by simp [allOw] at h
  | .ow _ r, _, _, bs, ha, hb, ⟨v, cs, b2, e, hs, ho, hd, eb⟩ => ⟨v, cs, b2, e, hs, ownsRow_same ho (fun k hk => hb k (by rw [eb, hk]; simp)), hd.mono (fun x c b hbb h => Ty.dep_all r x c b ha (fun k hk => hb k (by rw [eb]; exact List.mem_append_right _ (hbb k hk))) h), eb⟩
  | .pr x y, p, _, bs, ha, hb, ⟨c, d, b1, b2, e, eb, h1, h2⟩ => by
    simp only [allOw, Bool.and_eq_true] at ha
    exact ⟨c, d, b1, b2, e, eb, Ty.dep_all x p.1 c b1 ha.1 (fun k hk => hb k (by rw [eb]; exact List.mem_append_left _ hk)) h1, Ty.dep_all y p.2 d b2 ha.2 (fun k hk => hb k (by rw [eb]; exact List.mem_append_right _ hk)) h2⟩
end
end Go.Proofs.Ytehkignjdbkeiaa.Vf
end
