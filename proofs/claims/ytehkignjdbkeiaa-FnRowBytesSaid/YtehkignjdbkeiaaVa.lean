/- A value-level reading of the model's code: types, abstract states, and an evaluator whose answers are ordinary Lean values. -/
import Derived.Calls
import Derived.Orders
namespace Go.Proofs.Ytehkignjdbkeiaa.Vf
open Go

/-- The layout of a row of cells. 'sl': a slice that nobody writes; 'ow': a slice that is the holder's own. -/
inductive Ty where
  | i (k : IntKind)
  | b
  | s
  | sl (e : TypeId) (r : Ty)
  | ow (e : TypeId) (r : Ty)
  | pr (x y : Ty)
  deriving DecidableEq

@[reducible] def Ty.den : Ty → Type
  | .i _ => Int
  | .b => Bool
  | .s => ByteArray
  | .sl _ r => List r.den
  | .ow _ r => List r.den
  | .pr x y => x.den × y.den

def Ty.dflt : (t : Ty) → t.den
  | .i _ => (0 : Int)
  | .b => false
  | .s => (⟨#[]⟩ : ByteArray)
  | .sl _ _ => []
  | .ow _ _ => []
  | .pr x y => (x.dflt, y.dflt)

def Ty.sz : Ty → Nat
  | .pr x y => x.sz + y.sz
  | _ => 1

/-- A cell's content. -/
inductive Lf where
  | dead
  | un
  | sc (u : Value)
  | fz (e : TypeId) (r : Ty) (xs : List r.den)
  | own (e : TypeId) (r : Ty) (xs : List r.den)
  | al (p v : Nat)
  | bp (b v off : Nat)
  | ep (p v : Nat) (i : Int) (off : Nat)
  | fp (r : Ty) (x : r.den) (off : Nat)
  | hd (n : Nat)

/-- A temporary's content. -/
inductive Sv where
  | one (x : Lf)
  | agg (cs : List Lf)
  | tup (vs : List (Bool × List Lf))

/-- An abstract state: places, each with a version; the latest ahead. -/
abbrev Ab := List (Nat × Nat × Sv)

def get : Ab → Nat → Nat × Sv
  | [], _ => (0, .one .dead)
  | (k, n, s) :: t, l => bif Nat.beq k l then (n, s) else get t l

structure Up where
  l : Nat
  keep : Bool
  s : Sv

def up (A : Ab) (u : Up) : Ab := (u.l, bif u.keep then (get A u.l).1 else (get A u.l).1 + 1, u.s) :: A
def ups (A : Ab) : List Up → Ab
  | [] => A
  | u :: l => ups (up A u) l

/-- Two types whose zero cells are the same. -/
def zsame : Ty → Ty → Bool
  | .i k, .i k' => decide (k = k')
  | .b, .b => true
  | .s, .s => true
  | .sl _ _, .sl _ _ => true
  | .sl _ _, .ow _ _ => true
  | .ow _ _, .sl _ _ => true
  | .ow _ _, .ow _ _ => true
  | .pr x y, .pr x' y' => zsame x x' && zsame y y'
  | _, _ => false

/-- The place of cell j of box b; of its head. -/
def C (b j : Nat) : Nat := 1000 * (b + 1) + j
def H (b : Nat) : Nat := 1000 * (b + 1) + 999

def castL (r r' : Ty) (xs : List r'.den) : Option (List r.den) := if h : r' = r then some (h ▸ xs) else none

def leaves : (t : Ty) → t.den → List Lf
  | .i k, n => [.sc (.int k n)]
  | .b, x => [.sc (.bool x)]
  | .s, x => [.sc (.string x)]
  | .sl e r, xs => [.fz e r xs]
  | .ow e r, xs => [.own e r xs]
  | .pr x y, p => leaves x p.1 ++ leaves y p.2

/-- The leaves of an element: nobody owns them. -/
def lvs : (t : Ty) → t.den → List Lf
  | .i k, n => [.sc (.int k n)]
  | .b, x => [.sc (.bool x)]
  | .s, x => [.sc (.string x)]
  | .sl e r, xs => [.fz e r xs]
  | .ow e r, xs => [.fz e r xs]
  | .pr x y, p => lvs x p.1 ++ lvs y p.2

/-- A value out of leaves (a slice that is only to be read may be someone's own). -/
def mkT : (t : Ty) → List Lf → Option (t.den × List Lf)
  | .i k, .sc (.int k' n) :: l => bif decide (k = k') then some (n, l) else none
  | .b, .sc (.bool x) :: l => some (x, l)
  | .s, .sc (.string x) :: l => some (x, l)
  | .sl e r, .fz e' r' xs :: l => bif Nat.beq e e' then (match castL r r' xs with | some ys => some (ys, l) | none => none) else none
  | .sl e r, .own e' r' xs :: l => bif Nat.beq e e' then (match castL r r' xs with | some ys => some (ys, l) | none => none) else none
  | .ow e r, .own e' r' xs :: l => bif Nat.beq e e' then (match castL r r' xs with | some ys => some (ys, l) | none => none) else none
  | .pr x y, l => match mkT x l with
    | some (p, l1) => (match mkT y l1 with
      | some (q, l2) => some ((p, q), l2)
      | none => none)
    | none => none
  | _, _ => none

/-- The whole of the leaves. -/
def mkW (t : Ty) (l : List Lf) : Option t.den := match mkT t l with
  | some (x, []) => some x
  | _ => none

/-- What is told of a type: its cells, whether it is a struct, its bytes, where its fields begin. -/
structure TI where
  ty : Ty
  ag : Bool
  by_ : Nat
  fo : List (Nat × Nat × Bool)

@[reducible] def Den : List Ty → Type
  | [] => Unit
  | [t] => t.den
  | t :: u :: l => t.den × Den (u :: l)

inductive Par where
  | val (ag : Bool) (t : Ty)
  | ptr (t t' : Ty)

def Par.ty : Par → Ty
  | .val _ t => t
  | .ptr t _ => t

def mkDen : (ts : List Ty) → List (List Lf) → Option (Den ts)
  | [], [] => some ()
  | [t], [l] => mkW t l
  | t :: u :: ts, l :: ls => match mkW t l with
    | some x => (match mkDen (u :: ts) ls with
      | some y => some (x, y)
      | none => none)
    | none => none
  | _, _ => none

def leavesD : (ts : List Ty) → Den ts → List (List Lf)
  | [], _ => []
  | [t], x => [leaves t x]
  | t :: u :: ts, x => leaves t x.1 :: leavesD (u :: ts) x.2

def ptrOuts : List Par → List Ty
  | [] => []
  | .val _ _ :: l => ptrOuts l
  | .ptr _ t' :: l => t' :: ptrOuts l

/-- A result: one cell, a struct, a pointer to a struct that is new. -/
inductive RK where
  | one
  | agg
  | ptr

/-- A callee's contract: its parameters, its results and (behind them) what its pointers hold then. -/
structure Ent where
  ps : List Par
  rs : List (RK × Ty)
  run : Den (ps.map Par.ty) → Option (Den (rs.map Prod.snd ++ ptrOuts ps))

inductive Ex where
  | normal
  | exit (id : Nat)
  | ret

/-- A loop's own function: what it holds at its head, where it ends, and what it holds there. -/
structure Live where
  cs : List (Nat × Lf)
  vs : List (Nat × Ty)

@[reducible] def Live.den (v : Live) : Type := Den (v.vs.map Prod.snd)

@[reducible] def AltD : List (Ex × Live) → Type
  | [] => Empty
  | [a] => a.2.den
  | a :: b :: l => a.2.den ⊕ AltD (b :: l)

structure Lp where
  ins : Live
  alts : List (Ex × Live)
  run : ins.den → Option (AltD alts)

/-- What surrounds a function's code. -/
structure En where
  nt : Nat
  ti : TypeId → Option TI
  eq : TypeId → Bool
  nm : Nat → Bool
  res : Nat → Bool
  call : FuncId → Option Ent
  lp : Nat → Option Lp
  np : Nat

/-! ### Reading -/
def isSc : Value → Bool
  | .int _ _ | .bool _ | .string _ | .func _ _ _ | .pointer none => true
  | _ => false

/-- An operand; nil by the type that is wanted. -/
def opT (E : En) (T : TypeId) (A : Ab) : Operand → Option Sv
  | .tmp t => bif Nat.blt t E.nt then some (get A t).2 else none
  | .const (.slice none 0 0) => match E.ti T with
    | some ⟨.sl e r, false, _, _⟩ => some (.one (.own e r []))
    | _ => none
  | .const v => bif isSc v then some (.one (.sc v)) else none
  | .func f => some (.one (.sc (.func (.func f) #[] #[])))
  | .global _ => none

/-- A slice type's elements. -/
def elT (E : En) (T : TypeId) : Option TypeId := match E.ti T with
  | some ⟨.sl e _, false, _, _⟩ => some e
  | _ => none
def isEl (E : En) (T e : TypeId) : Bool := match elT E T with
  | some e' => Nat.beq e' e
  | none => false
def isStr (E : En) (T : TypeId) : Bool := match E.ti T with
  | some ⟨.s, false, _, _⟩ => true
  | _ => false

/-- What stands at an alias' place. -/
def seen (A : Ab) : Lf → Lf
  | .al p v => match get A p with
    | (n, .one (.own e r xs)) => bif Nat.beq n v then .own e r xs else .dead
    | (n, .one (.fz e r xs)) => bif Nat.beq n v then .fz e r xs else .dead
    | _ => .dead
  | x => x

structure Sl where
  e : TypeId
  r : Ty
  xs : List r.den

def asSl : Lf → Option Sl
  | .fz e r xs => some ⟨e, r, xs⟩
  | .own e r xs => some ⟨e, r, xs⟩
  | _ => none

/-- A pointer whose place still is what it was. -/
def liveP (A : Ab) : Lf → Bool
  | .bp b v _ => Nat.beq (get A (H b)).1 v
  | .ep p v _ _ => (match get A p with
    | (n, .one (.own _ _ _)) => Nat.beq n v
    | _ => false)
  | .fp _ _ _ => true
  | _ => false

def addOff : Lf → Nat → Lf
  | .bp b v n, k => .bp b v (n + k)
  | .ep p v i n, k => .ep p v i (n + k)
  | .fp r x n, k => .fp r x (n + k)
  | x, _ => x

def ownIn : List Lf → Bool
  | [] => false
  | .own _ _ _ :: _ => true
  | _ :: l => ownIn l

def ownSv : Sv → Bool
  | .one x => ownIn [x]
  | .agg l => ownIn l
  | .tup vs => vs.any fun v => ownIn v.2

/-- A leaf that is to be kept where others may read it, too: nobody's own any more. -/
def calm : Lf → Lf
  | .own e r xs => .fz e r xs
  | x => x

/-- What a leaf that is kept elsewhere costs: an alias' place is nobody's own any more. -/
def cost (A : Ab) : Lf → List Up
  | .al p v => match get A p with
    | (n, .one (.own e r xs)) => bif Nat.beq n v then [⟨p, true, .one (.fz e r xs)⟩] else []
    | _ => []
  | _ => []

def costs (A : Ab) : List Lf → List Up
  | [] => []
  | x :: l => cost A x ++ costs A l

/-- None of these is at that place. -/
def apart (p : Nat) : List Up → Bool
  | [] => true
  | u :: l => !(Nat.beq u.l p) && apart p l

/-- A temporary that is given away. -/
def gone : Operand → Sv → List Up
  | .tmp t, s => bif ownSv s then [⟨t, false, .one .dead⟩] else []
  | _, _ => []

/-- What is appended to, given up. -/
def took : Lf → Operand → List Up
  | .al p _, _ => [⟨p, false, .one .dead⟩]
  | _, .tmp t => [⟨t, false, .one .dead⟩]
  | _, _ => []

def parts : Sv → List Lf
  | .one x => [x]
  | .agg l => l
  | .tup _ => []

def ofParts (ag : Bool) (l : List Lf) : Option Sv := bif ag then some (.agg l) else match l with
  | [x] => some (.one x)
  | _ => none

def nth {α : Type} : List α → Nat → Option α
  | [], _ => none
  | x :: _, 0 => some x
  | _ :: l, n + 1 => nth l n

section
variable {R : Type}

/-! ### Operations on numbers, texts and truth values -/
def bopInt (op : BinOp) (k : IntKind) (x y : Int) (K : Value → Option R) : Option R :=
  match op with
  | .add => K (.int k (k.wrap (x + y)))
  | .sub => K (.int k (k.wrap (x - y)))
  | .mul => K (.int k (k.wrap (x * y)))
  | .quo => bif decide (y = 0) then none else K (.int k (k.wrap (x.tdiv y)))
  | .rem => bif decide (y = 0) then none else K (.int k (x.tmod y))
  | .and => K (.int k (k.wrap ((BitVec.ofInt k.bits x &&& BitVec.ofInt k.bits y).toNat)))
  | .or => K (.int k (k.wrap ((BitVec.ofInt k.bits x ||| BitVec.ofInt k.bits y).toNat)))
  | .xor => K (.int k (k.wrap ((BitVec.ofInt k.bits x ^^^ BitVec.ofInt k.bits y).toNat)))
  | .andNot => K (.int k (k.wrap ((BitVec.ofInt k.bits x &&& ~~~ BitVec.ofInt k.bits y).toNat)))
  | .eql => K (.bool (x == y))
  | .neq => K (.bool (x != y))
  | .lss => K (.bool (x < y))
  | .leq => K (.bool (x ≤ y))
  | .gtr => K (.bool (x > y))
  | .geq => K (.bool (x ≥ y))
  | _ => none

def bopStr (op : BinOp) (x y : ByteArray) (K : Value → Option R) : Option R :=
  match op with
  | .add => bif Nat.ble (x.size + y.size) 9223372036854775807 then K (.string (x ++ y)) else none
  | .eql => K (.bool (x.toList == y.toList))
  | .neq => K (.bool !(x.toList == y.toList))
  | .lss => K (.bool (Op.bytesLess x.toList y.toList))
  | .leq => K (.bool (Op.bytesLess x.toList y.toList || x.toList == y.toList))
  | .gtr => K (.bool !(Op.bytesLess x.toList y.toList || x.toList == y.toList))
  | .geq => K (.bool !(Op.bytesLess x.toList y.toList))
  | _ => none

/-- '==' of two structs' cells. -/
def eqLeaves : List Lf → List Lf → Option Bool
  | [], [] => some true
  | [.sc (.int k x)], [.sc (.int k' y)] => bif decide (k = k') then some (x == y) else none
  | [.sc (.bool x)], [.sc (.bool y)] => some (x == y)
  | [.sc (.string x)], [.sc (.string y)] => some (x == y)
  | .sc (.int k x) :: l, .sc (.int k' y) :: l' => bif decide (k = k') then (match eqLeaves l l' with | some b => some ((x == y) && b) | none => none) else none
  | .sc (.bool x) :: l, .sc (.bool y) :: l' => match eqLeaves l l' with | some b => some ((x == y) && b) | none => none
  | .sc (.string x) :: l, .sc (.string y) :: l' => match eqLeaves l l' with | some b => some ((x == y) && b) | none => none
  | _, _ => none

def allSc : List Lf → Bool
  | [] => true
  | .sc _ :: l => allSc l
  | _ => false

/-- Leaves of this type's kinds. -/
def kindsOk (tT : Option TI) (l : List Lf) : Bool := match tT with
  | some ti => (mkW ti.ty l).isSome
  | none => false

def bop (op : BinOp) (tT : Option TI) (eqs : Bool) (x y : Sv) (K : Value → Option R) : Option R :=
  match x, y with
  | .one (.sc (.int k a)), .one (.sc (.int k' b)) =>
    match op with
    | .shl => bif decide (b < 0) then none else K (.int k (k.wrap (a * 2 ^ (min b.toNat k.bits))))
    | .shr => bif decide (b < 0) then none else K (.int k (a.fdiv (2 ^ (min b.toNat k.bits))))
    | _ => bif decide (k = k') then bopInt op k a b K else none
  | .one (.sc (.string a)), .one (.sc (.string b)) => bopStr op a b K
  | .one (.sc (.bool a)), .one (.sc (.bool b)) => match op, tT with
    | .eql, some ⟨.b, false, _, _⟩ => K (.bool (a == b))
    | .neq, some ⟨.b, false, _, _⟩ => K (.bool (!(a == b)))
    | _, _ => none
  | .agg l, .agg l' => bif eqs && allSc l && allSc l' && (kindsOk tT l && kindsOk tT l') then (match op with
    | .eql => (match eqLeaves l l' with | some b => K (.bool b) | none => none)
    | .neq => (match eqLeaves l l' with | some b => K (.bool (!b)) | none => none)
    | _ => none) else none
  | _, _ => none

def uop (op : UnOp) (x : Sv) (K : Value → Option R) : Option R :=
  match op, x with
  | .neg, .one (.sc (.int k n)) => K (.int k (k.wrap (0 - n)))
  | .xor, .one (.sc (.int k n)) => K (.int k (k.wrap ((BitVec.ofInt k.bits (if k.signed then -1 else k.max) ^^^ BitVec.ofInt k.bits n).toNat)))
  | .not, .one (.sc (.bool b)) => K (.bool !b)
  | _, _ => none

def strOf (xs : List Int) : ByteArray := ⟨(xs.map fun n => UInt8.ofNat n.toNat).toArray⟩
def bytesOf (s : ByteArray) : List Int := s.data.toList.map fun b => (b.toNat : Int)
def bt (s : ByteArray) (i : Int) : Int := ((s.data.toList.getD i.toNat 0).toNat : Int)

def conv (src dst : Option TI) (x : Sv) (K : Sv → Option R) : Option R :=
  match src, dst, x with
  | some ⟨.i _, false, _, _⟩, some ⟨.i k, false, _, _⟩, .one (.sc (.int _ n)) => K (.one (.sc (.int k (k.wrap n))))
  | some ⟨.s, false, _, _⟩, some ⟨.s, false, _, _⟩, .one (.sc (.string s)) => K (.one (.sc (.string s)))
  | some ⟨.sl e (.i .u8), false, _, _⟩, some ⟨.s, false, _, _⟩, .one (.fz e' (.i .u8) xs) => bif Nat.beq e e' then K (.one (.sc (.string (strOf xs)))) else none
  | some ⟨.sl e (.i .u8), false, _, _⟩, some ⟨.s, false, _, _⟩, .one (.own e' (.i .u8) xs) => bif Nat.beq e e' then K (.one (.sc (.string (strOf xs)))) else none
  | some ⟨.s, false, _, _⟩, some ⟨.sl e (.i .u8), false, _, _⟩, .one (.sc (.string s)) => bif Nat.ble s.size 140737488355328 then K (.one (.fz e (.i .u8) (bytesOf s))) else none
  | _, _, _ => none

def minMax (mx : Bool) : List Sv → IntKind → Int → (Value → Option R) → Option R
  | [], k, x, K => K (.int k x)
  | .one (.sc (.int k' y)) :: l, k, x, K => bif decide (k = k') then minMax mx l k (bif mx then (if x < y then y else x) else (if y < x then y else x)) K else none
  | _, _, _, _ => none

/-! ### Memory -/
/-- A box's cells j .. j + n - 1, as they are read. -/
def cellsOf (A : Ab) (b : Nat) : Nat → Nat → List Lf
  | _, 0 => []
  | j, n + 1 => (match get A (C b j) with
    | (v, .one (.own _ _ _)) => Lf.al (C b j) v
    | (_, .one x) => x
    | _ => .dead) :: cellsOf A b (j + 1) n

def rawOf (A : Ab) (b : Nat) : Nat → Nat → List Lf
  | _, 0 => []
  | j, n + 1 => (match get A (C b j) with
    | (_, .one x) => x
    | _ => .dead) :: rawOf A b (j + 1) n

def putCells (b : Nat) : Nat → List Lf → List Up
  | _, [] => []
  | j, x :: l => ⟨C b j, false, .one x⟩ :: putCells b (j + 1) l

/-- A leaf, as it is stored: what was an alias is read by all. -/
def kept (A : Ab) (x : Lf) : Lf := match x with
  | .al _ _ => calm (seen A x)
  | _ => x

def zeros : Ty → List Lf
  | .i k => [.sc (.int k 0)]
  | .b => [.sc (.bool false)]
  | .s => [.sc (.string ⟨#[]⟩)]
  | .sl e r => [.own e r []]
  | .ow e r => [.own e r []]
  | .pr x y => zeros x ++ zeros y

def storable : List Lf → Bool
  | [] => true
  | .sc _ :: l | .fz _ _ _ :: l | .own _ _ _ :: l => storable l
  | _ => false

/-- Nothing here is its holder's own. -/
def noOw : Ty → Bool
  | .ow _ _ => false
  | .pr x y => noOw x && noOw y
  | _ => true

/-- No slices at all. -/
def plain : Ty → Bool
  | .sl _ _ => false
  | .ow _ _ => false
  | .pr x y => plain x && plain y
  | _ => true

/-- What comes back shares nothing with what went in. -/
def fresh : Ty → Bool
  | .sl _ _ => false
  | .ow _ r => plain r
  | .pr x y => fresh x && fresh y
  | _ => true

def lends : List Par → Bool
  | [] => true
  | .val _ t :: ps => noOw t && lends ps
  | .ptr _ _ :: _ => false

def news : List (RK × Ty) → Bool
  | [] => true
  | (.ptr, _) :: _ => false
  | (_, t) :: rs => fresh t && news rs

def ptrs : List Par → Nat
  | [] => 0
  | .val _ _ :: ps => ptrs ps
  | .ptr _ _ :: ps => ptrs ps + 1

def form : Sv → Option Bool
  | .one _ => some false
  | .agg _ => some true
  | .tup _ => none

def formOk (ag : Bool) (s : Sv) : Bool := match form s with
  | some b => bif ag then b else !b
  | none => false

/-- Arguments that are only read. -/
def lentOf (A : Ab) : List Par → List Sv → Option (List (List Lf))
  | [], [] => some []
  | .val ag _ :: ps, s :: ss => bif formOk ag s && storable ((parts s).map (fun y => calm (seen A y))) then (match lentOf A ps ss with
    | some ls => some ((parts s).map (fun y => calm (seen A y)) :: ls)
    | none => none) else none
  | _, _ => none

/-- Of a parameter: the leaves that it reads; what it costs; the box that is lent. -/
def argOf (A : Ab) (x : Operand) : Par → Sv → Option (List Lf × List Up × List Nat)
  | .val false (.ow _ _), .one y => (match seen A y with
    | .own e r xs => some ([.own e r xs], took y x, [])
    | _ => none)
  | .val ag t, s => bif noOw t && formOk ag s && storable ((parts s).map (kept A)) then some (((parts s).map (kept A)).map calm, costs A (parts s) ++ gone x s, []) else none
  | .ptr t t', .one (.bp b v 0) => (match get A (H b) with
    | (n, .one (.hd m)) => bif noOw t && noOw t' && Nat.beq n v && Nat.beq m t.sz && Nat.beq m t'.sz && storable ((cellsOf A b 0 m).map (kept A)) then some ((cellsOf A b 0 m).map (kept A), costs A (cellsOf A b 0 m), [b]) else none
    | _ => none)
  | _, _ => none

def argsOf (E : En) : List TypeId → Ab → List Operand → List Par → Option (List (List Lf) × List Up × List Nat)
  | _, _, [], [] => some ([], [], [])
  | T :: Ts, A, x :: xs, p :: ps => match opT E T A x with
    | some s => (match argOf A x p s with
      | some (l, u, b) => (match argsOf E Ts (ups A u) xs ps with
        | some (ls, us, bs) => some (l :: ls, u ++ us, b ++ bs)
        | none => none)
      | none => none)
    | none => none
  | _, _, _, _ => none

/-- What comes back by the pointers. -/
def backs : List Nat → List (List Lf) → Option (List Up)
  | [], _ => some []
  | b :: bs, l :: ls => match backs bs ls with
    | some us => some (putCells b 0 l ++ us)
    | none => none
  | _, _ => none

def ptrRes (A : Ab) (d : Nat) (l : List Lf) : List Up :=
  ⟨H d, false, .one (.hd l.length)⟩ :: putCells d 0 l ++ [⟨d, false, .one (.bp d ((get A (H d)).1 + 1) 0)⟩]

def anyPtr : List (RK × Ty) → Bool
  | [] => false
  | (.ptr, _) :: _ => true
  | _ :: l => anyPtr l

def isAggK : RK → Bool
  | .agg => true
  | _ => false

def tupOf : List (RK × Ty) → List (List Lf) → List (Bool × List Lf)
  | r :: rs, l :: ls => (isAggK r.1, l) :: tupOf rs ls
  | _, _ => []

/-- What a call's results leave in its temporary. -/
def resUp (A : Ab) (rs : List (RK × Ty)) (ls : List (List Lf)) (d : Option Nat) : Option (List Up) :=
  match rs, ls, d with
  | _, _, none => some []
  | [], _, some d => some [⟨d, false, .tup []⟩]
  | [(.one, _)], [x] :: _, some d => some [⟨d, false, .one x⟩]
  | [(.agg, _)], l :: _, some d => some [⟨d, false, .agg l⟩]
  | [(.ptr, _)], l :: _, some d => some (ptrRes A d l)
  | r :: q :: rs, ls, some d => bif anyPtr (r :: q :: rs) then none else some [⟨d, false, .tup (tupOf (r :: q :: rs) ls)⟩]
  | _, _, _ => none

/-! ### One operation -/
def opsT (E : En) (Ts : List TypeId) (A : Ab) : List Operand → Option (List Sv)
  | [] => some []
  | x :: l => match Ts with
    | [] => none
    | T :: Ts => (match opT E T A x with
      | some s => (match opsT E Ts A l with
        | some ss => some (s :: ss)
        | none => none)
      | none => none)

/-- A pointer that comes back goes to no parameter's place. -/
def okPtr (E : En) (rs : List (RK × Ty)) (d : Option Nat) : Bool := !(anyPtr rs) || (match d with
  | some d => Nat.ble E.np d
  | none => true)

def callF (E : En) (Ts : List TypeId) (A : Ab) (en : Ent) (xs : List Operand) (ss : List Sv) (d : Option Nat) (K : List Up → Option R) : Option R :=
  bif lends en.ps && news en.rs then
    (match lentOf A en.ps ss with
    | none => none
    | some ls => match mkDen _ ls with
      | none => none
      | some x => (en.run x).bind fun r =>
        match resUp A en.rs (leavesD _ r) d with
        | none => none
        | some rs => K rs)
  else bif Nat.ble (ptrs en.ps) 1 && okPtr E en.rs d then
    (match argsOf E Ts A xs en.ps with
    | none => none
    | some (ls, us, bs) => match mkDen _ ls with
      | none => none
      | some x => (en.run x).bind fun r =>
        match backs bs ((leavesD _ r).drop en.rs.length) with
        | none => none
        | some ws => match resUp (ups (ups A us) ws) en.rs (leavesD _ r) d with
          | none => none
          | some rs => K (us ++ (ws ++ rs)))
  else none

def setAll (l : List Lf) (off : Nat) (m : List Lf) : List Lf := l.take off ++ m ++ l.drop (off + m.length)

def buildP (E : En) (A : Ab) (T : TI) (l : List Lf) (us : List Up) : List (Nat × Operand) → Option (List Lf × List Up)
  | [] => some (l, us)
  | (i, x) :: ps => match nth T.fo i with
    | none => none
    | some (off, z, _) => (match x with
      | .const (.slice none 0 0) => bif Nat.beq z 1 then (match nth l off with
        | some (.own _ _ []) => buildP E A T l us ps
        | _ => none) else none
      | _ => (match opT E 0 A x with
        | some s => let m := (parts s).map (kept A)
          bif storable m && Nat.beq m.length z && Nat.ble (off + z) l.length then buildP E (ups A (costs A (parts s) ++ gone x s)) T (setAll l off m) (us ++ (costs A (parts s) ++ gone x s)) ps else none
        | none => none))

def rowsP (E : En) (A : Ab) (e : TypeId) (r : Ty) (i : Nat) : List (Nat × Operand) → Option (List r.den × List Up)
  | [] => some ([], [])
  | (j, x) :: ps => bif Nat.beq i j then (match opT E e A x with
    | some s => (match bif storable ((parts s).map (kept A)) then mkW r ((parts s).map fun x => calm (kept A x)) else none with
      | some y => (match rowsP E (ups A (costs A (parts s) ++ gone x s)) e r (i + 1) ps with
        | some (ys, us) => some (y :: ys, (costs A (parts s) ++ gone x s) ++ us)
        | none => none)
      | none => none)
    | none => none) else none

def cutS {α : Type} (xs : List α) (lo hi : Option Int) : List α :=
  match lo, hi with
  | none, none => xs
  | some l, none => xs.drop l.toNat
  | none, some h => xs.take h.toNat
  | some l, some h => (xs.take h.toNat).drop l.toNat

/-- 0 <= lo <= hi <= n -/
def bnds (lo hi : Option Int) (n : Nat) (K : Unit → Option R) : Option R :=
  match lo, hi with
  | none, none => K ()
  | some l, none => bif decide (0 ≤ l) then (bif decide (l ≤ (n : Int)) then K () else none) else none
  | none, some h => bif decide (0 ≤ h) then (bif decide (h ≤ (n : Int)) then K () else none) else none
  | some l, some h => bif decide (0 ≤ l) then (bif decide (l ≤ h) then (bif decide (h ≤ (n : Int)) then K () else none) else none) else none

def intOp (E : En) (A : Ab) : Option Operand → Option (Option Int)
  | none => some none
  | some x => match opT E 0 A x with
    | some (.one (.sc (.int .i64 n))) => some (some n)
    | _ => none

def step (E : En) (o : Oper) (A : Ab) (K : List Up → Option R) : Option R :=
  match o.op, o.dst with
  | .move x, some d => match opT E o.type A x with
    | some s => (match x, s with
      | .tmp t, .one (.own e r xs) => bif E.nm t then K [⟨d, false, .one (.al t (get A t).1)⟩] else K [⟨t, false, .one .dead⟩, ⟨d, false, .one (.own e r xs)⟩]
      | _, _ => K (gone x s ++ [⟨d, false, s⟩]))
    | none => none
  | .assign x, some d => match opT E o.type A x with
    | some (.one (.al p v)) => (match get A p with
      | (n, .one (.own e r xs)) => bif Nat.beq n v then (bif E.res d then K [⟨p, false, .one .dead⟩, ⟨d, false, .one (.own e r xs)⟩] else K [⟨p, true, .one (.fz e r xs)⟩, ⟨d, false, .one (.fz e r xs)⟩]) else none
      | (n, .one (.fz e r xs)) => bif Nat.beq n v then K [⟨d, false, .one (.fz e r xs)⟩] else none
      | _ => none)
    | some s => K (gone x s ++ [⟨d, false, s⟩])
    | none => none
  | .pick c x y, some d => match opT E 0 A c with
    | some (.one (.sc (.bool b))) => bif b then (match opT E o.type A x with
        | some (.one (.sc u)) => K [⟨d, false, .one (.sc u)⟩]
        | _ => none)
      else (match opT E o.type A y with
        | some (.one (.sc u)) => K [⟨d, false, .one (.sc u)⟩]
        | _ => none)
    | _ => none
  | .binOp op T x y T', some d => match opT E T A x, opT E T' A y with
    | some s, some s' => bop op (E.ti T) (E.eq T) s s' fun u => K [⟨d, false, .one (.sc u)⟩]
    | _, _ => none
  | .unOp op T x, some d => match opT E T A x with
    | some s => uop op s fun u => K [⟨d, false, .one (.sc u)⟩]
    | none => none
  | .convert T T' x, some d => match opT E T A x with
    | some (.one y) => conv (E.ti T) (E.ti T') (.one (seen A y)) fun s => K [⟨d, false, s⟩]
    | _ => none
  | .nilCheck x, some d => match opT E 0 A x with
    | some (.one y) => bif liveP A y then K [⟨d, false, .one y⟩] else none
    | _ => none
  | .extract (.tmp t) j, some d => match bif Nat.blt t E.nt then (get A t).2 else .one .dead with
    | .tup vs => (match nth vs j with
      | some (ag, l) => (match ofParts ag l with
        | some s => bif ownIn l then K [⟨t, false, .tup (vs.set j (false, [.dead]))⟩, ⟨d, false, s⟩] else K [⟨d, false, s⟩]
        | none => none)
      | none => none)
    | _ => none
  | .field T (.tmp t) j, some d => match E.ti T, (get A t).2 with
    | some ti, .agg l => (match nth ti.fo j with
      | some (off, z, ag) => (match ofParts ag ((l.drop off).take z) with
        | some s => bif ti.ag && Nat.blt t E.nt && Nat.ble (off + z) l.length then (bif ownIn ((l.drop off).take z) then K [⟨t, false, .agg (setAll l off (List.replicate z .dead))⟩, ⟨d, false, s⟩] else K [⟨d, false, s⟩]) else none
        | none => none)
      | none => none)
    | _, _ => none
  | .build T ps, some d => match E.ti T with
    | some ti => (match buildP E A ti (zeros ti.ty) [] ps.toList with
      | some (l, us) => bif ti.ag then K (us ++ [⟨d, false, .agg l⟩]) else none
      | none => none)
    | none => none
  | .alloc T, some d => match E.ti T with
    | some ti => bif Nat.blt ti.ty.sz 999 && Nat.ble E.np d then K (⟨H d, false, .one (.hd ti.ty.sz)⟩ :: putCells d 0 (zeros ti.ty) ++ [⟨d, false, .one (.bp d ((get A (H d)).1 + 1) 0)⟩]) else none
    | none => none
  | .box T x, some d => match E.ti T, opT E T A x with
    | some ti, some s =>
      let m := (parts s).map (kept A)
      bif storable m && Nat.beq m.length ti.ty.sz && Nat.blt ti.ty.sz 999 && Nat.ble E.np d then K (costs A (parts s) ++ gone x s ++ (⟨H d, false, .one (.hd ti.ty.sz)⟩ :: putCells d 0 m ++ [⟨d, false, .one (.bp d ((get A (H d)).1 + 1) 0)⟩])) else none
    | _, _ => none
  | .load T x, some d => match E.ti T, opT E 0 A x with
    | some ti, some (.one (.bp b v off)) => (match get A (H b) with
      | (n, .one (.hd m)) => bif Nat.beq n v && Nat.ble (off + ti.ty.sz) m then (match ofParts ti.ag (cellsOf A b off ti.ty.sz) with
        | some s => K [⟨d, false, s⟩]
        | none => none) else none
      | _ => none)
    | some ti, some (.one (.ep p v i off)) => (match get A p with
      | (n, .one (.own _ r xs)) => bif Nat.beq n v && Nat.ble (off + ti.ty.sz) r.sz then (match ofParts ti.ag (((lvs r (xs.getD i.toNat r.dflt)).drop off).take ti.ty.sz) with
        | some s => K [⟨d, false, s⟩]
        | none => none) else none
      | _ => none)
    | some ti, some (.one (.fp r x off)) => bif Nat.ble (off + ti.ty.sz) r.sz then (match ofParts ti.ag (((lvs r x).drop off).take ti.ty.sz) with
      | some s => K [⟨d, false, s⟩]
      | none => none) else none
    | _, _ => none
  | .store T x y, none => match E.ti T, opT E 0 A x, opT E T A y with
    | some ti, some (.one (.bp b v off)), some s =>
      let m := (parts s).map (kept A)
      (match get A (H b) with
      | (n, .one (.hd h)) => bif Nat.beq n v && storable m && Nat.beq m.length ti.ty.sz && Nat.ble (off + ti.ty.sz) h then K (costs A (parts s) ++ gone y s ++ putCells b off m) else none
      | _ => none)
    | some ti, some (.one (.ep p v i off)), some s =>
      let m := (parts s).map fun x => calm (kept A x)
      (match get A p with
      | (n, .one (.own e r xs)) => bif Nat.beq n v && storable ((parts s).map (kept A)) && Nat.beq m.length ti.ty.sz && Nat.ble (off + m.length) r.sz && apart p (costs A (parts s) ++ gone y s) then (match mkW r (setAll (lvs r (xs.getD i.toNat r.dflt)) off m) with
        | some z => K (costs A (parts s) ++ gone y s ++ [⟨p, true, .one (.own e r (xs.set i.toNat z))⟩])
        | none => none) else none
      | _ => none)
    | _, _, _ => none
  | .fieldAddr T x j, some d => match E.ti T, opT E 0 A x with
    | some ti, some (.one y) => (match nth ti.fo j with
      | some o => bif ti.ag && liveP A y then K [⟨d, false, .one (addOff y o.1)⟩] else none
      | none => none)
    | _, _ => none
  | .indexAddr T x i, some d => match opT E T A x, opT E 0 A i with
    | some (.one y), some (.one (.sc (.int _ n))) => (match y, seen A y with
      | .al p v, .own e _ xs => bif isEl E T e && decide (0 ≤ n) then (bif decide (n < (xs.length : Int)) then K [⟨d, false, .one (.ep p v n 0)⟩] else none) else none
      | _, .fz e r xs => bif isEl E T e && decide (0 ≤ n) then (bif decide (n < (xs.length : Int)) then K [⟨d, false, .one (.fp r (xs.getD n.toNat r.dflt) 0)⟩] else none) else none
      | _, .own e _ xs => (match x with
        | .tmp t => bif isEl E T e && decide (0 ≤ n) then (bif decide (n < (xs.length : Int)) then K [⟨d, false, .one (.ep t (get A t).1 n 0)⟩] else none) else none
        | _ => none)
      | _, _ => none)
    | _, _ => none
  | .index T x i, some d => match opT E 0 A x, opT E 0 A i with
    | some (.one (.sc (.string s))), some (.one (.sc (.int _ n))) => bif isStr E T && decide (0 ≤ n) then (bif decide (n < (s.size : Int)) then K [⟨d, false, .one (.sc (.int .u8 (bt s n)))⟩] else none) else none
    | _, _ => none
  | .slice T x lo hi none, some d => match opT E T A x, intOp E A lo, intOp E A hi with
    | some (.one (.sc (.string s))), some lo, some hi => bif isStr E T then bnds lo hi s.size fun _ =>
      K [⟨d, false, .one (.sc (.string (s.extract (match lo with | some l => l.toNat | none => 0) (match hi with | some h => h.toNat | none => s.size))))⟩] else none
    | some (.one y), some lo, some hi => (match y, seen A y with
      | .own _ _ _, .own e r xs => bif isEl E T e then (match lo with
        | none => bnds lo hi xs.length fun _ => K (gone x (.one y) ++ [⟨d, false, .one (.own e r (cutS xs lo hi))⟩])
        | some _ => bnds lo hi xs.length fun _ => K (gone x (.one y) ++ [⟨d, false, .one (.fz e r (cutS xs lo hi))⟩])) else none
      | _, .own e r xs => bif isEl E T e then bnds lo hi xs.length fun _ => K (cost A y ++ [⟨d, false, .one (.fz e r (cutS xs lo hi))⟩]) else none
      | _, .fz e r xs => bif isEl E T e then bnds lo hi xs.length fun _ => K [⟨d, false, .one (.fz e r (cutS xs lo hi))⟩] else none
      | _, _ => none)
    | _, _, _ => none
  | .buildSlice T n ps, some d => match E.ti T with
    | some ⟨.sl e r, false, _, _⟩ => bif Nat.beq n ps.size && Nat.ble (n * r.sz) 16777216 && (E.ti e).isSome then (match rowsP E A e r 0 ps.toList with
      | some (ys, us) => K (us ++ [⟨d, false, .one (.own e r ys)⟩])
      | none => none) else none
    | _ => none
  | .makeSlice T x y, some d => match E.ti T, opT E 0 A x, opT E 0 A y with
    | some ⟨.sl e r, false, _, _⟩, some (.one (.sc (.int .i64 n))), some (.one (.sc (.int .i64 m))) => (match E.ti e with
      | some te => bif zsame te.ty r && decide (n = m) then (bif decide (0 ≤ n) then (bif decide (n * te.by_ ≤ 140737488355328) then K [⟨d, false, .one (.own e r (List.replicate n.toNat r.dflt))⟩] else none) else none) else none
      | none => none)
    | _, _, _ => none
  | .call c, d => match c.callee with
    | .builtin .len => (match c.argTypes.toList, c.args.toList, d with
      | [T], [x], some d => (match opT E T A x with
        | some (.one y) => (match seen A y with
          | .sc (.string s) => bif isStr E T then K [⟨d, false, .one (.sc (.int .i64 (s.size : Int)))⟩] else none
          | .fz e _ xs => bif isEl E T e then K [⟨d, false, .one (.sc (.int .i64 (xs.length : Int)))⟩] else none
          | .own e _ xs => bif isEl E T e then K [⟨d, false, .one (.sc (.int .i64 (xs.length : Int)))⟩] else none
          | _ => none)
        | _ => none)
      | _, _, _ => none)
    | .builtin .min => (match opsT E c.argTypes.toList A c.args.toList, d with
      | some (.one (.sc (.int k x)) :: l), some d => minMax false l k x fun u => K [⟨d, false, .one (.sc u)⟩]
      | _, _ => none)
    | .builtin .max => (match opsT E c.argTypes.toList A c.args.toList, d with
      | some (.one (.sc (.int k x)) :: l), some d => minMax true l k x fun u => K [⟨d, false, .one (.sc u)⟩]
      | _, _ => none)
    | .builtin .append => (match c.argTypes.toList, c.args.toList, d with
      | [T, T'], [x, y], some d => (match opT E T A x, opT E T' A y with
        | some (.one u), some (.one w) => (match seen A u, seen A w with
          | .own e r xs, w' => (match asSl w' with
            | some ⟨e', r', ys⟩ => (match castL r r' ys, E.ti e with
              | some ys, some te => bif Nat.beq e e' && isEl E T e && Nat.beq T T' then (bif Nat.ble ((xs.length + ys.length) * te.by_) 140737488355328 then
                  K (took u x ++ [⟨d, false, .one (.own e r (xs ++ ys))⟩]) else none) else none
              | _, _ => none)
            | none => (match w' with
              | .sc (.string s) => (match castL r (.i .u8) (bytesOf s), E.ti e with
                | some ys, some ⟨.i .u8, false, 1, _⟩ => bif isEl E T e && isStr E T' && Nat.ble ((xs.length + s.size) * 1) 140737488355328 then
                  K (took u x ++ [⟨d, false, .one (.own e r (xs ++ ys))⟩]) else none
                | _, _ => none)
              | _ => none))
          | _, _ => none)
        | _, _ => none)
      | _, _, _ => none)
    | .value (.func f) => (match E.call f, opsT E c.argTypes.toList A c.args.toList with
      | some en, some ss => callF E c.argTypes.toList A en c.args.toList ss d K
      | _, _ => none)
    | _ => none
  | _, _ => none

/-! ### Code -/
def dstIn (E : En) (o : Oper) : Bool := match o.dst with
  | some d => Nat.blt d E.nt
  | none => true
def dstAt (ops : List Oper) (j : Nat) : Option Nat := match nth ops j with
  | some o => o.dst
  | none => none
/-- An operation that is not wanted. -/
def skipO (o : Oper) (A : Ab) : Ab := match o.dst with
  | some d => up A ⟨d, false, .one .un⟩
  | none => A
def lit (A : Ab) (d n : Nat) (v : Bool) : Ab := (d, n, .one (.sc (.bool v))) :: A

def evOps (E : En) (ops : List Oper) : List Nat → Ab → (Ab → Option R) → Option R
  | [], A, K => K A
  | i :: l, A, K => match nth ops i with
    | none => none
    | some o => bif dstIn E o then (match o.guard with
      | none => step E o A fun U => evOps E ops l (ups A U) K
      | some (j, want) => (match dstAt ops j with
        | none => none
        | some dj => bif Nat.blt dj E.nt then (match get A dj with
          | (n, .one (.sc (.bool b))) =>
            bif b then (bif want then step E o (lit A dj n true) fun U => evOps E ops l (ups (lit A dj n true) U) K else evOps E ops l (skipO o (lit A dj n true)) K)
            else (bif want then evOps E ops l (skipO o (lit A dj n false)) K else step E o (lit A dj n false) fun U => evOps E ops l (ups (lit A dj n false) U) K)
          | (_, .one .un) => evOps E ops l (skipO o A) K
          | _ => none) else none))
      else none

/-! ### A region whose order is drawn: in text order; what is not ordered touches other places -/
def rdC (A : Ab) (b : Nat) : Nat → Nat → List Nat
  | _, 0 => []
  | j, n + 1 => C b j :: ((match (get A (C b j)).2 with
    | .one (.al p _) => [p]
    | _ => []) ++ rdC A b (j + 1) n)
/-- The places that a leaf leads to. -/
def rdL (A : Ab) : Lf → List Nat
  | .al p _ => [p]
  | .ep p _ _ _ => [p]
  | .bp b _ _ => H b :: (match (get A (H b)).2 with
    | .one (.hd n) => rdC A b 0 n
    | _ => [])
  | _ => []
def rdLs (A : Ab) : List Lf → List Nat
  | [] => []
  | y :: l => rdL A y ++ rdLs A l
def rdO (A : Ab) : Operand → List Nat
  | .tmp t => t :: rdLs A (parts (get A t).2)
  | _ => []
def rdOs (A : Ab) : List Operand → List Nat
  | [] => []
  | x :: l => rdO A x ++ rdOs A l
def opsOf : Op → List Operand
  | .move x | .assign x | .unOp _ _ x | .convert _ _ x | .nilCheck x | .extract x _ | .field _ x _ | .box _ x | .load _ x | .fieldAddr _ x _ => [x]
  | .pick c x y => [c, x, y]
  | .binOp _ _ x y _ | .store _ x y | .makeSlice _ x y | .indexAddr _ x y | .index _ x y => [x, y]
  | .build _ ps | .buildSlice _ _ ps => ps.toList.map Prod.snd
  | .slice _ x lo hi _ => x :: (lo.toList ++ hi.toList)
  | .call c => c.args.toList
  | _ => []
def rdD : Option Nat → List Nat
  | some d => [d, H d]
  | none => []
/-- Of a pointer that is not followed. -/
def rdH : Lf → List Nat
  | .bp b _ _ => [H b]
  | .ep p _ _ _ => [p]
  | _ => []
def rdHs : List Lf → List Nat
  | [] => []
  | y :: l => rdH y ++ rdHs l
def rdP (A : Ab) : Operand → List Nat
  | .tmp t => t :: rdHs (parts (get A t).2)
  | _ => []
def rdT : Operand → List Nat
  | .tmp t => [t]
  | _ => []
def rdOp (A : Ab) : Op → List Nat
  | .move x => rdT x
  | .nilCheck x | .fieldAddr _ x _ => rdP A x
  | op => rdOs A (opsOf op)
/-- The places that an operation reads. -/
def rds (A : Ab) (o : Oper) : List Nat := rdD o.dst ++ rdOp A o.op

structure Lg where
  i : Nat
  anc : Nat
  F : List Nat
  W : List Nat
  ex : Option (Nat × Nat × Nat)

def memN (p : Nat) : List Nat → Bool
  | [] => false
  | q :: l => Nat.beq q p || memN p l
def disj : List Nat → List Nat → Bool
  | [], _ => true
  | p :: l, m => !(memN p m) && disj l m
def indep (x y : Lg) : Bool := (disj x.W y.F && disj y.W x.F) || (match x.ex, y.ex with
  | some (t, j, d), some (t', j', d') => Nat.beq t t' && !(Nat.beq j j') && !(Nat.beq d d') && !(Nat.beq d t) && !(Nat.beq d' t)
  | _, _ => false)
def aft (o : Oper) : List Nat := o.after.toList.filterMap fun e => bif Region.binds .any e then some e.on else none
/-- All that comes before, as a number's bits. -/
def ancAt : List Lg → Nat → Nat
  | [], _ => 0
  | x :: l, j => bif Nat.beq x.i j then x.anc else ancAt l j
def ancL (lg : List Lg) : List Nat → Nat
  | [] => 0
  | j :: l => (2 ^ j ||| ancAt lg j) ||| ancL lg l
def lgOk (l : List Lg) (y : Lg) : Bool := l.all fun x => Nat.testBit y.anc x.i || indep x y
def exOf (o : Oper) : Option (Nat × Nat × Nat) := match o.op, o.dst with
  | .extract (.tmp t) j, some d => some (t, j, d)
  | _, _ => none
def lgOf (o : Oper) (i : Nat) (lg : List Lg) (g : List Nat) (A : Ab) (U : List Up) : Lg := ⟨i, ancL lg (aft o), g ++ rds A o ++ U.map Up.l, U.map Up.l, bif g.isEmpty then exOf o else none⟩
def lgSkip (o : Oper) (i : Nat) (lg : List Lg) (g : List Nat) : Lg := ⟨i, ancL lg (aft o), g ++ o.dst.toList, o.dst.toList, none⟩

def evDrawOps (E : En) (ops : List Oper) : List Nat → List Lg → Ab → (Ab → Option R) → Option R
  | [], _, A, K => K A
  | i :: l, lg, A, K => match nth ops i with
    | none => none
    | some o => bif dstIn E o && (aft o).all (fun j => Nat.blt j i) then (match o.guard with
      | none => step E o A fun U => bif lgOk lg (lgOf o i lg [] A U) then evDrawOps E ops l (lgOf o i lg [] A U :: lg) (ups A U) K else none
      | some (j, want) => (match dstAt ops j with
        | none => none
        | some dj => bif Nat.blt dj E.nt then (match get A dj with
          | (n, .one (.sc (.bool b))) =>
            bif b then (bif want then step E o (lit A dj n true) fun U => bif lgOk lg (lgOf o i lg [dj] (lit A dj n true) U) then evDrawOps E ops l (lgOf o i lg [dj] (lit A dj n true) U :: lg) (ups (lit A dj n true) U) K else none
              else bif lgOk lg (lgSkip o i lg [dj]) then evDrawOps E ops l (lgSkip o i lg [dj] :: lg) (skipO o (lit A dj n true)) K else none)
            else (bif want then bif lgOk lg (lgSkip o i lg [dj]) then evDrawOps E ops l (lgSkip o i lg [dj] :: lg) (skipO o (lit A dj n false)) K else none
              else step E o (lit A dj n false) fun U => bif lgOk lg (lgOf o i lg [dj] (lit A dj n false) U) then evDrawOps E ops l (lgOf o i lg [dj] (lit A dj n false) U :: lg) (ups (lit A dj n false) U) K else none)
          | (_, .one .un) => bif lgOk lg (lgSkip o i lg [dj]) then evDrawOps E ops l (lgSkip o i lg [dj] :: lg) (skipO o A) K else none
          | _ => none) else none))
      else none

/-- A region whose order is drawn. -/
def evDraw (E : En) (ops : List Oper) (A : Ab) (K : Ab → Option R) : Option R := evDrawOps E ops (List.range ops.length) [] A K

def first : Code → Nat
  | .region id _ _ => id
  | .seq a _ => first a
  | .block _ c => first c
  | .loop c => first c
  | .scope c => first c
  | .cond _ a _ => first a
  | _ => 0

def keptOw (vs : List (Nat × Ty)) (p : Nat) : Bool := vs.any (fun x => Nat.beq x.1 p && (match x.2 with | .ow _ _ => true | _ => false))
def isOw : Ty → Bool
  | .ow _ _ => true
  | _ => false

/-- A leaf that is kept for later, at a place. -/
def absV (A : Ab) (vs : List (Nat × Ty)) (l : Nat) (t : Ty) : Option t.den :=
  match (get A l).2 with
  | .one (.al p v) => bif keptOw vs p then none else mkW t [calm (seen A (.al p v))]
  | .one (.own e r xs) => bif isOw t then mkW t [.own e r xs] else bif keptOw vs l then none else mkW t [.fz e r xs]
  | .one x => mkW t [x]
  | _ => none

def absVs (A : Ab) (all : List (Nat × Ty)) : (vs : List (Nat × Ty)) → Option (Den (vs.map Prod.snd))
  | [] => some ()
  | [v] => absV A all v.1 v.2
  | v :: w :: l => match absV A all v.1 v.2 with
    | some x => (match absVs A all (w :: l) with
      | some y => some (x, y)
      | none => none)
    | none => none

def absC (A : Ab) : List (Nat × Lf) → Bool
  | [] => true
  | (l, .bp b v0 off) :: cs => (match get A l with
    | (_, .one (.bp b' v off')) => Nat.beq v0 0 && Nat.beq b b' && Nat.beq off off' && (match get A (H b) with
      | (n, .one (.hd _)) => Nat.beq n v
      | _ => false)
    | _ => false) && absC A cs
  | (l, .hd m) :: cs => (match get A l with
    | (_, .one (.hd m')) => Nat.beq m m'
    | _ => false) && absC A cs
  | _ => false

def absL (v : Live) (A : Ab) : Option v.den := bif absC A v.cs then absVs A v.vs v.vs else none

def concVs : (vs : List (Nat × Ty)) → Den (vs.map Prod.snd) → Ab
  | [], _ => []
  | [v], x => (match leaves v.2 x with | [y] => [(v.1, 0, .one y)] | _ => [])
  | v :: w :: l, x => (match leaves v.2 x.1 with | [y] => [(v.1, 0, .one y)] | _ => []) ++ concVs (w :: l) x.2
def concL (v : Live) (x : v.den) : Ab := concVs v.vs x ++ v.cs.map fun c => (c.1, 0, .one c.2)

def altK (K : Ex → Ab → Option R) : (l : List (Ex × Live)) → AltD l → Option R
  | [], x => nomatch x
  | [a], x => K a.1 (concL a.2 x)
  | a :: b :: l, x => Sum.elim (fun y => K a.1 (concL a.2 y)) (fun z => altK K (b :: l) z) x

def exB : Ex → Ex → Bool
  | .normal, .normal => true
  | .exit i, .exit j => Nat.beq i j
  | .ret, .ret => true
  | _, _ => false

def altOf (e : Ex) (A : Ab) : (l : List (Ex × Live)) → Option (AltD l)
  | [] => none
  | [a] => bif exB e a.1 then absL a.2 A else none
  | a :: b :: l => bif exB e a.1 then (match absL a.2 A with | some x => some (.inl x) | none => none) else (match altOf e A (b :: l) with | some x => some (.inr x) | none => none)

def evCode (E : En) : Code → Ab → (Ex → Ab → Option R) → Option R
  | .skip, A, K => K .normal A
  | .region _ ops draw, A, K => bif draw then evDraw E ops.toList A (K .normal) else evOps E ops.toList (List.range ops.size) A (K .normal)
  | .seq a b, A, K => evCode E a A fun e A' => match e with
    | .normal => evCode E b A' K
    | e => K e A'
  | .cond c x y, A, K => match opT E 0 A c with
    | some (.one (.sc (.bool b))) => bif b then evCode E x A K else evCode E y A K
    | _ => none
  | .block id c, A, K => evCode E c A fun e A' => match e with
    | .exit i => bif Nat.beq i id then K .normal A' else K (.exit i) A'
    | e => K e A'
  | .loop c, A, K => match E.lp (first c) with
    | some L => (match absL L.ins A with
      | some x => (L.run x).bind fun r => altK K L.alts r
      | none => none)
    | none => none
  | .exit id, A, K => K (.exit id) A
  | .ret, A, K => K .ret A
  | _, _, _ => none

/-- The body of the loop with this number. -/
def loopAt (l : Nat) : Code → Code
  | .seq a b => match loopAt l a with
    | .skip => loopAt l b
    | c => c
  | .cond _ a b => match loopAt l a with
    | .skip => loopAt l b
    | c => c
  | .block _ c => loopAt l c
  | .loop c => bif Nat.beq (first c) l then c else loopAt l c
  | _ => .skip

/-- A loop's round: from its head back to it, or to one of its ends. -/
def evLoop (E : En) (L : Lp) (c : Code) (x : L.ins.den) : Option (AltD L.alts) :=
  evCode E c (concL L.ins x) fun e A => match e with
    | .normal => (match absL L.ins A with
      | some y => L.run y
      | none => none)
    | e => altOf e A L.alts

/-! ### A function -/
def oneL : List Lf → Lf
  | [x] => x
  | _ => .dead

def startP : Nat → List Par → List (List Lf) → Ab
  | i, .val ag _ :: ps, l :: ls => (i, 0, (bif ag then .agg l else .one (oneL l))) :: startP (i + 1) ps ls
  | i, .ptr t _ :: ps, l :: ls => (i, 0, .one (.bp i 0 0)) :: (H i, 0, .one (.hd t.sz)) :: (ups [] (putCells i 0 l) ++ startP (i + 1) ps ls)
  | _, _, _ => []

def start (ps : List Par) (x : Den (ps.map Par.ty)) : Ab := startP 0 ps (leavesD _ x)

def noSl : Ty → Bool
  | .sl _ _ => false
  | .pr x y => noSl x && noSl y
  | _ => true

/-- A result: its leaves, and what it costs. -/
def resOf (np : Nat) (A : Ab) (k : RK) (t : Ty) (x : Operand) (s : Sv) : Option (List Lf × List Up) := match k with
  | .ptr => (match s with
    | .one (.bp b v 0) => (match get A (H b) with
      | (n, .one (.hd m)) => bif Nat.beq n v && Nat.ble np b && noOw t && Nat.beq m t.sz && Nat.blt m 999 && storable ((cellsOf A b 0 m).map (kept A)) then some ((cellsOf A b 0 m).map (kept A), costs A (cellsOf A b 0 m) ++ [⟨H b, true, .one .dead⟩]) else none
      | _ => none)
    | _ => none)
  | k => bif formOk (isAggK k) s && storable ((parts s).map (kept A)) && (noOw t || noSl t) then some (bif noOw t then ((parts s).map (kept A)).map calm else (parts s).map (kept A), costs A (parts s) ++ gone x s) else none

/-- A result that stands in a box. -/
def resCell (np : Nat) (A : Ab) (t : Ty) : Sv → Option (List Lf × List Up)
  | .one (.bp b v 0) => (match get A (H b) with
    | (n, .one (.hd m)) => bif Nat.beq n v && Nat.beq m t.sz && Nat.ble np b then
        (bif noOw t then (bif storable ((cellsOf A b 0 m).map (kept A)) then some ((cellsOf A b 0 m).map (kept A), costs A (cellsOf A b 0 m)) else none)
         else bif noSl t && storable (rawOf A b 0 m) then some (rawOf A b 0 m, ⟨H b, true, .one .dead⟩ :: putCells b 0 (List.replicate m .dead)) else none) else none
    | _ => none)
  | _ => none

def resL (E : En) : Ab → List (RK × Ty) → List ResultVar → Option (List (List Lf) × List Up)
  | _, [], [] => some ([], [])
  | A, (k, t) :: ks, .tmp x :: rs => bif Nat.blt x E.nt then (match resOf E.np A k t (.tmp x) (get A x).2 with
    | some (l, u) => (match resL E (ups A u) ks rs with
      | some (ls, us) => some (l :: ls, u ++ us)
      | none => none)
    | none => none) else none
  | A, (.agg, t) :: ks, .cell x T :: rs => bif Nat.blt x E.nt && (match E.ti T with | some ti => ti.ag && Nat.beq ti.ty.sz t.sz | none => false) then (match resCell E.np A t (get A x).2 with
    | some (l, u) => (match resL E (ups A u) ks rs with
      | some (ls, us) => some (l :: ls, u ++ us)
      | none => none)
    | none => none) else none
  | _, _, _ => none

def ptrL : Ab → Nat → List Par → Option (List (List Lf))
  | _, _, [] => some []
  | A, i, .val _ _ :: ps => ptrL A (i + 1) ps
  | A, i, .ptr t t' :: ps => match get A (H i) with
    | (_, .one (.hd m)) => bif Nat.beq m t.sz && Nat.beq m t'.sz && noOw t' && storable ((cellsOf A i 0 m).map (kept A)) then (match ptrL (ups A (costs A (cellsOf A i 0 m))) (i + 1) ps with
      | some ls => some ((cellsOf A i 0 m).map (kept A) :: ls)
      | none => none) else none
    | _ => none

/-- What a body comes to. -/
def evBody (E : En) (c : Code) (rv : List ResultVar) (en : Ent) (x : Den (en.ps.map Par.ty)) : Option (Den (en.rs.map Prod.snd ++ ptrOuts en.ps)) :=
  evCode E c (start en.ps x) fun e A => match e with
    | .exit _ => none
    | _ => match resL E A en.rs rv with
      | some (ls, us) => (match ptrL (ups A us) 0 en.ps with
        | some bs => mkDen (en.rs.map Prod.snd ++ ptrOuts en.ps) (ls ++ bs)
        | none => none)
      | none => none
end
end Go.Proofs.Ytehkignjdbkeiaa.Vf
