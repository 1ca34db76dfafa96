import Derived.Calls
import Derived.Orders
namespace Go.Proofs.YtgocagaijgcnmaaGreat.Vf
open Go
inductive Ty where
 | i (k : IntKind)
 | b
 | s
 | sl (e : TypeId) (r : Ty)
 | ow (e : TypeId) (r : Ty)
 | pr (x y : Ty)
 deriving DecidableEq
@[reducible] def Ty.den : Ty → Type
 | .i _ => Int
 | .b => Bool
 | .s => ByteArray
 | .sl _ r => List r.den
 | .ow _ r => List r.den
 | .pr x y => x.den × y.den
def Ty.dflt : (t : Ty) → t.den
 | .i _ => (0 : Int)
 | .b => false
 | .s => (⟨#[]⟩ : ByteArray)
 | .sl _ _ => []
 | .ow _ _ => []
 | .pr x y => (x.dflt, y.dflt)
def Ty.sz : Ty → Nat
 | .pr x y => x.sz + y.sz
 | _ => 1
def shp : Ty → Ty
 | .i k => .i k
 | .b => .b
 | .s => .s
 | .sl e r => .sl e (shp r)
 | .ow e r => .sl e (shp r)
 | .pr x y => .pr (shp x) (shp y)
theorem shp_den : ∀ t : Ty, (shp t).den = t.den
 | .i _ => rfl
 | .b => rfl
 | .s => rfl
 | .sl _ r => congrArg List (shp_den r)
 | .ow _ r => congrArg List (shp_den r)
 | .pr x y => by show ((shp x).den × (shp y).den) = (x.den × y.den); rw [shp_den x, shp_den y]
theorem den_of {t u : Ty} (h : shp u = shp t) : u.den = t.den := (shp_den u).symm.trans ((congrArg Ty.den h).trans (shp_den t))
def noOw : Ty → Bool
 | .ow _ _ => false
 | .pr x y => noOw x && noOw y
 | _ => true
def allOw : Ty → Bool
 | .sl _ _ => false
 | .ow _ r => allOw r
 | .pr x y => allOw x && allOw y
 | _ => true
inductive Lf where
 | dead
 | un
 | sc (u : Value)
 | fz (e : TypeId) (r : Ty) (xs : List r.den)
 | own (e : TypeId) (r : Ty) (xs : List r.den)
 | al (p v : Nat)
 | bp (b v off : Nat)
 | ep (p v : Nat) (i : Int) (off : Nat)
 | fp (r : Ty) (x : r.den) (off : Nat)
 | hd (n : Nat)
 | da (p v : Nat) (pi : Option (List (Int × Nat))) (e : TypeId) (r : Ty) (xs : List r.den)
 | dp (p v : Nat) (pi : Option (List (Int × Nat))) (e : TypeId) (r : Ty) (xs : List r.den) (i : Int) (off : Nat)
 | opn (e : TypeId) (r : Ty) (xs : List r.den) (i : Int) (b v : Nat)
 | fn (F : FuncId) (bs : List (Nat × Nat))
inductive Sv where
 | one (x : Lf)
 | agg (cs : List Lf)
 | tup (vs : List (Bool × List Lf))
abbrev Ab := List (Nat × Nat × Sv)
def get : Ab → Nat → Nat × Sv
 | [], _ => (0, .one .dead)
 | (k, n, s) :: t, l => bif Nat.beq k l then (n, s) else get t l
structure Up where
 l : Nat
 keep : Bool
 s : Sv
def up (A : Ab) (u : Up) : Ab := (u.l, bif u.keep then (get A u.l).1 else (get A u.l).1 + 1, u.s) :: A
def ups (A : Ab) : List Up → Ab
 | [] => A
 | u :: l => ups (up A u) l
def zsame : Ty → Ty → Bool
 | .i k, .i k' => decide (k = k')
 | .b, .b => true
 | .s, .s => true
 | .sl _ _, .sl _ _ => true
 | .sl _ _, .ow _ _ => true
 | .ow _ _, .sl _ _ => true
 | .ow _ _, .ow _ _ => true
 | .pr x y, .pr x' y' => zsame x x' && zsame y y'
 | _, _ => false
def C (b j : Nat) : Nat := 1000 * (b + 1) + j
def H (b : Nat) : Nat := 1000 * (b + 1) + 999
def castL (r r' : Ty) (xs : List r'.den) : Option (List r.den) := if h : shp r' = shp r then some (cast (congrArg List (den_of h)) xs) else none
def castO (r r' : Ty) (xs : List r'.den) : Option (List r.den) := if h : r' = r then some (h ▸ xs) else if shp r' = shp r then (match xs with | [] => some [] | _ => none) else none
def leaves : (t : Ty) → t.den → List Lf
 | .i k, n => [.sc (.int k n)]
 | .b, x => [.sc (.bool x)]
 | .s, x => [.sc (.string x)]
 | .sl e r, xs => [.fz e r xs]
 | .ow e r, xs => [.own e r xs]
 | .pr x y, p => leaves x p.1 ++ leaves y p.2
def lvs : (t : Ty) → t.den → List Lf
 | .i k, n => [.sc (.int k n)]
 | .b, x => [.sc (.bool x)]
 | .s, x => [.sc (.string x)]
 | .sl e r, xs => [.fz e r xs]
 | .ow e r, xs => [.fz e r xs]
 | .pr x y, p => lvs x p.1 ++ lvs y p.2
def mkT : (t : Ty) → List Lf → Option (t.den × List Lf)
 | .i k, .sc (.int k' n) :: l => bif decide (k = k') then some (n, l) else none
 | .b, .sc (.bool x) :: l => some (x, l)
 | .s, .sc (.string x) :: l => some (x, l)
 | .sl e r, .fz e' r' xs :: l => bif Nat.beq e e' then (match castL r r' xs with | some ys => some (ys, l) | none => none) else none
 | .sl e r, .own e' r' xs :: l => bif Nat.beq e e' then (match castL r r' xs with | some ys => some (ys, l) | none => none) else none
 | .ow e r, .own e' r' xs :: l => bif Nat.beq e e' then (match castO r r' xs with | some ys => some (ys, l) | none => none) else none
 | .pr x y, l => match mkT x l with
  | some (p, l1) => (match mkT y l1 with
   | some (q, l2) => some ((p, q), l2)
   | none => none)
  | none => none
 | _, _ => none
def mkW (t : Ty) (l : List Lf) : Option t.den := match mkT t l with
 | some (x, []) => some x
 | _ => none
structure TI where
 ty : Ty
 ag : Bool
 by_ : Nat
 fo : List (Nat × Nat × Bool)
@[reducible] def Den : List Ty → Type
 | [] => Unit
 | [t] => t.den
 | t :: u :: l => t.den × Den (u :: l)
inductive Par where
 | vw (t : Ty) (h : Nat)
 | val (ag : Bool) (t : Ty)
 | ptr (t t' : Ty)
 | rd (t : Ty)
 | fn (F : FuncId) (m : Nat)
 | hid (t t' : Ty)
def Par.ty : Par → Ty
 | .vw t _ => t
 | .val _ t => t
 | .ptr t _ => t
 | .rd t => t
 | .fn _ _ => .b
 | .hid t _ => t
def mkDen : (ts : List Ty) → List (List Lf) → Option (Den ts)
 | [], [] => some ()
 | [t], [l] => mkW t l
 | t :: u :: ts, l :: ls => match mkW t l with
  | some x => (match mkDen (u :: ts) ls with
   | some y => some (x, y)
   | none => none)
  | none => none
 | _, _ => none
def leavesD : (ts : List Ty) → Den ts → List (List Lf)
 | [], _ => []
 | [t], x => [leaves t x]
 | t :: u :: ts, x => leaves t x.1 :: leavesD (u :: ts) x.2
def ptrOuts : List Par → List Ty
 | [] => []
 | .ptr _ t' :: l => t' :: ptrOuts l
 | .hid _ t' :: l => t' :: ptrOuts l
 | _ :: l => ptrOuts l
inductive RK where
 | one
 | agg
 | ptr
structure Ent where
 nv : Nat
 ps : List Par
 rs : List (RK × Ty)
 run : Den (ps.map Par.ty) → Option (Den (rs.map Prod.snd ++ ptrOuts ps))
inductive Ex where
 | normal
 | exit (id : Nat)
 | ret
structure Live where
 cs : List (Nat × Lf)
 vs : List (Nat × Ty)
@[reducible] def Live.den (v : Live) : Type := Den (v.vs.map Prod.snd)
@[reducible] def AltD : List (Ex × Live) → Type
 | [] => Empty
 | [a] => a.2.den
 | a :: b :: l => a.2.den ⊕ AltD (b :: l)
structure Lp where
 ins : Live
 alts : List (Ex × Live)
 run : ins.den → Option (AltD alts)
inductive Gh where
 | cl (p : Nat)
 | op (p t B : Nat)
 | od (d B : Nat)
 | oc (p : Nat) (i : Int) (B : Nat)
structure En where
 nt : Nat
 ti : TypeId → Option TI
 eq : TypeId → Bool
 nm : Nat → Bool
 res : Nat → Bool
 call : FuncId → Option Ent
 lp : Nat → Option Lp
 np : Nat
 hint : Nat → Option Ty
 mv : Nat → Bool
 gh : Nat → List Gh
 opn : Nat → Bool
 sh : Nat → Bool
 rf : Bool
def isSc : Value → Bool
 | .int _ _ | .bool _ | .string _ | .func _ _ _ | .pointer none => true
 | _ => false
def opT (E : En) (T : TypeId) (A : Ab) : Operand → Option Sv
 | .tmp t => bif Nat.blt t E.nt then some (get A t).2 else none
 | .const (.slice none 0 0) => match E.ti T with
  | some ⟨.sl e r, false, _, _⟩ => some (.one (.own e r []))
  | _ => none
 | .const v => bif isSc v then some (.one (.sc v)) else none
 | .func f => some (.one (.sc (.func (.func f) #[] #[])))
 | .global _ => none
def elT (E : En) (T : TypeId) : Option TypeId := match E.ti T with
 | some ⟨.sl e _, false, _, _⟩ => some e
 | _ => none
def isEl (E : En) (T e : TypeId) : Bool := match elT E T with
 | some e' => Nat.beq e' e
 | none => false
def isStr (E : En) (T : TypeId) : Bool := match E.ti T with
 | some ⟨.s, false, _, _⟩ => true
 | _ => false
def seen (A : Ab) : Lf → Lf
 | .al p v => match get A p with
  | (n, .one (.own e r xs)) => bif Nat.beq n v then .own e r xs else .dead
  | (n, .one (.fz e r xs)) => bif Nat.beq n v then .fz e r xs else .dead
  | _ => .dead
 | x => x
def view (A : Ab) : Lf → Lf
 | .da p v _ e r xs => bif Nat.beq (get A p).1 v then .fz e r xs else .dead
 | x => seen A x
structure Sl where
 e : TypeId
 r : Ty
 xs : List r.den
def srcOf (A : Ab) (x : Lf) : Option Sl := match x with
 | .da p v _ e r xs => bif Nat.beq (get A p).1 v && noOw r then some ⟨e, r, xs⟩ else none
 | x => (match seen A x with
  | .fz e r xs => some ⟨e, r, xs⟩
  | .own e r xs => bif noOw r then some ⟨e, r, xs⟩ else none
  | _ => none)
def liveP (A : Ab) : Lf → Bool
 | .bp b v _ => Nat.beq (get A (H b)).1 v
 | .ep p v _ _ => (match get A p with
  | (n, .one (.own _ _ _)) => Nat.beq n v
  | _ => false)
 | .fp _ _ _ => true
 | .dp p v _ _ _ _ _ _ => Nat.beq (get A p).1 v
 | _ => false
def addOff : Lf → Nat → Lf
 | .bp b v n, k => .bp b v (n + k)
 | .ep p v i n, k => .ep p v i (n + k)
 | .fp r x n, k => .fp r x (n + k)
 | .dp p v pi e r xs i n, k => .dp p v pi e r xs i (n + k)
 | x, _ => x
def ownIn : List Lf → Bool
 | [] => false
 | .own _ _ _ :: _ => true
 | .opn _ _ _ _ _ _ :: _ => true
 | _ :: l => ownIn l
def ownSv : Sv → Bool
 | .one x => ownIn [x]
 | .agg l => ownIn l
 | .tup vs => vs.any fun v => ownIn v.2
def calm : Lf → Lf
 | .own e r xs => .fz e r xs
 | .opn _ _ _ _ _ _ => .dead
 | x => x
def cost (A : Ab) : Lf → List Up
 | .al p v => match get A p with
  | (n, .one (.own e r xs)) => bif Nat.beq n v then [⟨p, true, .one (.fz e r xs)⟩] else []
  | _ => []
 | _ => []
def costs (A : Ab) : List Lf → List Up
 | [] => []
 | x :: l => cost A x ++ costs A l
def apart (p : Nat) : List Up → Bool
 | [] => true
 | u :: l => !(Nat.beq u.l p) && apart p l
def gone : Operand → Sv → List Up
 | .tmp t, s => bif ownSv s then [⟨t, false, .one .dead⟩] else []
 | _, _ => []
def took : Lf → Operand → List Up
 | .al p _, _ => [⟨p, false, .one .dead⟩]
 | _, .tmp t => [⟨t, false, .one .dead⟩]
 | _, _ => []
def parts : Sv → List Lf
 | .one x => [x]
 | .agg l => l
 | .tup _ => []
def ofParts (ag : Bool) (l : List Lf) : Option Sv := bif ag then some (.agg l) else match l with
 | [x] => some (.one x)
 | _ => none
def nth {α : Type} : List α → Nat → Option α
 | [], _ => none
 | x :: _, 0 => some x
 | _ :: l, n + 1 => nth l n
section
variable {R : Type}
def bopInt (op : BinOp) (k : IntKind) (x y : Int) (K : Value → Option R) : Option R :=
 match op with
 | .add => K (.int k (k.wrap (x + y)))
 | .sub => K (.int k (k.wrap (x - y)))
 | .mul => K (.int k (k.wrap (x * y)))
 | .quo => bif decide (y = 0) then none else K (.int k (k.wrap (x.tdiv y)))
 | .rem => bif decide (y = 0) then none else K (.int k (x.tmod y))
 | .and => K (.int k (k.wrap ((BitVec.ofInt k.bits x &&& BitVec.ofInt k.bits y).toNat)))
 | .or => K (.int k (k.wrap ((BitVec.ofInt k.bits x ||| BitVec.ofInt k.bits y).toNat)))
 | .xor => K (.int k (k.wrap ((BitVec.ofInt k.bits x ^^^ BitVec.ofInt k.bits y).toNat)))
 | .andNot => K (.int k (k.wrap ((BitVec.ofInt k.bits x &&& ~~~ BitVec.ofInt k.bits y).toNat)))
 | .eql => K (.bool (x == y))
 | .neq => K (.bool (x != y))
 | .lss => K (.bool (x < y))
 | .leq => K (.bool (x ≤ y))
 | .gtr => K (.bool (x > y))
 | .geq => K (.bool (x ≥ y))
 | _ => none
def bopStr (op : BinOp) (x y : ByteArray) (K : Value → Option R) : Option R :=
 match op with
 | .add => bif Nat.ble (x.size + y.size) 9223372036854775807 then K (.string (x ++ y)) else none
 | .eql => K (.bool (x.toList == y.toList))
 | .neq => K (.bool !(x.toList == y.toList))
 | .lss => K (.bool (Op.bytesLess x.toList y.toList))
 | .leq => K (.bool (Op.bytesLess x.toList y.toList || x.toList == y.toList))
 | .gtr => K (.bool !(Op.bytesLess x.toList y.toList || x.toList == y.toList))
 | .geq => K (.bool !(Op.bytesLess x.toList y.toList))
 | _ => none
def eqLeaves : List Lf → List Lf → Option Bool
 | [], [] => some true
 | [.sc (.int k x)], [.sc (.int k' y)] => bif decide (k = k') then some (x == y) else none
 | [.sc (.bool x)], [.sc (.bool y)] => some (x == y)
 | [.sc (.string x)], [.sc (.string y)] => some (x == y)
 | .sc (.int k x) :: l, .sc (.int k' y) :: l' => bif decide (k = k') then (match eqLeaves l l' with | some b => some ((x == y) && b) | none => none) else none
 | .sc (.bool x) :: l, .sc (.bool y) :: l' => match eqLeaves l l' with | some b => some ((x == y) && b) | none => none
 | .sc (.string x) :: l, .sc (.string y) :: l' => match eqLeaves l l' with | some b => some ((x == y) && b) | none => none
 | _, _ => none
def allSc : List Lf → Bool
 | [] => true
 | .sc _ :: l => allSc l
 | _ => false
def kindsOk (tT : Option TI) (l : List Lf) : Bool := match tT with
 | some ti => (mkW ti.ty l).isSome
 | none => false
def bop (op : BinOp) (tT : Option TI) (eqs : Bool) (x y : Sv) (K : Value → Option R) : Option R :=
 match x, y with
 | .one (.sc (.int k a)), .one (.sc (.int k' b)) =>
  match op with
  | .shl => bif decide (b < 0) then none else K (.int k (k.wrap (a * 2 ^ (min b.toNat k.bits))))
  | .shr => bif decide (b < 0) then none else K (.int k (a.fdiv (2 ^ (min b.toNat k.bits))))
  | _ => bif decide (k = k') then bopInt op k a b K else none
 | .one (.sc (.string a)), .one (.sc (.string b)) => bopStr op a b K
 | .one (.sc (.bool a)), .one (.sc (.bool b)) => match op, tT with
  | .eql, some ⟨.b, false, _, _⟩ => K (.bool (a == b))
  | .neq, some ⟨.b, false, _, _⟩ => K (.bool (!(a == b)))
  | _, _ => none
 | .agg l, .agg l' => bif eqs && allSc l && allSc l' && (kindsOk tT l && kindsOk tT l') then (match op with
  | .eql => (match eqLeaves l l' with | some b => K (.bool b) | none => none)
  | .neq => (match eqLeaves l l' with | some b => K (.bool (!b)) | none => none)
  | _ => none) else none
 | _, _ => none
def uop (op : UnOp) (x : Sv) (K : Value → Option R) : Option R :=
 match op, x with
 | .neg, .one (.sc (.int k n)) => K (.int k (k.wrap (0 - n)))
 | .xor, .one (.sc (.int k n)) => K (.int k (k.wrap ((BitVec.ofInt k.bits (if k.signed then -1 else k.max) ^^^ BitVec.ofInt k.bits n).toNat)))
 | .not, .one (.sc (.bool b)) => K (.bool !b)
 | _, _ => none
def strOf (xs : List Int) : ByteArray := ⟨(xs.map fun n => UInt8.ofNat n.toNat).toArray⟩
def bytesOf (s : ByteArray) : List Int := s.data.toList.map fun b => (b.toNat : Int)
def bt (s : ByteArray) (i : Int) : Int := ((s.data.toList.getD i.toNat 0).toNat : Int)
def conv (src dst : Option TI) (x : Sv) (K : Sv → Option R) : Option R :=
 match src, dst, x with
 | some ⟨.i _, false, _, _⟩, some ⟨.i k, false, _, _⟩, .one (.sc (.int _ n)) => K (.one (.sc (.int k (k.wrap n))))
 | some ⟨.s, false, _, _⟩, some ⟨.s, false, _, _⟩, .one (.sc (.string s)) => K (.one (.sc (.string s)))
 | some ⟨.sl e (.i .u8), false, _, _⟩, some ⟨.s, false, _, _⟩, .one (.fz e' (.i .u8) xs) => bif Nat.beq e e' then K (.one (.sc (.string (strOf xs)))) else none
 | some ⟨.sl e (.i .u8), false, _, _⟩, some ⟨.s, false, _, _⟩, .one (.own e' (.i .u8) xs) => bif Nat.beq e e' then K (.one (.sc (.string (strOf xs)))) else none
 | some ⟨.s, false, _, _⟩, some ⟨.sl e (.i .u8), false, _, _⟩, .one (.sc (.string s)) => bif Nat.ble s.size 140737488355328 then K (.one (.fz e (.i .u8) (bytesOf s))) else none
 | _, _, _ => none
def minMax (mx : Bool) : List Sv → IntKind → Int → (Value → Option R) → Option R
 | [], k, x, K => K (.int k x)
 | .one (.sc (.int k' y)) :: l, k, x, K => bif decide (k = k') then minMax mx l k (bif mx then (if x < y then y else x) else (if y < x then y else x)) K else none
 | _, _, _, _ => none
def cellsOf (A : Ab) (b : Nat) : Nat → Nat → List Lf
 | _, 0 => []
 | j, n + 1 => (match get A (C b j) with
  | (v, .one (.own _ _ _)) => Lf.al (C b j) v
  | (v, .one (.opn _ _ _ _ _ _)) => Lf.al (C b j) v
  | (_, .one x) => x
  | _ => .dead) :: cellsOf A b (j + 1) n
def putCells (b : Nat) : Nat → List Lf → List Up
 | _, [] => []
 | j, x :: l => ⟨C b j, false, .one x⟩ :: putCells b (j + 1) l
def kept (A : Ab) (x : Lf) : Lf := match x with
 | .al _ _ => calm (seen A x)
 | _ => x
def zeros : Ty → List Lf
 | .i k => [.sc (.int k 0)]
 | .b => [.sc (.bool false)]
 | .s => [.sc (.string ⟨#[]⟩)]
 | .sl e r => [.own e r []]
 | .ow e r => [.own e r []]
 | .pr x y => zeros x ++ zeros y
def storable : List Lf → Bool
 | [] => true
 | .sc _ :: l | .fz _ _ _ :: l | .own _ _ _ :: l => storable l
 | _ => false
def storableD (A : Ab) : List Lf → Bool
 | [] => true
 | .sc _ :: l | .fz _ _ _ :: l | .own _ _ _ :: l => storableD A l
 | .da p v _ _ _ _ :: l => Nat.beq (get A p).1 v && storableD A l
 | _ => false
def storableA (A : Ab) : List Lf → Bool
 | [] => true
 | .sc _ :: l | .fz _ _ _ :: l => storableA A l
 | .al p v :: l => (match seen A (.al p v) with
  | .own _ _ _ | .fz _ _ _ => true
  | _ => false) && storableA A l
 | _ => false
def setAll (l : List Lf) (off : Nat) (m : List Lf) : List Lf := l.take off ++ m ++ l.drop (off + m.length)
def takeLs : Ab → List Lf → Option (List Lf × List Up)
 | _, [] => some ([], [])
 | A, .al p v :: l => (match seen A (.al p v) with
  | .own e r xs => (match takeLs (up A ⟨p, false, .one .dead⟩) l with
   | some (m, us) => some (.own e r xs :: m, ⟨p, false, .one .dead⟩ :: us)
   | none => none)
  | _ => none)
 | A, x :: l => (match takeLs A l with
  | some (m, us) => some (x :: m, us)
  | none => none)
def give (A : Ab) (x : Operand) (s : Sv) : Option (List Lf × List Up) := match takeLs (ups A (gone x s)) (parts s) with
 | some (m, us) => some (m, gone x s ++ us)
 | none => none
def owned : List Lf → Bool
 | [] => true
 | .sc _ :: l | .own _ _ _ :: l => owned l
 | _ => false
def slots : Ty → List Ty
 | .pr x y => slots x ++ slots y
 | t => [t]
def daL (p v : Nat) (pi : Option (List (Int × Nat))) (i : Int) : Nat → List Lf → List Lf
 | _, [] => []
 | j, .own e r xs :: l => .da p v (match pi with | some q => some (q ++ [(i, j)]) | none => none) e r xs :: daL p v pi i (j + 1) l
 | j, .opn _ _ _ _ _ _ :: l => .dead :: daL p v pi i (j + 1) l
 | j, x :: l => x :: daL p v pi i (j + 1) l
def putAt (r0 : Ty) (ys : List r0.den) : List (Int × Nat) → (r : Ty) → List r.den → Option (List r.den)
 | [], r, _ => if h : r0 = r then some (h ▸ ys) else none
 | (i, j) :: q, r, xs => match nth (leaves r (xs.getD i.toNat r.dflt)) j with
  | some (.own e1 r1 zs) => (match putAt r0 ys q r1 zs with
   | some zs' => (match mkW r (setAll (leaves r (xs.getD i.toNat r.dflt)) j [.own e1 r1 zs']) with
    | some z => some (xs.set i.toNat z)
    | none => none)
   | none => none)
  | _ => none
def lends : List Par → Bool
 | [] => true
 | .val _ t :: ps => noOw t && lends ps
 | _ :: _ => false
def news : List (RK × Ty) → Bool
 | [] => true
 | (.ptr, _) :: _ => false
 | (_, t) :: rs => allOw t && news rs
def form : Sv → Option Bool
 | .one _ => some false
 | .agg _ => some true
 | .tup _ => none
def formOk (ag : Bool) (s : Sv) : Bool := match form s with
 | some b => bif ag then b else !b
 | none => false
def lentOf (A : Ab) : List Par → List Sv → Option (List (List Lf))
 | [], [] => some []
 | .val ag _ :: ps, s :: ss => bif formOk ag s && storable ((parts s).map (fun y => calm (view A y))) then (match lentOf A ps ss with
  | some ls => some ((parts s).map (fun y => calm (view A y)) :: ls)
  | none => none) else none
 | _, _ => none
def ownAs (e : TypeId) (r : Ty) : Lf → Option Lf
 | .own e' r' xs => bif Nat.beq e e' then (match castO r r' xs with
  | some ys => some (.own e r ys)
  | none => bif noOw r then (match castL r r' xs with
   | some ys => some (.own e r ys)
   | none => none) else none) else none
 | _ => none
def tookP : Lf → List Up
 | .al p _ => [⟨p, false, .one .dead⟩]
 | _ => []
def xferLs : Ab → List Ty → List Lf → Option (List Lf × List Up)
 | _, [], [] => some ([], [])
 | A, .ow e r :: ts, x :: l => (match ownAs e r (seen A x) with
  | some y => (match xferLs (ups A (tookP x)) ts l with
   | some (m, us) => some (y :: m, tookP x ++ us)
   | none => none)
  | none => none)
 | A, _ :: ts, x :: l => (match xferLs (ups A (cost A x)) ts l with
  | some (m, us) => some (calm (kept A x) :: m, cost A x ++ us)
  | none => none)
 | _, _, _ => none
def giveL (A : Ab) (x : Operand) (s : Sv) (ts : List Ty) : Option (List Lf × List Up) := match xferLs (ups A (gone x s)) ts (parts s) with
 | some (m, us) => bif storable m then some (m, gone x s ++ us) else none
 | none => none
def giveT (A : Ab) (x : Operand) (s : Sv) (t : Ty) : Option (List Lf × List Up) := giveL A x s (slots t)
def asIs (A : Ab) : List Lf → List Ty
 | [] => []
 | x :: l => (match seen A x with
  | .own e r _ => .ow e r
  | _ => .b) :: asIs A l
def giveB (A : Ab) (b v : Nat) (t t' : Ty) : Option (List Lf × List Up) := match get A (H b) with
 | (n, .one (.hd m)) => bif Nat.beq n v && Nat.beq m t.sz && Nat.beq m t'.sz then (match xferLs A (slots t) (cellsOf A b 0 m) with
  | some (l, us) => bif storable l then some (l, us) else none
  | none => none) else none
 | _ => none
def eqBs : List (Nat × Nat) → List (Nat × Nat) → Bool
 | [], [] => true
 | a :: l, b :: m => Nat.beq a.1 b.1 && Nat.beq a.2 b.2 && eqBs l m
 | _, _ => false
def aliveB (A : Ab) : List (Nat × Nat) → Bool
 | [] => true
 | b :: l => Nat.beq (get A (H b.1)).1 b.2 && aliveB A l
def isSh : Lf → Bool
 | .sc _ | .fz _ _ _ => true
 | _ => false
def vwOf (A : Ab) (b : Nat) : Nat → List Ty → List Lf → Option (List Lf)
 | _, [], [] => some []
 | j, .ow e r :: ts, .al p v :: l => bif Nat.beq p (C b j) && Nat.beq (get A p).1 v then (match ownAs e r (seen A (.al p v)) with
  | some y => (match vwOf A b (j + 1) ts l with
   | some m => some (y :: m)
   | none => none)
  | none => none) else none
 | _, .ow _ _ :: _, _ => none
 | j, _ :: ts, x :: l => bif isSh (seen A x) then (match vwOf A b (j + 1) ts l with
  | some m => some (seen A x :: m)
  | none => none) else none
 | _, _, _ => none
def vwBox : List Lf → Option Nat
 | [] => none
 | .al p _ :: l => bif Nat.ble 1000 p then some (p / 1000 - 1) else vwBox l
 | _ :: l => vwBox l
def vwBs (A : Ab) : List Par → List Sv → List (Nat × Nat)
 | .vw _ _ :: ps, .agg ys :: ss => (match vwBox ys with
  | some b => (b, (get A (H b)).1) :: vwBs A ps ss
  | none => vwBs A ps ss)
 | _ :: ps, _ :: ss => vwBs A ps ss
 | _, _ => []
def argOf (A : Ab) (cb hb : List (Nat × Nat)) (nv : Nat) (x : Operand) : Par → Sv → Option (List Lf × List Up × List Nat)
 | .vw t h, .agg ys => (match nth hb (h - nv) with
  | some c => (match get A (H c.1) with
   | (n, .one (.hd m)) => bif Nat.ble nv h && Nat.beq n c.2 && Nat.beq m t.sz then (match vwOf A c.1 0 (slots t) ys with
    | some l => some (l, [], [])
    | none => none) else none
   | _ => none)
  | none => none)
 | .val ag t, s => bif formOk ag s then (match giveT A x s t with
  | some (m, us) => some (m, us, [])
  | none => none) else none
 | .ptr t t', .one (.bp b v 0) => (match giveB A b v t t' with
  | some (m, us) => some (m, us, [b])
  | none => none)
 | .hid t t', .one (.bp b v 0) => (match giveB A b v t t' with
  | some (m, us) => some (m, us, [b])
  | none => none)
 | .rd t, .one (.fp r y 0) => bif decide (shp r = shp t) && noOw t then some (lvs r y, [], []) else none
 | .fn F m, .one (.fn F' bs) => bif Nat.beq F F' && Nat.beq m bs.length && eqBs bs cb && aliveB A bs then some ([.sc (.bool true)], [], []) else none
 | _, _ => none
def argsOf (E : En) (cb hb : List (Nat × Nat)) (nv : Nat) : Ab → List (TypeId × Operand) → List (Nat × Nat) → List Par → Option (List (List Lf) × List Up × List Nat)
 | _, [], [], [] => some ([], [], [])
 | A, x :: xs, hs, p :: ps => (match opT E x.1 A x.2 with
  | some s => (match argOf A cb hb nv x.2 p s with
   | some (l, u, b) => (match argsOf E cb hb nv (ups A u) xs hs ps with
    | some (ls, us, bs) => some (l :: ls, u ++ us, b ++ bs)
    | none => none)
   | none => none)
  | none => none)
 | A, [], h :: hs, p :: ps => (match argOf A cb hb nv (.func 0) p (.one (.bp h.1 h.2 0)) with
   | some (l, u, b) => (match argsOf E cb hb nv (ups A u) [] hs ps with
    | some (ls, us, bs) => some (l :: ls, u ++ us, b ++ bs)
    | none => none)
   | none => none)
 | _, _, _, _ => none
def capB : List Sv → List (Nat × Nat)
 | [] => []
 | .one (.fn _ bs) :: _ => bs
 | _ :: l => capB l
def parsOk (nv : Nat) : Nat → List Par → Bool
 | _, [] => true
 | i, .hid _ _ :: ps => Nat.ble nv i && parsOk nv (i + 1) ps
 | i, _ :: ps => Nat.blt i nv && parsOk nv (i + 1) ps
def nodupN : List Nat → Bool
 | [] => true
 | b :: l => !(l.any (Nat.beq b)) && nodupN l
def backs : List Nat → List (List Lf) → Option (List Up)
 | [], _ => some []
 | b :: bs, l :: ls => match backs bs ls with
  | some us => some (putCells b 0 l ++ us)
  | none => none
 | _, _ => none
def ptrRes (A : Ab) (d : Nat) (l : List Lf) : List Up :=
 ⟨H d, false, .one (.hd l.length)⟩ :: putCells d 0 l ++ [⟨d, false, .one (.bp d ((get A (H d)).1 + 1) 0)⟩]
def anyPtr : List (RK × Ty) → Bool
 | [] => false
 | (.ptr, _) :: _ => true
 | _ :: l => anyPtr l
def isAggK : RK → Bool
 | .agg => true
 | _ => false
def tupOf : List (RK × Ty) → List (List Lf) → List (Bool × List Lf)
 | r :: rs, l :: ls => (isAggK r.1, l) :: tupOf rs ls
 | _, _ => []
def resUp (A : Ab) (rs : List (RK × Ty)) (ls : List (List Lf)) (d : Option Nat) : Option (List Up) :=
 match rs, ls, d with
 | _, _, none => some []
 | [], _, some d => some [⟨d, false, .tup []⟩]
 | [(.one, _)], [x] :: _, some d => some [⟨d, false, .one x⟩]
 | [(.agg, _)], l :: _, some d => some [⟨d, false, .agg l⟩]
 | [(.ptr, _)], l :: _, some d => some (ptrRes A d l)
 | r :: q :: rs, ls, some d => bif anyPtr (r :: q :: rs) then none else some [⟨d, false, .tup (tupOf (r :: q :: rs) ls)⟩]
 | _, _, _ => none
def opsT (E : En) (Ts : List TypeId) (A : Ab) : List Operand → Option (List Sv)
 | [] => some []
 | x :: l => match Ts with
  | [] => none
  | T :: Ts => (match opT E T A x with
   | some s => (match opsT E Ts A l with
    | some ss => some (s :: ss)
    | none => none)
   | none => none)
def okPtr (E : En) (rs : List (RK × Ty)) (d : Option Nat) : Bool := !(anyPtr rs) || (match d with
 | some d => Nat.ble E.np d
 | none => true)
def shL (E : En) (d : Option Nat) (ls : List (List Lf)) : List (List Lf) := match d with
 | some d => bif E.sh d then ls.map (fun l => l.map calm) else ls
 | none => ls
def callF (E : En) (A : Ab) (en : Ent) (xs : List (TypeId × Operand)) (cs : List (Nat × Nat)) (ss : List Sv) (d : Option Nat) (K : List Up → Option R) : Option R :=
 bif Nat.beq en.nv (xs.length + cs.length) then
 (bif lends en.ps && news en.rs && cs.isEmpty then
  (match lentOf A en.ps ss with
  | none => none
  | some ls => match mkDen _ ls with
   | none => none
   | some x => (en.run x).bind fun r =>
    match resUp A en.rs (shL E d (leavesD _ r)) d with
    | none => none
    | some rs => K rs)
 else bif okPtr E en.rs d && (Nat.ble en.nv 1000 && parsOk en.nv 0 en.ps && Nat.ble en.rs.length 400 && Nat.ble en.ps.length 2000) then
  (match argsOf E (capB ss ++ vwBs A en.ps ss) (capB ss ++ vwBs A en.ps ss) en.nv A xs (cs ++ (capB ss ++ vwBs A en.ps ss)) en.ps with
  | none => none
  | some (ls, us, bs) => bif nodupN bs then (match mkDen _ ls with
   | none => none
   | some x => (en.run x).bind fun r =>
    match backs bs ((leavesD _ r).drop en.rs.length) with
    | none => none
    | some ws => match resUp (ups (ups A us) ws) en.rs (shL E d (leavesD _ r)) d with
     | none => none
     | some rs => K (us ++ (ws ++ rs))) else none)
 else none) else none
def buildP (E : En) (A : Ab) (T : TI) (l : List Lf) (us : List Up) : List (Nat × Operand) → Option (List Lf × List Up)
 | [] => some (l, us)
 | (i, x) :: ps => match nth T.fo i with
  | none => none
  | some (off, z, _) => (match x with
   | .const (.slice none 0 0) => bif Nat.beq z 1 then (match nth l off with
    | some (.own _ _ []) => buildP E A T l us ps
    | _ => none) else none
   | _ => (match opT E 0 A x with
    | some s => let m := (parts s).map (kept A)
     bif storable m && Nat.beq m.length z && Nat.ble (off + z) l.length then buildP E (ups A (costs A (parts s) ++ gone x s)) T (setAll l off m) (us ++ (costs A (parts s) ++ gone x s)) ps else none
    | none => none))
def rowsP (E : En) (A : Ab) (e : TypeId) (r : Ty) (i : Nat) : List (Nat × Operand) → Option (List r.den × List Up)
 | [] => some ([], [])
 | (j, x) :: ps => bif Nat.beq i j then (match opT E e A x with
  | some s => (match bif storable ((parts s).map (kept A)) then mkW r ((parts s).map fun x => calm (kept A x)) else none with
   | some y => (match rowsP E (ups A (costs A (parts s) ++ gone x s)) e r (i + 1) ps with
    | some (ys, us) => some (y :: ys, (costs A (parts s) ++ gone x s) ++ us)
    | none => none)
   | none => none)
  | none => none) else none
def rowsD (E : En) (A : Ab) (e : TypeId) (r : Ty) (i : Nat) : List (Nat × Operand) → Option (List r.den × List Up)
 | [] => some ([], [])
 | (j, x) :: ps => bif Nat.beq i j then (match opT E e A x with
  | some s => (match give A x s with
   | some (m, us) => (match bif owned m then mkW r m else none with
    | some y => (match rowsD E (ups A us) e r (i + 1) ps with
     | some (ys, us') => some (y :: ys, us ++ us')
     | none => none)
    | none => none)
   | none => none)
  | none => none) else none
def cutS {α : Type} (xs : List α) (lo hi : Option Int) : List α :=
 match lo, hi with
 | none, none => xs
 | some l, none => xs.drop l.toNat
 | none, some h => xs.take h.toNat
 | some l, some h => (xs.take h.toNat).drop l.toNat
def bnds (lo hi : Option Int) (n : Nat) (K : Unit → Option R) : Option R :=
 match lo, hi with
 | none, none => K ()
 | some l, none => bif decide (0 ≤ l) then (bif decide (l ≤ (n : Int)) then K () else none) else none
 | none, some h => bif decide (0 ≤ h) then (bif decide (h ≤ (n : Int)) then K () else none) else none
 | some l, some h => bif decide (0 ≤ l) then (bif decide (l ≤ h) then (bif decide (h ≤ (n : Int)) then K () else none) else none) else none
def intOp (E : En) (A : Ab) : Option Operand → Option (Option Int)
 | none => some none
 | some x => match opT E 0 A x with
  | some (.one (.sc (.int .i64 n))) => some (some n)
  | _ => none
def mvO (E : En) : Operand → Bool
 | .tmp t => E.mv t
 | _ => false
def capOf (E : En) (A : Ab) : List Operand → Option (List (Nat × Nat))
 | [] => some []
 | x :: l => (match opT E 0 A x with
  | some (.one (.bp b v 0)) => (match capOf E A l with
   | some bs => some ((b, v) :: bs)
   | none => none)
  | _ => none)
def openUp (A : Ab) (B p : Nat) (e : TypeId) (r : Ty) (xs : List r.den) (i : Int) : Option (List Up) :=
 bif (noOw r || allOw r) && Nat.blt r.sz 999 && !(Nat.beq (p / 1000) (B + 1)) && Nat.ble 2000 B then (bif decide (0 ≤ i) then (bif decide (i < (xs.length : Int)) then
  some (⟨p, false, .one (.opn e r xs i B ((get A (H B)).1 + 1))⟩ :: ⟨H B, false, .one (.hd r.sz)⟩ :: putCells B 0 (leaves r (xs.getD i.toNat r.dflt))) else none) else none) else none
def openK (A : Ab) (B p : Nat) (e : TypeId) (r : Ty) (xs : List r.den) (i : Int) (K : List Up → Option R) (Z : Option R) : Option R :=
 bif (noOw r || allOw r) && Nat.blt r.sz 999 && !(Nat.beq (p / 1000) (B + 1)) && Nat.ble 2000 B then (bif decide (0 ≤ i) then (bif decide (i < (xs.length : Int)) then
  K (⟨p, false, .one (.opn e r xs i B ((get A (H B)).1 + 1))⟩ :: ⟨H B, false, .one (.hd r.sz)⟩ :: putCells B 0 (leaves r (xs.getD i.toNat r.dflt))) else none) else none) else Z
def step (E : En) (o : Oper) (A : Ab) (K : List Up → Option R) : Option R :=
 match o.op, o.dst with
 | .makeFunc (.func f) x y, some d => (match x.toList, capOf E A y.toList with
  | [], some bs => K [⟨d, false, .one (.fn f bs)⟩]
  | _, _ => none)
 | .move x, some d => match opT E o.type A x with
  | some s => (match x, s with
   | .tmp t, .one (.own e r xs) => bif E.nm t && !(E.mv d) then K [⟨d, false, .one (.al t (get A t).1)⟩] else K [⟨t, false, .one .dead⟩, ⟨d, false, .one (.own e r xs)⟩]
   | _, _ => K (gone x s ++ [⟨d, false, s⟩]))
  | none => none
 | .assign x, some d => match opT E o.type A x with
  | some (.one (.al p v)) => (match get A p with
   | (n, .one (.own e r xs)) => bif Nat.beq n v then (bif E.res d then K [⟨p, false, .one .dead⟩, ⟨d, false, .one (.own e r xs)⟩] else K [⟨p, true, .one (.fz e r xs)⟩, ⟨d, false, .one (.fz e r xs)⟩]) else none
   | (n, .one (.fz e r xs)) => bif Nat.beq n v then K [⟨d, false, .one (.fz e r xs)⟩] else none
   | _ => none)
  | some s => K (gone x s ++ [⟨d, false, s⟩])
  | none => none
 | .pick c x y, some d => match opT E 0 A c with
  | some (.one (.sc (.bool b))) => bif b then (match opT E o.type A x with
    | some (.one (.sc u)) => K [⟨d, false, .one (.sc u)⟩]
    | _ => none)
   else (match opT E o.type A y with
    | some (.one (.sc u)) => K [⟨d, false, .one (.sc u)⟩]
    | _ => none)
  | _ => none
 | .binOp op T x y T', some d => match opT E T A x, opT E T' A y with
  | some s, some s' => bop op (E.ti T) (E.eq T) s s' fun u => K [⟨d, false, .one (.sc u)⟩]
  | _, _ => none
 | .unOp op T x, some d => match opT E T A x with
  | some s => uop op s fun u => K [⟨d, false, .one (.sc u)⟩]
  | none => none
 | .convert T T' x, some d => match opT E T A x with
  | some (.one y) => conv (E.ti T) (E.ti T') (.one (view A y)) fun s => K [⟨d, false, s⟩]
  | _ => none
 | .nilCheck x, some d => match opT E 0 A x with
  | some (.one y) => bif liveP A y then K [⟨d, false, .one y⟩] else none
  | _ => none
 | .extract (.tmp t) j, some d => match bif Nat.blt t E.nt then (get A t).2 else .one .dead with
  | .tup vs => (match nth vs j with
   | some (ag, l) => (match ofParts ag l with
    | some s => bif ownIn l then K [⟨t, false, .tup (vs.set j (false, [.dead]))⟩, ⟨d, false, s⟩] else K [⟨d, false, s⟩]
    | none => none)
   | none => none)
  | _ => none
 | .field T (.tmp t) j, some d => match E.ti T, (get A t).2 with
  | some ti, .agg l => (match nth ti.fo j with
   | some (off, z, ag) => (match ofParts ag ((l.drop off).take z) with
    | some s => bif ti.ag && Nat.blt t E.nt && Nat.ble (off + z) l.length then (bif ownIn ((l.drop off).take z) then K [⟨t, false, .agg (setAll l off (List.replicate z .dead))⟩, ⟨d, false, s⟩] else K [⟨d, false, s⟩]) else none
    | none => none)
   | none => none)
  | _, _ => none
 | .build T ps, some d => match E.ti T with
  | some ti => (match buildP E A ti (zeros ti.ty) [] ps.toList with
   | some (l, us) => bif ti.ag then K (us ++ [⟨d, false, .agg l⟩]) else none
   | none => none)
  | none => none
 | .alloc T, some d => match E.ti T with
  | some ti => bif Nat.blt ti.ty.sz 999 && Nat.ble E.np d then K (⟨H d, false, .one (.hd ti.ty.sz)⟩ :: putCells d 0 (zeros ti.ty) ++ [⟨d, false, .one (.bp d ((get A (H d)).1 + 1) 0)⟩]) else none
  | none => none
 | .box T x, some d => match E.ti T, opT E T A x with
  | some ti, some s =>
   bif mvO E x then (bif storableA A (parts s) && Nat.beq (parts s).length ti.ty.sz && Nat.blt ti.ty.sz 999 && Nat.ble E.np d then K (⟨H d, false, .one (.hd ti.ty.sz)⟩ :: putCells d 0 (parts s) ++ [⟨d, false, .one (.bp d ((get A (H d)).1 + 1) 0)⟩]) else none) else
   let m := (parts s).map (kept A)
   bif storable m && Nat.beq m.length ti.ty.sz && Nat.blt ti.ty.sz 999 && Nat.ble E.np d then K (costs A (parts s) ++ gone x s ++ (⟨H d, false, .one (.hd ti.ty.sz)⟩ :: putCells d 0 m ++ [⟨d, false, .one (.bp d ((get A (H d)).1 + 1) 0)⟩])) else none
  | _, _ => none
 | .load T x, some d => match E.ti T, opT E 0 A x with
  | some ti, some (.one (.bp b v off)) => (match get A (H b) with
   | (n, .one (.hd m)) => bif Nat.beq n v && Nat.ble (off + ti.ty.sz) m then (match ofParts ti.ag (cellsOf A b off ti.ty.sz) with
    | some s => K [⟨d, false, s⟩]
    | none => none) else none
   | _ => none)
  | some ti, some (.one (.ep p v i off)) => (match get A p with
   | (n, .one (.own _ r xs)) => bif Nat.beq n v && noOw r && Nat.ble (off + ti.ty.sz) r.sz then (match ofParts ti.ag (((lvs r (xs.getD i.toNat r.dflt)).drop off).take ti.ty.sz) with
    | some s => K [⟨d, false, s⟩]
    | none => none) else none
   | _ => none)
  | some ti, some (.one (.dp p v pi _ r xs i off)) => bif Nat.beq (get A p).1 v && Nat.ble (off + ti.ty.sz) r.sz then (match ofParts ti.ag (((daL p v pi i 0 (leaves r (xs.getD i.toNat r.dflt))).drop off).take ti.ty.sz) with
   | some s => K [⟨d, false, s⟩]
   | none => none) else none
  | some ti, some (.one (.fp r x off)) => bif Nat.ble (off + ti.ty.sz) r.sz then (match ofParts ti.ag (((lvs r x).drop off).take ti.ty.sz) with
   | some s => K [⟨d, false, s⟩]
   | none => none) else none
  | _, _ => none
 | .store T x y, none => match E.ti T, opT E 0 A x, opT E T A y with
  | some ti, some (.one (.bp b v off)), some s => bif mvO E y then (match giveL A y s (asIs (ups A (gone y s)) (parts s)) with
   | some (m, us) => (match get A (H b) with
    | (n, .one (.hd h)) => bif Nat.beq n v && Nat.beq m.length ti.ty.sz && Nat.ble (off + ti.ty.sz) h then K (us ++ putCells b off m) else none
    | _ => none)
   | none => none) else
   let m := (parts s).map (kept A)
   (match get A (H b) with
   | (n, .one (.hd h)) => bif Nat.beq n v && storableD (ups A (costs A (parts s) ++ gone y s)) m && Nat.beq m.length ti.ty.sz && Nat.ble (off + ti.ty.sz) h then K (costs A (parts s) ++ gone y s ++ putCells b off m) else none
   | _ => none)
  | some ti, some (.one (.ep p v i off)), some s =>
   let m := (parts s).map fun x => calm (kept A x)
   (match get A p with
   | (n, .one (.own e r xs)) => bif Nat.beq n v && noOw r && storable ((parts s).map (kept A)) && Nat.beq m.length ti.ty.sz && Nat.ble (off + m.length) r.sz && apart p (costs A (parts s) ++ gone y s) then (match mkW r (setAll (lvs r (xs.getD i.toNat r.dflt)) off m) with
    | some z => K (costs A (parts s) ++ gone y s ++ [⟨p, true, .one (.own e r (xs.set i.toNat z))⟩])
    | none => none) else none
   | _ => none)
  | some ti, some (.one (.dp p v (some pi) _ r xs i off)), some s => (match give A y s with
   | some (m, us) => (match get A p with
    | (n, .one (.own E0 R0 XS)) => bif Nat.beq n v && owned m && Nat.beq m.length ti.ty.sz && Nat.ble (off + m.length) r.sz && apart p us && allOw R0 then (match mkW r (setAll (leaves r (xs.getD i.toNat r.dflt)) off m) with
     | some z => (match putAt r (xs.set i.toNat z) pi R0 XS with
      | some XS' => K (us ++ [⟨p, false, .one (.own E0 R0 XS')⟩])
      | none => none)
     | none => none) else none
    | _ => none)
   | none => none)
  | _, _, _ => none
 | .fieldAddr T x j, some d => match E.ti T, opT E 0 A x with
  | some ti, some (.one y) => (match nth ti.fo j with
   | some o => bif ti.ag && liveP A y then K [⟨d, false, .one (addOff y o.1)⟩] else none
   | none => none)
  | _, _ => none
 | .indexAddr T x i, some d => bif E.opn d then (match opT E T A x, opT E 0 A i with
  | some (.one (.al p v)), some (.one (.sc (.int _ n))) => (match get A p with
   | (m, .one (.own e r xs)) => bif Nat.beq m v && isEl E T e && !(Nat.beq p d) then openK A (2000 + d) p e r xs n (fun us => K (us ++ [⟨d, false, .one (.bp (2000 + d) ((get A (H (2000 + d))).1 + 1) 0)⟩])) none else none
   | _ => none)
  | _, _ => none) else match opT E T A x, opT E 0 A i with
  | some (.one y), some (.one (.sc (.int _ n))) => (match y, seen A y with
   | .al p v, .own e r xs => bif isEl E T e && decide (0 ≤ n) then (bif decide (n < (xs.length : Int)) then (bif noOw r then K [⟨d, false, .one (.ep p v n 0)⟩] else bif allOw r then K [⟨d, false, .one (.dp p v (some []) e r xs n 0)⟩] else none) else none) else none
   | .da p v pi e r xs, _ => bif isEl E T e && Nat.beq (get A p).1 v && decide (0 ≤ n) then (bif decide (n < (xs.length : Int)) then K [⟨d, false, .one (.dp p v pi e r xs n 0)⟩] else none) else none
   | .al p v, .dead => (match get A p with
    | (m, .one (.opn e _ _ i b vb)) => bif Nat.beq m v && isEl E T e then (bif decide (n = i) then K [⟨d, false, .one (.bp b vb 0)⟩] else none) else none
    | _ => none)
   | _, .fz e r xs => bif isEl E T e && decide (0 ≤ n) then (bif decide (n < (xs.length : Int)) then K [⟨d, false, .one (.fp r (xs.getD n.toNat r.dflt) 0)⟩] else none) else none
   | _, .own e r xs => (match x with
    | .tmp t => bif isEl E T e && decide (0 ≤ n) then (bif decide (n < (xs.length : Int)) then (bif noOw r then K [⟨d, false, .one (.ep t (get A t).1 n 0)⟩] else bif allOw r then K [⟨d, false, .one (.dp t (get A t).1 (some []) e r xs n 0)⟩] else none) else none) else none
    | _ => none)
   | _, _ => none)
  | _, _ => none
 | .index T x i, some d => match opT E 0 A x, opT E 0 A i with
  | some (.one (.sc (.string s))), some (.one (.sc (.int _ n))) => bif isStr E T && decide (0 ≤ n) then (bif decide (n < (s.size : Int)) then K [⟨d, false, .one (.sc (.int .u8 (bt s n)))⟩] else none) else none
  | _, _ => none
 | .slice T x lo hi none, some d => match opT E T A x, intOp E A lo, intOp E A hi with
  | some (.one (.sc (.string s))), some lo, some hi => bif isStr E T then bnds lo hi s.size fun _ =>
   K [⟨d, false, .one (.sc (.string (s.extract (match lo with | some l => l.toNat | none => 0) (match hi with | some h => h.toNat | none => s.size))))⟩] else none
  | some (.one y), some lo, some hi => (match y, seen A y with
   | .own _ _ _, .own e r xs => bif isEl E T e then (match lo with
    | none => bnds lo hi xs.length fun _ => K (gone x (.one y) ++ [⟨d, false, .one (.own e r (cutS xs lo hi))⟩])
    | some _ => bnds lo hi xs.length fun _ => K (gone x (.one y) ++ [⟨d, false, .one (.fz e r (cutS xs lo hi))⟩])) else none
   | .al p v, .own e r xs => bif isEl E T e then (bif E.mv d then (match lo with
     | none => bnds lo hi xs.length fun _ => K [⟨p, false, .one .dead⟩, ⟨d, false, .one (.own e r (cutS xs lo hi))⟩]
     | some _ => none)
    else bif noOw r then bnds lo hi xs.length fun _ => K (cost A y ++ [⟨d, false, .one (.fz e r (cutS xs lo hi))⟩])
    else bif allOw r then bnds lo hi xs.length fun _ => K [⟨d, false, .one (.da p v none e r (cutS xs lo hi))⟩] else none) else none
   | .da p v _ e r xs, _ => bif isEl E T e && Nat.beq (get A p).1 v then bnds lo hi xs.length fun _ => K [⟨d, false, .one (.da p v none e r (cutS xs lo hi))⟩] else none
   | _, .fz e r xs => bif isEl E T e then bnds lo hi xs.length fun _ => K [⟨d, false, .one (.fz e r (cutS xs lo hi))⟩] else none
   | _, _ => none)
  | _, _, _ => none
 | .buildSlice T n ps, some d => match E.ti T with
  | some ⟨.sl e r, false, _, _⟩ => bif Nat.beq n ps.size && Nat.ble (n * r.sz) 16777216 && (E.ti e).isSome then (match E.hint d with
   | none => bif noOw r then (match rowsP E A e r 0 ps.toList with
    | some (ys, us) => K (us ++ [⟨d, false, .one (.own e r ys)⟩])
    | none => none) else none
   | some r2 => bif decide (shp r2 = shp r) && allOw r2 then (match rowsD E A e r2 0 ps.toList with
    | some (ys, us) => K (us ++ [⟨d, false, .one (.own e r2 ys)⟩])
    | none => none) else none) else none
  | _ => none
 | .makeSlice T x y, some d => match E.ti T, opT E 0 A x, opT E 0 A y with
  | some ⟨.sl e r, false, _, _⟩, some (.one (.sc (.int .i64 n))), some (.one (.sc (.int .i64 m))) => (match E.ti e with
   | some te => bif zsame te.ty r && decide (n = m) then (bif decide (0 ≤ n) then (bif decide (n * te.by_ ≤ 140737488355328) then (match E.hint d with
    | none => K [⟨d, false, .one (.own e r (List.replicate n.toNat r.dflt))⟩]
    | some r2 => bif decide (shp r2 = shp r) then K [⟨d, false, .one (.own e r2 (List.replicate n.toNat r2.dflt))⟩] else none) else none) else none) else none
   | none => none)
  | _, _, _ => none
 | .call c, d => match c.callee with
  | .builtin .len => (match c.argTypes.toList, c.args.toList, d with
   | [T], [x], some d => (match opT E T A x with
    | some (.one y) => (match seen A y with
     | .sc (.string s) => bif isStr E T then K [⟨d, false, .one (.sc (.int .i64 (s.size : Int)))⟩] else none
     | .da p v _ e _ xs => bif isEl E T e && Nat.beq (get A p).1 v then K [⟨d, false, .one (.sc (.int .i64 (xs.length : Int)))⟩] else none
     | .fz e _ xs => bif isEl E T e then K [⟨d, false, .one (.sc (.int .i64 (xs.length : Int)))⟩] else none
     | .own e _ xs => bif isEl E T e then K [⟨d, false, .one (.sc (.int .i64 (xs.length : Int)))⟩] else none
     | _ => none)
    | _ => none)
   | _, _, _ => none)
  | .builtin .min => (match opsT E c.argTypes.toList A c.args.toList, d with
   | some (.one (.sc (.int k x)) :: l), some d => minMax false l k x fun u => K [⟨d, false, .one (.sc u)⟩]
   | _, _ => none)
  | .builtin .max => (match opsT E c.argTypes.toList A c.args.toList, d with
   | some (.one (.sc (.int k x)) :: l), some d => minMax true l k x fun u => K [⟨d, false, .one (.sc u)⟩]
   | _, _ => none)
  | .builtin .append => (match c.argTypes.toList, c.args.toList, d with
   | [T, T'], [x, y], some d => (match opT E T A x, opT E T' A y with
    | some (.one u), some (.one w) => (match seen A u with
     | .own e r xs => (match E.hint d with
      | some r2 => (match opT E T' (ups A (took u x)) y with
       | some (.one w2) => (match seen (ups A (took u x)) w2, castO r2 r xs, E.ti e with
        | .own e' r' ys, some xs2, some te => (match castO r2 r' ys with
         | some ys2 => bif allOw r2 && Nat.beq e e' && isEl E T e && Nat.beq T T' then (bif Nat.ble ((xs2.length + ys2.length) * te.by_) 140737488355328 then
           K (took u x ++ (took w2 y ++ [⟨d, false, .one (.own e r2 (xs2 ++ ys2))⟩])) else none) else none
         | none => none)
        | _, _, _ => none)
       | _ => none)
      | none => bif noOw r then (match srcOf A w with
       | some ⟨e', r', ys⟩ => (match castL r r' ys, E.ti e with
        | some ys, some te => bif Nat.beq e e' && isEl E T e && Nat.beq T T' then (bif Nat.ble ((xs.length + ys.length) * te.by_) 140737488355328 then
          K (took u x ++ [⟨d, false, .one (.own e r (xs ++ ys))⟩]) else none) else none
        | _, _ => none)
       | none => (match w with
        | .sc (.string s) => (match castL r (.i .u8) (bytesOf s), E.ti e with
         | some ys, some ⟨.i .u8, false, 1, _⟩ => bif isEl E T e && isStr E T' && Nat.ble ((xs.length + s.size) * 1) 140737488355328 then
          K (took u x ++ [⟨d, false, .one (.own e r (xs ++ ys))⟩]) else none
         | _, _ => none)
        | _ => none)) else none)
     | _ => none)
    | _, _ => none)
   | _, _, _ => none)
  | .value (.func f) => (match E.call f, opsT E c.argTypes.toList A c.args.toList with
   | some en, some ss => callF E A en (c.argTypes.toList.zip c.args.toList) [] ss d K
   | _, _ => none)
  | .value (.tmp t) => (match opT E 0 A (.tmp t) with
   | some (.one (.fn f bs)) => (match E.call f, opsT E c.argTypes.toList A c.args.toList with
    | some en, some ss => bif aliveB A bs then callF E A en (c.argTypes.toList.zip c.args.toList) bs ss d K else none
    | _, _ => none)
   | _ => none)
  | _ => none
 | _, _ => none
def openI (A : Ab) (p t B : Nat) : Option (List Up) := match (get A p).2, (get A t).2 with
 | .one (.own e r xs), .one (.sc (.int _ i)) => openUp A B p e r xs i
 | _, _ => none
def openD (A : Ab) (d B : Nat) : Option (List Up) := match (get A d).2 with
 | .one (.ep p v i off) => (match get A p with
  | (n, .one (.own e r xs)) => bif Nat.beq n v && noOw r && !(Nat.beq p d) then (match openUp A B p e r xs i with
   | some us => some (us ++ [⟨d, false, .one (.bp B ((get A (H B)).1 + 1) off)⟩])
   | none => none) else none
  | _ => none)
 | .one (.dp p v (some []) _ _ _ i off) => (match get A p with
  | (n, .one (.own e r xs)) => bif Nat.beq n v && !(noOw r) && !(Nat.beq p d) then (match openUp A B p e r xs i with
   | some us => some (us ++ [⟨d, false, .one (.bp B ((get A (H B)).1 + 1) off)⟩])
   | none => none) else none
  | _ => none)
 | _ => none
def closeT (A : Ab) (p : Nat) : Option (List Up) := match (get A p).2 with
 | .one (.opn _ r0 _ _ b v) => (match giveB A b v r0 r0 with
  | some (l, us) => (match (get (ups A us) p).2 with
   | .one (.opn e r xs i b' v') => bif Nat.beq b b' && Nat.beq (get (ups A us) (H b)).1 v' && Nat.ble 2000 b && Nat.beq l.length r.sz && ((noOw r && !(ownIn l)) || (allOw r && owned l)) then (match mkW r l with
    | some z => some (us ++ [⟨H b, false, .one .dead⟩, ⟨p, false, .one (.own e r (xs.set i.toNat z))⟩])
    | none => none) else none
   | _ => none)
  | none => none)
 | _ => none
def ghostK (E : En) (A : Ab) (K : Ab → Option R) : Gh → Option R
 | .cl p => (match closeT A p with
  | some us => K (ups A us)
  | none => K A)
 | .op p t B => bif Nat.blt t E.nt then (match (get A p).2, (get A t).2 with
  | .one (.own e r xs), .one (.sc (.int _ i)) => openK A B p e r xs i (fun us => K (ups A us)) (K A)
  | _, _ => K A) else K A
 | .oc p i B => (match (get A p).2 with
  | .one (.own e r xs) => openK A B p e r xs i (fun us => K (ups A us)) (K A)
  | _ => K A)
 | .od d B => bif Nat.blt d E.nt then (match (get A d).2 with
  | .one (.ep p v i off) => (match get A p with
   | (n, .one (.own e r xs)) => bif Nat.beq n v && noOw r && !(Nat.beq p d) then openK A B p e r xs i (fun us => K (ups A (us ++ [⟨d, false, .one (.bp B ((get A (H B)).1 + 1) off)⟩]))) (K A) else K A
   | _ => K A)
  | .one (.dp p v (some []) _ _ _ i off) => (match get A p with
   | (n, .one (.own e r xs)) => bif Nat.beq n v && !(noOw r) && !(Nat.beq p d) then openK A B p e r xs i (fun us => K (ups A (us ++ [⟨d, false, .one (.bp B ((get A (H B)).1 + 1) off)⟩]))) (K A) else K A
   | _ => K A)
  | _ => K A) else K A
def ghostsK (E : En) : List Gh → Ab → (Ab → Option R) → Option R
 | [], A, K => K A
 | g :: l, A, K => ghostK E A (fun A => ghostsK E l A K) g
def dstIn (E : En) (o : Oper) : Bool := match o.dst with
 | some d => Nat.blt d E.nt
 | none => true
def dstAt (ops : List Oper) (j : Nat) : Option Nat := match nth ops j with
 | some o => o.dst
 | none => none
def skipO (o : Oper) (A : Ab) : Ab := match o.dst with
 | some d => up A ⟨d, false, .one .un⟩
 | none => A
def lit (A : Ab) (d n : Nat) (v : Bool) : Ab := (d, n, .one (.sc (.bool v))) :: A
def evOps (E : En) (ops : List Oper) : List Nat → Ab → (Ab → Option R) → Option R
 | [], A, K => K A
 | i :: l, A, K => match nth ops i with
  | none => none
  | some o => bif dstIn E o then (match o.guard with
   | none => step E o A fun U => evOps E ops l (ups A U) K
   | some (j, want) => (match dstAt ops j with
    | none => none
    | some dj => bif Nat.blt dj E.nt then (match get A dj with
     | (n, .one (.sc (.bool b))) =>
      bif b then (bif want then step E o (lit A dj n true) fun U => evOps E ops l (ups (lit A dj n true) U) K else evOps E ops l (skipO o (lit A dj n true)) K)
      else (bif want then evOps E ops l (skipO o (lit A dj n false)) K else step E o (lit A dj n false) fun U => evOps E ops l (ups (lit A dj n false) U) K)
     | (_, .one .un) => evOps E ops l (skipO o A) K
     | _ => none) else none))
   else none
def rdC (A : Ab) (b : Nat) : Nat → Nat → List Nat
 | _, 0 => []
 | j, n + 1 => C b j :: ((match (get A (C b j)).2 with
  | .one (.al p _) => [p]
  | _ => []) ++ rdC A b (j + 1) n)
def rdL (A : Ab) : Lf → List Nat
 | .al p _ => [p]
 | .ep p _ _ _ => [p]
 | .da p _ _ _ _ _ => [p]
 | .dp p _ _ _ _ _ _ _ => [p]
 | .bp b _ off => H b :: (match (get A (H b)).2 with
  | .one (.hd n) => rdC A b off (n - off)
  | _ => [])
 | .fn _ bs => bs.flatMap fun b => H b.1 :: (match (get A (H b.1)).2 with
  | .one (.hd n) => rdC A b.1 0 (n - 0)
  | _ => [])
 | _ => []
def rdLs (A : Ab) : List Lf → List Nat
 | [] => []
 | y :: l => rdL A y ++ rdLs A l
def rdO (A : Ab) : Operand → List Nat
 | .tmp t => t :: rdLs A (parts (get A t).2)
 | _ => []
def rdOs (A : Ab) : List Operand → List Nat
 | [] => []
 | x :: l => rdO A x ++ rdOs A l
def opsOf : Op → List Operand
 | .move x | .assign x | .unOp _ _ x | .convert _ _ x | .nilCheck x | .extract x _ | .field _ x _ | .box _ x | .load _ x | .fieldAddr _ x _ => [x]
 | .pick c x y => [c, x, y]
 | .binOp _ _ x y _ | .store _ x y | .makeSlice _ x y | .indexAddr _ x y | .index _ x y => [x, y]
 | .build _ ps | .buildSlice _ _ ps => ps.toList.map Prod.snd
 | .slice _ x lo hi _ => x :: (lo.toList ++ hi.toList)
 | .call c => (match c.callee with
  | .value x => x :: c.args.toList
  | _ => c.args.toList)
 | .makeFunc _ f c => f.toList ++ c.toList
 | _ => []
def rdD : Option Nat → List Nat
 | some d => [d, H d, H (2000 + d)]
 | none => []
def rdH : Lf → List Nat
 | .bp b _ _ => [H b]
 | .ep p _ _ _ => [p]
 | .dp p _ _ _ _ _ _ _ => [p]
 | _ => []
def rdHs : List Lf → List Nat
 | [] => []
 | y :: l => rdH y ++ rdHs l
def rdP (A : Ab) : Operand → List Nat
 | .tmp t => t :: rdHs (parts (get A t).2)
 | _ => []
def rdT : Operand → List Nat
 | .tmp t => [t]
 | _ => []
def rdBx (A : Ab) : List Lf → List Nat
 | [] => []
 | .al p _ :: l => (bif Nat.ble 1000 p then H (p / 1000 - 1) :: (match (get A (H (p / 1000 - 1))).2 with
  | .one (.hd n) => rdC A (p / 1000 - 1) 0 (n - 0)
  | _ => []) else []) ++ rdBx A l
 | _ :: l => rdBx A l
def rdAg (A : Ab) : List Operand → List Nat
 | [] => []
 | .tmp t :: l => (match (get A t).2 with
  | .agg ys => rdBx A ys
  | _ => []) ++ rdAg A l
 | _ :: l => rdAg A l
def rdOp (A : Ab) : Op → List Nat
 | .call c => rdOs A (opsOf (.call c)) ++ rdAg A c.args.toList
 | .move x => rdT x
 | .nilCheck x | .fieldAddr _ x _ => rdP A x
 | op => rdOs A (opsOf op)
def rds (A : Ab) (o : Oper) : List Nat := rdD o.dst ++ rdOp A o.op
structure Lg where
 i : Nat
 anc : Nat
 F : List Nat
 W : List Nat
 ex : Option (Nat × Nat × Nat)
def memN (p : Nat) : List Nat → Bool
 | [] => false
 | q :: l => Nat.beq q p || memN p l
def disj : List Nat → List Nat → Bool
 | [], _ => true
 | p :: l, m => !(memN p m) && disj l m
def indep (x y : Lg) : Bool := (disj x.W y.F && disj y.W x.F) || (match x.ex, y.ex with
 | some (t, j, d), some (t', j', d') => Nat.beq t t' && !(Nat.beq j j') && !(Nat.beq d d') && !(Nat.beq d t) && !(Nat.beq d' t)
 | _, _ => false)
def aft (o : Oper) : List Nat := o.after.toList.filterMap fun e => bif Region.binds .any e then some e.on else none
def ancAt : List Lg → Nat → Nat
 | [], _ => 0
 | x :: l, j => bif Nat.beq x.i j then x.anc else ancAt l j
def ancL (lg : List Lg) : List Nat → Nat
 | [] => 0
 | j :: l => (2 ^ j ||| ancAt lg j) ||| ancL lg l
def lgOk (l : List Lg) (y : Lg) : Bool := l.all fun x => Nat.testBit y.anc x.i || indep x y
def exOf (o : Oper) : Option (Nat × Nat × Nat) := match o.op, o.dst with
 | .extract (.tmp t) j, some d => some (t, j, d)
 | _, _ => none
def lgOf (o : Oper) (i : Nat) (lg : List Lg) (g : List Nat) (A : Ab) (U : List Up) : Lg := ⟨i, ancL lg (aft o), g ++ rds A o ++ U.map Up.l, U.map Up.l, bif g.isEmpty then exOf o else none⟩
def lgSkip (o : Oper) (i : Nat) (lg : List Lg) (g : List Nat) : Lg := ⟨i, ancL lg (aft o), g ++ o.dst.toList, o.dst.toList, none⟩
def evDrawOps (E : En) (ops : List Oper) : List Nat → List Lg → Ab → (Ab → Option R) → Option R
 | [], _, A, K => K A
 | i :: l, lg, A, K => match nth ops i with
  | none => none
  | some o => bif dstIn E o && (aft o).all (fun j => Nat.blt j i) then (match o.guard with
   | none => step E o A fun U => bif lgOk lg (lgOf o i lg [] A U) then evDrawOps E ops l (lgOf o i lg [] A U :: lg) (ups A U) K else none
   | some (j, want) => (match dstAt ops j with
    | none => none
    | some dj => bif Nat.blt dj E.nt then (match get A dj with
     | (n, .one (.sc (.bool b))) =>
      bif b then (bif want then step E o (lit A dj n true) fun U => bif lgOk lg (lgOf o i lg [dj] (lit A dj n true) U) then evDrawOps E ops l (lgOf o i lg [dj] (lit A dj n true) U :: lg) (ups (lit A dj n true) U) K else none
       else bif lgOk lg (lgSkip o i lg [dj]) then evDrawOps E ops l (lgSkip o i lg [dj] :: lg) (skipO o (lit A dj n true)) K else none)
      else (bif want then bif lgOk lg (lgSkip o i lg [dj]) then evDrawOps E ops l (lgSkip o i lg [dj] :: lg) (skipO o (lit A dj n false)) K else none
       else step E o (lit A dj n false) fun U => bif lgOk lg (lgOf o i lg [dj] (lit A dj n false) U) then evDrawOps E ops l (lgOf o i lg [dj] (lit A dj n false) U :: lg) (ups (lit A dj n false) U) K else none)
     | (_, .one .un) => bif lgOk lg (lgSkip o i lg [dj]) then evDrawOps E ops l (lgSkip o i lg [dj] :: lg) (skipO o A) K else none
     | _ => none) else none))
   else none
def evDraw (E : En) (ops : List Oper) (A : Ab) (K : Ab → Option R) : Option R := evDrawOps E ops (List.range ops.length) [] A K
def first : Code → Nat
 | .region id _ _ => id
 | .seq a _ => first a
 | .block _ c => first c
 | .loop c => first c
 | .scope c => first c
 | .cond _ a _ => first a
 | _ => 0
def keptOw (vs : List (Nat × Ty)) (p : Nat) : Bool := vs.any (fun x => Nat.beq x.1 p && (match x.2 with | .ow _ _ => true | _ => false))
def isOw : Ty → Bool
 | .ow _ _ => true
 | _ => false
def absV (A : Ab) (vs : List (Nat × Ty)) (l : Nat) (t : Ty) : Option t.den :=
 match (get A l).2 with
 | .one (.al p v) => bif keptOw vs p then none else mkW t [calm (seen A (.al p v))]
 | .one (.own e r xs) => bif isOw t then mkW t [.own e r xs] else bif keptOw vs l then none else mkW t [.fz e r xs]
 | .one x => mkW t [x]
 | _ => none
def absVs (A : Ab) (all : List (Nat × Ty)) : (vs : List (Nat × Ty)) → Option (Den (vs.map Prod.snd))
 | [] => some ()
 | [v] => absV A all v.1 v.2
 | v :: w :: l => match absV A all v.1 v.2 with
  | some x => (match absVs A all (w :: l) with
   | some y => some (x, y)
   | none => none)
  | none => none
def sameB : List (Nat × Nat) → List (Nat × Nat) → Bool
 | [], [] => true
 | a :: l, b :: m => Nat.beq a.1 b.1 && Nat.beq a.2 0 && sameB l m
 | _, _ => false
def absC (A : Ab) : List (Nat × Lf) → Bool
 | [] => true
 | (l, .bp b v0 off) :: cs => (match get A l with
  | (_, .one (.bp b' v off')) => Nat.beq v0 0 && Nat.beq b b' && Nat.beq off off' && (match get A (H b) with
   | (n, .one (.hd _)) => Nat.beq n v
   | _ => false)
  | _ => false) && absC A cs
 | (l, .hd m) :: cs => (match get A l with
  | (_, .one (.hd m')) => Nat.beq m m'
  | _ => false) && absC A cs
 | (l, .fn F bs) :: cs => (match get A l with
  | (_, .one (.fn F' bs')) => Nat.beq F F' && sameB bs bs' && aliveB A bs'
  | _ => false) && absC A cs
 | _ => false
def absL (v : Live) (A : Ab) : Option v.den := bif absC A v.cs then absVs A v.vs v.vs else none
def concVs : (vs : List (Nat × Ty)) → Den (vs.map Prod.snd) → Ab
 | [], _ => []
 | [v], x => (match leaves v.2 x with | [y] => [(v.1, 0, .one y)] | _ => [])
 | v :: w :: l, x => (match leaves v.2 x.1 with | [y] => [(v.1, 0, .one y)] | _ => []) ++ concVs (w :: l) x.2
def concL (v : Live) (x : v.den) : Ab := concVs v.vs x ++ v.cs.map fun c => (c.1, 0, .one c.2)
def altK (K : Ex → Ab → Option R) : (l : List (Ex × Live)) → AltD l → Option R
 | [], x => nomatch x
 | [a], x => K a.1 (concL a.2 x)
 | a :: b :: l, x => Sum.elim (fun y => K a.1 (concL a.2 y)) (fun z => altK K (b :: l) z) x
def exB : Ex → Ex → Bool
 | .normal, .normal => true
 | .exit i, .exit j => Nat.beq i j
 | .ret, .ret => true
 | _, _ => false
def altOf (e : Ex) (A : Ab) : (l : List (Ex × Live)) → Option (AltD l)
 | [] => none
 | [a] => bif exB e a.1 then absL a.2 A else none
 | a :: b :: l => bif exB e a.1 then (match absL a.2 A with | some x => some (.inl x) | none => none) else (match altOf e A (b :: l) with | some x => some (.inr x) | none => none)
def refB (E : En) (A : Ab) (c : Operand) (v : Bool) : Ab := match c with
 | .tmp t => bif E.rf then up A ⟨t, true, .one (.sc (.bool v))⟩ else A
 | _ => A
def evCode (E : En) : Code → Ab → (Ex → Ab → Option R) → Option R
 | .skip, A, K => K .normal A
 | .region id ops draw, A, K => ghostsK E (E.gh id) A fun A => bif draw then evDraw E ops.toList A (K .normal) else evOps E ops.toList (List.range ops.size) A (K .normal)
 | .seq a b, A, K => evCode E a A fun e A' => match e with
  | .normal => evCode E b A' K
  | e => K e A'
 | .cond c x y, A, K => match opT E 0 A c with
  | some (.one (.sc (.bool b))) => bif b then evCode E x (refB E A c true) K else evCode E y (refB E A c false) K
  | _ => none
 | .block id c, A, K => evCode E c A fun e A' => match e with
  | .exit i => bif Nat.beq i id then K .normal A' else K (.exit i) A'
  | e => K e A'
 | .loop c, A, K => match E.lp (first c) with
  | some L => ghostsK E (E.gh (1000001 + first c)) A fun A => (match absL L.ins A with
   | some x => (L.run x).bind fun r => altK K L.alts r
   | none => none)
  | none => none
 | .exit id, A, K => K (.exit id) A
 | .ret, A, K => K .ret A
 | _, _, _ => none
def loopAt (l : Nat) : Code → Code
 | .seq a b => match loopAt l a with
  | .skip => loopAt l b
  | c => c
 | .cond _ a b => match loopAt l a with
  | .skip => loopAt l b
  | c => c
 | .block _ c => loopAt l c
 | .loop c => bif Nat.beq (first c) l then c else loopAt l c
 | _ => .skip
def evLoop (E : En) (L : Lp) (c : Code) (x : L.ins.den) : Option (AltD L.alts) :=
 evCode E c (concL L.ins x) fun e A => match e with
  | .normal => ghostsK E (E.gh (1000001 + first c)) A fun A => (match absL L.ins A with
   | some y => L.run y
   | none => none)
  | e => ghostsK E (E.gh (1000001 + first c)) A fun A => altOf e A L.alts
def oneL : List Lf → Lf
 | [x] => x
 | _ => .dead
def bid (nv i : Nat) : Nat := bif Nat.blt i nv then i else 1500 + (i - nv)
def vwL (B : Nat) : Nat → List Lf → List Lf
 | _, [] => []
 | j, .own _ _ _ :: l => .al (C B j) 0 :: vwL B (j + 1) l
 | j, x :: l => x :: vwL B (j + 1) l
def cells0 (B : Nat) : Nat → List Lf → Ab
 | _, [] => []
 | j, x :: l => (C B j, 0, .one x) :: cells0 B (j + 1) l
def startP (nv : Nat) : Nat → List Par → List (List Lf) → Ab
 | i, .vw _ h :: ps, l :: ls => (i, 0, .agg (vwL (bid nv h) 0 l)) :: startP nv (i + 1) ps ls
 | i, .val ag _ :: ps, l :: ls => (i, 0, (bif ag then .agg l else .one (oneL l))) :: startP nv (i + 1) ps ls
 | i, .ptr t _ :: ps, l :: ls => (i, 0, .one (.bp i 0 0)) :: (H i, 0, .one (.hd t.sz)) :: (ups [] (putCells i 0 l) ++ startP nv (i + 1) ps ls)
 | i, .hid t _ :: ps, l :: ls => (H (bid nv i), 0, .one (.hd t.sz)) :: (cells0 (bid nv i) 0 l ++ startP nv (i + 1) ps ls)
 | i, .rd t :: ps, l :: ls => (match mkW t l with
  | some x => (i, 0, .one (.fp t x 0)) :: startP nv (i + 1) ps ls
  | none => startP nv (i + 1) ps ls)
 | i, .fn F m :: ps, _ :: ls => (i, 0, .one (.fn F ((List.range m).map fun j => (bid nv (nv + j), 0)))) :: startP nv (i + 1) ps ls
 | _, _, _ => []
def start (nv : Nat) (ps : List Par) (x : Den (ps.map Par.ty)) : Ab := startP nv 0 ps (leavesD _ x)
def resOf (np : Nat) (A : Ab) (k : RK) (t : Ty) (x : Operand) (s : Sv) : Option (List Lf × List Up) := match k with
 | .ptr => (match s with
  | .one (.bp b v 0) => (match get A (H b) with
   | (n, .one (.hd m)) => bif Nat.beq n v && (Nat.ble np b && Nat.blt b 1000) && noOw t && Nat.beq m t.sz && Nat.blt m 999 && storable ((cellsOf A b 0 m).map (kept A)) then some ((cellsOf A b 0 m).map (kept A), costs A (cellsOf A b 0 m) ++ [⟨H b, false, .one .dead⟩]) else none
   | _ => none)
  | _ => none)
 | k => bif formOk (isAggK k) s then giveT A x s t else none
def resCell (A : Ab) (t : Ty) : Sv → Option (List Lf × List Up)
 | .one (.bp b v 0) => giveB A b v t t
 | _ => none
def resL (E : En) : Ab → List (RK × Ty) → List ResultVar → Option (List (List Lf) × List Up)
 | _, [], [] => some ([], [])
 | A, (k, t) :: ks, .tmp x :: rs => bif Nat.blt x E.nt then (match resOf E.np A k t (.tmp x) (get A x).2 with
  | some (l, u) => (match resL E (ups A u) ks rs with
   | some (ls, us) => some (l :: ls, u ++ us)
   | none => none)
  | none => none) else none
 | A, (.agg, t) :: ks, .cell x T :: rs => bif Nat.blt x E.nt && (match E.ti T with | some ti => ti.ag && Nat.beq ti.ty.sz t.sz | none => false) then (match resCell A t (get A x).2 with
  | some (l, u) => (match resL E (ups A u) ks rs with
   | some (ls, us) => some (l :: ls, u ++ us)
   | none => none)
  | none => none) else none
 | _, _, _ => none
def ptrL1 (A : Ab) (b : Nat) (t' : Ty) : Option (List Lf × List Up) := giveB A b (get A (H b)).1 t' t'
def ptrL (nv : Nat) : Ab → Nat → List Par → Option (List (List Lf))
 | _, _, [] => some []
 | A, i, .ptr _ t' :: ps => (match ptrL1 A (bid nv i) t' with
  | some (l, us) => (match ptrL nv (ups A us) (i + 1) ps with
   | some ls => some (l :: ls)
   | none => none)
  | none => none)
 | A, i, .hid _ t' :: ps => (match ptrL1 A (bid nv i) t' with
  | some (l, us) => (match ptrL nv (ups A us) (i + 1) ps with
   | some ls => some (l :: ls)
   | none => none)
  | none => none)
 | A, i, _ :: ps => ptrL nv A (i + 1) ps
def evBody (E : En) (c : Code) (rv : List ResultVar) (en : Ent) (x : Den (en.ps.map Par.ty)) : Option (Den (en.rs.map Prod.snd ++ ptrOuts en.ps)) :=
 evCode E c (start en.nv en.ps x) fun e A => match e with
  | .exit _ => none
  | _ => ghostsK E (E.gh 1000000) A fun A => match resL E A en.rs rv with
   | some (ls, us) => (match ptrL en.nv (ups A us) 0 en.ps with
    | some bs => mkDen (en.rs.map Prod.snd ++ ptrOuts en.ps) (ls ++ bs)
    | none => none)
   | none => none
end
end Go.Proofs.YtgocagaijgcnmaaGreat.Vf
