import Derived.Calls
import Derived.Orders
set_option linter.all false
namespace Go.Proofs.YtcpligincipmhaaGreat.Vf
open Go
open List (length getD)
open Int (toNat)
open Go.IntKind (wrap)
open BitVec (ofInt)

inductive Ty where
 |i (k:IntKind)
 |b
 |s
 |sl (e:TypeId) (r:Ty)
 |ow (e:TypeId) (r:Ty)
 |pr (x y:Ty)
 deriving DecidableEq
@[reducible] def Ty.den:Ty→Type
 |.i _=>Int
 |.b=>Bool
 |.s=>ByteArray
 |.sl _ r=>List r.den
 |.ow _ r=>List r.den
 |.pr x y=>x.den×y.den
def Ty.dflt:(t:Ty)→t.den
 |.i _=>(0:Int)
 |.b=>false
 |.s=>(⟨#[]⟩:ByteArray)
 |.sl _ _=>[]
 |.ow _ _=>[]
 |.pr x y=>(x.dflt,y.dflt)
def Ty.sz:Ty→Nat
 |.pr x y=>x.sz+y.sz
 |_=>1
def shp:Ty→Ty
 |.i k => .i k
 |.b => .b
 |.s => .s
 |.sl e r => .sl e (shp r)
 |.ow e r => .sl e (shp r)
 |.pr x y => .pr (shp x) (shp y)
def Hk:∀ t:Ty,(shp t).den=t.den
 |.i _=>rfl
 |.b=>rfl
 |.s=>rfl
 |.sl _ r=>congrArg List (Hk r)
 |.ow _ r=>congrArg List (Hk r)
 |.pr x y=>by show ((shp x).den×(shp y).den)=(x.den×y.den);rw[Hk x,Hk y]
def Gra {t u:Ty} (h:shp u=shp t):u.den=t.den:=(Hk u).symm.trans ((congrArg Ty.den h).trans (Hk t))
def J6:Ty→Bool
 |.ow _ _=>false
 |.pr x y=>J6 x&&J6 y
 |_=>true
def Gx:Ty→Bool
 |.sl _ _=>false
 |.ow _ r=>Gx r
 |.pr x y=>Gx x&&Gx y
 |_=>true
inductive Lf where
 |dead
 |un
 |sc (u:Value)
 |fz (e:TypeId) (r:Ty) (xs:List r.den)
 |own (e:TypeId) (r:Ty) (xs:List r.den)
 |al (p v:Nat)
 |bp (b v off:Nat)
 |ep (p v:Nat) (i:Int) (off:Nat)
 |fp (r:Ty) (x:r.den) (off:Nat)
 |hd (n:Nat)
 |da (p v:Nat) (pi:Option (List (Int×Nat))) (e:TypeId) (r:Ty) (xs:List r.den)
 |dp (p v:Nat) (pi:Option (List (Int×Nat))) (e:TypeId) (r:Ty) (xs:List r.den) (i:Int) (off:Nat)
 |opn (e:TypeId) (r:Ty) (xs:List r.den) (i:Int) (b v:Nat)
 |fn (F:FuncId) (bs:List (Nat×Nat))
inductive Sv where
 |one (x:Lf)
 |agg (cs:List Lf)
 |tup (vs:List (Bool×List Lf))
abbrev Ab:=List (Nat×Nat×Sv)
def get:Ab→Nat→Nat×Sv
 |[],_=>(0,.one .dead)
 |(k,n,s)::t,l=>bif Nat.beq k l then (n,s) else get t l
structure Up where
 l:Nat
 keep:Bool
 s:Sv
def up (A:Ab) (u:Up):Ab:=(u.l,bif u.keep then (get A u.l).1 else (get A u.l).1+1,u.s)::A
def ups (A:Ab):List Up→Ab
 |[]=>A
 |u::l=>ups (up A u) l
def Sm:Ty→Ty→Bool
 |.i k,.i k'=>decide (k=k')
 |.b,.b=>true
 |.s,.s=>true
 |.sl _ _,.sl _ _=>true
 |.sl _ _,.ow _ _=>true
 |.ow _ _,.sl _ _=>true
 |.ow _ _,.ow _ _=>true
 |.pr x y,.pr x' y'=>Sm x x'&&Sm y y'
 |_,_=>false
def C (b j:Nat):Nat:=1000*(b+1)+j
def H (b:Nat):Nat:=1000*(b+1)+999
def Pe (r r':Ty) (xs:List r'.den):Option (List r.den):=if h:shp r'=shp r then some (cast (congrArg List (Gra h)) xs) else none
def Sn (r r':Ty) (xs:List r'.den):Option (List r.den):=if h:r'=r then some (h ▸ xs) else if shp r'=shp r then (match xs with|[]=>some []|_=>none) else none
def A6:(t:Ty)→t.den→List Lf
 |.i k,n=>[.sc (.int k n)]
 |.b,x=>[.sc (.bool x)]
 |.s,x=>[.sc (.string x)]
 |.sl e r,xs=>[.fz e r xs]
 |.ow e r,xs=>[.own e r xs]
 |.pr x y,p=>A6 x p.1++A6 y p.2
def lvs:(t:Ty)→t.den→List Lf
 |.i k,n=>[.sc (.int k n)]
 |.b,x=>[.sc (.bool x)]
 |.s,x=>[.sc (.string x)]
 |.sl e r,xs=>[.fz e r xs]
 |.ow e r,xs=>[.fz e r xs]
 |.pr x y,p=>lvs x p.1++lvs y p.2
def mkT:(t:Ty)→List Lf→Option (t.den×List Lf)
 |.i k,.sc (.int k' n)::l=>bif decide (k=k') then some (n,l) else none
 |.b,.sc (.bool x)::l=>some (x,l)
 |.s,.sc (.string x)::l=>some (x,l)
 |.sl e r,.fz e' r' xs::l=>bif Nat.beq e e' then (match Pe r r' xs with|some ys=>some (ys,l)|none=>none) else none
 |.sl e r,.own e' r' xs::l=>bif Nat.beq e e' then (match Pe r r' xs with|some ys=>some (ys,l)|none=>none) else none
 |.ow e r,.own e' r' xs::l=>bif Nat.beq e e' then (match Sn r r' xs with|some ys=>some (ys,l)|none=>none) else none
 |.pr x y,l=>match mkT x l with
  |some (p,l1)=>(match mkT y l1 with
   |some (q,l2)=>some ((p,q),l2)
   |none=>none)
  |none=>none
 |_,_=>none
def mkW (t:Ty) (l:List Lf):Option t.den:=match mkT t l with
 |some (x,[])=>some x
 |_=>none
structure TI where
 ty:Ty
 ag:Bool
 by_:Nat
 fo:List (Nat×Nat×Bool)
@[reducible] def Den:List Ty→Type
 |[]=>Unit
 |[t]=>t.den
 |t::u::l=>t.den×Den (u::l)
inductive Par where
 |vw (t:Ty) (h:Nat)
 |val (ag:Bool) (t:Ty)
 |ptr (t t':Ty)
 |rd (t:Ty)
 |fn (F:FuncId) (m:Nat)
 |hid (t t':Ty)
def Par.ty:Par→Ty
 |.vw t _=>t
 |.val _ t=>t
 |.ptr t _=>t
 |.rd t=>t
 |.fn _ _ => .b
 |.hid t _=>t
def R5:(ts:List Ty)→List (List Lf)→Option (Den ts)
 |[],[]=>some ()
 |[t],[l]=>mkW t l
 |t::u::ts,l::ls=>match mkW t l with
  |some x=>(match R5 (u::ts) ls with
   |some y=>some (x,y)
   |none=>none)
  |none=>none
 |_,_=>none
def E6:(ts:List Ty)→Den ts→List (List Lf)
 |[],_=>[]
 |[t],x=>[A6 t x]
 |t::u::ts,x=>A6 t x.1::E6 (u::ts) x.2
def Jd:List Par→List Ty
 |[]=>[]
 |.ptr _ t'::l=>t'::Jd l
 |.hid _ t'::l=>t'::Jd l
 |_::l=>Jd l
inductive RK where
 |one
 |agg
 |ptr
structure Ent where
 nv:Nat
 ps:List Par
 rs:List (RK×Ty)
 run:Den (ps.map Par.ty)→Option (Den (rs.map Prod.snd++Jd ps))
inductive Ex where
 |normal
 |exit (id:Nat)
 |ret
structure Bia where
 cs:List (Nat×Lf)
 vs:List (Nat×Ty)
@[reducible] def Bia.den (v:Bia):Type:=Den (v.vs.map Prod.snd)
@[reducible] def Qla:List (Ex×Bia)→Type
 |[]=>Empty
 |[a]=>a.2.den
 |a::b::l=>a.2.den ⊕ Qla (b::l)
structure Lp where
 ins:Bia
 alts:List (Ex×Bia)
 run:ins.den→Option (Qla alts)
inductive Gh where
 |cl (p:Nat)
 |op (p t B:Nat)
 |od (d B:Nat)
 |oc (p:Nat) (i:Int) (B:Nat)
structure En where
 nt:Nat
 ti:TypeId→Option TI
 eq:TypeId→Bool
 nm:Nat→Bool
 res:Nat→Bool
 call:FuncId→Option Ent
 lp:Nat→Option Lp
 np:Nat
 hint:Nat→Option Ty
 mv:Nat→Bool
 gh:Nat→List Gh
 opn:Nat→Bool
 sh:Nat→Bool
 rf:Bool
def Gsa:Value→Bool
 |.int _ _ | .bool _ | .string _ | .func _ _ _ | .pointer none=>true
 |_=>false
def opT (E:En) (T:TypeId) (A:Ab):Operand→Option Sv
 |.tmp t=>bif Nat.blt t E.nt then some (get A t).2 else none
 |.const (.slice none 0 0)=>match E.ti T with
  |some ⟨.sl e r,false,_,_⟩=>some (.one (.own e r []))
  |_=>none
 |.const v=>bif Gsa v then some (.one (.sc v)) else none
 |.func f=>some (.one (.sc (.func (.func f) #[] #[])))
 |.global _=>none
def elT (E:En) (T:TypeId):Option TypeId:=match E.ti T with
 |some ⟨.sl e _,false,_,_⟩=>some e
 |_=>none
def Q0 (E:En) (T e:TypeId):Bool:=match elT E T with
 |some e'=>Nat.beq e' e
 |none=>false
def Bja (E:En) (T:TypeId):Bool:=match E.ti T with
 |some ⟨.s,false,_,_⟩=>true
 |_=>false
def Jb (A:Ab):Lf→Lf
 |.al p v=>match get A p with
  |(n,.one (.own e r xs))=>bif Nat.beq n v then .own e r xs else .dead
  |(n,.one (.fz e r xs))=>bif Nat.beq n v then .fz e r xs else .dead
  |_ => .dead
 |x=>x
def Yy (A:Ab):Lf→Lf
 |.da p v _ e r xs=>bif Nat.beq (get A p).1 v then .fz e r xs else .dead
 |x=>Jb A x
structure Sl where
 e:TypeId
 r:Ty
 xs:List r.den
def Eja (A:Ab) (x:Lf):Option Sl:=match x with
 |.da p v _ e r xs=>bif Nat.beq (get A p).1 v&&J6 r then some ⟨e,r,xs⟩ else none
 |x=>(match Jb A x with
  |.fz e r xs=>some ⟨e,r,xs⟩
  |.own e r xs=>bif J6 r then some ⟨e,r,xs⟩ else none
  |_=>none)
def W8 (A:Ab):Lf→Bool
 |.bp b v _=>Nat.beq (get A (H b)).1 v
 |.ep p v _ _=>(match get A p with
  |(n,.one (.own _ _ _))=>Nat.beq n v
  |_=>false)
 |.fp _ _ _=>true
 |.dp p v _ _ _ _ _ _=>Nat.beq (get A p).1 v
 |_=>false
def L8a:Lf→Nat→Lf
 |.bp b v n,k => .bp b v (n+k)
 |.ep p v i n,k => .ep p v i (n+k)
 |.fp r x n,k => .fp r x (n+k)
 |.dp p v pi e r xs i n,k => .dp p v pi e r xs i (n+k)
 |x,_=>x
def Fk:List Lf→Bool
 |[]=>false
 |.own _ _ _::_=>true
 |.opn _ _ _ _ _ _::_=>true
 |_::l=>Fk l
def Lr:Sv→Bool
 |.one x=>Fk [x]
 |.agg l=>Fk l
 |.tup vs=>vs.any λ v=>Fk v.2
def Lk:Lf→Lf
 |.own e r xs => .fz e r xs
 |.opn _ _ _ _ _ _ => .dead
 |x=>x
def Sw (A:Ab):Lf→List Up
 |.al p v=>match get A p with
  |(n,.one (.own e r xs))=>bif Nat.beq n v then [⟨p,true,.one (.fz e r xs)⟩] else []
  |_=>[]
 |_=>[]
def Ip (A:Ab):List Lf→List Up
 |[]=>[]
 |x::l=>Sw A x++Ip A l
def L9a (p:Nat):List Up→Bool
 |[]=>true
 |u::l => !(Nat.beq u.l p)&&L9a p l
def gone:Operand→Sv→List Up
 |.tmp t,s=>bif Lr s then [⟨t,false,.one .dead⟩] else []
 |_,_=>[]
def Eka:Lf→Operand→List Up
 |.al p _,_=>[⟨p,false,.one .dead⟩]
 |_,.tmp t=>[⟨t,false,.one .dead⟩]
 |_,_=>[]
def parts:Sv→List Lf
 |.one x=>[x]
 |.agg l=>l
 |.tup _=>[]
def Jx (ag:Bool) (l:List Lf):Option Sv:=bif ag then some (.agg l) else match l with
 |[x]=>some (.one x)
 |_=>none
def nth {α:Type}:List α→Nat→Option α
 |[],_=>none
 |x::_,0=>some x
 |_::l,n+1=>nth l n
section
variable {R:Type}
def S8 (op:BinOp) (k:IntKind) (x y:Int) (K:Value→Option R):Option R:=
 match op with
 |.add=>K (.int k (k.wrap (x+y)))
 |.sub=>K (.int k (k.wrap (x-y)))
 |.mul=>K (.int k (k.wrap (x*y)))
 |.quo=>bif decide (y=0) then none else K (.int k (k.wrap (x.tdiv y)))
 |.rem=>bif decide (y=0) then none else K (.int k (x.tmod y))
 |.and=>K (.int k (k.wrap ((ofInt k.bits x &&& ofInt k.bits y).toNat)))
 |.or=>K (.int k (k.wrap ((ofInt k.bits x ||| ofInt k.bits y).toNat)))
 |.xor=>K (.int k (k.wrap ((ofInt k.bits x ^^^ ofInt k.bits y).toNat)))
 |.andNot=>K (.int k (k.wrap ((ofInt k.bits x &&& ~~~ ofInt k.bits y).toNat)))
 |.eql=>K (.bool (x==y))
 |.neq=>K (.bool (x != y))
 |.lss=>K (.bool (x<y))
 |.leq=>K (.bool (x≤y))
 |.gtr=>K (.bool (x > y))
 |.geq=>K (.bool (x≥y))
 |_=>none
def X3 (op:BinOp) (x y:ByteArray) (K:Value→Option R):Option R:=
 match op with
 |.add=>bif Nat.ble (x.size+y.size) 9223372036854775807 then K (.string (x++y)) else none
 |.eql=>K (.bool (x.toList==y.toList))
 |.neq=>K (.bool !(x.toList==y.toList))
 |.lss=>K (.bool (Op.bytesLess x.toList y.toList))
 |.leq=>K (.bool (Op.bytesLess x.toList y.toList||x.toList==y.toList))
 |.gtr=>K (.bool !(Op.bytesLess x.toList y.toList||x.toList==y.toList))
 |.geq=>K (.bool !(Op.bytesLess x.toList y.toList))
 |_=>none
def E7:List Lf→List Lf→Option Bool
 |[],[]=>some true
 |[.sc (.int k x)],[.sc (.int k' y)]=>bif decide (k=k') then some (x==y) else none
 |[.sc (.bool x)],[.sc (.bool y)]=>some (x==y)
 |[.sc (.string x)],[.sc (.string y)]=>some (x==y)
 |.sc (.int k x)::l,.sc (.int k' y)::l'=>bif decide (k=k') then (match E7 l l' with|some b=>some ((x==y)&&b)|none=>none) else none
 |.sc (.bool x)::l,.sc (.bool y)::l'=>match E7 l l' with|some b=>some ((x==y)&&b)|none=>none
 |.sc (.string x)::l,.sc (.string y)::l'=>match E7 l l' with|some b=>some ((x==y)&&b)|none=>none
 |_,_=>none
def Nd:List Lf→Bool
 |[]=>true
 |.sc _::l=>Nd l
 |_=>false
def Me (tT:Option TI) (l:List Lf):Bool:=match tT with
 |some ti=>(mkW ti.ty l).isSome
 |none=>false
def bop (op:BinOp) (tT:Option TI) (eqs:Bool) (x y:Sv) (K:Value→Option R):Option R:=
 match x,y with
 |.one (.sc (.int k a)),.one (.sc (.int k' b))=>
  match op with
  |.shl=>bif decide (b<0) then none else K (.int k (k.wrap (a*2 ^ (min b.toNat k.bits))))
  |.shr=>bif decide (b<0) then none else K (.int k (a.fdiv (2 ^ (min b.toNat k.bits))))
  |_=>bif decide (k=k') then S8 op k a b K else none
 |.one (.sc (.string a)),.one (.sc (.string b))=>X3 op a b K
 |.one (.sc (.bool a)),.one (.sc (.bool b))=>match op,tT with
  |.eql,some ⟨.b,false,_,_⟩=>K (.bool (a==b))
  |.neq,some ⟨.b,false,_,_⟩=>K (.bool (!(a==b)))
  |_,_=>none
 |.agg l,.agg l'=>bif eqs&&Nd l&&Nd l'&&(Me tT l&&Me tT l') then (match op with
  |.eql=>(match E7 l l' with|some b=>K (.bool b)|none=>none)
  |.neq=>(match E7 l l' with|some b=>K (.bool (!b))|none=>none)
  |_=>none) else none
 |_,_=>none
def uop (op:UnOp) (x:Sv) (K:Value→Option R):Option R:=
 match op,x with
 |.neg,.one (.sc (.int k n))=>K (.int k (k.wrap (0-n)))
 |.xor,.one (.sc (.int k n))=>K (.int k (k.wrap ((ofInt k.bits (if k.signed then -1 else k.max) ^^^ ofInt k.bits n).toNat)))
 |.not,.one (.sc (.bool b))=>K (.bool !b)
 |_,_=>none
def Ir (xs:List Int):ByteArray:=⟨(xs.map λ n=>UInt8.ofNat n.toNat).toArray⟩
def bytesOf (s:ByteArray):List Int:=s.data.toList.map λ b=>(b.toNat:Int)
def bt (s:ByteArray) (i:Int):Int:=((s.data.toList.getD i.toNat 0).toNat:Int)
def conv (src dst:Option TI) (x:Sv) (K:Sv→Option R):Option R:=
 match src,dst,x with
 |some ⟨.i _,false,_,_⟩,some ⟨.i k,false,_,_⟩,.one (.sc (.int _ n))=>K (.one (.sc (.int k (k.wrap n))))
 |some ⟨.s,false,_,_⟩,some ⟨.s,false,_,_⟩,.one (.sc (.string s))=>K (.one (.sc (.string s)))
 |some ⟨.sl e (.i .u8),false,_,_⟩,some ⟨.s,false,_,_⟩,.one (.fz e' (.i .u8) xs)=>bif Nat.beq e e' then K (.one (.sc (.string (Ir xs)))) else none
 |some ⟨.sl e (.i .u8),false,_,_⟩,some ⟨.s,false,_,_⟩,.one (.own e' (.i .u8) xs)=>bif Nat.beq e e' then K (.one (.sc (.string (Ir xs)))) else none
 |some ⟨.s,false,_,_⟩,some ⟨.sl e (.i .u8),false,_,_⟩,.one (.sc (.string s))=>bif Nat.ble s.size 140737488355328 then K (.one (.fz e (.i .u8) (bytesOf s))) else none
 |_,_,_=>none
def P4 (mx:Bool):List Sv→IntKind→Int→(Value→Option R)→Option R
 |[],k,x,K=>K (.int k x)
 |.one (.sc (.int k' y))::l,k,x,K=>bif decide (k=k') then P4 mx l k (bif mx then (if x<y then y else x) else (if y<x then y else x)) K else none
 |_,_,_,_=>none
def cellsOf (A:Ab) (b:Nat):Nat→Nat→List Lf
 |_,0=>[]
 |j,n+1=>(match get A (C b j) with
  |(v,.one (.own _ _ _))=>Lf.al (C b j) v
  |(v,.one (.opn _ _ _ _ _ _))=>Lf.al (C b j) v
  |(_,.one x)=>x
  |_ => .dead)::cellsOf A b (j+1) n
def D8 (b:Nat):Nat→List Lf→List Up
 |_,[]=>[]
 |j,x::l=>⟨C b j,false,.one x⟩::D8 b (j+1) l
def kept (A:Ab) (x:Lf):Lf:=match x with
 |.al _ _=>Lk (Jb A x)
 |_=>x
def W9:Ty→List Lf
 |.i k=>[.sc (.int k 0)]
 |.b=>[.sc (.bool false)]
 |.s=>[.sc (.string ⟨#[]⟩)]
 |.sl e r=>[.own e r []]
 |.ow e r=>[.own e r []]
 |.pr x y=>W9 x++W9 y
def A5:List Lf→Bool
 |[]=>true
 |.sc _::l | .fz _ _ _::l | .own _ _ _::l=>A5 l
 |_=>false
def H0 (A:Ab):List Lf→Bool
 |[]=>true
 |.sc _::l | .fz _ _ _::l | .own _ _ _::l=>H0 A l
 |.da p v _ _ _ _::l=>Nat.beq (get A p).1 v&&H0 A l
 |_=>false
def Eu (A:Ab):List Lf→Bool
 |[]=>true
 |.sc _::l | .fz _ _ _::l=>Eu A l
 |.al p v::l=>(match Jb A (.al p v) with
  |.own _ _ _ | .fz _ _ _=>true
  |_=>false)&&Eu A l
 |_=>false
def setAll (l:List Lf) (off:Nat) (m:List Lf):List Lf:=l.take off++m++l.drop (off+m.length)
def J7:Ab→List Lf→Option (List Lf×List Up)
 |_,[]=>some ([],[])
 |A,.al p v::l=>(match Jb A (.al p v) with
  |.own e r xs=>(match J7 (up A ⟨p,false,.one .dead⟩) l with
   |some (m,us)=>some (.own e r xs::m,⟨p,false,.one .dead⟩::us)
   |none=>none)
  |_=>none)
 |A,x::l=>(match J7 A l with
  |some (m,us)=>some (x::m,us)
  |none=>none)
def give (A:Ab) (x:Operand) (s:Sv):Option (List Lf×List Up):=match J7 (ups A (gone x s)) (parts s) with
 |some (m,us)=>some (m,gone x s++us)
 |none=>none
def Pf:List Lf→Bool
 |[]=>true
 |.sc _::l | .own _ _ _::l=>Pf l
 |_=>false
def Hu:Ty→List Ty
 |.pr x y=>Hu x++Hu y
 |t=>[t]
def daL (p v:Nat) (pi:Option (List (Int×Nat))) (i:Int):Nat→List Lf→List Lf
 |_,[]=>[]
 |j,.own e r xs::l => .da p v (match pi with|some q=>some (q++[(i,j)])|none=>none) e r xs::daL p v pi i (j+1) l
 |j,.opn _ _ _ _ _ _::l => .dead::daL p v pi i (j+1) l
 |j,x::l=>x::daL p v pi i (j+1) l
def Jea (r0:Ty) (ys:List r0.den):List (Int×Nat)→(r:Ty)→List r.den→Option (List r.den)
 |[],r,_=>if h:r0=r then some (h ▸ ys) else none
 |(i,j)::q,r,xs=>match nth (A6 r (xs.getD i.toNat r.dflt)) j with
  |some (.own e1 r1 zs)=>(match Jea r0 ys q r1 zs with
   |some zs'=>(match mkW r (setAll (A6 r (xs.getD i.toNat r.dflt)) j [.own e1 r1 zs']) with
    |some z=>some (xs.set i.toNat z)
    |none=>none)
   |none=>none)
  |_=>none
def Nf:List Par→Bool
 |[]=>true
 |.val _ t::ps=>J6 t&&Nf ps
 |_::_=>false
def W4:List (RK×Ty)→Bool
 |[]=>true
 |(.ptr,_)::_=>false
 |(_,t)::rs=>Gx t&&W4 rs
def L1a:Sv→Option Bool
 |.one _=>some false
 |.agg _=>some true
 |.tup _=>none
def J8 (ag:Bool) (s:Sv):Bool:=match L1a s with
 |some b=>bif ag then b else !b
 |none=>false
def Ng (A:Ab):List Par→List Sv→Option (List (List Lf))
 |[],[]=>some []
 |.val ag _::ps,s::ss=>bif J8 ag s&&A5 ((parts s).map (λ y=>Lk (Yy A y))) then (match Ng A ps ss with
  |some ls=>some ((parts s).map (λ y=>Lk (Yy A y))::ls)
  |none=>none) else none
 |_,_=>none
def Ela (e:TypeId) (r:Ty):Lf→Option Lf
 |.own e' r' xs=>bif Nat.beq e e' then (match Sn r r' xs with
  |some ys=>some (.own e r ys)
  |none=>bif J6 r then (match Pe r r' xs with
   |some ys=>some (.own e r ys)
   |none=>none) else none) else none
 |_=>none
def Ema:Lf→List Up
 |.al p _=>[⟨p,false,.one .dead⟩]
 |_=>[]
def G6:Ab→List Ty→List Lf→Option (List Lf×List Up)
 |_,[],[]=>some ([],[])
 |A,.ow e r::ts,x::l=>(match Ela e r (Jb A x) with
  |some y=>(match G6 (ups A (Ema x)) ts l with
   |some (m,us)=>some (y::m,Ema x++us)
   |none=>none)
  |none=>none)
 |A,_::ts,x::l=>(match G6 (ups A (Sw A x)) ts l with
  |some (m,us)=>some (Lk (kept A x)::m,Sw A x++us)
  |none=>none)
 |_,_,_=>none
def R6 (A:Ab) (x:Operand) (s:Sv) (ts:List Ty):Option (List Lf×List Up):=match G6 (ups A (gone x s)) ts (parts s) with
 |some (m,us)=>bif A5 m then some (m,gone x s++us) else none
 |none=>none
def R7 (A:Ab) (x:Operand) (s:Sv) (t:Ty):Option (List Lf×List Up):=R6 A x s (Hu t)
def Vna (A:Ab):List Lf→List Ty
 |[]=>[]
 |x::l=>(match Jb A x with
  |.own e r _ => .ow e r
  |_ => .b)::Vna A l
def Pg (A:Ab) (b v:Nat) (t t':Ty):Option (List Lf×List Up):=match get A (H b) with
 |(n,.one (.hd m))=>bif Nat.beq n v&&Nat.beq m t.sz&&Nat.beq m t'.sz then (match G6 A (Hu t) (cellsOf A b 0 m) with
  |some (l,us)=>bif A5 l then some (l,us) else none
  |none=>none) else none
 |_=>none
def Txa:List (Nat×Nat)→List (Nat×Nat)→Bool
 |[],[]=>true
 |a::l,b::m=>Nat.beq a.1 b.1&&Nat.beq a.2 b.2&&Txa l m
 |_,_=>false
def Kz (A:Ab):List (Nat×Nat)→Bool
 |[]=>true
 |b::l=>Nat.beq (get A (H b.1)).1 b.2&&Kz A l
def Qga:Lf→Bool
 |.sc _ | .fz _ _ _=>true
 |_=>false
def Ena (A:Ab) (b:Nat):Nat→List Ty→List Lf→Option (List Lf)
 |_,[],[]=>some []
 |j,.ow e r::ts,.al p v::l=>bif Nat.beq p (C b j)&&Nat.beq (get A p).1 v then (match Ela e r (Jb A (.al p v)) with
  |some y=>(match Ena A b (j+1) ts l with
   |some m=>some (y::m)
   |none=>none)
  |none=>none) else none
 |_,.ow _ _::_,_=>none
 |j,_::ts,x::l=>bif Qga (Jb A x) then (match Ena A b (j+1) ts l with
  |some m=>some (Jb A x::m)
  |none=>none) else none
 |_,_,_=>none
def Bka:List Lf→Option Nat
 |[]=>none
 |.al p _::l=>bif Nat.ble 1000 p then some (p/1000-1) else Bka l
 |_::l=>Bka l
def Bla (A:Ab):List Par→List Sv→List (Nat×Nat)
 |.vw _ _::ps,.agg ys::ss=>(match Bka ys with
  |some b=>(b,(get A (H b)).1)::Bla A ps ss
  |none=>Bla A ps ss)
 |_::ps,_::ss=>Bla A ps ss
 |_,_=>[]
def So (A:Ab) (cb hb:List (Nat×Nat)) (nv:Nat) (x:Operand):Par→Sv→Option (List Lf×List Up×List Nat)
 |.vw t h,.agg ys=>(match nth hb (h-nv) with
  |some c=>(match get A (H c.1) with
   |(n,.one (.hd m))=>bif Nat.ble nv h&&Nat.beq n c.2&&Nat.beq m t.sz then (match Ena A c.1 0 (Hu t) ys with
    |some l=>some (l,[],[])
    |none=>none) else none
   |_=>none)
  |none=>none)
 |.val ag t,s=>bif J8 ag s then (match R7 A x s t with
  |some (m,us)=>some (m,us,[])
  |none=>none) else none
 |.ptr t t',.one (.bp b v 0)=>(match Pg A b v t t' with
  |some (m,us)=>some (m,us,[b])
  |none=>none)
 |.hid t t',.one (.bp b v 0)=>(match Pg A b v t t' with
  |some (m,us)=>some (m,us,[b])
  |none=>none)
 |.rd t,.one (.fp r y 0)=>bif decide (shp r=shp t)&&J6 t then some (lvs r y,[],[]) else none
 |.fn F m,.one (.fn F' bs)=>bif Nat.beq F F'&&Nat.beq m bs.length&&Txa bs cb&&Kz A bs then some ([.sc (.bool true)],[],[]) else none
 |_,_=>none
def K8 (E:En) (cb hb:List (Nat×Nat)) (nv:Nat):Ab→List (TypeId×Operand)→List (Nat×Nat)→List Par→Option (List (List Lf)×List Up×List Nat)
 |_,[],[],[]=>some ([],[],[])
 |A,x::xs,hs,p::ps=>(match opT E x.1 A x.2 with
  |some s=>(match So A cb hb nv x.2 p s with
   |some (l,u,b)=>(match K8 E cb hb nv (ups A u) xs hs ps with
    |some (ls,us,bs)=>some (l::ls,u++us,b++bs)
    |none=>none)
   |none=>none)
  |none=>none)
 |A,[],h::hs,p::ps=>(match So A cb hb nv (.func 0) p (.one (.bp h.1 h.2 0)) with
   |some (l,u,b)=>(match K8 E cb hb nv (ups A u) [] hs ps with
    |some (ls,us,bs)=>some (l::ls,u++us,b++bs)
    |none=>none)
   |none=>none)
 |_,_,_,_=>none
def Laa:List Sv→List (Nat×Nat)
 |[]=>[]
 |.one (.fn _ bs)::_=>bs
 |_::l=>Laa l
def Kk (nv:Nat):Nat→List Par→Bool
 |_,[]=>true
 |i,.hid _ _::ps=>Nat.ble nv i&&Kk nv (i+1) ps
 |i,_::ps=>Nat.blt i nv&&Kk nv (i+1) ps
def Bma:List Nat→Bool
 |[]=>true
 |b::l => !(l.any (Nat.beq b))&&Bma l
def Jfa:List Nat→List (List Lf)→Option (List Up)
 |[],_=>some []
 |b::bs,l::ls=>match Jfa bs ls with
  |some us=>some (D8 b 0 l++us)
  |none=>none
 |_,_=>none
def Lba (A:Ab) (d:Nat) (l:List Lf):List Up:=
 ⟨H d,false,.one (.hd l.length)⟩::D8 d 0 l++[⟨d,false,.one (.bp d ((get A (H d)).1+1) 0)⟩]
def Je:List (RK×Ty)→Bool
 |[]=>false
 |(.ptr,_)::_=>true
 |_::l=>Je l
def S9:RK→Bool
 |.agg=>true
 |_=>false
def Bna:List (RK×Ty)→List (List Lf)→List (Bool×List Lf)
 |r::rs,l::ls=>(S9 r.1,l)::Bna rs ls
 |_,_=>[]
def Ph (A:Ab) (rs:List (RK×Ty)) (ls:List (List Lf)) (d:Option Nat):Option (List Up):=
 match rs,ls,d with
 |_,_,none=>some []
 |[],_,some d=>some [⟨d,false,.tup []⟩]
 |[(.one,_)],[x]::_,some d=>some [⟨d,false,.one x⟩]
 |[(.agg,_)],l::_,some d=>some [⟨d,false,.agg l⟩]
 |[(.ptr,_)],l::_,some d=>some (Lba A d l)
 |r::q::rs,ls,some d=>bif Je (r::q::rs) then none else some [⟨d,false,.tup (Bna (r::q::rs) ls)⟩]
 |_,_,_=>none
def R8 (E:En) (Ts:List TypeId) (A:Ab):List Operand→Option (List Sv)
 |[]=>some []
 |x::l=>match Ts with
  |[]=>none
  |T::Ts=>(match opT E T A x with
   |some s=>(match R8 E Ts A l with
    |some ss=>some (s::ss)
    |none=>none)
   |none=>none)
def Voa (E:En) (rs:List (RK×Ty)) (d:Option Nat):Bool := !(Je rs)||(match d with
 |some d=>Nat.ble E.np d
 |none=>true)
def shL (E:En) (d:Option Nat) (ls:List (List Lf)):List (List Lf):=match d with
 |some d=>bif E.sh d then ls.map (λ l=>l.map Lk) else ls
 |none=>ls
def Yz (E:En) (A:Ab) (en:Ent) (xs:List (TypeId×Operand)) (cs:List (Nat×Nat)) (ss:List Sv) (d:Option Nat) (K:List Up→Option R):Option R:=
 bif Nat.beq en.nv (xs.length+cs.length) then
 (bif Nf en.ps&&W4 en.rs&&cs.isEmpty then
  (match Ng A en.ps ss with
  |none=>none
  |some ls=>match R5 _ ls with
   |none=>none
   |some x=>(en.run x).bind λ r=>
    match Ph A en.rs (shL E d (E6 _ r)) d with
    |none=>none
    |some rs=>K rs)
 else bif Voa E en.rs d&&(Nat.ble en.nv 1000&&Kk en.nv 0 en.ps&&Nat.ble en.rs.length 400&&Nat.ble en.ps.length 2000) then
  (match K8 E (Laa ss++Bla A en.ps ss) (Laa ss++Bla A en.ps ss) en.nv A xs (cs++(Laa ss++Bla A en.ps ss)) en.ps with
  |none=>none
  |some (ls,us,bs)=>bif Bma bs then (match R5 _ ls with
   |none=>none
   |some x=>(en.run x).bind λ r=>
    match Jfa bs ((E6 _ r).drop en.rs.length) with
    |none=>none
    |some ws=>match Ph (ups (ups A us) ws) en.rs (shL E d (E6 _ r)) d with
     |none=>none
     |some rs=>K (us++(ws++rs))) else none)
 else none) else none
def Ls (E:En) (A:Ab) (T:TI) (l:List Lf) (us:List Up):List (Nat×Operand)→Option (List Lf×List Up)
 |[]=>some (l,us)
 |(i,x)::ps=>match nth T.fo i with
  |none=>none
  |some (off,z,_)=>(match x with
   |.const (.slice none 0 0)=>bif Nat.beq z 1 then (match nth l off with
    |some (.own _ _ [])=>Ls E A T l us ps
    |_=>none) else none
   |_=>(match opT E 0 A x with
    |some s=>let m:=(parts s).map (kept A)
     bif A5 m&&Nat.beq m.length z&&Nat.ble (off+z) l.length then Ls E (ups A (Ip A (parts s)++gone x s)) T (setAll l off m) (us++(Ip A (parts s)++gone x s)) ps else none
    |none=>none))
def Boa (E:En) (A:Ab) (e:TypeId) (r:Ty) (i:Nat):List (Nat×Operand)→Option (List r.den×List Up)
 |[]=>some ([],[])
 |(j,x)::ps=>bif Nat.beq i j then (match opT E e A x with
  |some s=>(match bif A5 ((parts s).map (kept A)) then mkW r ((parts s).map λ x=>Lk (kept A x)) else none with
   |some y=>(match Boa E (ups A (Ip A (parts s)++gone x s)) e r (i+1) ps with
    |some (ys,us)=>some (y::ys,(Ip A (parts s)++gone x s)++us)
    |none=>none)
   |none=>none)
  |none=>none) else none
def Bpa (E:En) (A:Ab) (e:TypeId) (r:Ty) (i:Nat):List (Nat×Operand)→Option (List r.den×List Up)
 |[]=>some ([],[])
 |(j,x)::ps=>bif Nat.beq i j then (match opT E e A x with
  |some s=>(match give A x s with
   |some (m,us)=>(match bif Pf m then mkW r m else none with
    |some y=>(match Bpa E (ups A us) e r (i+1) ps with
     |some (ys,us')=>some (y::ys,us++us')
     |none=>none)
    |none=>none)
   |none=>none)
  |none=>none) else none
def Eoa {α:Type} (xs:List α) (lo hi:Option Int):List α:=
 match lo,hi with
 |none,none=>xs
 |some l,none=>xs.drop l.toNat
 |none,some h=>xs.take h.toNat
 |some l,some h=>(xs.take h.toNat).drop l.toNat
def Eha (lo hi:Option Int) (n:Nat) (K:Unit→Option R):Option R:=
 match lo,hi with
 |none,none=>K ()
 |some l,none=>bif decide (0≤l) then (bif decide (l≤(n:Int)) then K () else none) else none
 |none,some h=>bif decide (0≤h) then (bif decide (h≤(n:Int)) then K () else none) else none
 |some l,some h=>bif decide (0≤l) then (bif decide (l≤h) then (bif decide (h≤(n:Int)) then K () else none) else none) else none
def Epa (E:En) (A:Ab):Option Operand→Option (Option Int)
 |none=>some none
 |some x=>match opT E 0 A x with
  |some (.one (.sc (.int .i64 n)))=>some (some n)
  |_=>none
def mvO (E:En):Operand→Bool
 |.tmp t=>E.mv t
 |_=>false
def Bqa (E:En) (A:Ab):List Operand→Option (List (Nat×Nat))
 |[]=>some []
 |x::l=>(match opT E 0 A x with
  |some (.one (.bp b v 0))=>(match Bqa E A l with
   |some bs=>some ((b,v)::bs)
   |none=>none)
  |_=>none)
def Q1 (A:Ab) (B p:Nat) (e:TypeId) (r:Ty) (xs:List r.den) (i:Int):Option (List Up):=
 bif (J6 r||Gx r)&&Nat.blt r.sz 999&&!(Nat.beq (p/1000) (B+1))&&Nat.ble 2000 B then (bif decide (0≤i) then (bif decide (i<(xs.length:Int)) then
  some (⟨p,false,.one (.opn e r xs i B ((get A (H B)).1+1))⟩::⟨H B,false,.one (.hd r.sz)⟩::D8 B 0 (A6 r (xs.getD i.toNat r.dflt))) else none) else none) else none
def Tk (A:Ab) (B p:Nat) (e:TypeId) (r:Ty) (xs:List r.den) (i:Int) (K:List Up→Option R) (Z:Option R):Option R:=
 bif (J6 r||Gx r)&&Nat.blt r.sz 999&&!(Nat.beq (p/1000) (B+1))&&Nat.ble 2000 B then (bif decide (0≤i) then (bif decide (i<(xs.length:Int)) then
  K (⟨p,false,.one (.opn e r xs i B ((get A (H B)).1+1))⟩::⟨H B,false,.one (.hd r.sz)⟩::D8 B 0 (A6 r (xs.getD i.toNat r.dflt))) else none) else none) else Z
def Sa (E:En) (A:Ab) (T T':TypeId) (x:Operand) (d:Nat):Option (List Up):=match x with
 |.tmp t=>(match opT E T A (.tmp t),E.ti T with
  |some (.one (.own e (.i .u8) xs)),some ⟨.sl e' (.i .u8),false,_,_⟩=>bif Nat.beq T T'&&(Nat.beq e e'&&Nat.blt 0 xs.length) then some [⟨t,false,.one .dead⟩,⟨d,false,.one (.fz e (.i .u8) xs)⟩] else none
  |_,_=>none)
 |_=>none
def B6 (E:En) (o:Oper) (A:Ab) (K:List Up→Option R):Option R:=
 match o.op,o.dst with
 |.makeFunc (.func f) x y,some d=>(match x.toList,Bqa E A y.toList with
  |[],some bs=>K [⟨d,false,.one (.fn f bs)⟩]
  |_,_=>none)
 |.move x,some d=>match opT E o.type A x with
  |some s=>(match x,s with
   |.tmp t,.one (.own e r xs)=>bif E.nm t&&!(E.mv d) then K [⟨d,false,.one (.al t (get A t).1)⟩] else K [⟨t,false,.one .dead⟩,⟨d,false,.one (.own e r xs)⟩]
   |_,_=>K (gone x s++[⟨d,false,s⟩]))
  |none=>none
 |.assign x,some d=>match opT E o.type A x with
  |some (.one (.al p v))=>(match get A p with
   |(n,.one (.own e r xs))=>bif Nat.beq n v then (bif E.res d then K [⟨p,false,.one .dead⟩,⟨d,false,.one (.own e r xs)⟩] else K [⟨p,true,.one (.fz e r xs)⟩,⟨d,false,.one (.fz e r xs)⟩]) else none
   |(n,.one (.fz e r xs))=>bif Nat.beq n v then K [⟨d,false,.one (.fz e r xs)⟩] else none
   |_=>none)
  |some s=>K (gone x s++[⟨d,false,s⟩])
  |none=>none
 |.pick c x y,some d=>match opT E 0 A c with
  |some (.one (.sc (.bool b)))=>bif b then (match opT E o.type A x with
    |some (.one (.sc u))=>K [⟨d,false,.one (.sc u)⟩]
    |_=>none)
   else (match opT E o.type A y with
    |some (.one (.sc u))=>K [⟨d,false,.one (.sc u)⟩]
    |_=>none)
  |_=>none
 |.binOp op T x y T',some d=>match opT E T A x,opT E T' A y with
  |some s,some s'=>bop op (E.ti T) (E.eq T) s s' λ u=>K [⟨d,false,.one (.sc u)⟩]
  |_,_=>none
 |.unOp op T x,some d=>match opT E T A x with
  |some s=>uop op s λ u=>K [⟨d,false,.one (.sc u)⟩]
  |none=>none
 |.convert T T' x,some d=>(match Sa E A T T' x d with
  |some U=>K U
  |none=>(match opT E T A x with
   |some (.one y)=>conv (E.ti T) (E.ti T') (.one (Yy A y)) λ s=>K [⟨d,false,s⟩]
   |_=>none))
 |.nilCheck x,some d=>match opT E 0 A x with
  |some (.one y)=>bif W8 A y then K [⟨d,false,.one y⟩] else none
  |_=>none
 |.extract (.tmp t) j,some d=>match bif Nat.blt t E.nt then (get A t).2 else .one .dead with
  |.tup vs=>(match nth vs j with
   |some (ag,l)=>(match Jx ag l with
    |some s=>bif Fk l then K [⟨t,false,.tup (vs.set j (false,[.dead]))⟩,⟨d,false,s⟩] else K [⟨d,false,s⟩]
    |none=>none)
   |none=>none)
  |_=>none
 |.field T (.tmp t) j,some d=>match E.ti T,(get A t).2 with
  |some ti,.agg l=>(match nth ti.fo j with
   |some (off,z,ag)=>(match Jx ag ((l.drop off).take z) with
    |some s=>bif ti.ag&&Nat.blt t E.nt&&Nat.ble (off+z) l.length then (bif Fk ((l.drop off).take z) then K [⟨t,false,.agg (setAll l off (List.replicate z .dead))⟩,⟨d,false,s⟩] else K [⟨d,false,s⟩]) else none
    |none=>none)
   |none=>none)
  |_,_=>none
 |.build T ps,some d=>match E.ti T with
  |some ti=>(match Ls E A ti (W9 ti.ty) [] ps.toList with
   |some (l,us)=>bif ti.ag then K (us++[⟨d,false,.agg l⟩]) else none
   |none=>none)
  |none=>none
 |.alloc T,some d=>match E.ti T with
  |some ti=>bif Nat.blt ti.ty.sz 999&&Nat.ble E.np d then K (⟨H d,false,.one (.hd ti.ty.sz)⟩::D8 d 0 (W9 ti.ty)++[⟨d,false,.one (.bp d ((get A (H d)).1+1) 0)⟩]) else none
  |none=>none
 |.box T x,some d=>match E.ti T,opT E T A x with
  |some ti,some s=>
   bif mvO E x then (bif Eu A (parts s)&&Nat.beq (parts s).length ti.ty.sz&&Nat.blt ti.ty.sz 999&&Nat.ble E.np d then K (⟨H d,false,.one (.hd ti.ty.sz)⟩::D8 d 0 (parts s)++[⟨d,false,.one (.bp d ((get A (H d)).1+1) 0)⟩]) else none) else
   let m:=(parts s).map (kept A)
   bif A5 m&&Nat.beq m.length ti.ty.sz&&Nat.blt ti.ty.sz 999&&Nat.ble E.np d then K (Ip A (parts s)++gone x s++(⟨H d,false,.one (.hd ti.ty.sz)⟩::D8 d 0 m++[⟨d,false,.one (.bp d ((get A (H d)).1+1) 0)⟩])) else none
  |_,_=>none
 |.load T x,some d=>match E.ti T,opT E 0 A x with
  |some ti,some (.one (.bp b v off))=>(match get A (H b) with
   |(n,.one (.hd m))=>bif Nat.beq n v&&Nat.ble (off+ti.ty.sz) m then (match Jx ti.ag (cellsOf A b off ti.ty.sz) with
    |some s=>K [⟨d,false,s⟩]
    |none=>none) else none
   |_=>none)
  |some ti,some (.one (.ep p v i off))=>(match get A p with
   |(n,.one (.own _ r xs))=>bif Nat.beq n v&&J6 r&&Nat.ble (off+ti.ty.sz) r.sz then (match Jx ti.ag (((lvs r (xs.getD i.toNat r.dflt)).drop off).take ti.ty.sz) with
    |some s=>K [⟨d,false,s⟩]
    |none=>none) else none
   |_=>none)
  |some ti,some (.one (.dp p v pi _ r xs i off))=>bif Nat.beq (get A p).1 v&&Nat.ble (off+ti.ty.sz) r.sz then (match Jx ti.ag (((daL p v pi i 0 (A6 r (xs.getD i.toNat r.dflt))).drop off).take ti.ty.sz) with
   |some s=>K [⟨d,false,s⟩]
   |none=>none) else none
  |some ti,some (.one (.fp r x off))=>bif Nat.ble (off+ti.ty.sz) r.sz then (match Jx ti.ag (((lvs r x).drop off).take ti.ty.sz) with
   |some s=>K [⟨d,false,s⟩]
   |none=>none) else none
  |_,_=>none
 |.store T x y,none=>match E.ti T,opT E 0 A x,opT E T A y with
  |some ti,some (.one (.bp b v off)),some s=>bif mvO E y then (match R6 A y s (Vna (ups A (gone y s)) (parts s)) with
   |some (m,us)=>(match get A (H b) with
    |(n,.one (.hd h))=>bif Nat.beq n v&&Nat.beq m.length ti.ty.sz&&Nat.ble (off+ti.ty.sz) h then K (us++D8 b off m) else none
    |_=>none)
   |none=>none) else
   let m:=(parts s).map (kept A)
   (match get A (H b) with
   |(n,.one (.hd h))=>bif Nat.beq n v&&H0 (ups A (Ip A (parts s)++gone y s)) m&&Nat.beq m.length ti.ty.sz&&Nat.ble (off+ti.ty.sz) h then K (Ip A (parts s)++gone y s++D8 b off m) else none
   |_=>none)
  |some ti,some (.one (.ep p v i off)),some s=>
   let m:=(parts s).map λ x=>Lk (kept A x)
   (match get A p with
   |(n,.one (.own e r xs))=>bif Nat.beq n v&&J6 r&&A5 ((parts s).map (kept A))&&Nat.beq m.length ti.ty.sz&&Nat.ble (off+m.length) r.sz&&L9a p (Ip A (parts s)++gone y s) then (match mkW r (setAll (lvs r (xs.getD i.toNat r.dflt)) off m) with
    |some z=>K (Ip A (parts s)++gone y s++[⟨p,true,.one (.own e r (xs.set i.toNat z))⟩])
    |none=>none) else none
   |_=>none)
  |some ti,some (.one (.dp p v (some pi) _ r xs i off)),some s=>(match give A y s with
   |some (m,us)=>(match get A p with
    |(n,.one (.own E0 R0 XS))=>bif Nat.beq n v&&Pf m&&Nat.beq m.length ti.ty.sz&&Nat.ble (off+m.length) r.sz&&L9a p us&&Gx R0 then (match mkW r (setAll (A6 r (xs.getD i.toNat r.dflt)) off m) with
     |some z=>(match Jea r (xs.set i.toNat z) pi R0 XS with
      |some XS'=>K (us++[⟨p,false,.one (.own E0 R0 XS')⟩])
      |none=>none)
     |none=>none) else none
    |_=>none)
   |none=>none)
  |_,_,_=>none
 |.fieldAddr T x j,some d=>match E.ti T,opT E 0 A x with
  |some ti,some (.one y)=>(match nth ti.fo j with
   |some o=>bif ti.ag&&W8 A y then K [⟨d,false,.one (L8a y o.1)⟩] else none
   |none=>none)
  |_,_=>none
 |.indexAddr T x i,some d=>bif E.opn d then (match opT E T A x,opT E 0 A i with
  |some (.one (.al p v)),some (.one (.sc (.int _ n)))=>(match get A p with
   |(m,.one (.own e r xs))=>bif Nat.beq m v&&Q0 E T e&&!(Nat.beq p d) then Tk A (2000+d) p e r xs n (λ us=>K (us++[⟨d,false,.one (.bp (2000+d) ((get A (H (2000+d))).1+1) 0)⟩])) none else none
   |_=>none)
  |_,_=>none) else match opT E T A x,opT E 0 A i with
  |some (.one y),some (.one (.sc (.int _ n)))=>(match y,Jb A y with
   |.al p v,.own e r xs=>bif Q0 E T e&&decide (0≤n) then (bif decide (n<(xs.length:Int)) then (bif J6 r then K [⟨d,false,.one (.ep p v n 0)⟩] else bif Gx r then K [⟨d,false,.one (.dp p v (some []) e r xs n 0)⟩] else none) else none) else none
   |.da p v pi e r xs,_=>bif Q0 E T e&&Nat.beq (get A p).1 v&&decide (0≤n) then (bif decide (n<(xs.length:Int)) then K [⟨d,false,.one (.dp p v pi e r xs n 0)⟩] else none) else none
   |.al p v,.dead=>(match get A p with
    |(m,.one (.opn e _ _ i b vb))=>bif Nat.beq m v&&Q0 E T e then (bif decide (n=i) then K [⟨d,false,.one (.bp b vb 0)⟩] else none) else none
    |_=>none)
   |_,.fz e r xs=>bif Q0 E T e&&decide (0≤n) then (bif decide (n<(xs.length:Int)) then K [⟨d,false,.one (.fp r (xs.getD n.toNat r.dflt) 0)⟩] else none) else none
   |_,.own e r xs=>(match x with
    |.tmp t=>bif Q0 E T e&&decide (0≤n) then (bif decide (n<(xs.length:Int)) then (bif J6 r then K [⟨d,false,.one (.ep t (get A t).1 n 0)⟩] else bif Gx r then K [⟨d,false,.one (.dp t (get A t).1 (some []) e r xs n 0)⟩] else none) else none) else none
    |_=>none)
   |_,_=>none)
  |_,_=>none
 |.index T x i,some d=>match opT E 0 A x,opT E 0 A i with
  |some (.one (.sc (.string s))),some (.one (.sc (.int _ n)))=>bif Bja E T&&decide (0≤n) then (bif decide (n<(s.size:Int)) then K [⟨d,false,.one (.sc (.int .u8 (bt s n)))⟩] else none) else none
  |_,_=>none
 |.slice T x lo hi none,some d=>match opT E T A x,Epa E A lo,Epa E A hi with
  |some (.one (.sc (.string s))),some lo,some hi=>bif Bja E T then Eha lo hi s.size λ _=>
   K [⟨d,false,.one (.sc (.string (s.extract (match lo with|some l=>l.toNat|none=>0) (match hi with|some h=>h.toNat|none=>s.size))))⟩] else none
  |some (.one y),some lo,some hi=>(match y,Jb A y with
   |.own _ _ _,.own e r xs=>bif Q0 E T e then (match lo with
    |none=>Eha lo hi xs.length λ _=>K (gone x (.one y)++[⟨d,false,.one (.own e r (Eoa xs lo hi))⟩])
    |some _=>Eha lo hi xs.length λ _=>K (gone x (.one y)++[⟨d,false,.one (.fz e r (Eoa xs lo hi))⟩])) else none
   |.al p v,.own e r xs=>bif Q0 E T e then (bif E.mv d then (match lo with
     |none=>Eha lo hi xs.length λ _=>K [⟨p,false,.one .dead⟩,⟨d,false,.one (.own e r (Eoa xs lo hi))⟩]
     |some _=>none)
    else bif J6 r then Eha lo hi xs.length λ _=>K (Sw A y++[⟨d,false,.one (.fz e r (Eoa xs lo hi))⟩])
    else bif Gx r then Eha lo hi xs.length λ _=>K [⟨d,false,.one (.da p v none e r (Eoa xs lo hi))⟩] else none) else none
   |.da p v _ e r xs,_=>bif Q0 E T e&&Nat.beq (get A p).1 v then Eha lo hi xs.length λ _=>K [⟨d,false,.one (.da p v none e r (Eoa xs lo hi))⟩] else none
   |_,.fz e r xs=>bif Q0 E T e then Eha lo hi xs.length λ _=>K [⟨d,false,.one (.fz e r (Eoa xs lo hi))⟩] else none
   |_,_=>none)
  |_,_,_=>none
 |.buildSlice T n ps,some d=>match E.ti T with
  |some ⟨.sl e r,false,_,_⟩=>bif Nat.beq n ps.size&&Nat.ble (n*r.sz) 16777216&&(E.ti e).isSome then (match E.hint d with
   |none=>bif J6 r then (match Boa E A e r 0 ps.toList with
    |some (ys,us)=>K (us++[⟨d,false,.one (.own e r ys)⟩])
    |none=>none) else none
   |some r2=>bif decide (shp r2=shp r)&&Gx r2 then (match Bpa E A e r2 0 ps.toList with
    |some (ys,us)=>K (us++[⟨d,false,.one (.own e r2 ys)⟩])
    |none=>none) else none) else none
  |_=>none
 |.makeSlice T x y,some d=>match E.ti T,opT E 0 A x,opT E 0 A y with
  |some ⟨.sl e r,false,_,_⟩,some (.one (.sc (.int .i64 n))),some (.one (.sc (.int .i64 m)))=>(match E.ti e with
   |some te=>bif Sm te.ty r&&decide (n=m) then (bif decide (0≤n) then (bif decide (n*te.by_≤140737488355328) then (match E.hint d with
    |none=>K [⟨d,false,.one (.own e r (List.replicate n.toNat r.dflt))⟩]
    |some r2=>bif decide (shp r2=shp r) then K [⟨d,false,.one (.own e r2 (List.replicate n.toNat r2.dflt))⟩] else none) else none) else none) else none
   |none=>none)
  |_,_,_=>none
 |.call c,d=>match c.callee with
  |.builtin .len=>(match c.argTypes.toList,c.args.toList,d with
   |[T],[x],some d=>(match opT E T A x with
    |some (.one y)=>(match Jb A y with
     |.sc (.string s)=>bif Bja E T then K [⟨d,false,.one (.sc (.int .i64 (s.size:Int)))⟩] else none
     |.da p v _ e _ xs=>bif Q0 E T e&&Nat.beq (get A p).1 v then K [⟨d,false,.one (.sc (.int .i64 (xs.length:Int)))⟩] else none
     |.fz e _ xs=>bif Q0 E T e then K [⟨d,false,.one (.sc (.int .i64 (xs.length:Int)))⟩] else none
     |.own e _ xs=>bif Q0 E T e then K [⟨d,false,.one (.sc (.int .i64 (xs.length:Int)))⟩] else none
     |_=>none)
    |_=>none)
   |_,_,_=>none)
  |.builtin .min=>(match R8 E c.argTypes.toList A c.args.toList,d with
   |some (.one (.sc (.int k x))::l),some d=>P4 false l k x λ u=>K [⟨d,false,.one (.sc u)⟩]
   |_,_=>none)
  |.builtin .max=>(match R8 E c.argTypes.toList A c.args.toList,d with
   |some (.one (.sc (.int k x))::l),some d=>P4 true l k x λ u=>K [⟨d,false,.one (.sc u)⟩]
   |_,_=>none)
  |.builtin .append=>(match c.argTypes.toList,c.args.toList,d with
   |[T,T'],[x,y],some d=>(match opT E T A x,opT E T' A y with
    |some (.one u),some (.one w)=>(match Jb A u with
     |.own e r xs=>(match E.hint d with
      |some r2=>(match opT E T' (ups A (Eka u x)) y with
       |some (.one w2)=>(match Jb (ups A (Eka u x)) w2,Sn r2 r xs,E.ti e with
        |.own e' r' ys,some xs2,some te=>(match Sn r2 r' ys with
         |some ys2=>bif Gx r2&&Nat.beq e e'&&Q0 E T e&&Nat.beq T T' then (bif Nat.ble ((xs2.length+ys2.length)*te.by_) 140737488355328 then
           K (Eka u x++(Eka w2 y++[⟨d,false,.one (.own e r2 (xs2++ys2))⟩])) else none) else none
         |none=>none)
        |_,_,_=>none)
       |_=>none)
      |none=>bif J6 r then (match Eja A w with
       |some ⟨e',r',ys⟩=>(match Pe r r' ys,E.ti e with
        |some ys,some te=>bif Nat.beq e e'&&Q0 E T e&&Nat.beq T T' then (bif Nat.ble ((xs.length+ys.length)*te.by_) 140737488355328 then
          K (Eka u x++[⟨d,false,.one (.own e r (xs++ys))⟩]) else none) else none
        |_,_=>none)
       |none=>(match w with
        |.sc (.string s)=>(match Pe r (.i .u8) (bytesOf s),E.ti e with
         |some ys,some ⟨.i .u8,false,1,_⟩=>bif Q0 E T e&&Bja E T'&&Nat.ble ((xs.length+s.size)*1) 140737488355328 then
          K (Eka u x++[⟨d,false,.one (.own e r (xs++ys))⟩]) else none
         |_,_=>none)
        |_=>none)) else none)
     |_=>none)
    |_,_=>none)
   |_,_,_=>none)
  |.value (.func f)=>(match E.call f,R8 E c.argTypes.toList A c.args.toList with
   |some en,some ss=>Yz E A en (c.argTypes.toList.zip c.args.toList) [] ss d K
   |_,_=>none)
  |.value (.tmp t)=>(match opT E 0 A (.tmp t) with
   |some (.one (.fn f bs))=>(match E.call f,R8 E c.argTypes.toList A c.args.toList with
    |some en,some ss=>bif Kz A bs then Yz E A en (c.argTypes.toList.zip c.args.toList) bs ss d K else none
    |_,_=>none)
   |_=>none)
  |_=>none
 |_,_=>none
def Qma (A:Ab) (p t B:Nat):Option (List Up):=match (get A p).2,(get A t).2 with
 |.one (.own e r xs),.one (.sc (.int _ i))=>Q1 A B p e r xs i
 |_,_=>none
def Jga (A:Ab) (d B:Nat):Option (List Up):=match (get A d).2 with
 |.one (.ep p v i off)=>(match get A p with
  |(n,.one (.own e r xs))=>bif Nat.beq n v&&J6 r&&!(Nat.beq p d) then (match Q1 A B p e r xs i with
   |some us=>some (us++[⟨d,false,.one (.bp B ((get A (H B)).1+1) off)⟩])
   |none=>none) else none
  |_=>none)
 |.one (.dp p v (some []) _ _ _ i off)=>(match get A p with
  |(n,.one (.own e r xs))=>bif Nat.beq n v&&!(J6 r)&&!(Nat.beq p d) then (match Q1 A B p e r xs i with
   |some us=>some (us++[⟨d,false,.one (.bp B ((get A (H B)).1+1) off)⟩])
   |none=>none) else none
  |_=>none)
 |_=>none
def Lca (A:Ab) (p:Nat):Option (List Up):=match (get A p).2 with
 |.one (.opn _ r0 _ _ b v)=>(match Pg A b v r0 r0 with
  |some (l,us)=>(match (get (ups A us) p).2 with
   |.one (.opn e r xs i b' v')=>bif Nat.beq b b'&&Nat.beq (get (ups A us) (H b)).1 v'&&Nat.ble 2000 b&&Nat.beq l.length r.sz&&((J6 r&&!(Fk l))||(Gx r&&Pf l)) then (match mkW r l with
    |some z=>some (us++[⟨H b,false,.one .dead⟩,⟨p,false,.one (.own e r (xs.set i.toNat z))⟩])
    |none=>none) else none
   |_=>none)
  |none=>none)
 |_=>none
def X4 (E:En) (A:Ab) (K:Ab→Option R):Gh→Option R
 |.cl p=>(match Lca A p with
  |some us=>K (ups A us)
  |none=>K A)
 |.op p t B=>bif Nat.blt t E.nt then (match (get A p).2,(get A t).2 with
  |.one (.own e r xs),.one (.sc (.int _ i))=>Tk A B p e r xs i (λ us=>K (ups A us)) (K A)
  |_,_=>K A) else K A
 |.oc p i B=>(match (get A p).2 with
  |.one (.own e r xs)=>Tk A B p e r xs i (λ us=>K (ups A us)) (K A)
  |_=>K A)
 |.od d B=>bif Nat.blt d E.nt then (match (get A d).2 with
  |.one (.ep p v i off)=>(match get A p with
   |(n,.one (.own e r xs))=>bif Nat.beq n v&&J6 r&&!(Nat.beq p d) then Tk A B p e r xs i (λ us=>K (ups A (us++[⟨d,false,.one (.bp B ((get A (H B)).1+1) off)⟩]))) (K A) else K A
   |_=>K A)
  |.one (.dp p v (some []) _ _ _ i off)=>(match get A p with
   |(n,.one (.own e r xs))=>bif Nat.beq n v&&!(J6 r)&&!(Nat.beq p d) then Tk A B p e r xs i (λ us=>K (ups A (us++[⟨d,false,.one (.bp B ((get A (H B)).1+1) off)⟩]))) (K A) else K A
   |_=>K A)
  |_=>K A) else K A
def Mf (E:En):List Gh→Ab→(Ab→Option R)→Option R
 |[],A,K=>K A
 |g::l,A,K=>X4 E A (λ A=>Mf E l A K) g
def Bra (E:En) (o:Oper):Bool:=match o.dst with
 |some d=>Nat.blt d E.nt
 |none=>true
def Lda (ops:List Oper) (j:Nat):Option Nat:=match nth ops j with
 |some o=>o.dst
 |none=>none
def Q2 (o:Oper) (A:Ab):Ab:=match o.dst with
 |some d=>up A ⟨d,false,.one .un⟩
 |none=>A
def lit (A:Ab) (d n:Nat) (v:Bool):Ab:=(d,n,.one (.sc (.bool v)))::A
def Tl (E:En) (ops:List Oper):List Nat→Ab→(Ab→Option R)→Option R
 |[],A,K=>K A
 |i::l,A,K=>match nth ops i with
  |none=>none
  |some o=>bif Bra E o then (match o.guard with
   |none=>B6 E o A λ U=>Tl E ops l (ups A U) K
   |some (j,want)=>(match Lda ops j with
    |none=>none
    |some dj=>bif Nat.blt dj E.nt then (match get A dj with
     |(n,.one (.sc (.bool b)))=>
      bif b then (bif want then B6 E o (lit A dj n true) λ U=>Tl E ops l (ups (lit A dj n true) U) K else Tl E ops l (Q2 o (lit A dj n true)) K)
      else (bif want then Tl E ops l (Q2 o (lit A dj n false)) K else B6 E o (lit A dj n false) λ U=>Tl E ops l (ups (lit A dj n false) U) K)
     |(_,.one .un)=>Tl E ops l (Q2 o A) K
     |_=>none) else none))
   else none
def rdC (A:Ab) (b:Nat):Nat→Nat→List Nat
 |_,0=>[]
 |j,n+1=>C b j::((match (get A (C b j)).2 with
  |.one (.al p _)=>[p]
  |_=>[])++rdC A b (j+1) n)
def rdL (A:Ab):Lf→List Nat
 |.al p _=>[p]
 |.ep p _ _ _=>[p]
 |.da p _ _ _ _ _=>[p]
 |.dp p _ _ _ _ _ _ _=>[p]
 |.bp b _ off=>H b::(match (get A (H b)).2 with
  |.one (.hd n)=>rdC A b off (n-off)
  |_=>[])
 |.fn _ bs=>bs.flatMap λ b=>H b.1::(match (get A (H b.1)).2 with
  |.one (.hd n)=>rdC A b.1 0 (n-0)
  |_=>[])
 |_=>[]
def B0b (A:Ab):List Lf→List Nat
 |[]=>[]
 |y::l=>rdL A y++B0b A l
def rdO (A:Ab):Operand→List Nat
 |.tmp t=>t::B0b A (parts (get A t).2)
 |_=>[]
def Tya (A:Ab):List Operand→List Nat
 |[]=>[]
 |x::l=>rdO A x++Tya A l
def Iq:Op→List Operand
 |.move x | .assign x | .unOp _ _ x | .convert _ _ x | .nilCheck x | .extract x _ | .field _ x _ | .box _ x | .load _ x | .fieldAddr _ x _=>[x]
 |.pick c x y=>[c,x,y]
 |.binOp _ _ x y _ | .store _ x y | .makeSlice _ x y | .indexAddr _ x y | .index _ x y=>[x,y]
 |.build _ ps | .buildSlice _ _ ps=>ps.toList.map Prod.snd
 |.slice _ x lo hi _=>x::(lo.toList++hi.toList)
 |.call c=>(match c.callee with
  |.value x=>x::c.args.toList
  |_=>c.args.toList)
 |.makeFunc _ f c=>f.toList++c.toList
 |_=>[]
def rdD:Option Nat→List Nat
 |some d=>[d,H d,H (2000+d)]
 |none=>[]
def rdH:Lf→List Nat
 |.bp b _ _=>[H b]
 |.ep p _ _ _=>[p]
 |.dp p _ _ _ _ _ _ _=>[p]
 |_=>[]
def Yra:List Lf→List Nat
 |[]=>[]
 |y::l=>rdH y++Yra l
def rdP (A:Ab):Operand→List Nat
 |.tmp t=>t::Yra (parts (get A t).2)
 |_=>[]
def rdT:Operand→List Nat
 |.tmp t=>[t]
 |_=>[]
def Yea (A:Ab):List Lf→List Nat
 |[]=>[]
 |.al p _::l=>(bif Nat.ble 1000 p then H (p/1000-1)::(match (get A (H (p/1000-1))).2 with
  |.one (.hd n)=>rdC A (p/1000-1) 0 (n-0)
  |_=>[]) else [])++Yea A l
 |_::l=>Yea A l
def Vpa (A:Ab):List Operand→List Nat
 |[]=>[]
 |.tmp t::l=>(match (get A t).2 with
  |.agg ys=>Yea A ys
  |_=>[])++Vpa A l
 |_::l=>Vpa A l
def Ysa (A:Ab):Op→List Nat
 |.call c=>Tya A (Iq (.call c))++Vpa A c.args.toList
 |.move x=>rdT x
 |.nilCheck x | .fieldAddr _ x _=>rdP A x
 |op=>Tya A (Iq op)
def rds (A:Ab) (o:Oper):List Nat:=rdD o.dst++Ysa A o.op
structure Lg where
 i:Nat
 anc:Nat
 F:List Nat
 W:List Nat
 ex:Option (Nat×Nat×Nat)
def Yfa (p:Nat):List Nat→Bool
 |[]=>false
 |q::l=>Nat.beq q p||Yfa p l
def Yga:List Nat→List Nat→Bool
 |[],_=>true
 |p::l,m => !(Yfa p m)&&Yga l m
def Lea (x y:Lg):Bool:=(Yga x.W y.F&&Yga y.W x.F)||(match x.ex,y.ex with
 |some (t,j,d),some (t',j',d')=>Nat.beq t t'&&!(Nat.beq j j')&&!(Nat.beq d d')&&!(Nat.beq d t)&&!(Nat.beq d' t)
 |_,_=>false)
def aft (o:Oper):List Nat:=o.after.toList.filterMap λ e=>bif Region.binds .any e then some e.on else none
def Lfa:List Lg→Nat→Nat
 |[],_=>0
 |x::l,j=>bif Nat.beq x.i j then x.anc else Lfa l j
def Tza (lg:List Lg):List Nat→Nat
 |[]=>0
 |j::l=>(2 ^ j ||| Lfa lg j) ||| Tza lg l
def Lga (l:List Lg) (y:Lg):Bool:=l.all λ x=>Nat.testBit y.anc x.i||Lea x y
def Yta (o:Oper):Option (Nat×Nat×Nat):=match o.op,o.dst with
 |.extract (.tmp t) j,some d=>some (t,j,d)
 |_,_=>none
def X5 (o:Oper) (i:Nat) (lg:List Lg) (g:List Nat) (A:Ab) (U:List Up):Lg:=⟨i,Tza lg (aft o),g++rds A o++U.map Up.l,U.map Up.l,bif g.isEmpty then Yta o else none⟩
def Q3 (o:Oper) (i:Nat) (lg:List Lg) (g:List Nat):Lg:=⟨i,Tza lg (aft o),g++o.dst.toList,o.dst.toList,none⟩
def I2 (E:En) (ops:List Oper):List Nat→List Lg→Ab→(Ab→Option R)→Option R
 |[],_,A,K=>K A
 |i::l,lg,A,K=>match nth ops i with
  |none=>none
  |some o=>bif Bra E o&&(aft o).all (λ j=>Nat.blt j i) then (match o.guard with
   |none=>B6 E o A λ U=>bif Lga lg (X5 o i lg [] A U) then I2 E ops l (X5 o i lg [] A U::lg) (ups A U) K else none
   |some (j,want)=>(match Lda ops j with
    |none=>none
    |some dj=>bif Nat.blt dj E.nt then (match get A dj with
     |(n,.one (.sc (.bool b)))=>
      bif b then (bif want then B6 E o (lit A dj n true) λ U=>bif Lga lg (X5 o i lg [dj] (lit A dj n true) U) then I2 E ops l (X5 o i lg [dj] (lit A dj n true) U::lg) (ups (lit A dj n true) U) K else none
       else bif Lga lg (Q3 o i lg [dj]) then I2 E ops l (Q3 o i lg [dj]::lg) (Q2 o (lit A dj n true)) K else none)
      else (bif want then bif Lga lg (Q3 o i lg [dj]) then I2 E ops l (Q3 o i lg [dj]::lg) (Q2 o (lit A dj n false)) K else none
       else B6 E o (lit A dj n false) λ U=>bif Lga lg (X5 o i lg [dj] (lit A dj n false) U) then I2 E ops l (X5 o i lg [dj] (lit A dj n false) U::lg) (ups (lit A dj n false) U) K else none)
     |(_,.one .un)=>bif Lga lg (Q3 o i lg [dj]) then I2 E ops l (Q3 o i lg [dj]::lg) (Q2 o A) K else none
     |_=>none) else none))
   else none
def U0a (E:En) (ops:List Oper) (A:Ab) (K:Ab→Option R):Option R:=I2 E ops (List.range ops.length) [] A K
def first:Code→Nat
 |.region id _ _=>id
 |.seq a _=>first a
 |.block _ c=>first c
 |.loop c=>first c
 |.scope c=>first c
 |.cond _ a _=>first a
 |_=>0
def Q4 (vs:List (Nat×Ty)) (p:Nat):Bool:=vs.any (λ x=>Nat.beq x.1 p&&(match x.2 with | .ow _ _=>true|_=>false))
def Yha:Ty→Bool
 |.ow _ _=>true
 |_=>false
def Qna (A:Ab) (vs:List (Nat×Ty)) (l:Nat) (t:Ty):Option t.den:=
 match (get A l).2 with
 |.one (.al p v)=>bif Q4 vs p then none else mkW t [Lk (Jb A (.al p v))]
 |.one (.own e r xs)=>bif Yha t then mkW t [.own e r xs] else bif Q4 vs l then none else mkW t [.fz e r xs]
 |.one x=>mkW t [x]
 |_=>none
def Qoa:Nat→Ty→List (Nat×Ty)
 |l,.pr t u=>Qoa l t++Qoa (l+t.sz) u
 |l,t=>[(l,t)]
def Z0:List (Nat×Ty)→List (Nat×Ty)
 |[]=>[]
 |v::l=>Qoa v.1 v.2++Z0 l
def Yia (A:Ab) (all:List (Nat×Ty)):Nat→(t:Ty)→Option t.den
 |l,.pr t u=>match Yia A all l t with
  |some x=>(match Yia A all (l+t.sz) u with
   |some y=>some (x,y)
   |none=>none)
  |none=>none
 |l,.i k=>Qna A all l (.i k)
 |l,.b=>Qna A all l .b
 |l,.s=>Qna A all l .s
 |l,.sl e r=>Qna A all l (.sl e r)
 |l,.ow e r=>Qna A all l (.ow e r)
def Qpa (A:Ab) (all:List (Nat×Ty)):(vs:List (Nat×Ty))→Option (Den (vs.map Prod.snd))
 |[]=>some ()
 |[v]=>Yia A all v.1 v.2
 |v::w::l=>match Yia A all v.1 v.2 with
  |some x=>(match Qpa A all (w::l) with
   |some y=>some (x,y)
   |none=>none)
  |none=>none
def Eqa:List (Nat×Nat)→List (Nat×Nat)→Bool
 |[],[]=>true
 |a::l,b::m=>Nat.beq a.1 b.1&&Nat.beq a.2 0&&Eqa l m
 |_,_=>false
def Qqa (A:Ab):List (Nat×Lf)→Bool
 |[]=>true
 |(l,.bp b v0 off)::cs=>(match get A l with
  |(_,.one (.bp b' v off'))=>Nat.beq v0 0&&Nat.beq b b'&&Nat.beq off off'&&(match get A (H b) with
   |(n,.one (.hd _))=>Nat.beq n v
   |_=>false)
  |_=>false)&&Qqa A cs
 |(l,.hd m)::cs=>(match get A l with
  |(_,.one (.hd m'))=>Nat.beq m m'
  |_=>false)&&Qqa A cs
 |(l,.fn F bs)::cs=>(match get A l with
  |(_,.one (.fn F' bs'))=>Nat.beq F F'&&Eqa bs bs'&&Kz A bs'
  |_=>false)&&Qqa A cs
 |_=>false
def Vqa (v:Bia) (A:Ab):Option v.den:=bif Qqa A v.cs then Qpa A (Z0 v.vs) v.vs else none
def Lha:Nat→(t:Ty)→t.den→Ab
 |l,.pr t u,x=>Lha l t x.1++Lha (l+t.sz) u x.2
 |l,.i k,x=>[(l,0,.one (.sc (.int k x)))]
 |l,.b,x=>[(l,0,.one (.sc (.bool x)))]
 |l,.s,x=>[(l,0,.one (.sc (.string x)))]
 |l,.sl e r,x=>[(l,0,.one (.fz e r x))]
 |l,.ow e r,x=>[(l,0,.one (.own e r x))]
def Bsa:(vs:List (Nat×Ty))→Den (vs.map Prod.snd)→Ab
 |[],_=>[]
 |[v],x=>Lha v.1 v.2 x
 |v::w::l,x=>Lha v.1 v.2 x.1++Bsa (w::l) x.2
def Sp (v:Bia) (x:v.den):Ab:=Bsa v.vs x++v.cs.map λ c=>(c.1,0,.one c.2)
def Vra (K:Ex→Ab→Option R):(l:List (Ex×Bia))→Qla l→Option R
 |[],x=>nomatch x
 |[a],x=>K a.1 (Sp a.2 x)
 |a::b::l,x=>Sum.elim (λ y=>K a.1 (Sp a.2 y)) (λ z=>Vra K (b::l) z) x
def exB:Ex→Ex→Bool
 |.normal,.normal=>true
 |.exit i,.exit j=>Nat.beq i j
 |.ret,.ret=>true
 |_,_=>false
def Jha (e:Ex) (A:Ab):(l:List (Ex×Bia))→Option (Qla l)
 |[]=>none
 |[a]=>bif exB e a.1 then Vqa a.2 A else none
 |a::b::l=>bif exB e a.1 then (match Vqa a.2 A with|some x=>some (.inl x)|none=>none) else (match Jha e A (b::l) with|some x=>some (.inr x)|none=>none)
def B1b (E:En) (A:Ab) (c:Operand) (v:Bool):Ab:=match c with
 |.tmp t=>bif E.rf then up A ⟨t,true,.one (.sc (.bool v))⟩ else A
 |_=>A
def L5 (E:En):Code→Ab→(Ex→Ab→Option R)→Option R
 |.skip,A,K=>K .normal A
 |.region id ops draw,A,K=>Mf E (E.gh id) A λ A=>bif draw then U0a E ops.toList A (K .normal) else Tl E ops.toList (List.range ops.size) A (K .normal)
 |.seq a b,A,K=>L5 E a A λ e A'=>match e with
  |.normal=>L5 E b A' K
  |e=>K e A'
 |.cond c x y,A,K=>match opT E 0 A c with
  |some (.one (.sc (.bool b)))=>bif b then L5 E x (B1b E A c true) K else L5 E y (B1b E A c false) K
  |_=>none
 |.block id c,A,K=>L5 E c A λ e A'=>match e with
  |.exit i=>bif Nat.beq i id then K .normal A' else K (.exit i) A'
  |e=>K e A'
 |.loop c,A,K=>match E.lp (first c) with
  |some L=>Mf E (E.gh (1000001+first c)) A λ A=>(match Vqa L.ins A with
   |some x=>(L.run x).bind λ r=>Vra K L.alts r
   |none=>none)
  |none=>none
 |.exit id,A,K=>K (.exit id) A
 |.ret,A,K=>K .ret A
 |_,_,_=>none
def Hs (l:Nat):Code→Code
 |.seq a b=>match Hs l a with
  |.skip=>Hs l b
  |c=>c
 |.cond _ a b=>match Hs l a with
  |.skip=>Hs l b
  |c=>c
 |.block _ c=>Hs l c
 |.loop c=>bif Nat.beq (first c) l then c else Hs l c
 |_ => .skip
def Lia (E:En) (L:Lp) (c:Code) (x:L.ins.den):Option (Qla L.alts):=
 L5 E c (Sp L.ins x) λ e A=>match e with
  |.normal=>Mf E (E.gh (1000001+first c)) A λ A=>(match Vqa L.ins A with
   |some y=>L.run y
   |none=>none)
  |e=>Mf E (E.gh (1000001+first c)) A λ A=>Jha e A L.alts
def Yua:List Lf→Lf
 |[x]=>x
 |_ => .dead
def bid (nv i:Nat):Nat:=bif Nat.blt i nv then i else 1500+(i-nv)
def vwL (B:Nat):Nat→List Lf→List Lf
 |_,[]=>[]
 |j,.own _ _ _::l => .al (C B j) 0::vwL B (j+1) l
 |j,x::l=>x::vwL B (j+1) l
def Bta (B:Nat):Nat→List Lf→Ab
 |_,[]=>[]
 |j,x::l=>(C B j,0,.one x)::Bta B (j+1) l
def Io (nv:Nat):Nat→List Par→List (List Lf)→Ab
 |i,.vw _ h::ps,l::ls=>(i,0,.agg (vwL (bid nv h) 0 l))::Io nv (i+1) ps ls
 |i,.val ag _::ps,l::ls=>(i,0,(bif ag then .agg l else .one (Yua l)))::Io nv (i+1) ps ls
 |i,.ptr t _::ps,l::ls=>(i,0,.one (.bp i 0 0))::(H i,0,.one (.hd t.sz))::(ups [] (D8 i 0 l)++Io nv (i+1) ps ls)
 |i,.hid t _::ps,l::ls=>(H (bid nv i),0,.one (.hd t.sz))::(Bta (bid nv i) 0 l++Io nv (i+1) ps ls)
 |i,.rd t::ps,l::ls=>(match mkW t l with
  |some x=>(i,0,.one (.fp t x 0))::Io nv (i+1) ps ls
  |none=>Io nv (i+1) ps ls)
 |i,.fn F m::ps,_::ls=>(i,0,.one (.fn F ((List.range m).map λ j=>(bid nv (nv+j),0))))::Io nv (i+1) ps ls
 |_,_,_=>[]
def B9b (nv:Nat) (ps:List Par) (x:Den (ps.map Par.ty)):Ab:=Io nv 0 ps (E6 _ x)
def Era (np:Nat) (A:Ab) (k:RK) (t:Ty) (x:Operand) (s:Sv):Option (List Lf×List Up):=match k with
 |.ptr=>(match s with
  |.one (.bp b v 0)=>(match get A (H b) with
   |(n,.one (.hd m))=>bif Nat.beq n v&&(Nat.ble np b&&Nat.blt b 1000)&&J6 t&&Nat.beq m t.sz&&Nat.blt m 999&&A5 ((cellsOf A b 0 m).map (kept A)) then some ((cellsOf A b 0 m).map (kept A),Ip A (cellsOf A b 0 m)++[⟨H b,false,.one .dead⟩]) else none
   |_=>none)
  |_=>none)
 |k=>bif J8 (S9 k) s then R7 A x s t else none
def Esa (A:Ab) (t:Ty):Sv→Option (List Lf×List Up)
 |.one (.bp b v 0)=>Pg A b v t t
 |_=>none
def Tm (E:En):Ab→List (RK×Ty)→List ResultVar→Option (List (List Lf)×List Up)
 |_,[],[]=>some ([],[])
 |A,(k,t)::ks,.tmp x::rs=>bif Nat.blt x E.nt then (match Era E.np A k t (.tmp x) (get A x).2 with
  |some (l,u)=>(match Tm E (ups A u) ks rs with
   |some (ls,us)=>some (l::ls,u++us)
   |none=>none)
  |none=>none) else none
 |A,(.agg,t)::ks,.cell x T::rs=>bif Nat.blt x E.nt&&(match E.ti T with|some ti=>ti.ag&&Nat.beq ti.ty.sz t.sz|none=>false) then (match Esa A t (get A x).2 with
  |some (l,u)=>(match Tm E (ups A u) ks rs with
   |some (ls,us)=>some (l::ls,u++us)
   |none=>none)
  |none=>none) else none
 |_,_,_=>none
def Vsa (A:Ab) (b:Nat) (t':Ty):Option (List Lf×List Up):=Pg A b (get A (H b)).1 t' t'
def Qra (nv:Nat):Ab→Nat→List Par→Option (List (List Lf))
 |_,_,[]=>some []
 |A,i,.ptr _ t'::ps=>(match Vsa A (bid nv i) t' with
  |some (l,us)=>(match Qra nv (ups A us) (i+1) ps with
   |some ls=>some (l::ls)
   |none=>none)
  |none=>none)
 |A,i,.hid _ t'::ps=>(match Vsa A (bid nv i) t' with
  |some (l,us)=>(match Qra nv (ups A us) (i+1) ps with
   |some ls=>some (l::ls)
   |none=>none)
  |none=>none)
 |A,i,_::ps=>Qra nv A (i+1) ps
def Lja (E:En) (c:Code) (rv:List ResultVar) (en:Ent) (x:Den (en.ps.map Par.ty)):Option (Den (en.rs.map Prod.snd++Jd en.ps)):=
 L5 E c (B9b en.nv en.ps x) λ e A=>match e with
  |.exit _=>none
  |_=>Mf E (E.gh 1000000) A λ A=>match Tm E A en.rs rv with
   |some (ls,us)=>(match Qra en.nv (ups A us) 0 en.ps with
    |some bs=>R5 (en.rs.map Prod.snd++Jd en.ps) (ls++bs)
    |none=>none)
   |none=>none
end
def csi {R:Type} {c:Bool} {a:Option R} {r:R}:cond c a none=some r↔c=true∧a=some r:=by
 cases c with
 |false=>exact⟨λ h=>(nomatch h),λ h=>(nomatch h.1)⟩
 |true=>exact⟨λ h=>⟨rfl,h⟩,λ h=>h.2⟩
def cs {R:Type} {c:Bool} {a:Option R} {r:R} (h:cond c a none=some r):c=true∧a=some r:=csi.1 h

end Go.Proofs.YtcpligincipmhaaGreat.Vf
