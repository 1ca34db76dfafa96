import Derived.Calls
import Derived.Orders
set_option linter.all false
namespace Go.Proofs.Ytbbifgjgneefkaa.Vf
open Go
open List (length getD)
open Int (toNat)
open Go.IntKind (wrap)
open BitVec (ofInt)

inductive Ty where
 |i (k:IntKind)
 |b
 |s
 |sl (e:TypeId) (r:Ty)
 |ow (e:TypeId) (r:Ty)
 |pr (x y:Ty)
 deriving DecidableEq
@[reducible] def Ty.den:Ty→Type
 |.i _=>Int
 |.b=>Bool
 |.s=>ByteArray
 |.sl _ r=>List r.den
 |.ow _ r=>List r.den
 |.pr x y=>x.den×y.den
def Ty.dflt:(t:Ty)→t.den
 |.i _=>(0:Int)
 |.b=>false
 |.s=>(⟨#[]⟩:ByteArray)
 |.sl _ _=>[]
 |.ow _ _=>[]
 |.pr x y=>(x.dflt,y.dflt)
def Ty.sz:Ty→Nat
 |.pr x y=>x.sz+y.sz
 |_=>1
def shp:Ty→Ty
 |.i k => .i k
 |.b => .b
 |.s => .s
 |.sl e r => .sl e (shp r)
 |.ow e r => .sl e (shp r)
 |.pr x y => .pr (shp x) (shp y)
def Db:∀ t:Ty,(shp t).den=t.den
 |.i _=>rfl
 |.b=>rfl
 |.s=>rfl
 |.sl _ r=>congrArg List (Db r)
 |.ow _ r=>congrArg List (Db r)
 |.pr x y=>by show ((shp x).den×(shp y).den)=(x.den×y.den);rw[Db x,Db y]
def Sh {t u:Ty} (h:shp u=shp t):u.den=t.den:=(Db u).symm.trans ((congrArg Ty.den h).trans (Db t))
def Ei:Ty→Bool
 |.ow _ _=>false
 |.pr x y=>Ei x&&Ei y
 |_=>true
def Cf:Ty→Bool
 |.sl _ _=>false
 |.ow _ r=>Cf r
 |.pr x y=>Cf x&&Cf y
 |_=>true
inductive Lf where
 |dead
 |un
 |sc (u:Value)
 |fz (e:TypeId) (r:Ty) (xs:List r.den)
 |own (e:TypeId) (r:Ty) (xs:List r.den)
 |al (p v:Nat)
 |bp (b v off:Nat)
 |ep (p v:Nat) (i:Int) (off:Nat)
 |fp (r:Ty) (x:r.den) (off:Nat)
 |hd (n:Nat)
 |da (p v:Nat) (pi:Option (List (Int×Nat))) (e:TypeId) (r:Ty) (xs:List r.den)
 |dp (p v:Nat) (pi:Option (List (Int×Nat))) (e:TypeId) (r:Ty) (xs:List r.den) (i:Int) (off:Nat)
 |opn (e:TypeId) (r:Ty) (xs:List r.den) (i:Int) (b v:Nat)
 |fn (F:FuncId) (bs:List (Nat×Nat))
 |io (p:Nat)
 |par (e:TypeId) (r:Ty) (xs:List r.den) (m:Nat)
 |two (q v1 v2:Nat)
inductive Sv where
 |one (x:Lf)
 |agg (cs:List Lf)
 |tup (vs:List (Bool×List Lf))
abbrev Ab:=List (Nat×Nat×Sv)
def get:Ab→Nat→Nat×Sv
 |[],_=>(0,.one .dead)
 |(k,n,s)::t,l=>bif Nat.beq k l then (n,s) else get t l
structure Up where
 l:Nat
 keep:Bool
 s:Sv
def up (A:Ab) (u:Up):Ab:=(u.l,bif u.keep then (get A u.l).1 else (get A u.l).1+1,u.s)::A
def ups (A:Ab):List Up→Ab
 |[]=>A
 |u::l=>ups (up A u) l
def Kf:Ty→Ty→Bool
 |.i k,.i k'=>decide (k=k')
 |.b,.b=>true
 |.s,.s=>true
 |.sl _ _,.sl _ _=>true
 |.sl _ _,.ow _ _=>true
 |.ow _ _,.sl _ _=>true
 |.ow _ _,.ow _ _=>true
 |.pr x y,.pr x' y'=>Kf x x'&&Kf y y'
 |_,_=>false
def C (b j:Nat):Nat:=1000*(b+1)+j
def H (b:Nat):Nat:=1000*(b+1)+999
def I0 (r r':Ty) (xs:List r'.den):Option (List r.den):=if h:shp r'=shp r then some (cast (congrArg List (Sh h)) xs) else none
def Ht (r r':Ty) (xs:List r'.den):Option (List r.den):=if h:r'=r then some (h ▸ xs) else if shp r'=shp r then (match xs with|[]=>some []|_=>none) else none
def A4:(t:Ty)→t.den→List Lf
 |.i k,n=>[.sc (.int k n)]
 |.b,x=>[.sc (.bool x)]
 |.s,x=>[.sc (.string x)]
 |.sl e r,xs=>[.fz e r xs]
 |.ow e r,xs=>[.own e r xs]
 |.pr x y,p=>A4 x p.1++A4 y p.2
def lvs:(t:Ty)→t.den→List Lf
 |.i k,n=>[.sc (.int k n)]
 |.b,x=>[.sc (.bool x)]
 |.s,x=>[.sc (.string x)]
 |.sl e r,xs=>[.fz e r xs]
 |.ow e r,xs=>[.fz e r xs]
 |.pr x y,p=>lvs x p.1++lvs y p.2
def mkT:(t:Ty)→List Lf→Option (t.den×List Lf)
 |.i k,.sc (.int k' n)::l=>bif decide (k=k') then some (n,l) else none
 |.b,.sc (.bool x)::l=>some (x,l)
 |.s,.sc (.string x)::l=>some (x,l)
 |.sl e r,.fz e' r' xs::l=>bif Nat.beq e e' then (match I0 r r' xs with|some ys=>some (ys,l)|none=>none) else none
 |.sl e r,.own e' r' xs::l=>bif Nat.beq e e' then (match I0 r r' xs with|some ys=>some (ys,l)|none=>none) else none
 |.ow e r,.own e' r' xs::l=>bif Nat.beq e e' then (match Ht r r' xs with|some ys=>some (ys,l)|none=>none) else none
 |.pr x y,l=>match mkT x l with
  |some (p,l1)=>(match mkT y l1 with
   |some (q,l2)=>some ((p,q),l2)
   |none=>none)
  |none=>none
 |_,_=>none
def mkW (t:Ty) (l:List Lf):Option t.den:=match mkT t l with
 |some (x,[])=>some x
 |_=>none
structure TI where
 ty:Ty
 ag:Bool
 by_:Nat
 fo:List (Nat×Nat×Bool)
@[reducible] def Den:List Ty→Type
 |[]=>Unit
 |[t]=>t.den
 |t::u::l=>t.den×Den (u::l)
inductive Par where
 |io (ag:Bool) (t:Ty)
 |vw (t:Ty) (h:Nat)
 |val (ag:Bool) (t:Ty)
 |ptr (t t':Ty)
 |rd (t:Ty)
 |fn (F:FuncId) (m:Nat)
 |hid (t t':Ty)
def Par.ty:Par→Ty
 |.io _ t=>t
 |.vw t _=>t
 |.val _ t=>t
 |.ptr t _=>t
 |.rd t=>t
 |.fn _ _ => .b
 |.hid t _=>t
def Ib:(ts:List Ty)→List (List Lf)→Option (Den ts)
 |[],[]=>some ()
 |[t],[l]=>mkW t l
 |t::u::ts,l::ls=>match mkW t l with
  |some x=>(match Ib (u::ts) ls with
   |some y=>some (x,y)
   |none=>none)
  |none=>none
 |_,_=>none
def An:(ts:List Ty)→Den ts→List (List Lf)
 |[],_=>[]
 |[t],x=>[A4 t x]
 |t::u::ts,x=>A4 t x.1::An (u::ts) x.2
def Cw:List Par→List Ty
 |[]=>[]
 |.ptr _ t'::l=>t'::Cw l
 |.hid _ t'::l=>t'::Cw l
 |.io _ t::l=>t::Cw l
 |_::l=>Cw l
inductive RK where
 |one
 |agg
 |ptr
structure Ent where
 nv:Nat
 ps:List Par
 rs:List (RK×Ty)
 run:Den (ps.map Par.ty)→Option (Den (rs.map Prod.snd++Cw ps))
inductive Ex where
 |normal
 |exit (id:Nat)
 |ret
structure Ox where
 cs:List (Nat×Lf)
 vs:List (Nat×Ty)
@[reducible] def Ox.den (v:Ox):Type:=Den (v.vs.map Prod.snd)
@[reducible] def Bea:List (Ex×Ox)→Type
 |[]=>Empty
 |[a]=>a.2.den
 |a::b::l=>a.2.den ⊕ Bea (b::l)
structure Lp where
 ins:Ox
 alts:List (Ex×Ox)
 run:ins.den→Option (Bea alts)
inductive Gh where
 |cl (p:Nat)
 |op (p t B:Nat)
 |od (d B:Nat)
 |oc (p:Nat) (i:Int) (B:Nat)
 |sp (p t B:Nat)
structure En where
 nt:Nat
 ti:TypeId→Option TI
 eq:TypeId→Bool
 nm:Nat→Bool
 res:Nat→Bool
 call:FuncId→Option Ent
 lp:Nat→Option Lp
 np:Nat
 hint:Nat→Option Ty
 mv:Nat→Bool
 gh:Nat→List Gh
 opn:Nat→Bool
 sh:Nat→Bool
 rf:Bool
def Qu:Value→Bool
 |.int _ _ | .bool _ | .string _ | .func _ _ _ | .pointer none=>true
 |_=>false
def opT (E:En) (T:TypeId) (A:Ab):Operand→Option Sv
 |.tmp t=>bif Nat.blt t E.nt then some (get A t).2 else none
 |.const (.slice none 0 0)=>match E.ti T with
  |some ⟨.sl e r,false,_,_⟩=>some (.one (.own e r []))
  |_=>none
 |.const v=>bif Qu v then some (.one (.sc v)) else none
 |.func f=>some (.one (.sc (.func (.func f) #[] #[])))
 |.global _=>none
def elT (E:En) (T:TypeId):Option TypeId:=match E.ti T with
 |some ⟨.sl e _,false,_,_⟩=>some e
 |_=>none
def Hu (E:En) (T e:TypeId):Bool:=match elT E T with
 |some e'=>Nat.beq e' e
 |none=>false
def Oy (E:En) (T:TypeId):Bool:=match E.ti T with
 |some ⟨.s,false,_,_⟩=>true
 |_=>false
def E8 (A:Ab):Lf→Lf
 |.al p v=>match get A p with
  |(n,.one (.own e r xs))=>bif Nat.beq n v then .own e r xs else .dead
  |(n,.one (.fz e r xs))=>bif Nat.beq n v then .fz e r xs else .dead
  |_ => .dead
 |x=>x
def Nd (A:Ab):Lf→Lf
 |.da p v _ e r xs=>bif Nat.beq (get A p).1 v then .fz e r xs else .dead
 |x=>E8 A x
structure Sl where
 e:TypeId
 r:Ty
 xs:List r.den
def Qv (A:Ab) (x:Lf):Option Sl:=match x with
 |.da p v _ e r xs=>bif Nat.beq (get A p).1 v&&Ei r then some ⟨e,r,xs⟩ else none
 |x=>(match E8 A x with
  |.fz e r xs=>some ⟨e,r,xs⟩
  |.own e r xs=>bif Ei r then some ⟨e,r,xs⟩ else none
  |_=>none)
def Mi (A:Ab):Lf→Bool
 |.bp b v _=>Nat.beq (get A (H b)).1 v
 |.ep p v _ _=>(match get A p with
  |(n,.one (.own _ _ _))=>Nat.beq n v
  |_=>false)
 |.fp _ _ _=>true
 |.dp p v _ _ _ _ _ _=>Nat.beq (get A p).1 v
 |_=>false
def W4:Lf→Nat→Lf
 |.bp b v n,k => .bp b v (n+k)
 |.ep p v i n,k => .ep p v i (n+k)
 |.fp r x n,k => .fp r x (n+k)
 |.dp p v pi e r xs i n,k => .dp p v pi e r xs i (n+k)
 |x,_=>x
def C0:List Lf→Bool
 |[]=>false
 |.own _ _ _::_=>true
 |.opn _ _ _ _ _ _::_=>true
 |.par _ _ _ _::_=>true
 |_::l=>C0 l
def Fx:Sv→Bool
 |.one x=>C0 [x]
 |.agg l=>C0 l
 |.tup vs=>vs.any λ v=>C0 v.2
def Fu:Lf→Lf
 |.own e r xs => .fz e r xs
 |.opn _ _ _ _ _ _ => .dead
 |.par _ _ _ _ => .dead
 |x=>x
def Km (A:Ab):Lf→List Up
 |.al p v=>match get A p with
  |(n,.one (.own e r xs))=>bif Nat.beq n v then [⟨p,true,.one (.fz e r xs)⟩] else []
  |_=>[]
 |_=>[]
def E7 (A:Ab):List Lf→List Up
 |[]=>[]
 |x::l=>Km A x++E7 A l
def W5 (p:Nat):List Up→Bool
 |[]=>true
 |u::l => !(Nat.beq u.l p)&&W5 p l
def gone:Operand→Sv→List Up
 |.tmp t,s=>bif Fx s then [⟨t,false,.one .dead⟩] else []
 |_,_=>[]
def Mq:Lf→Operand→List Up
 |.al p _,_=>[⟨p,false,.one .dead⟩]
 |_,.tmp t=>[⟨t,false,.one .dead⟩]
 |_,_=>[]
def parts:Sv→List Lf
 |.one x=>[x]
 |.agg l=>l
 |.tup _=>[]
def F4 (ag:Bool) (l:List Lf):Option Sv:=bif ag then some (.agg l) else match l with
 |[x]=>some (.one x)
 |_=>none
def nth {α:Type}:List α→Nat→Option α
 |[],_=>none
 |x::_,0=>some x
 |_::l,n+1=>nth l n
section
variable {R:Type}
def Jz (op:BinOp) (k:IntKind) (x y:Int) (K:Value→Option R):Option R:=
 match op with
 |.add=>K (.int k (k.wrap (x+y)))
 |.sub=>K (.int k (k.wrap (x-y)))
 |.mul=>K (.int k (k.wrap (x*y)))
 |.quo=>bif decide (y=0) then none else K (.int k (k.wrap (x.tdiv y)))
 |.rem=>bif decide (y=0) then none else K (.int k (x.tmod y))
 |.and=>K (.int k (k.wrap ((ofInt k.bits x &&& ofInt k.bits y).toNat)))
 |.or=>K (.int k (k.wrap ((ofInt k.bits x ||| ofInt k.bits y).toNat)))
 |.xor=>K (.int k (k.wrap ((ofInt k.bits x ^^^ ofInt k.bits y).toNat)))
 |.andNot=>K (.int k (k.wrap ((ofInt k.bits x &&& ~~~ ofInt k.bits y).toNat)))
 |.eql=>K (.bool (x==y))
 |.neq=>K (.bool (x != y))
 |.lss=>K (.bool (x<y))
 |.leq=>K (.bool (x≤y))
 |.gtr=>K (.bool (x > y))
 |.geq=>K (.bool (x≥y))
 |_=>none
def Mr (op:BinOp) (x y:ByteArray) (K:Value→Option R):Option R:=
 match op with
 |.add=>bif Nat.ble (x.size+y.size) 9223372036854775807 then K (.string (x++y)) else none
 |.eql=>K (.bool (x.toList==y.toList))
 |.neq=>K (.bool !(x.toList==y.toList))
 |.lss=>K (.bool (Op.bytesLess x.toList y.toList))
 |.leq=>K (.bool (Op.bytesLess x.toList y.toList||x.toList==y.toList))
 |.gtr=>K (.bool !(Op.bytesLess x.toList y.toList||x.toList==y.toList))
 |.geq=>K (.bool !(Op.bytesLess x.toList y.toList))
 |_=>none
def Bf:List Lf→List Lf→Option Bool
 |[],[]=>some true
 |[.sc (.int k x)],[.sc (.int k' y)]=>bif decide (k=k') then some (x==y) else none
 |[.sc (.bool x)],[.sc (.bool y)]=>some (x==y)
 |[.sc (.string x)],[.sc (.string y)]=>some (x==y)
 |.sc (.int k x)::l,.sc (.int k' y)::l'=>bif decide (k=k') then (match Bf l l' with|some b=>some ((x==y)&&b)|none=>none) else none
 |.sc (.bool x)::l,.sc (.bool y)::l'=>match Bf l l' with|some b=>some ((x==y)&&b)|none=>none
 |.sc (.string x)::l,.sc (.string y)::l'=>match Bf l l' with|some b=>some ((x==y)&&b)|none=>none
 |_,_=>none
def Gx:List Lf→Bool
 |[]=>true
 |.sc _::l=>Gx l
 |_=>false
def Ga (tT:Option TI) (l:List Lf):Bool:=match tT with
 |some ti=>(mkW ti.ty l).isSome
 |none=>false
def bop (op:BinOp) (tT:Option TI) (eqs:Bool) (x y:Sv) (K:Value→Option R):Option R:=
 match x,y with
 |.one (.sc (.int k a)),.one (.sc (.int k' b))=>
  match op with
  |.shl=>bif decide (b<0) then none else K (.int k (k.wrap (a*2 ^ (min b.toNat k.bits))))
  |.shr=>bif decide (b<0) then none else K (.int k (a.fdiv (2 ^ (min b.toNat k.bits))))
  |_=>bif decide (k=k') then Jz op k a b K else none
 |.one (.sc (.string a)),.one (.sc (.string b))=>Mr op a b K
 |.one (.sc (.bool a)),.one (.sc (.bool b))=>match op,tT with
  |.eql,some ⟨.b,false,_,_⟩=>K (.bool (a==b))
  |.neq,some ⟨.b,false,_,_⟩=>K (.bool (!(a==b)))
  |_,_=>none
 |.agg l,.agg l'=>bif eqs&&Gx l&&Gx l'&&(Ga tT l&&Ga tT l') then (match op with
  |.eql=>(match Bf l l' with|some b=>K (.bool b)|none=>none)
  |.neq=>(match Bf l l' with|some b=>K (.bool (!b))|none=>none)
  |_=>none) else none
 |_,_=>none
def uop (op:UnOp) (x:Sv) (K:Value→Option R):Option R:=
 match op,x with
 |.neg,.one (.sc (.int k n))=>K (.int k (k.wrap (0-n)))
 |.xor,.one (.sc (.int k n))=>K (.int k (k.wrap ((ofInt k.bits (if k.signed then -1 else k.max) ^^^ ofInt k.bits n).toNat)))
 |.not,.one (.sc (.bool b))=>K (.bool !b)
 |_,_=>none
def Kg (xs:List Int):ByteArray:=⟨(xs.map λ n=>UInt8.ofNat n.toNat).toArray⟩
def bytesOf (s:ByteArray):List Int:=s.data.toList.map λ b=>(b.toNat:Int)
def bt (s:ByteArray) (i:Int):Int:=((s.data.toList.getD i.toNat 0).toNat:Int)
def conv (src dst:Option TI) (x:Sv) (K:Sv→Option R):Option R:=
 match src,dst,x with
 |some ⟨.i _,false,_,_⟩,some ⟨.i k,false,_,_⟩,.one (.sc (.int _ n))=>K (.one (.sc (.int k (k.wrap n))))
 |some ⟨.s,false,_,_⟩,some ⟨.s,false,_,_⟩,.one (.sc (.string s))=>K (.one (.sc (.string s)))
 |some ⟨.sl e (.i .u8),false,_,_⟩,some ⟨.s,false,_,_⟩,.one (.fz e' (.i .u8) xs)=>bif Nat.beq e e' then K (.one (.sc (.string (Kg xs)))) else none
 |some ⟨.sl e (.i .u8),false,_,_⟩,some ⟨.s,false,_,_⟩,.one (.own e' (.i .u8) xs)=>bif Nat.beq e e' then K (.one (.sc (.string (Kg xs)))) else none
 |some ⟨.s,false,_,_⟩,some ⟨.sl e (.i .u8),false,_,_⟩,.one (.sc (.string s))=>bif Nat.ble s.size 140737488355328 then K (.one (.fz e (.i .u8) (bytesOf s))) else none
 |_,_,_=>none
def Hw (mx:Bool):List Sv→IntKind→Int→(Value→Option R)→Option R
 |[],k,x,K=>K (.int k x)
 |.one (.sc (.int k' y))::l,k,x,K=>bif decide (k=k') then Hw mx l k (bif mx then (if x<y then y else x) else (if y<x then y else x)) K else none
 |_,_,_,_=>none
def cellsOf (A:Ab) (b:Nat):Nat→Nat→List Lf
 |_,0=>[]
 |j,n+1=>(match get A (C b j) with
  |(v,.one (.own _ _ _))=>Lf.al (C b j) v
  |(v,.one (.opn _ _ _ _ _ _))=>Lf.al (C b j) v
  |(v,.one (.par _ _ _ _))=>Lf.al (C b j) v
  |(_,.one x)=>x
  |_ => .dead)::cellsOf A b (j+1) n
def B3 (b:Nat):Nat→List Lf→List Up
 |_,[]=>[]
 |j,x::l=>⟨C b j,false,.one x⟩::B3 b (j+1) l
def Ep (A:Ab) (x:Lf):Lf:=match x with
 |.al _ _=>Fu (E8 A x)
 |_=>x
def Mj:Ty→List Lf
 |.i k=>[.sc (.int k 0)]
 |.b=>[.sc (.bool false)]
 |.s=>[.sc (.string ⟨#[]⟩)]
 |.sl e r=>[.own e r []]
 |.ow e r=>[.own e r []]
 |.pr x y=>Mj x++Mj y
def A3:List Lf→Bool
 |[]=>true
 |.sc _::l | .fz _ _ _::l | .own _ _ _::l=>A3 l
 |_=>false
def Cq (A:Ab):List Lf→Bool
 |[]=>true
 |.sc _::l | .fz _ _ _::l | .own _ _ _::l=>Cq A l
 |.da p v _ _ _ _::l=>Nat.beq (get A p).1 v&&Cq A l
 |_=>false
def C1 (A:Ab):List Lf→Bool
 |[]=>true
 |.sc _::l | .fz _ _ _::l=>C1 A l
 |.al p v::l=>(match E8 A (.al p v) with
  |.own _ _ _ | .fz _ _ _=>true
  |_=>false)&&C1 A l
 |_=>false
def setAll (l:List Lf) (off:Nat) (m:List Lf):List Lf:=l.take off++m++l.drop (off+m.length)
def Ej:Ab→List Lf→Option (List Lf×List Up)
 |_,[]=>some ([],[])
 |A,.al p v::l=>(match E8 A (.al p v) with
  |.own e r xs=>(match Ej (up A ⟨p,false,.one .dead⟩) l with
   |some (m,us)=>some (.own e r xs::m,⟨p,false,.one .dead⟩::us)
   |none=>none)
  |_=>none)
 |A,x::l=>(match Ej A l with
  |some (m,us)=>some (x::m,us)
  |none=>none)
def W0 (A:Ab) (x:Operand) (s:Sv):Option (List Lf×List Up):=match Ej (ups A (gone x s)) (parts s) with
 |some (m,us)=>some (m,gone x s++us)
 |none=>none
def I1:List Lf→Bool
 |[]=>true
 |.sc _::l | .own _ _ _::l=>I1 l
 |_=>false
def Ck:Ty→List Ty
 |.pr x y=>Ck x++Ck y
 |t=>[t]
def daL (p v:Nat) (pi:Option (List (Int×Nat))) (i:Int):Nat→List Lf→List Lf
 |_,[]=>[]
 |j,.own e r xs::l => .da p v (match pi with|some q=>some (q++[(i,j)])|none=>none) e r xs::daL p v pi i (j+1) l
 |j,.opn _ _ _ _ _ _::l => .dead::daL p v pi i (j+1) l
 |j,.par _ _ _ _::l => .dead::daL p v pi i (j+1) l
 |j,x::l=>x::daL p v pi i (j+1) l
def U5 (r0:Ty) (ys:List r0.den):List (Int×Nat)→(r:Ty)→List r.den→Option (List r.den)
 |[],r,_=>if h:r0=r then some (h ▸ ys) else none
 |(i,j)::q,r,xs=>match nth (A4 r (xs.getD i.toNat r.dflt)) j with
  |some (.own e1 r1 zs)=>(match U5 r0 ys q r1 zs with
   |some zs'=>(match mkW r (setAll (A4 r (xs.getD i.toNat r.dflt)) j [.own e1 r1 zs']) with
    |some z=>some (xs.set i.toNat z)
    |none=>none)
   |none=>none)
  |_=>none
def Gy:List Par→Bool
 |[]=>true
 |.val _ t::ps=>Ei t&&Gy ps
 |_::_=>false
def Mg:List (RK×Ty)→Bool
 |[]=>true
 |(.ptr,_)::_=>false
 |(_,t)::rs=>Cf t&&Mg rs
def W1:Sv→Option Bool
 |.one _=>some false
 |.agg _=>some true
 |.tup _=>none
def E5 (ag:Bool) (s:Sv):Bool:=match W1 s with
 |some b=>bif ag then b else !b
 |none=>false
def Gz (A:Ab):List Par→List Sv→Option (List (List Lf))
 |[],[]=>some []
 |.val ag _::ps,s::ss=>bif E5 ag s&&A3 ((parts s).map (λ y=>Fu (Nd A y))) then (match Gz A ps ss with
  |some ls=>some ((parts s).map (λ y=>Fu (Nd A y))::ls)
  |none=>none) else none
 |_,_=>none
def Ml (e:TypeId) (r:Ty):Lf→Option Lf
 |.own e' r' xs=>bif Nat.beq e e' then (match Ht r r' xs with
  |some ys=>some (.own e r ys)
  |none=>bif Ei r then (match I0 r r' xs with
   |some ys=>some (.own e r ys)
   |none=>none) else none) else none
 |_=>none
def Qw:Lf→List Up
 |.al p _=>[⟨p,false,.one .dead⟩]
 |_=>[]
def Bw:Ab→List Ty→List Lf→Option (List Lf×List Up)
 |_,[],[]=>some ([],[])
 |A,.ow e r::ts,x::l=>(match Ml e r (E8 A x) with
  |some y=>(match Bw (ups A (Qw x)) ts l with
   |some (m,us)=>some (y::m,Qw x++us)
   |none=>none)
  |none=>none)
 |A,_::ts,x::l=>(match Bw (ups A (Km A x)) ts l with
  |some (m,us)=>some (Fu (Ep A x)::m,Km A x++us)
  |none=>none)
 |_,_,_=>none
def Jb (A:Ab) (x:Operand) (s:Sv) (ts:List Ty):Option (List Lf×List Up):=match Bw (ups A (gone x s)) ts (parts s) with
 |some (m,us)=>bif A3 m then some (m,gone x s++us) else none
 |none=>none
def Ic (A:Ab) (x:Operand) (s:Sv) (t:Ty):Option (List Lf×List Up):=Jb A x s (Ck t)
def Eca (A:Ab):List Lf→List Ty
 |[]=>[]
 |x::l=>(match E8 A x with
  |.own e r _ => .ow e r
  |_ => .b)::Eca A l
def I2 (A:Ab) (b v:Nat) (t t':Ty):Option (List Lf×List Up):=match get A (H b) with
 |(n,.one (.hd m))=>bif Nat.beq n v&&Nat.beq m t.sz&&Nat.beq m t'.sz then (match Bw A (Ck t) (cellsOf A b 0 m) with
  |some (l,us)=>bif A3 l then some (l,us) else none
  |none=>none) else none
 |_=>none
def Dea:List (Nat×Nat)→List (Nat×Nat)→Bool
 |[],[]=>true
 |a::l,b::m=>Nat.beq a.1 b.1&&Nat.beq a.2 b.2&&Dea l m
 |_,_=>false
def Fk (A:Ab):List (Nat×Nat)→Bool
 |[]=>true
 |b::l=>Nat.beq (get A (H b.1)).1 b.2&&Fk A l
def Bba:Lf→Bool
 |.sc _ | .fz _ _ _=>true
 |_=>false
def Qx (A:Ab) (b:Nat):Nat→List Ty→List Lf→Option (List Lf)
 |_,[],[]=>some []
 |j,.ow e r::ts,.al p v::l=>bif Nat.beq p (C b j)&&Nat.beq (get A p).1 v then (match Ml e r (E8 A (.al p v)) with
  |some y=>(match Qx A b (j+1) ts l with
   |some m=>some (y::m)
   |none=>none)
  |none=>none) else none
 |_,.ow _ _::_,_=>none
 |j,_::ts,x::l=>bif Bba (E8 A x) then (match Qx A b (j+1) ts l with
  |some m=>some (E8 A x::m)
  |none=>none) else none
 |_,_,_=>none
def Oz:List Lf→Option Nat
 |[]=>none
 |.al p _::l=>bif Nat.ble 1000 p then some (p/1000-1) else Oz l
 |_::l=>Oz l
def P0 (A:Ab):List Par→List Sv→List (Nat×Nat)
 |.vw _ _::ps,.agg ys::ss=>(match Oz ys with
  |some b=>(b,(get A (H b)).1)::P0 A ps ss
  |none=>P0 A ps ss)
 |_::ps,_::ss=>P0 A ps ss
 |_,_=>[]
def Kh (A:Ab) (cb hb:List (Nat×Nat)) (nv:Nat) (x:Operand):Par→Sv→Option (List Lf×List Up×List Nat)
 |.vw t h,.agg ys=>(match nth hb (h-nv) with
  |some c=>(match get A (H c.1) with
   |(n,.one (.hd m))=>bif Nat.ble nv h&&Nat.beq n c.2&&Nat.beq m t.sz then (match Qx A c.1 0 (Ck t) ys with
    |some l=>some (l,[],[])
    |none=>none) else none
   |_=>none)
  |none=>none)
 |.val ag t,s=>bif E5 ag s then (match Ic A x s t with
  |some (m,us)=>some (m,us,[])
  |none=>none) else none
 |.ptr t t',.one (.bp b v 0)=>(match I2 A b v t t' with
  |some (m,us)=>some (m,us,[b])
  |none=>none)
 |.hid t t',.one (.bp b v 0)=>(match I2 A b v t t' with
  |some (m,us)=>some (m,us,[b])
  |none=>none)
 |.rd t,.one (.fp r y 0)=>bif decide (shp r=shp t)&&Ei t then some (lvs r y,[],[]) else none
 |.fn F m,.one (.fn F' bs)=>bif Nat.beq F F'&&Nat.beq m bs.length&&Dea bs cb&&Fk A bs then some ([.sc (.bool true)],[],[]) else none
 |_,_=>none
def F6 (E:En) (cb hb:List (Nat×Nat)) (nv:Nat):Ab→List (TypeId×Operand)→List (Nat×Nat)→List Par→Option (List (List Lf)×List Up×List Nat)
 |_,[],[],[]=>some ([],[],[])
 |A,x::xs,hs,p::ps=>(match opT E x.1 A x.2 with
  |some s=>(match Kh A cb hb nv x.2 p s with
   |some (l,u,b)=>(match F6 E cb hb nv (ups A u) xs hs ps with
    |some (ls,us,bs)=>some (l::ls,u++us,b++bs)
    |none=>none)
   |none=>none)
  |none=>none)
 |A,[],h::hs,p::ps=>(match Kh A cb hb nv (.func 0) p (.one (.bp h.1 h.2 0)) with
   |some (l,u,b)=>(match F6 E cb hb nv (ups A u) [] hs ps with
    |some (ls,us,bs)=>some (l::ls,u++us,b++bs)
    |none=>none)
   |none=>none)
 |_,_,_,_=>none
def W6:List Sv→List (Nat×Nat)
 |[]=>[]
 |.one (.fn _ bs)::_=>bs
 |_::l=>W6 l
def El (nv:Nat):Nat→List Par→Bool
 |_,[]=>true
 |i,.hid _ _::ps=>Nat.ble nv i&&El nv (i+1) ps
 |i,_::ps=>Nat.blt i nv&&El nv (i+1) ps
def P3:List Nat→Bool
 |[]=>true
 |b::l => !(l.any (Nat.beq b))&&P3 l
def U6:List Nat→List (List Lf)→Option (List Up)
 |[],_=>some []
 |b::bs,l::ls=>match U6 bs ls with
  |some us=>some (B3 b 0 l++us)
  |none=>none
 |_,_=>none
def W7 (A:Ab) (d:Nat) (l:List Lf):List Up:=
 ⟨H d,false,.one (.hd l.length)⟩::B3 d 0 l++[⟨d,false,.one (.bp d ((get A (H d)).1+1) 0)⟩]
def Dh:List (RK×Ty)→Bool
 |[]=>false
 |(.ptr,_)::_=>true
 |_::l=>Dh l
def K5:RK→Bool
 |.agg=>true
 |_=>false
def P4:List (RK×Ty)→List (List Lf)→List (Bool×List Lf)
 |r::rs,l::ls=>(K5 r.1,l)::P4 rs ls
 |_,_=>[]
def Hv (A:Ab) (rs:List (RK×Ty)) (ls:List (List Lf)) (d:Option Nat):Option (List Up):=
 match rs,ls,d with
 |_,_,none=>some []
 |[],_,some d=>some [⟨d,false,.tup []⟩]
 |[(.one,_)],[x]::_,some d=>some [⟨d,false,.one x⟩]
 |[(.agg,_)],l::_,some d=>some [⟨d,false,.agg l⟩]
 |[(.ptr,_)],l::_,some d=>some (W7 A d l)
 |r::q::rs,ls,some d=>bif Dh (r::q::rs) then none else some [⟨d,false,.tup (P4 (r::q::rs) ls)⟩]
 |_,_,_=>none
def J9 (E:En) (Ts:List TypeId) (A:Ab):List Operand→Option (List Sv)
 |[]=>some []
 |x::l=>match Ts with
  |[]=>none
  |T::Ts=>(match opT E T A x with
   |some s=>(match J9 E Ts A l with
    |some ss=>some (s::ss)
    |none=>none)
   |none=>none)
def Bfa (E:En) (rs:List (RK×Ty)) (d:Option Nat):Bool := !(Dh rs)||(match d with
 |some d=>Nat.ble E.np d
 |none=>true)
def shL (E:En) (d:Option Nat) (ls:List (List Lf)):List (List Lf):=match d with
 |some d=>bif E.sh d then ls.map (λ l=>l.map Fu) else ls
 |none=>ls
def Nf (E:En) (A:Ab) (en:Ent) (xs:List (TypeId×Operand)) (cs:List (Nat×Nat)) (ss:List Sv) (d:Option Nat) (K:List Up→Option R):Option R:=
 bif Nat.beq en.nv (xs.length+cs.length) then
 (bif Gy en.ps&&Mg en.rs&&cs.isEmpty then
  (match Gz A en.ps ss with
  |none=>none
  |some ls=>match Ib _ ls with
   |none=>none
   |some x=>(en.run x).bind λ r=>
    match Hv A en.rs (shL E d (An _ r)) d with
    |none=>none
    |some rs=>K rs)
 else bif Bfa E en.rs d&&(Nat.ble en.nv 1000&&El en.nv 0 en.ps&&Nat.ble en.rs.length 400&&Nat.ble en.ps.length 2000) then
  (match F6 E (W6 ss++P0 A en.ps ss) (W6 ss++P0 A en.ps ss) en.nv A xs (cs++(W6 ss++P0 A en.ps ss)) en.ps with
  |none=>none
  |some (ls,us,bs)=>bif P3 bs then (match Ib _ ls with
   |none=>none
   |some x=>(en.run x).bind λ r=>
    match U6 bs ((An _ r).drop en.rs.length) with
    |none=>none
    |some ws=>match Hv (ups (ups A us) ws) en.rs (shL E d (An _ r)) d with
     |none=>none
     |some rs=>K (us++(ws++rs))) else none)
 else none) else none
def W8:List Par→Bool
 |[]=>false
 |.io _ _::_=>true
 |_::l=>W8 l
def Iva:Lf→Option Nat
 |.al p _=>some p
 |.io p=>some p
 |_=>none
def Gfa (A:Ab):Lf→Lf
 |.io p => .al p (get A p).1
 |x=>x
def I1a (A:Ab):Sv→Sv
 |.one x => .one (Gfa A x)
 |.agg l => .agg (l.map (Gfa A))
 |s=>s
def W9 (A:Ab) (x:Operand):Par→Sv→Option (List Lf×List Up×List (List (Option Nat)))
 |.val ag t,s=>bif E5 ag s then (match Ic A x s t with
  |some (m,us)=>some (m,us,[])
  |none=>none) else none
 |.io ag t,s=>bif E5 ag s&&(!(C0 (parts (I1a A s)))&&Nat.blt t.sz 999) then (match Bw A (Ck t) (parts (I1a A s)) with
  |some (m,us)=>bif A3 m then some (m,us,[(parts s).map Iva]) else none
  |none=>none) else none
 |_,_=>none
def L3 (E:En):Ab→List (TypeId×Operand)→List Par→Option (List (List Lf)×List Up×List (List (Option Nat)))
 |_,[],[]=>some ([],[],[])
 |A,x::xs,p::ps=>(match opT E x.1 A x.2 with
  |some s=>(match W9 A x.2 p s with
   |some (l,u,b)=>(match L3 E (ups A u) xs ps with
    |some (ls,us,bs)=>some (l::ls,u++us,b++bs)
    |none=>none)
   |none=>none)
  |none=>none)
 |_,_,_=>none
def Bca:List (Option Nat)→List Lf→List Up
 |some p::ps,.own e r xs::l=>⟨p,false,.one (.own e r xs)⟩::Bca ps l
 |_::ps,_::l=>Bca ps l
 |_,_=>[]
def Wr:List (List (Option Nat))→List (List Lf)→List Up
 |b::bs,l::ls=>Bca b l++Wr bs ls
 |_,_=>[]
def Ws (E:En) (A:Ab) (en:Ent) (xs:List (TypeId×Operand)) (d:Option Nat) (K:List Up→Option R):Option R:=
 bif Nat.beq en.nv xs.length&&(Bfa E en.rs d&&!(Dh en.rs))&&(Nat.ble en.nv 1000&&El en.nv 0 en.ps&&Nat.ble en.rs.length 400&&Nat.ble en.ps.length 2000) then
  (match L3 E A xs en.ps with
  |none=>none
  |some (ls,us,bs)=>(match Ib _ ls with
   |none=>none
   |some x=>(en.run x).bind λ r=>
    match Hv (ups (ups A us) (Wr bs ((An _ r).drop en.rs.length))) en.rs (shL E d (An _ r)) d with
    |none=>none
    |some rs=>K (us++(Wr bs ((An _ r).drop en.rs.length)++rs))))
 else none
def Fy (E:En) (A:Ab) (T:TI) (l:List Lf) (us:List Up):List (Nat×Operand)→Option (List Lf×List Up)
 |[]=>some (l,us)
 |(i,x)::ps=>match nth T.fo i with
  |none=>none
  |some (off,z,_)=>(match x with
   |.const (.slice none 0 0)=>bif Nat.beq z 1 then (match nth l off with
    |some (.own _ _ [])=>Fy E A T l us ps
    |_=>none) else none
   |_=>(match opT E 0 A x with
    |some s=>let m:=(parts s).map (Ep A)
     bif A3 m&&Nat.beq m.length z&&Nat.ble (off+z) l.length then Fy E (ups A (E7 A (parts s)++gone x s)) T (setAll l off m) (us++(E7 A (parts s)++gone x s)) ps else none
    |none=>none))
def P5 (E:En) (A:Ab) (e:TypeId) (r:Ty) (i:Nat):List (Nat×Operand)→Option (List r.den×List Up)
 |[]=>some ([],[])
 |(j,x)::ps=>bif Nat.beq i j then (match opT E e A x with
  |some s=>(match bif A3 ((parts s).map (Ep A)) then mkW r ((parts s).map λ x=>Fu (Ep A x)) else none with
   |some y=>(match P5 E (ups A (E7 A (parts s)++gone x s)) e r (i+1) ps with
    |some (ys,us)=>some (y::ys,(E7 A (parts s)++gone x s)++us)
    |none=>none)
   |none=>none)
  |none=>none) else none
def P6 (E:En) (A:Ab) (e:TypeId) (r:Ty) (i:Nat):List (Nat×Operand)→Option (List r.den×List Up)
 |[]=>some ([],[])
 |(j,x)::ps=>bif Nat.beq i j then (match opT E e A x with
  |some s=>(match W0 A x s with
   |some (m,us)=>(match bif I1 m then mkW r m else none with
    |some y=>(match P6 E (ups A us) e r (i+1) ps with
     |some (ys,us')=>some (y::ys,us++us')
     |none=>none)
    |none=>none)
   |none=>none)
  |none=>none) else none
def Qy {α:Type} (xs:List α) (lo hi:Option Int):List α:=
 match lo,hi with
 |none,none=>xs
 |some l,none=>xs.drop l.toNat
 |none,some h=>xs.take h.toNat
 |some l,some h=>(xs.take h.toNat).drop l.toNat
def Qs (lo hi:Option Int) (n:Nat) (K:Unit→Option R):Option R:=
 match lo,hi with
 |none,none=>K ()
 |some l,none=>bif decide (0≤l) then (bif decide (l≤(n:Int)) then K () else none) else none
 |none,some h=>bif decide (0≤h) then (bif decide (h≤(n:Int)) then K () else none) else none
 |some l,some h=>bif decide (0≤l) then (bif decide (l≤h) then (bif decide (h≤(n:Int)) then K () else none) else none) else none
def Ng (E:En) (A:Ab):Option Operand→Option (Option Int)
 |none=>some none
 |some x=>match opT E 0 A x with
  |some (.one (.sc (.int .i64 n)))=>some (some n)
  |_=>none
def mvO (E:En):Operand→Bool
 |.tmp t=>E.mv t
 |_=>false
def P7 (E:En) (A:Ab):List Operand→Option (List (Nat×Nat))
 |[]=>some []
 |x::l=>(match opT E 0 A x with
  |some (.one (.bp b v 0))=>(match P7 E A l with
   |some bs=>some ((b,v)::bs)
   |none=>none)
  |_=>none)
def Id (A:Ab) (B p:Nat) (e:TypeId) (r:Ty) (xs:List r.den) (i:Int):Option (List Up):=
 bif (Ei r||Cf r)&&Nat.blt r.sz 999&&!(Nat.beq (p/1000) (B+1))&&(Nat.ble 2000 B&&Nat.blt B 3000) then (bif decide (0≤i) then (bif decide (i<(xs.length:Int)) then
  some (⟨p,false,.one (.opn e r xs i B ((get A (H B)).1+1))⟩::⟨H B,false,.one (.hd r.sz)⟩::B3 B 0 (A4 r (xs.getD i.toNat r.dflt))) else none) else none) else none
def L5 (A:Ab) (B p:Nat) (e:TypeId) (r:Ty) (xs:List r.den) (i:Int) (K:List Up→Option R) (Z:Option R):Option R:=
 bif (Ei r||Cf r)&&Nat.blt r.sz 999&&!(Nat.beq (p/1000) (B+1))&&(Nat.ble 2000 B&&Nat.blt B 3000) then (bif decide (0≤i) then (bif decide (i<(xs.length:Int)) then
  K (⟨p,false,.one (.opn e r xs i B ((get A (H B)).1+1))⟩::⟨H B,false,.one (.hd r.sz)⟩::B3 B 0 (A4 r (xs.getD i.toNat r.dflt))) else none) else none) else Z
def K6 (E:En) (A:Ab) (T T':TypeId) (x:Operand) (d:Nat):Option (List Up):=match x with
 |.tmp t=>(match opT E T A (.tmp t),E.ti T with
  |some (.one (.own e (.i .u8) xs)),some ⟨.sl e' (.i .u8),false,_,_⟩=>bif Nat.beq T T'&&(Nat.beq e e'&&Nat.blt 0 xs.length) then some [⟨t,false,.one .dead⟩,⟨d,false,.one (.fz e (.i .u8) xs)⟩] else none
  |_,_=>none)
 |_=>none
def Ms (E:En) (A:Ab) (T:TypeId) (x:Operand) (lo hi:Option Operand) (d:Nat):Option (Bool×List Up):=match opT E T A x with
 |some (.one (.two q v1 v2))=>(match lo,hi with
  |none,some y=>(match get A q,Ng E A (some y) with
   |(n,.one (.par e r ys m)),some (some h)=>bif Nat.beq n v1&&Hu E T e&&Nat.beq m 0 then some (decide (h=(ys.length:Int)),[⟨q,false,.one .dead⟩,⟨d,false,.one (.par e r ys 0)⟩]) else none
   |_,_=>none)
  |some y,none=>(match get A (q+1),Ng E A (some y) with
   |(n,.one (.par e r xs m)),some (some l)=>bif Nat.beq n v2&&Hu E T e then some (decide (0≤l)&&decide (l≤(xs.length:Int))&&Nat.ble m l.toNat,[⟨q+1,false,.one .dead⟩,⟨d,false,.one (.par e r (xs.drop l.toNat) 0)⟩]) else none
   |_,_=>none)
  |_,_=>none)
 |_=>none
def Af (E:En) (o:Oper) (A:Ab) (K:List Up→Option R):Option R:=
 match o.op,o.dst with
 |.makeFunc (.func f) x y,some d=>(match x.toList,P7 E A y.toList with
  |[],some bs=>K [⟨d,false,.one (.fn f bs)⟩]
  |_,_=>none)
 |.move x,some d=>match opT E o.type A x with
  |some s=>(match x,s with
   |.tmp t,.one (.own e r xs)=>bif E.nm t&&!(E.mv d) then K [⟨d,false,.one (.al t (get A t).1)⟩] else K [⟨t,false,.one .dead⟩,⟨d,false,.one (.own e r xs)⟩]
   |.tmp _,.one (.io p)=>K [⟨d,false,.one (.al p (get A p).1)⟩]
   |_,_=>K (gone x s++[⟨d,false,s⟩]))
  |none=>none
 |.assign x,some d=>match opT E o.type A x with
  |some (.one (.al p v))=>(match get A p with
   |(n,.one (.own e r xs))=>bif Nat.beq n v then (bif E.res d then K [⟨p,false,.one .dead⟩,⟨d,false,.one (.own e r xs)⟩] else K [⟨p,true,.one (.fz e r xs)⟩,⟨d,false,.one (.fz e r xs)⟩]) else none
   |(n,.one (.fz e r xs))=>bif Nat.beq n v then K [⟨d,false,.one (.fz e r xs)⟩] else none
   |_=>none)
  |some s=>K (gone x s++[⟨d,false,s⟩])
  |none=>none
 |.pick c x y,some d=>match opT E 0 A c with
  |some (.one (.sc (.bool b)))=>bif b then (match opT E o.type A x with
    |some (.one (.sc u))=>K [⟨d,false,.one (.sc u)⟩]
    |_=>none)
   else (match opT E o.type A y with
    |some (.one (.sc u))=>K [⟨d,false,.one (.sc u)⟩]
    |_=>none)
  |_=>none
 |.binOp op T x y T',some d=>match opT E T A x,opT E T' A y with
  |some s,some s'=>bop op (E.ti T) (E.eq T) s s' λ u=>K [⟨d,false,.one (.sc u)⟩]
  |_,_=>none
 |.unOp op T x,some d=>match opT E T A x with
  |some s=>uop op s λ u=>K [⟨d,false,.one (.sc u)⟩]
  |none=>none
 |.convert T T' x,some d=>(match K6 E A T T' x d with
  |some U=>K U
  |none=>(match opT E T A x with
   |some (.one y)=>conv (E.ti T) (E.ti T') (.one (Nd A y)) λ s=>K [⟨d,false,s⟩]
   |_=>none))
 |.nilCheck x,some d=>match opT E 0 A x with
  |some (.one y)=>bif Mi A y then K [⟨d,false,.one y⟩] else none
  |_=>none
 |.extract (.tmp t) j,some d=>match bif Nat.blt t E.nt then (get A t).2 else .one .dead with
  |.tup vs=>(match nth vs j with
   |some (ag,l)=>(match F4 ag l with
    |some s=>bif C0 l then K [⟨t,false,.tup (vs.set j (false,[.dead]))⟩,⟨d,false,s⟩] else K [⟨d,false,s⟩]
    |none=>none)
   |none=>none)
  |_=>none
 |.field T (.tmp t) j,some d=>match E.ti T,(get A t).2 with
  |some ti,.agg l=>(match nth ti.fo j with
   |some (off,z,ag)=>(match F4 ag ((l.drop off).take z) with
    |some s=>bif ti.ag&&Nat.blt t E.nt&&Nat.ble (off+z) l.length then (bif C0 ((l.drop off).take z) then K [⟨t,false,.agg (setAll l off (List.replicate z .dead))⟩,⟨d,false,s⟩] else K [⟨d,false,s⟩]) else none
    |none=>none)
   |none=>none)
  |_,_=>none
 |.build T ps,some d=>match E.ti T with
  |some ti=>(match Fy E A ti (Mj ti.ty) [] ps.toList with
   |some (l,us)=>bif ti.ag then K (us++[⟨d,false,.agg l⟩]) else none
   |none=>none)
  |none=>none
 |.alloc T,some d=>match E.ti T with
  |some ti=>bif Nat.blt ti.ty.sz 999&&Nat.ble E.np d then K (⟨H d,false,.one (.hd ti.ty.sz)⟩::B3 d 0 (Mj ti.ty)++[⟨d,false,.one (.bp d ((get A (H d)).1+1) 0)⟩]) else none
  |none=>none
 |.box T x,some d=>match E.ti T,opT E T A x with
  |some ti,some s=>
   bif mvO E x then (bif C1 A (parts s)&&Nat.beq (parts s).length ti.ty.sz&&Nat.blt ti.ty.sz 999&&Nat.ble E.np d then K (⟨H d,false,.one (.hd ti.ty.sz)⟩::B3 d 0 (parts s)++[⟨d,false,.one (.bp d ((get A (H d)).1+1) 0)⟩]) else none) else
   let m:=(parts s).map (Ep A)
   bif A3 m&&Nat.beq m.length ti.ty.sz&&Nat.blt ti.ty.sz 999&&Nat.ble E.np d then K (E7 A (parts s)++gone x s++(⟨H d,false,.one (.hd ti.ty.sz)⟩::B3 d 0 m++[⟨d,false,.one (.bp d ((get A (H d)).1+1) 0)⟩])) else none
  |_,_=>none
 |.load T x,some d=>match E.ti T,opT E 0 A x with
  |some ti,some (.one (.bp b v off))=>(match get A (H b) with
   |(n,.one (.hd m))=>bif Nat.beq n v&&Nat.ble (off+ti.ty.sz) m then (match F4 ti.ag (cellsOf A b off ti.ty.sz) with
    |some s=>K [⟨d,false,s⟩]
    |none=>none) else none
   |_=>none)
  |some ti,some (.one (.ep p v i off))=>(match get A p with
   |(n,.one (.own _ r xs))=>bif Nat.beq n v&&Ei r&&Nat.ble (off+ti.ty.sz) r.sz then (match F4 ti.ag (((lvs r (xs.getD i.toNat r.dflt)).drop off).take ti.ty.sz) with
    |some s=>K [⟨d,false,s⟩]
    |none=>none) else none
   |_=>none)
  |some ti,some (.one (.dp p v pi _ r xs i off))=>bif Nat.beq (get A p).1 v&&Nat.ble (off+ti.ty.sz) r.sz then (match F4 ti.ag (((daL p v pi i 0 (A4 r (xs.getD i.toNat r.dflt))).drop off).take ti.ty.sz) with
   |some s=>K [⟨d,false,s⟩]
   |none=>none) else none
  |some ti,some (.one (.fp r x off))=>bif Nat.ble (off+ti.ty.sz) r.sz then (match F4 ti.ag (((lvs r x).drop off).take ti.ty.sz) with
   |some s=>K [⟨d,false,s⟩]
   |none=>none) else none
  |_,_=>none
 |.store T x y,none=>match E.ti T,opT E 0 A x,opT E T A y with
  |some ti,some (.one (.bp b v off)),some s=>bif mvO E y then (match Jb A y s (Eca (ups A (gone y s)) (parts s)) with
   |some (m,us)=>(match get A (H b) with
    |(n,.one (.hd h))=>bif Nat.beq n v&&Nat.beq m.length ti.ty.sz&&Nat.ble (off+ti.ty.sz) h then K (us++B3 b off m) else none
    |_=>none)
   |none=>none) else
   let m:=(parts s).map (Ep A)
   (match get A (H b) with
   |(n,.one (.hd h))=>bif Nat.beq n v&&Cq (ups A (E7 A (parts s)++gone y s)) m&&Nat.beq m.length ti.ty.sz&&Nat.ble (off+ti.ty.sz) h then K (E7 A (parts s)++gone y s++B3 b off m) else none
   |_=>none)
  |some ti,some (.one (.ep p v i off)),some s=>
   let m:=(parts s).map λ x=>Fu (Ep A x)
   (match get A p with
   |(n,.one (.own e r xs))=>bif Nat.beq n v&&Ei r&&A3 ((parts s).map (Ep A))&&Nat.beq m.length ti.ty.sz&&Nat.ble (off+m.length) r.sz&&W5 p (E7 A (parts s)++gone y s) then (match mkW r (setAll (lvs r (xs.getD i.toNat r.dflt)) off m) with
    |some z=>K (E7 A (parts s)++gone y s++[⟨p,true,.one (.own e r (xs.set i.toNat z))⟩])
    |none=>none) else none
   |_=>none)
  |some ti,some (.one (.dp p v (some pi) _ r xs i off)),some s=>(match W0 A y s with
   |some (m,us)=>(match get A p with
    |(n,.one (.own E0 R0 XS))=>bif Nat.beq n v&&I1 m&&Nat.beq m.length ti.ty.sz&&Nat.ble (off+m.length) r.sz&&W5 p us&&Cf R0 then (match mkW r (setAll (A4 r (xs.getD i.toNat r.dflt)) off m) with
     |some z=>(match U5 r (xs.set i.toNat z) pi R0 XS with
      |some XS'=>K (us++[⟨p,false,.one (.own E0 R0 XS')⟩])
      |none=>none)
     |none=>none) else none
    |_=>none)
   |none=>none)
  |_,_,_=>none
 |.fieldAddr T x j,some d=>match E.ti T,opT E 0 A x with
  |some ti,some (.one y)=>(match nth ti.fo j with
   |some o=>bif ti.ag&&Mi A y then K [⟨d,false,.one (W4 y o.1)⟩] else none
   |none=>none)
  |_,_=>none
 |.indexAddr T x i,some d=>bif E.opn d then (match opT E T A x,opT E 0 A i with
  |some (.one (.al p v)),some (.one (.sc (.int _ n)))=>(match get A p with
   |(m,.one (.own e r xs))=>bif Nat.beq m v&&Hu E T e&&!(Nat.beq p d) then L5 A (2000+d) p e r xs n (λ us=>K (us++[⟨d,false,.one (.bp (2000+d) ((get A (H (2000+d))).1+1) 0)⟩])) none else none
   |_=>none)
  |_,_=>none) else match opT E T A x,opT E 0 A i with
  |some (.one y),some (.one (.sc (.int _ n)))=>(match y,E8 A y with
   |.al p v,.own e r xs=>bif Hu E T e&&decide (0≤n) then (bif decide (n<(xs.length:Int)) then (bif Ei r then K [⟨d,false,.one (.ep p v n 0)⟩] else bif Cf r then K [⟨d,false,.one (.dp p v (some []) e r xs n 0)⟩] else none) else none) else none
   |.da p v pi e r xs,_=>bif Hu E T e&&Nat.beq (get A p).1 v&&decide (0≤n) then (bif decide (n<(xs.length:Int)) then K [⟨d,false,.one (.dp p v pi e r xs n 0)⟩] else none) else none
   |.al p v,.dead=>(match get A p with
    |(m,.one (.opn e _ _ i b vb))=>bif Nat.beq m v&&Hu E T e then (bif decide (n=i) then K [⟨d,false,.one (.bp b vb 0)⟩] else none) else none
    |_=>none)
   |_,.fz e r xs=>bif Hu E T e&&decide (0≤n) then (bif decide (n<(xs.length:Int)) then K [⟨d,false,.one (.fp r (xs.getD n.toNat r.dflt) 0)⟩] else none) else none
   |_,.own e r xs=>(match x with
    |.tmp t=>bif Hu E T e&&decide (0≤n) then (bif decide (n<(xs.length:Int)) then (bif Ei r then K [⟨d,false,.one (.ep t (get A t).1 n 0)⟩] else bif Cf r then K [⟨d,false,.one (.dp t (get A t).1 (some []) e r xs n 0)⟩] else none) else none) else none
    |_=>none)
   |_,_=>none)
  |_,_=>none
 |.index T x i,some d=>match opT E 0 A x,opT E 0 A i with
  |some (.one (.sc (.string s))),some (.one (.sc (.int _ n)))=>bif Oy E T&&decide (0≤n) then (bif decide (n<(s.size:Int)) then K [⟨d,false,.one (.sc (.int .u8 (bt s n)))⟩] else none) else none
  |_,_=>none
 |.slice T x lo hi none,some d=>(match Ms E A T x lo hi d with
  |some q=>bif q.1 then K q.2 else none
  |none=>(match opT E T A x,Ng E A lo,Ng E A hi with
   |some (.one (.sc (.string s))),some lo,some hi=>bif Oy E T then Qs lo hi s.size λ _=>
    K [⟨d,false,.one (.sc (.string (s.extract (match lo with|some l=>l.toNat|none=>0) (match hi with|some h=>h.toNat|none=>s.size))))⟩] else none
   |some (.one y),some lo,some hi=>(match y,E8 A y with
    |.own _ _ _,.own e r xs=>bif Hu E T e then (match lo with
     |none=>Qs lo hi xs.length λ _=>K (gone x (.one y)++[⟨d,false,.one (.own e r (Qy xs lo hi))⟩])
     |some _=>Qs lo hi xs.length λ _=>K (gone x (.one y)++[⟨d,false,.one (.fz e r (Qy xs lo hi))⟩])) else none
    |.al p v,.own e r xs=>bif Hu E T e then (bif E.mv d then (match lo with
      |none=>Qs lo hi xs.length λ _=>K [⟨p,false,.one .dead⟩,⟨d,false,.one (.own e r (Qy xs lo hi))⟩]
      |some _=>none)
     else bif Ei r then Qs lo hi xs.length λ _=>K (Km A y++[⟨d,false,.one (.fz e r (Qy xs lo hi))⟩])
     else bif Cf r then Qs lo hi xs.length λ _=>K [⟨d,false,.one (.da p v none e r (Qy xs lo hi))⟩] else none) else none
    |.da p v _ e r xs,_=>bif Hu E T e&&Nat.beq (get A p).1 v then Qs lo hi xs.length λ _=>K [⟨d,false,.one (.da p v none e r (Qy xs lo hi))⟩] else none
    |_,.fz e r xs=>bif Hu E T e then Qs lo hi xs.length λ _=>K [⟨d,false,.one (.fz e r (Qy xs lo hi))⟩] else none
    |_,_=>none)
   |_,_,_=>none))
 |.buildSlice T n ps,some d=>match E.ti T with
  |some ⟨.sl e r,false,_,_⟩=>bif Nat.beq n ps.size&&Nat.ble (n*r.sz) 16777216&&(E.ti e).isSome then (match E.hint d with
   |none=>bif Ei r then (match P5 E A e r 0 ps.toList with
    |some (ys,us)=>K (us++[⟨d,false,.one (.own e r ys)⟩])
    |none=>none) else none
   |some r2=>bif decide (shp r2=shp r)&&Cf r2 then (match P6 E A e r2 0 ps.toList with
    |some (ys,us)=>K (us++[⟨d,false,.one (.own e r2 ys)⟩])
    |none=>none) else none) else none
  |_=>none
 |.makeSlice T x y,some d=>match E.ti T,opT E 0 A x,opT E 0 A y with
  |some ⟨.sl e r,false,_,_⟩,some (.one (.sc (.int .i64 n))),some (.one (.sc (.int .i64 m)))=>(match E.ti e with
   |some te=>bif Kf te.ty r&&decide (n=m) then (bif decide (0≤n) then (bif decide (n*te.by_≤140737488355328) then (match E.hint d with
    |none=>K [⟨d,false,.one (.own e r (List.replicate n.toNat r.dflt))⟩]
    |some r2=>bif decide (shp r2=shp r) then K [⟨d,false,.one (.own e r2 (List.replicate n.toNat r2.dflt))⟩] else none) else none) else none) else none
   |none=>none)
  |_,_,_=>none
 |.call c,d=>match c.callee with
  |.builtin .len=>(match c.argTypes.toList,c.args.toList,d with
   |[T],[x],some d=>(match opT E T A x with
    |some (.one y)=>(match E8 A y with
     |.sc (.string s)=>bif Oy E T then K [⟨d,false,.one (.sc (.int .i64 (s.size:Int)))⟩] else none
     |.da p v _ e _ xs=>bif Hu E T e&&Nat.beq (get A p).1 v then K [⟨d,false,.one (.sc (.int .i64 (xs.length:Int)))⟩] else none
     |.fz e _ xs=>bif Hu E T e then K [⟨d,false,.one (.sc (.int .i64 (xs.length:Int)))⟩] else none
     |.own e _ xs=>bif Hu E T e then K [⟨d,false,.one (.sc (.int .i64 (xs.length:Int)))⟩] else none
     |_=>none)
    |_=>none)
   |_,_,_=>none)
  |.builtin .min=>(match J9 E c.argTypes.toList A c.args.toList,d with
   |some (.one (.sc (.int k x))::l),some d=>Hw false l k x λ u=>K [⟨d,false,.one (.sc u)⟩]
   |_,_=>none)
  |.builtin .max=>(match J9 E c.argTypes.toList A c.args.toList,d with
   |some (.one (.sc (.int k x))::l),some d=>Hw true l k x λ u=>K [⟨d,false,.one (.sc u)⟩]
   |_,_=>none)
  |.builtin .append=>(match c.argTypes.toList,c.args.toList,d with
   |[T,T'],[x,y],some d=>(match opT E T A x,opT E T' A y with
    |some (.one u),some (.one w)=>(match E8 A u with
     |.own e r xs=>(match E.hint d with
      |some r2=>(match opT E T' (ups A (Mq u x)) y with
       |some (.one w2)=>(match E8 (ups A (Mq u x)) w2,Ht r2 r xs,E.ti e with
        |.own e' r' ys,some xs2,some te=>(match Ht r2 r' ys with
         |some ys2=>bif Cf r2&&Nat.beq e e'&&Hu E T e&&Nat.beq T T' then (bif Nat.ble ((xs2.length+ys2.length)*te.by_) 140737488355328 then
           K (Mq u x++(Mq w2 y++[⟨d,false,.one (.own e r2 (xs2++ys2))⟩])) else none) else none
         |none=>none)
        |.par e' r' ys m,some xs2,some te=>(match Ht r2 r' ys with
         |some ys2=>bif Nat.beq m 0&&(Cf r2&&Nat.beq e e'&&Hu E T e&&Nat.beq T T') then (bif Nat.ble ((xs2.length+ys2.length)*te.by_) 140737488355328 then
           K (Mq u x++(Mq w2 y++[⟨d,false,.one (.own e r2 (xs2++ys2))⟩])) else none) else none
         |none=>none)
        |_,_,_=>none)
       |_=>none)
      |none=>bif Ei r then (match Qv A w with
       |some ⟨e',r',ys⟩=>(match I0 r r' ys,E.ti e with
        |some ys,some te=>bif Nat.beq e e'&&Hu E T e&&Nat.beq T T' then (bif Nat.ble ((xs.length+ys.length)*te.by_) 140737488355328 then
          K (Mq u x++[⟨d,false,.one (.own e r (xs++ys))⟩]) else none) else none
        |_,_=>none)
       |none=>(match w with
        |.sc (.string s)=>(match I0 r (.i .u8) (bytesOf s),E.ti e with
         |some ys,some ⟨.i .u8,false,1,_⟩=>bif Hu E T e&&Oy E T'&&Nat.ble ((xs.length+s.size)*1) 140737488355328 then
          K (Mq u x++[⟨d,false,.one (.own e r (xs++ys))⟩]) else none
         |_,_=>none)
        |_=>none)) else none)
     |_=>none)
    |_,_=>none)
   |_,_,_=>none)
  |.value (.func f)=>(match E.call f,J9 E c.argTypes.toList A c.args.toList with
   |some en,some ss=>bif W8 en.ps then Ws E A en (c.argTypes.toList.zip c.args.toList) d K else Nf E A en (c.argTypes.toList.zip c.args.toList) [] ss d K
   |_,_=>none)
  |.value (.tmp t)=>(match opT E 0 A (.tmp t) with
   |some (.one (.fn f bs))=>(match E.call f,J9 E c.argTypes.toList A c.args.toList with
    |some en,some ss=>bif Fk A bs then Nf E A en (c.argTypes.toList.zip c.args.toList) bs ss d K else none
    |_,_=>none)
   |_=>none)
  |_=>none
 |_,_=>none
def Bga (A:Ab) (p t B:Nat):Option (List Up):=match (get A p).2,(get A t).2 with
 |.one (.own e r xs),.one (.sc (.int _ i))=>Id A B p e r xs i
 |_,_=>none
def U7 (A:Ab) (d B:Nat):Option (List Up):=match (get A d).2 with
 |.one (.ep p v i off)=>(match get A p with
  |(n,.one (.own e r xs))=>bif Nat.beq n v&&Ei r&&!(Nat.beq p d) then (match Id A B p e r xs i with
   |some us=>some (us++[⟨d,false,.one (.bp B ((get A (H B)).1+1) off)⟩])
   |none=>none) else none
  |_=>none)
 |.one (.dp p v (some []) _ _ _ i off)=>(match get A p with
  |(n,.one (.own e r xs))=>bif Nat.beq n v&&!(Ei r)&&!(Nat.beq p d) then (match Id A B p e r xs i with
   |some us=>some (us++[⟨d,false,.one (.bp B ((get A (H B)).1+1) off)⟩])
   |none=>none) else none
  |_=>none)
 |_=>none
def Wt (A:Ab) (p:Nat):Option (List Up):=match (get A p).2 with
 |.one (.opn _ r0 _ _ b v)=>(match I2 A b v r0 r0 with
  |some (l,us)=>(match (get (ups A us) p).2 with
   |.one (.opn e r xs i b' v')=>bif Nat.beq b b'&&Nat.beq (get (ups A us) (H b)).1 v'&&Nat.ble 2000 b&&Nat.beq l.length r.sz&&((Ei r&&!(C0 l))||(Cf r&&I1 l)) then (match mkW r l with
    |some z=>some (us++[⟨H b,false,.one .dead⟩,⟨p,false,.one (.own e r (xs.set i.toNat z))⟩])
    |none=>none) else none
   |_=>none)
  |none=>none)
 |_=>none
def L6 (E:En) (A:Ab) (K:Ab→Option R):Gh→Option R
 |.cl p=>(match Wt A p with
  |some us=>K (ups A us)
  |none=>K A)
 |.op p t B=>bif Nat.blt t E.nt then (match (get A p).2,(get A t).2 with
  |.one (.own e r xs),.one (.sc (.int _ i))=>L5 A B p e r xs i (λ us=>K (ups A us)) (K A)
  |_,_=>K A) else K A
 |.oc p i B=>(match (get A p).2 with
  |.one (.own e r xs)=>L5 A B p e r xs i (λ us=>K (ups A us)) (K A)
  |_=>K A)
 |.sp p t B=>bif Nat.blt t E.nt&&(Nat.ble 2000 B&&Nat.blt B 3000)&&!(Nat.beq p (C B 0))&&!(Nat.beq p (C B 1)) then (match get A p,(get A t).2,(get A (H B)).2 with
  |(_,.one (.own e r xs)),.one (.sc (.int _ i)),.one .dead=>bif Cf r then (bif decide (0≤i)&&decide (i≤(xs.length:Int)) then
    K (ups A [⟨C B 0,false,.one (.par e r (xs.take i.toNat) 0)⟩,⟨C B 1,false,.one (.par e r xs i.toNat)⟩,⟨p,false,.one (.two (C B 0) ((get A (C B 0)).1+1) ((get A (C B 1)).1+1))⟩]) else none) else K A
  |_,_,_=>K A) else K A
 |.od d B=>bif Nat.blt d E.nt then (match (get A d).2 with
  |.one (.ep p v i off)=>(match get A p with
   |(n,.one (.own e r xs))=>bif Nat.beq n v&&Ei r&&!(Nat.beq p d) then L5 A B p e r xs i (λ us=>K (ups A (us++[⟨d,false,.one (.bp B ((get A (H B)).1+1) off)⟩]))) (K A) else K A
   |_=>K A)
  |.one (.dp p v (some []) _ _ _ i off)=>(match get A p with
   |(n,.one (.own e r xs))=>bif Nat.beq n v&&!(Ei r)&&!(Nat.beq p d) then L5 A B p e r xs i (λ us=>K (ups A (us++[⟨d,false,.one (.bp B ((get A (H B)).1+1) off)⟩]))) (K A) else K A
   |_=>K A)
  |_=>K A) else K A
def Gb (E:En):List Gh→Ab→(Ab→Option R)→Option R
 |[],A,K=>K A
 |g::l,A,K=>L6 E A (λ A=>Gb E l A K) g
def P8 (E:En) (o:Oper):Bool:=match o.dst with
 |some d=>Nat.blt d E.nt
 |none=>true
def Wu (ops:List Oper) (j:Nat):Option Nat:=match nth ops j with
 |some o=>o.dst
 |none=>none
def Ie (o:Oper) (A:Ab):Ab:=match o.dst with
 |some d=>up A ⟨d,false,.one .un⟩
 |none=>A
def lit (A:Ab) (d n:Nat) (v:Bool):Ab:=(d,n,.one (.sc (.bool v)))::A
def L7 (E:En) (ops:List Oper):List Nat→Ab→(Ab→Option R)→Option R
 |[],A,K=>K A
 |i::l,A,K=>match nth ops i with
  |none=>none
  |some o=>bif P8 E o then (match o.guard with
   |none=>Af E o A λ U=>L7 E ops l (ups A U) K
   |some (j,want)=>(match Wu ops j with
    |none=>none
    |some dj=>bif Nat.blt dj E.nt then (match get A dj with
     |(n,.one (.sc (.bool b)))=>
      bif b then (bif want then Af E o (lit A dj n true) λ U=>L7 E ops l (ups (lit A dj n true) U) K else L7 E ops l (Ie o (lit A dj n true)) K)
      else (bif want then L7 E ops l (Ie o (lit A dj n false)) K else Af E o (lit A dj n false) λ U=>L7 E ops l (ups (lit A dj n false) U) K)
     |(_,.one .un)=>L7 E ops l (Ie o A) K
     |_=>none) else none))
   else none
def rdC (A:Ab) (b:Nat):Nat→Nat→List Nat
 |_,0=>[]
 |j,n+1=>C b j::((match (get A (C b j)).2 with
  |.one (.al p _)=>[p]
  |_=>[])++rdC A b (j+1) n)
def rdL (A:Ab):Lf→List Nat
 |.al p _=>[p]
 |.ep p _ _ _=>[p]
 |.da p _ _ _ _ _=>[p]
 |.dp p _ _ _ _ _ _ _=>[p]
 |.bp b _ off=>H b::(match (get A (H b)).2 with
  |.one (.hd n)=>rdC A b off (n-off)
  |_=>[])
 |.fn _ bs=>bs.flatMap λ b=>H b.1::(match (get A (H b.1)).2 with
  |.one (.hd n)=>rdC A b.1 0 (n-0)
  |_=>[])
 |_=>[]
def I2a (A:Ab):List Lf→List Nat
 |[]=>[]
 |y::l=>rdL A y++I2a A l
def rdO (A:Ab):Operand→List Nat
 |.tmp t=>t::I2a A (parts (get A t).2)
 |_=>[]
def Bda (A:Ab):List Operand→List Nat
 |[]=>[]
 |x::l=>rdO A x++Bda A l
def Dv:Op→List Operand
 |.move x | .assign x | .unOp _ _ x | .convert _ _ x | .nilCheck x | .extract x _ | .field _ x _ | .box _ x | .load _ x | .fieldAddr _ x _=>[x]
 |.pick c x y=>[c,x,y]
 |.binOp _ _ x y _ | .store _ x y | .makeSlice _ x y | .indexAddr _ x y | .index _ x y=>[x,y]
 |.build _ ps | .buildSlice _ _ ps=>ps.toList.map Prod.snd
 |.slice _ x lo hi _=>x::(lo.toList++hi.toList)
 |.call c=>(match c.callee with
  |.value x=>x::c.args.toList
  |_=>c.args.toList)
 |.makeFunc _ f c=>f.toList++c.toList
 |_=>[]
def rdD:Option Nat→List Nat
 |some d=>[d,H d,H (2000+d)]
 |none=>[]
def rdH:Lf→List Nat
 |.bp b _ _=>[H b]
 |.ep p _ _ _=>[p]
 |.dp p _ _ _ _ _ _ _=>[p]
 |_=>[]
def Gga:List Lf→List Nat
 |[]=>[]
 |y::l=>rdH y++Gga l
def rdP (A:Ab):Operand→List Nat
 |.tmp t=>t::Gga (parts (get A t).2)
 |_=>[]
def rdT:Operand→List Nat
 |.tmp t=>[t]
 |_=>[]
def I6a (A:Ab):Operand→List Nat
 |.tmp t=>(match (get A t).2 with
  |.one (.io p)=>[p]
  |_=>[])
 |_=>[]
def U8 (A:Ab):Operand→Option Operand→List Nat
 |.tmp t,lo=>(match (get A t).2,lo with
  |.one (.two q _ _),none=>[q]
  |.one (.two q _ _),some _=>[q+1]
  |_,_=>[])
 |_,_=>[]
def I3a (E:En) (o:Oper):Bool:=match o.op with
 |.call c=>(match c.callee with
  |.value (.func f)=>(match E.call f with
   |some en => !(W8 en.ps)
   |none=>true)
  |_=>true)
 |_=>true
def G5a (A:Ab):List Lf→List Nat
 |[]=>[]
 |.al p _::l=>(bif Nat.ble 1000 p then H (p/1000-1)::(match (get A (H (p/1000-1))).2 with
  |.one (.hd n)=>rdC A (p/1000-1) 0 (n-0)
  |_=>[]) else [])++G5a A l
 |_::l=>G5a A l
def Eda (A:Ab):List Operand→List Nat
 |[]=>[]
 |.tmp t::l=>(match (get A t).2 with
  |.agg ys=>G5a A ys
  |_=>[])++Eda A l
 |_::l=>Eda A l
def G6a (A:Ab):Op→List Nat
 |.call c=>Bda A (Dv (.call c))++Eda A c.args.toList
 |.move x=>rdT x++I6a A x
 |.slice T x lo hi m=>Bda A (Dv (.slice T x lo hi m))++U8 A x lo
 |.nilCheck x | .fieldAddr _ x _=>rdP A x
 |op=>Bda A (Dv op)
def rds (A:Ab) (o:Oper):List Nat:=rdD o.dst++G6a A o.op
structure Lg where
 i:Nat
 anc:Nat
 F:List Nat
 W:List Nat
 ex:Option (Nat×Nat×Nat)
def G7a (p:Nat):List Nat→Bool
 |[]=>false
 |q::l=>Nat.beq q p||G7a p l
def G8a:List Nat→List Nat→Bool
 |[],_=>true
 |p::l,m => !(G7a p m)&&G8a l m
def Wv (x y:Lg):Bool:=(G8a x.W y.F&&G8a y.W x.F)||(match x.ex,y.ex with
 |some (t,j,d),some (t',j',d')=>Nat.beq t t'&&!(Nat.beq j j')&&!(Nat.beq d d')&&!(Nat.beq d t)&&!(Nat.beq d' t)
 |_,_=>false)
def aft (o:Oper):List Nat:=o.after.toList.filterMap λ e=>bif Region.binds .any e then some e.on else none
def Ww:List Lg→Nat→Nat
 |[],_=>0
 |x::l,j=>bif Nat.beq x.i j then x.anc else Ww l j
def Dfa (lg:List Lg):List Nat→Nat
 |[]=>0
 |j::l=>(2 ^ j ||| Ww lg j) ||| Dfa lg l
def Wx (l:List Lg) (y:Lg):Bool:=l.all λ x=>Nat.testBit y.anc x.i||Wv x y
def Gha (o:Oper):Option (Nat×Nat×Nat):=match o.op,o.dst with
 |.extract (.tmp t) j,some d=>some (t,j,d)
 |_,_=>none
def Mt (o:Oper) (i:Nat) (lg:List Lg) (g:List Nat) (A:Ab) (U:List Up):Lg:=⟨i,Dfa lg (aft o),g++rds A o++U.map Up.l,U.map Up.l,bif g.isEmpty then Gha o else none⟩
def Ig (o:Oper) (i:Nat) (lg:List Lg) (g:List Nat):Lg:=⟨i,Dfa lg (aft o),g++o.dst.toList,o.dst.toList,none⟩
def Dn (E:En) (ops:List Oper):List Nat→List Lg→Ab→(Ab→Option R)→Option R
 |[],_,A,K=>K A
 |i::l,lg,A,K=>match nth ops i with
  |none=>none
  |some o=>bif (P8 E o&&I3a E o)&&(aft o).all (λ j=>Nat.blt j i) then (match o.guard with
   |none=>Af E o A λ U=>bif Wx lg (Mt o i lg [] A U) then Dn E ops l (Mt o i lg [] A U::lg) (ups A U) K else none
   |some (j,want)=>(match Wu ops j with
    |none=>none
    |some dj=>bif Nat.blt dj E.nt then (match get A dj with
     |(n,.one (.sc (.bool b)))=>
      bif b then (bif want then Af E o (lit A dj n true) λ U=>bif Wx lg (Mt o i lg [dj] (lit A dj n true) U) then Dn E ops l (Mt o i lg [dj] (lit A dj n true) U::lg) (ups (lit A dj n true) U) K else none
       else bif Wx lg (Ig o i lg [dj]) then Dn E ops l (Ig o i lg [dj]::lg) (Ie o (lit A dj n true)) K else none)
      else (bif want then bif Wx lg (Ig o i lg [dj]) then Dn E ops l (Ig o i lg [dj]::lg) (Ie o (lit A dj n false)) K else none
       else Af E o (lit A dj n false) λ U=>bif Wx lg (Mt o i lg [dj] (lit A dj n false) U) then Dn E ops l (Mt o i lg [dj] (lit A dj n false) U::lg) (ups (lit A dj n false) U) K else none)
     |(_,.one .un)=>bif Wx lg (Ig o i lg [dj]) then Dn E ops l (Ig o i lg [dj]::lg) (Ie o A) K else none
     |_=>none) else none))
   else none
def Dga (E:En) (ops:List Oper) (A:Ab) (K:Ab→Option R):Option R:=Dn E ops (List.range ops.length) [] A K
def first:Code→Nat
 |.region id _ _=>id
 |.seq a _=>first a
 |.block _ c=>first c
 |.loop c=>first c
 |.scope c=>first c
 |.cond _ a _=>first a
 |_=>0
def Ih (vs:List (Nat×Ty)) (p:Nat):Bool:=vs.any (λ x=>Nat.beq x.1 p&&(match x.2 with | .ow _ _=>true|_=>false))
def G9a:Ty→Bool
 |.ow _ _=>true
 |_=>false
def Bha (A:Ab) (vs:List (Nat×Ty)) (l:Nat) (t:Ty):Option t.den:=
 match (get A l).2 with
 |.one (.al p v)=>bif Ih vs p then none else mkW t [Fu (E8 A (.al p v))]
 |.one (.own e r xs)=>bif G9a t then mkW t [.own e r xs] else bif Ih vs l then none else mkW t [.fz e r xs]
 |.one x=>mkW t [x]
 |_=>none
def Bia:Nat→Ty→List (Nat×Ty)
 |l,.pr t u=>Bia l t++Bia (l+t.sz) u
 |l,t=>[(l,t)]
def Nh:List (Nat×Ty)→List (Nat×Ty)
 |[]=>[]
 |v::l=>Bia v.1 v.2++Nh l
def Gaa (A:Ab) (all:List (Nat×Ty)):Nat→(t:Ty)→Option t.den
 |l,.pr t u=>match Gaa A all l t with
  |some x=>(match Gaa A all (l+t.sz) u with
   |some y=>some (x,y)
   |none=>none)
  |none=>none
 |l,.i k=>Bha A all l (.i k)
 |l,.b=>Bha A all l .b
 |l,.s=>Bha A all l .s
 |l,.sl e r=>Bha A all l (.sl e r)
 |l,.ow e r=>Bha A all l (.ow e r)
def Bja (A:Ab) (all:List (Nat×Ty)):(vs:List (Nat×Ty))→Option (Den (vs.map Prod.snd))
 |[]=>some ()
 |[v]=>Gaa A all v.1 v.2
 |v::w::l=>match Gaa A all v.1 v.2 with
  |some x=>(match Bja A all (w::l) with
   |some y=>some (x,y)
   |none=>none)
  |none=>none
def Qz:List (Nat×Nat)→List (Nat×Nat)→Bool
 |[],[]=>true
 |a::l,b::m=>Nat.beq a.1 b.1&&Nat.beq a.2 0&&Qz l m
 |_,_=>false
def Wy (A:Ab):List (Nat×Lf)→Bool
 |[]=>true
 |(l,.bp b v0 off)::cs=>(match get A l with
  |(_,.one (.bp b' v off'))=>Nat.beq v0 0&&Nat.beq b b'&&Nat.beq off off'&&(match get A (H b) with
   |(n,.one (.hd _))=>Nat.beq n v
   |_=>false)
  |_=>false)&&Wy A cs
 |(l,.hd m)::cs=>(match get A l with
  |(_,.one (.hd m'))=>Nat.beq m m'
  |_=>false)&&Wy A cs
 |(l,.fn F bs)::cs=>(match get A l with
  |(_,.one (.fn F' bs'))=>Nat.beq F F'&&Qz bs bs'&&Fk A bs'
  |_=>false)&&Wy A cs
 |(l,.io p)::cs=>(match get A l with
  |(_,.one (.io p'))=>Nat.beq p p'
  |_=>false)&&Wy A cs
 |_=>false
def Eea (v:Ox) (A:Ab):Option v.den:=bif Wy A v.cs then Bja A (Nh v.vs) v.vs else none
def Wz:Nat→(t:Ty)→t.den→Ab
 |l,.pr t u,x=>Wz l t x.1++Wz (l+t.sz) u x.2
 |l,.i k,x=>[(l,0,.one (.sc (.int k x)))]
 |l,.b,x=>[(l,0,.one (.sc (.bool x)))]
 |l,.s,x=>[(l,0,.one (.sc (.string x)))]
 |l,.sl e r,x=>[(l,0,.one (.fz e r x))]
 |l,.ow e r,x=>[(l,0,.one (.own e r x))]
def P9:(vs:List (Nat×Ty))→Den (vs.map Prod.snd)→Ab
 |[],_=>[]
 |[v],x=>Wz v.1 v.2 x
 |v::w::l,x=>Wz v.1 v.2 x.1++P9 (w::l) x.2
def Ki (v:Ox) (x:v.den):Ab:=P9 v.vs x++v.cs.map λ c=>(c.1,0,.one c.2)
def Efa (K:Ex→Ab→Option R):(l:List (Ex×Ox))→Bea l→Option R
 |[],x=>nomatch x
 |[a],x=>K a.1 (Ki a.2 x)
 |a::b::l,x=>Sum.elim (λ y=>K a.1 (Ki a.2 y)) (λ z=>Efa K (b::l) z) x
def exB:Ex→Ex→Bool
 |.normal,.normal=>true
 |.exit i,.exit j=>Nat.beq i j
 |.ret,.ret=>true
 |_,_=>false
def U9 (e:Ex) (A:Ab):(l:List (Ex×Ox))→Option (Bea l)
 |[]=>none
 |[a]=>bif exB e a.1 then Eea a.2 A else none
 |a::b::l=>bif exB e a.1 then (match Eea a.2 A with|some x=>some (.inl x)|none=>none) else (match U9 e A (b::l) with|some x=>some (.inr x)|none=>none)
def I4a (E:En) (A:Ab) (c:Operand) (v:Bool):Ab:=match c with
 |.tmp t=>bif E.rf then up A ⟨t,true,.one (.sc (.bool v))⟩ else A
 |_=>A
def Fl (E:En):Code→Ab→(Ex→Ab→Option R)→Option R
 |.skip,A,K=>K .normal A
 |.region id ops draw,A,K=>Gb E (E.gh id) A λ A=>bif draw then Dga E ops.toList A (K .normal) else L7 E ops.toList (List.range ops.size) A (K .normal)
 |.seq a b,A,K=>Fl E a A λ e A'=>match e with
  |.normal=>Fl E b A' K
  |e=>K e A'
 |.cond c x y,A,K=>match opT E 0 A c with
  |some (.one (.sc (.bool b)))=>bif b then Fl E x (I4a E A c true) K else Fl E y (I4a E A c false) K
  |_=>none
 |.block id c,A,K=>Fl E c A λ e A'=>match e with
  |.exit i=>bif Nat.beq i id then K .normal A' else K (.exit i) A'
  |e=>K e A'
 |.loop c,A,K=>match E.lp (first c) with
  |some L=>Gb E (E.gh (1000001+first c)) A λ A=>(match Eea L.ins A with
   |some x=>(L.run x).bind λ r=>Efa K L.alts r
   |none=>none)
  |none=>none
 |.exit id,A,K=>K (.exit id) A
 |.ret,A,K=>K .ret A
 |_,_,_=>none
def Di (l:Nat):Code→Code
 |.seq a b=>match Di l a with
  |.skip=>Di l b
  |c=>c
 |.cond _ a b=>match Di l a with
  |.skip=>Di l b
  |c=>c
 |.block _ c=>Di l c
 |.loop c=>bif Nat.beq (first c) l then c else Di l c
 |_ => .skip
def X2 (E:En) (L:Lp) (c:Code) (x:L.ins.den):Option (Bea L.alts):=
 Fl E c (Ki L.ins x) λ e A=>match e with
  |.normal=>Gb E (E.gh (1000001+first c)) A λ A=>(match Eea L.ins A with
   |some y=>L.run y
   |none=>none)
  |e=>Gb E (E.gh (1000001+first c)) A λ A=>U9 e A L.alts
def Dha:List Lf→Lf
 |[x]=>x
 |_ => .dead
def bid (nv i:Nat):Nat:=bif Nat.blt i nv then i else 1500+(i-nv)
def vwL (B:Nat):Nat→List Lf→List Lf
 |_,[]=>[]
 |j,.own _ _ _::l => .al (C B j) 0::vwL B (j+1) l
 |j,x::l=>x::vwL B (j+1) l
def L8 (B:Nat):Nat→List Lf→Ab
 |_,[]=>[]
 |j,x::l=>(C B j,0,.one x)::L8 B (j+1) l
def ioL (B:Nat):Nat→List Lf→List Lf
 |_,[]=>[]
 |j,.own _ _ _::l => .io (C B j)::ioL B (j+1) l
 |j,x::l=>x::ioL B (j+1) l
def Ds (nv:Nat):Nat→List Par→List (List Lf)→Ab
 |i,.io ag _::ps,l::ls=>(i,0,(bif ag then .agg (vwL (3000+i) 0 l) else .one (Dha (ioL (3000+i) 0 l))))::(L8 (3000+i) 0 l++Ds nv (i+1) ps ls)
 |i,.vw _ h::ps,l::ls=>(i,0,.agg (vwL (bid nv h) 0 l))::Ds nv (i+1) ps ls
 |i,.val ag _::ps,l::ls=>(i,0,(bif ag then .agg l else .one (Dha l)))::Ds nv (i+1) ps ls
 |i,.ptr t _::ps,l::ls=>(i,0,.one (.bp i 0 0))::(H i,0,.one (.hd t.sz))::(ups [] (B3 i 0 l)++Ds nv (i+1) ps ls)
 |i,.hid t _::ps,l::ls=>(H (bid nv i),0,.one (.hd t.sz))::(L8 (bid nv i) 0 l++Ds nv (i+1) ps ls)
 |i,.rd t::ps,l::ls=>(match mkW t l with
  |some x=>(i,0,.one (.fp t x 0))::Ds nv (i+1) ps ls
  |none=>Ds nv (i+1) ps ls)
 |i,.fn F m::ps,_::ls=>(i,0,.one (.fn F ((List.range m).map λ j=>(bid nv (nv+j),0))))::Ds nv (i+1) ps ls
 |_,_,_=>[]
def I7a (nv:Nat) (ps:List Par) (x:Den (ps.map Par.ty)):Ab:=Ds nv 0 ps (An _ x)
def R3 (np:Nat) (A:Ab) (k:RK) (t:Ty) (x:Operand) (s:Sv):Option (List Lf×List Up):=match k with
 |.ptr=>(match s with
  |.one (.bp b v 0)=>(match get A (H b) with
   |(n,.one (.hd m))=>bif Nat.beq n v&&(Nat.ble np b&&Nat.blt b 1000)&&Ei t&&Nat.beq m t.sz&&Nat.blt m 999&&A3 ((cellsOf A b 0 m).map (Ep A)) then some ((cellsOf A b 0 m).map (Ep A),E7 A (cellsOf A b 0 m)++[⟨H b,false,.one .dead⟩]) else none
   |_=>none)
  |_=>none)
 |k=>bif E5 (K5 k) s then Ic A x s t else none
def R4 (A:Ab) (t:Ty):Sv→Option (List Lf×List Up)
 |.one (.bp b v 0)=>I2 A b v t t
 |_=>none
def L9 (E:En):Ab→List (RK×Ty)→List ResultVar→Option (List (List Lf)×List Up)
 |_,[],[]=>some ([],[])
 |A,(k,t)::ks,.tmp x::rs=>bif Nat.blt x E.nt then (match R3 E.np A k t (.tmp x) (get A x).2 with
  |some (l,u)=>(match L9 E (ups A u) ks rs with
   |some (ls,us)=>some (l::ls,u++us)
   |none=>none)
  |none=>none) else none
 |A,(.agg,t)::ks,.cell x T::rs=>bif Nat.blt x E.nt&&(match E.ti T with|some ti=>ti.ag&&Nat.beq ti.ty.sz t.sz|none=>false) then (match R4 A t (get A x).2 with
  |some (l,u)=>(match L9 E (ups A u) ks rs with
   |some (ls,us)=>some (l::ls,u++us)
   |none=>none)
  |none=>none) else none
 |_,_,_=>none
def Iwa:Sv→Lf
 |.one (.sc v) => .sc v
 |.one (.fz e r xs) => .fz e r xs
 |_ => .dead
def Gia (A:Ab) (B:Nat):Nat→List Ty→List Lf
 |_,[]=>[]
 |j,.ow _ _::ts => .al (C B j) (get A (C B j)).1::Gia A B (j+1) ts
 |j,_::ts=>Iwa (get A (C B j)).2::Gia A B (j+1) ts
def Ega (A:Ab) (b:Nat) (t':Ty):Option (List Lf×List Up):=I2 A b (get A (H b)).1 t' t'
def X3 (nv:Nat):Ab→Nat→List Par→Option (List (List Lf))
 |_,_,[]=>some []
 |A,i,.ptr _ t'::ps=>(match Ega A (bid nv i) t' with
  |some (l,us)=>(match X3 nv (ups A us) (i+1) ps with
   |some ls=>some (l::ls)
   |none=>none)
  |none=>none)
 |A,i,.hid _ t'::ps=>(match Ega A (bid nv i) t' with
  |some (l,us)=>(match X3 nv (ups A us) (i+1) ps with
   |some ls=>some (l::ls)
   |none=>none)
  |none=>none)
 |A,i,.io _ t::ps=>(match Bw A (Ck t) (Gia A (3000+i) 0 (Ck t)) with
  |some (l,us)=>bif A3 l then (match X3 nv (ups A us) (i+1) ps with
   |some ls=>some (l::ls)
   |none=>none) else none
  |none=>none)
 |A,i,_::ps=>X3 nv A (i+1) ps
def X4 (E:En) (c:Code) (rv:List ResultVar) (en:Ent) (x:Den (en.ps.map Par.ty)):Option (Den (en.rs.map Prod.snd++Cw en.ps)):=
 Fl E c (I7a en.nv en.ps x) λ e A=>match e with
  |.exit _=>none
  |_=>Gb E (E.gh 1000000) A λ A=>match L9 E A en.rs rv with
   |some (ls,us)=>(match X3 en.nv (ups A us) 0 en.ps with
    |some bs=>Ib (en.rs.map Prod.snd++Cw en.ps) (ls++bs)
    |none=>none)
   |none=>none
end
def csi {R:Type} {c:Bool} {a:Option R} {r:R}:cond c a none=some r↔c=true∧a=some r:=by
 cases c with
 |false=>exact⟨λ h=>(nomatch h),λ h=>(nomatch h.1)⟩
 |true=>exact⟨λ h=>⟨rfl,h⟩,λ h=>h.2⟩
def cs {R:Type} {c:Bool} {a:Option R} {r:R} (h:cond c a none=some r):c=true∧a=some r:=csi.1 h

abbrev y0:=(ByteArray×(List Int))
abbrev y1:=((List y0)×(List y0))
def Cm (a0:List Int) (a1:Int):Option (Int):=cond (decide ((wrap .i64 (a1-(length a0:Int)))<0)) (some (-1)) (some (wrap .i64 (a1-(length a0:Int))))
def Cn (a0:y0) (a1:Int):Option (Int):=cond (decide ((wrap .i64 (a1-(ByteArray.size a0.1:Int)))<0)) (some (-1)) ((Cm a0.2 (wrap .i64 (a1-(ByteArray.size a0.1:Int)))).bind λ r1=>cond (decide (r1<0)) (some (-1)) (some r1))
def Bl:Nat→(List y0)→Int→Int→Option (Sum (Int) (Int))
 |0,_,_,_=>none
 |k+1,c,d,b=>cond (decide (b<(length c:Int))) (cond (decide ((0:Int)≤b)) (cond (decide (b<(length c:Int))) ((Cn (getD c (toNat b) ((⟨#[]⟩:ByteArray),[])) d).bind λ r2=>cond (decide (r2<0)) (some (.inl (-1))) (Bl k c r2 (wrap .i64 (b+1)))) none) none) (some (.inr d))
def Aq (k:Nat) (a0:List y0) (a1:Int):Option (Int):=cond (decide ((wrap .i64 (a1-(length a0:Int)))<0)) (some (-1)) ((Bl k a0 (wrap .i64 (a1-(length a0:Int))) 0).bind λ r1=>Sum.elim (λ y2=>some y2) (λ z3=>some z3) r1)
def D7 (k:Nat) (a0:y1) (a1:Int):Option (Int):=(Aq k a0.1 a1).bind λ r1=>cond (decide (r1<0)) (some (-1)) ((Aq k a0.2 r1).bind λ r2=>cond (decide (r2<0)) (some (-1)) (some r2))
def Bg:Nat→(List Int)→(List Int)→Int→Option (List Int)
 |0,_,_,_=>none
 |k+1,c,d,b=>cond (decide (b<(length c:Int))) (cond (decide ((0:Int)≤b)) (cond (decide (b<(length c:Int))) (cond (decide ((0:Int)≤b)) (cond (decide (b<(length d:Int))) (Bg k c (List.set d (toNat b) (getD c (toNat b) (0:Int))) (wrap .i64 (b+1))) none) none) none) none) (some d)
def C8 (k:Nat) (a0:List Int):Option (List Int):=cond (decide ((length a0:Int)=(length a0:Int))) (cond (decide ((0:Int)≤(length a0:Int))) (cond (decide ((length a0:Int)*(1:Nat)≤140737488355328)) ((Bg k a0 (List.replicate (toNat (length a0:Int)) (0:Int)) 0).bind λ r1=>some r1) none) none) none
def Co (k:Nat) (a0:y0):Option y0:=(C8 k a0.2).bind λ r1=>some (a0.1,r1)
def B8:Nat→(List y0)→(List y0)→Int→Option (List y0)
 |0,_,_,_=>none
 |k+1,c,d,b=>cond (decide (b<(length c:Int))) (cond (decide ((0:Int)≤b)) (cond (decide (b<(length c:Int))) ((Co k (getD c (toNat b) ((⟨#[]⟩:ByteArray),[]))).bind λ r2=>cond (decide ((0:Int)≤b)) (cond (decide (b<(length d:Int))) (B8 k c (List.set d (toNat b) r2) (wrap .i64 (b+1))) none) none) none) none) (some d)
def Ar (k:Nat) (a0:List y0):Option (List y0):=cond (decide ((length a0:Int)=(length a0:Int))) (cond (decide ((0:Int)≤(length a0:Int))) (cond (decide ((length a0:Int)*(40:Nat)≤140737488355328)) ((B8 k a0 (List.replicate (toNat (length a0:Int)) ((⟨#[]⟩:ByteArray),[])) 0).bind λ r1=>some r1) none) none) none
def Ca (k:Nat) (a0:y1):Option y1:=(Ar k a0.1).bind λ r1=>(Ar k a0.2).bind λ r2=>some (r1,r2)
def Bh:Nat→(List Int)→(List Int)→Int→Option (Sum (Bool) (Unit))
 |0,_,_,_=>none
 |k+1,c,d,b=>cond (decide (b<(length c:Int))) (cond (decide ((0:Int)≤b)) (cond (decide (b<(length c:Int))) (cond (decide ((0:Int)≤b)) (cond (decide (b<(length d:Int))) (cond ((getD c (toNat b) (0:Int)) != (getD d (toNat b) (0:Int))) (some (.inl false)) (Bh k c d (wrap .i64 (b+1)))) none) none) none) none) (some (.inr ()))
def C9 (k:Nat) (a0:List Int) (a1:List Int):Option (Bool):=cond ((length a0:Int) != (length a1:Int)) (some false) ((Bh k a0 a1 0).bind λ r1=>Sum.elim (λ y2=>some y2) (λ z3=>some true) r1)
def Cp (k:Nat) (a0:y0) (a1:y0):Option (Bool):=cond (!(a0.1.toList==a1.1.toList)) (some false) ((C9 k a0.2 a1.2).bind λ r1=>cond (!r1) (some false) (some true))
def B9:Nat→(List y0)→(List y0)→Int→Option (Sum (Bool) (Unit))
 |0,_,_,_=>none
 |k+1,c,d,b=>cond (decide (b<(length c:Int))) (cond (decide ((0:Int)≤b)) (cond (decide (b<(length c:Int))) (cond (decide ((0:Int)≤b)) (cond (decide (b<(length d:Int))) ((Cp k (getD c (toNat b) ((⟨#[]⟩:ByteArray),[])) (getD d (toNat b) ((⟨#[]⟩:ByteArray),[]))).bind λ r3=>cond (!r3) (some (.inl false)) (B9 k c d (wrap .i64 (b+1)))) none) none) none) none) (some (.inr ()))
def As (k:Nat) (a0:List y0) (a1:List y0):Option (Bool):=cond ((length a0:Int) != (length a1:Int)) (some false) ((B9 k a0 a1 0).bind λ r1=>Sum.elim (λ y2=>some y2) (λ z3=>some true) r1)
def Cb (k:Nat) (a0:y1) (a1:y1):Option (Bool):=(As k a0.1 a1.1).bind λ r1=>cond (!r1) (some false) ((As k a0.2 a1.2).bind λ r2=>cond (!r2) (some false) (some true))
def Az:Nat→Int→Int→(List Int)→Option (Int×(List Int))
 |0,_,_,_=>none
 |k+1,d,b,c=>cond (decide (b<(length c:Int))) (cond (decide ((0:Int)≤b)) (cond (decide (b<(length c:Int))) (Az k (wrap .i64 (d+1)) (wrap .i64 (b+1)) (List.set c (toNat b) (wrap .u8 d))) none) none) (some (d,c))
def Bm (k:Nat) (a0:List Int) (a1:Int):Option (Int×(List Int)):=(Az k a1 0 a0).bind λ r1=>some (r1.1,r1.2)
def Ba:Nat→Int→ByteArray→Option (ByteArray)
 |0,_,_=>none
 |k+1,b,c=>cond (decide (b > 0)) (cond (Nat.ble (ByteArray.size (Kg [wrap .u8 (wrap .i64 (48+(Int.tmod b 10)))])+ByteArray.size c) 9223372036854775807) (Ba k (wrap .i64 (Int.tdiv b 10)) ((Kg [wrap .u8 (wrap .i64 (48+(Int.tmod b 10)))])++c)) none) (some c)
def Ay (k:Nat) (a0:Int):Option (ByteArray):=cond (decide (a0≤0)) (some (⟨#[109,48]⟩:ByteArray)) ((Ba k a0 (⟨#[]⟩:ByteArray)).bind λ r1=>cond (Nat.ble (ByteArray.size (⟨#[109]⟩:ByteArray)+ByteArray.size r1) 9223372036854775807) (some ((⟨#[109]⟩:ByteArray)++r1)) none)
def Au:Nat→Int→Int→(List y0)→Option (Int×(List y0))
 |0,_,_,_=>none
 |k+1,d,b,c=>cond (decide (b<(length c:Int))) ((Ay k d).bind λ r1=>cond (decide ((0:Int)≤b)) (cond (decide (b<(length c:Int))) (let v3:=List.set c (toNat b) (r1,(getD c (toNat b) ((⟨#[]⟩:ByteArray),[])).2);cond (decide ((0:Int)≤b)) (cond (decide (b<(length v3:Int))) (let v4:=getD v3 (toNat b) ((⟨#[]⟩:ByteArray),[]);(Bm k v4.2 (wrap .i64 (d+1))).bind λ r5=>Au k r5.1 (wrap .i64 (b+1)) (List.set v3 (toNat b) (v4.1,r5.2))) none) none) none) none) (some (d,c))
def Aj (k:Nat) (a0:List y0) (a1:Int):Option (Int×(List y0)):=(Au k a1 0 a0).bind λ r1=>some (r1.1,r1.2)
def Bq (k:Nat) (a0:y1) (a1:Int):Option (Int×y1):=(Aj k a0.1 a1).bind λ r1=>(Aj k a0.2 r1.1).bind λ r2=>some (r2.1,(r1.2,r2.2))
def B0:Nat→(List Int)→Int→Int→Option (Sum (Int) (Int))
 |0,_,_,_=>none
 |k+1,c,d,b=>cond (decide (b<(length c:Int))) (cond (decide ((0:Int)≤b)) (cond (decide (b<(length c:Int))) (cond ((getD c (toNat b) (0:Int)) != (wrap .u8 d)) (some (.inl (-1))) (B0 k c (wrap .i64 (d+1)) (wrap .i64 (b+1)))) none) none) (some (.inr d))
def Bn (k:Nat) (a0:List Int) (a1:Int):Option (Int):=(B0 k a0 a1 0).bind λ r1=>Sum.elim (λ y2=>some y2) (λ z3=>some z3) r1
def Av:Nat→(List y0)→Int→Int→Option (Sum (Int) (Int))
 |0,_,_,_=>none
 |k+1,c,d,b=>cond (decide (b<(length c:Int))) (cond (decide ((0:Int)≤b)) (cond (decide (b<(length c:Int))) ((Ay k d).bind λ r2=>cond (!((getD c (toNat b) ((⟨#[]⟩:ByteArray),[])).1.toList==r2.toList)) (some (.inl (-1))) (cond (decide ((0:Int)≤b)) (cond (decide (b<(length c:Int))) ((Bn k (getD c (toNat b) ((⟨#[]⟩:ByteArray),[])).2 (wrap .i64 (d+1))).bind λ r4=>cond (decide (r4<0)) (some (.inl (-1))) (Av k c r4 (wrap .i64 (b+1)))) none) none)) none) none) (some (.inr d))
def Al (k:Nat) (a0:List y0) (a1:Int):Option (Int):=(Av k a0 a1 0).bind λ r1=>Sum.elim (λ y2=>some y2) (λ z3=>some z3) r1
def Br (k:Nat) (a0:y1) (a1:Int):Option (Int):=(Al k a0.1 a1).bind λ r1=>cond (decide (r1<0)) (some (-1)) ((Al k a0.2 r1).bind λ r2=>cond (decide (r2<0)) (some (-1)) (some r2))
def Aw:Nat→(List y0)→(List y0)→Int→Option (List y0)
 |0,_,_,_=>none
 |k+1,c,d,b=>cond (decide (b<(length c:Int))) (cond (decide ((0:Int)≤b)) (cond (decide (b<(length c:Int))) (let v1:=getD c (toNat b) ((⟨#[]⟩:ByteArray),[]);cond (decide ((0:Int)≤b)) (cond (decide (b<(length c:Int))) (let v2:=getD c (toNat b) ((⟨#[]⟩:ByteArray),[]);cond (Nat.ble ((length ([]:List Int)+length v2.2)*1) 140737488355328) (cond (Nat.ble ((length d+length [(v1.1,([]:List Int)++v2.2)])*40) 140737488355328) (Aw k c (d++[(v1.1,([]:List Int)++v2.2)]) (wrap .i64 (b+1))) none) none) none) none) none) none) (some d)
def B1 (k:Nat) (a0:List y0):Option (List y0):=(Aw k a0 ([]:List y0) 0).bind λ r1=>some r1
def Bv (k:Nat) (a0:y1):Option y1:=(B1 k a0.1).bind λ r1=>(B1 k a0.2).bind λ r2=>some (r1,r2)
def Ao:Nat→(List y0)→ByteArray→(List y0)→Bool→Int→ByteArray→(List Int)→Option ((List y0)×Bool×y0)
 |0,_,_,_,_,_,_,_=>none
 |k+1,c,d,e,h,b,f,g=>cond (decide (b<(length c:Int))) (cond (!h) (cond (decide ((0:Int)≤b)) (cond (decide (b<(length c:Int))) (cond (!(Op.bytesLess (getD c (toNat b) ((⟨#[]⟩:ByteArray),[])).1.toList d.toList)) (cond (Nat.ble ((length e+length [(f,g)])*40) 140737488355328) (let v2:List y0:=e++[(f,g)];cond (decide ((0:Int)≤b)) (cond (decide (b<(length c:Int))) (cond (!((getD c (toNat b) ((⟨#[]⟩:ByteArray),[])).1.toList==d.toList)) (cond (decide ((0:Int)≤b)) (cond (decide (b<(length c:Int))) (let v4:=getD c (toNat b) ((⟨#[]⟩:ByteArray),[]);cond (Nat.ble ((length v2+length [v4])*40) 140737488355328) (Ao k c d (v2++[v4]) true (wrap .i64 (b+1)) f g) none) none) none) (Ao k c d v2 true (wrap .i64 (b+1)) f g)) none) none) none) (cond (decide ((0:Int)≤b)) (cond (decide (b<(length c:Int))) (cond (!((getD c (toNat b) ((⟨#[]⟩:ByteArray),[])).1.toList==d.toList)) (cond (decide ((0:Int)≤b)) (cond (decide (b<(length c:Int))) (let v6:=getD c (toNat b) ((⟨#[]⟩:ByteArray),[]);cond (Nat.ble ((length e+length [v6])*40) 140737488355328) (Ao k c d (e++[v6]) h (wrap .i64 (b+1)) f g) none) none) none) (Ao k c d e h (wrap .i64 (b+1)) f g)) none) none)) none) none) (cond (decide ((0:Int)≤b)) (cond (decide (b<(length c:Int))) (cond (!((getD c (toNat b) ((⟨#[]⟩:ByteArray),[])).1.toList==d.toList)) (cond (decide ((0:Int)≤b)) (cond (decide (b<(length c:Int))) (let v8:=getD c (toNat b) ((⟨#[]⟩:ByteArray),[]);cond (Nat.ble ((length e+length [v8])*40) 140737488355328) (Ao k c d (e++[v8]) h (wrap .i64 (b+1)) f g) none) none) none) (Ao k c d e h (wrap .i64 (b+1)) f g)) none) none)) (some (e,h,f,g))
def D0 (k:Nat) (a0:List y0) (a1:ByteArray) (a2:List Int):Option (List y0):=cond (Nat.ble ((length ([]:List Int)+length a2)*1) 140737488355328) ((Ao k a0 a1 ([]:List y0) false 0 a1 (([]:List Int)++a2)).bind λ r1=>cond (!r1.2.1) (cond (Nat.ble ((length r1.1+length [r1.2.2])*40) 140737488355328) (some (r1.1++[r1.2.2])) none) (some r1.1)) none
def Dc (a0:Int) (a1:Int) (a2:Int):Option (Bool):=cond (decide (a0≥a1)) (some (decide (a0≤a2))) (some false)
def Ax:Nat→ByteArray→Int→Option (Sum (Bool) (ByteArray))
 |0,_,_=>none
 |k+1,b,c=>cond (decide (c<(ByteArray.size b:Int))) (cond (decide ((0:Int)≤c)) (cond (decide (c<(ByteArray.size b:Int))) ((Dc (wrap .i64 (bt b c)) 97 122).bind λ r1=>cond (!r1) ((Dc (wrap .i64 (bt b c)) 48 57).bind λ r2=>cond (!r2) (cond ((wrap .i64 (bt b c)) != 45) (cond ((wrap .i64 (bt b c)) != 95) (cond ((wrap .i64 (bt b c)) != 47) (some (.inl false)) (Ax k b (wrap .i64 (c+1)))) (Ax k b (wrap .i64 (c+1)))) (Ax k b (wrap .i64 (c+1)))) (Ax k b (wrap .i64 (c+1)))) (Ax k b (wrap .i64 (c+1)))) none) none) (some (.inr b))
def B6 (k:Nat) (a0:ByteArray):Option (Bool):=(Ax k a0 0).bind λ r1=>Sum.elim (λ y2=>some y2) (λ z3=>(Dc (ByteArray.size z3:Int) 1 20).bind λ r4=>some r4) r1
def Bo:Nat→(List y0)→Int→Option (Sum (Bool) (List y0))
 |0,_,_=>none
 |k+1,c,b=>cond (decide (b<(length c:Int))) (cond (decide ((0:Int)≤b)) (cond (decide (b<(length c:Int))) ((B6 k (getD c (toNat b) ((⟨#[]⟩:ByteArray),[])).1).bind λ r2=>cond (!r2) (some (.inl false)) (cond (decide ((0:Int)≤b)) (cond (decide (b<(length c:Int))) (cond (decide ((length (getD c (toNat b) ((⟨#[]⟩:ByteArray),[])).2:Int) > 400)) (some (.inl false)) (cond (decide (b > 0)) (cond (decide ((0:Int)≤wrap .i64 (b-1))) (cond (decide (wrap .i64 (b-1)<(length c:Int))) (cond (decide ((0:Int)≤b)) (cond (decide (b<(length c:Int))) (cond (!(Op.bytesLess (getD c (toNat (wrap .i64 (b-1))) ((⟨#[]⟩:ByteArray),[])).1.toList (getD c (toNat b) ((⟨#[]⟩:ByteArray),[])).1.toList)) (some (.inl false)) (Bo k c (wrap .i64 (b+1)))) none) none) none) none) (Bo k c (wrap .i64 (b+1))))) none) none)) none) none) (some (.inr c))
def Bi (k:Nat) (a0:List y0):Option (Bool):=(Bo k a0 0).bind λ r1=>Sum.elim (λ y2=>some y2) (λ z3=>some (decide ((length z3:Int)≤60))) r1
def Cl (k:Nat) (a0:y1):Option (Bool):=(Bi k a0.1).bind λ r1=>cond r1 ((Bi k a0.2).bind λ r2=>some r2) (some false)
def Cc (k:Nat) (a0:y1) (a1:y1) (a2:ByteArray):Option (y1×Bool):=(Cl k a0).bind λ r1=>cond (!r1) ((Bv k a0).bind λ r2=>some (r2,false)) ((B6 k a2).bind λ r3=>cond (!r3) ((Bv k a0).bind λ r4=>some (r4,false)) ((Cl k a1).bind λ r5=>cond (!r5) ((Bv k a0).bind λ r6=>some (r6,false)) (some (a1,true))))
def Cg:Nat→(List y0)→ByteArray→Int→Option (Sum (Int) (Unit))
 |0,_,_,_=>none
 |k+1,c,d,b=>cond (decide (b<(length c:Int))) (cond (decide ((0:Int)≤b)) (cond (decide (b<(length c:Int))) (cond ((getD c (toNat b) ((⟨#[]⟩:ByteArray),[])).1.toList==d.toList) (some (.inl b)) (Cg k c d (wrap .i64 (b+1)))) none) none) (some (.inr ()))
def Dp (k:Nat) (a0:List y0) (a1:ByteArray):Option (Int):=(Cg k a0 a1 0).bind λ r1=>Sum.elim (λ y2=>some y2) (λ z3=>some (-1)) r1
def C6 (k:Nat) (a0:y1) (a1:ByteArray):Option ((List Int)×Bool):=(Dp k a0.1 a1).bind λ r1=>cond (decide (r1<0)) (some (([]:List Int),false)) (cond (decide ((0:Int)≤r1)) (cond (decide (r1<(length a0.1:Int))) (let v2:=getD a0.1 (toNat r1) ((⟨#[]⟩:ByteArray),[]);cond (Nat.ble ((length ([]:List Int)+length v2.2)*1) 140737488355328) (some (([]:List Int)++v2.2,true)) none) none) none)
def C3:Nat→(List y0)→ByteArray→(List y0)→Int→Option (List y0)
 |0,_,_,_,_=>none
 |k+1,c,e,d,b=>cond (decide (b<(length c:Int))) (cond (decide ((0:Int)≤b)) (cond (decide (b<(length c:Int))) (cond (!((getD c (toNat b) ((⟨#[]⟩:ByteArray),[])).1.toList==e.toList)) (cond (decide ((0:Int)≤b)) (cond (decide (b<(length c:Int))) (let v2:=getD c (toNat b) ((⟨#[]⟩:ByteArray),[]);cond (Nat.ble ((length d+length [v2])*40) 140737488355328) (C3 k c e (d++[v2]) (wrap .i64 (b+1))) none) none) none) (C3 k c e d (wrap .i64 (b+1)))) none) none) (some d)
def D5 (k:Nat) (a0:List y0) (a1:ByteArray):Option (List y0):=(C3 k a0 a1 ([]:List y0) 0).bind λ r1=>some r1
def Bs (k:Nat) (a0:y1) (a1:ByteArray):Option (y1×Bool):=(Bv k a0).bind λ r1=>(C6 k a0 a1).bind λ r2=>(D5 k r1.2 a1).bind λ r3=>cond r2.2 ((D0 k r3 a1 r2.1).bind λ r4=>(Cc k a0 (r1.1,r4) a1).bind λ r5=>some (r5.1,r5.2)) ((Cc k a0 (r1.1,r3) a1).bind λ r6=>some (r6.1,r6.2))
def B4 (a0:List Int):Option (List Int):=cond (Nat.ble ((length ([]:List Int)+length a0)*1) 140737488355328) (some (([]:List Int)++a0)) none
def B2:Nat→(List y0)→(List y0)→Int→Int→Option (List y0)
 |0,_,_,_,_=>none
 |k+1,c,d,e,b=>cond (decide (b<e)) (cond (decide ((0:Int)≤b)) (cond (decide (b<(length d:Int))) (let v1:=getD d (toNat b) ((⟨#[]⟩:ByteArray),[]);(B4 v1.2).bind λ r2=>cond (Nat.ble ((length c+length [(v1.1,r2)])*40) 140737488355328) (B2 k (c++[(v1.1,r2)]) d e (wrap .i64 (b+1))) none) none) none) (some c)
def Am (k:Nat) (a0:List y0):Option (List y0):=(B2 k ([]:List y0) a0 (length a0:Int) 0).bind λ r1=>some r1
def Bd (k:Nat) (a0:y1):Option y1:=(Am k a0.1).bind λ r1=>(Am k a0.2).bind λ r2=>some (r1,r2)
def Fc (a0:Int) (a1:Int) (a2:Int):Option (Bool):=cond (decide (a0≥a1)) (some (decide (a0≤a2))) (some false)
def Aa:Nat→ByteArray→Int→Option (Sum (Bool) (ByteArray))
 |0,_,_=>none
 |k+1,b,c=>cond (decide (c<(ByteArray.size b:Int))) (cond (decide ((0:Int)≤c)) (cond (decide (c<(ByteArray.size b:Int))) (cond (decide ((bt b c)≥97)) (cond (!(decide ((bt b c)≤122))) (cond (decide ((bt b c)≥48)) (cond (!(decide ((bt b c)≤57))) (cond ((bt b c) != 45) (cond ((bt b c) != 95) (cond ((bt b c) != 47) (some (.inl false)) (Aa k b (wrap .i64 (c+1)))) (Aa k b (wrap .i64 (c+1)))) (Aa k b (wrap .i64 (c+1)))) (Aa k b (wrap .i64 (c+1)))) (cond ((bt b c) != 45) (cond ((bt b c) != 95) (cond ((bt b c) != 47) (some (.inl false)) (Aa k b (wrap .i64 (c+1)))) (Aa k b (wrap .i64 (c+1)))) (Aa k b (wrap .i64 (c+1))))) (Aa k b (wrap .i64 (c+1)))) (cond (decide ((bt b c)≥48)) (cond (!(decide ((bt b c)≤57))) (cond ((bt b c) != 45) (cond ((bt b c) != 95) (cond ((bt b c) != 47) (some (.inl false)) (Aa k b (wrap .i64 (c+1)))) (Aa k b (wrap .i64 (c+1)))) (Aa k b (wrap .i64 (c+1)))) (Aa k b (wrap .i64 (c+1)))) (cond ((bt b c) != 45) (cond ((bt b c) != 95) (cond ((bt b c) != 47) (some (.inl false)) (Aa k b (wrap .i64 (c+1)))) (Aa k b (wrap .i64 (c+1)))) (Aa k b (wrap .i64 (c+1)))))) none) none) (some (.inr b))
def B7 (k:Nat) (a0:ByteArray):Option (Bool):=(Aa k a0 0).bind λ r1=>Sum.elim (λ y2=>some y2) (λ z3=>(Fc (ByteArray.size z3:Int) 1 20).bind λ r4=>some r4) r1
def Bb:Nat→(List y0)→(List y0)→Int→Int→Option (Sum (Bool) (List y0))
 |0,_,_,_,_=>none
 |k+1,c,d,e,b=>cond (decide (b<e)) (cond (decide ((0:Int)≤b)) (cond (decide (b<(length d:Int))) (let v1:=getD d (toNat b) ((⟨#[]⟩:ByteArray),[]);(B7 k v1.1).bind λ r2=>cond (!r2) (some (.inl false)) (cond (decide ((length v1.2:Int) > 400)) (some (.inl false)) (cond (decide (b > 0)) (cond (decide ((0:Int)≤wrap .i64 (b-1))) (cond (decide (wrap .i64 (b-1)<(length c:Int))) (cond (!(Op.bytesLess (getD c (toNat (wrap .i64 (b-1))) ((⟨#[]⟩:ByteArray),[])).1.toList v1.1.toList)) (some (.inl false)) (Bb k c d e (wrap .i64 (b+1)))) none) none) (Bb k c d e (wrap .i64 (b+1)))))) none) none) (some (.inr c))
def B5 (k:Nat) (a0:List y0):Option (Bool):=(Bb k a0 a0 (length a0:Int) 0).bind λ r1=>Sum.elim (λ y2=>some y2) (λ z3=>some (decide ((length z3:Int)≤60))) r1
def Cr (k:Nat) (a0:y1):Option (Bool):=(B5 k a0.1).bind λ r1=>cond r1 ((B5 k a0.2).bind λ r2=>some r2) (some false)
def Cs:Nat→(List y0)→Int→ByteArray→(List Int)→Option ((List y0)×Int×y0)
 |0,_,_,_,_=>none
 |k+1,c,b,d,e=>cond (decide (b<(length c:Int))) (cond (decide ((0:Int)≤b)) (cond (decide (b<(length c:Int))) (cond (Op.bytesLess (getD c (toNat b) ((⟨#[]⟩:ByteArray),[])).1.toList d.toList) (Cs k c (wrap .i64 (b+1)) d e) (some (c,b,d,e))) none) none) (some (c,b,d,e))
def Ee (k:Nat) (a0:List y0) (a1:y0):Option (List y0):=(Cs k a0 0 a1.1 a1.2).bind λ r1=>cond (decide (0≤r1.2.1)&&decide (r1.2.1≤(length r1.1:Int))) (cond (decide (r1.2.1=(length (List.take (toNat r1.2.1) r1.1):Int))) (cond (Nat.ble ((length ([]:List y0)+length (List.take (toNat r1.2.1) r1.1))*40) 140737488355328) (let v2:List y0:=([]:List y0)++(List.take (toNat r1.2.1) r1.1);cond (Nat.ble ((length v2+length [r1.2.2])*40) 140737488355328) (cond (decide (0≤r1.2.1)&&decide (r1.2.1≤(length r1.1:Int))&&Nat.ble (toNat r1.2.1) (toNat r1.2.1)) (cond (Nat.ble ((length (v2++[r1.2.2])+length (List.drop (toNat r1.2.1) r1.1))*40) 140737488355328) (some ((v2++[r1.2.2])++(List.drop (toNat r1.2.1) r1.1))) none) none) none) none) none) none
def Dd:Nat→ByteArray→(List y0)→Int→Int→Option (Sum (Int) (Unit))
 |0,_,_,_,_=>none
 |k+1,d,c,e,b=>cond (decide (b<e)) (cond (decide ((0:Int)≤b)) (cond (decide (b<(length c:Int))) (cond ((getD c (toNat b) ((⟨#[]⟩:ByteArray),[])).1.toList==d.toList) (some (.inl b)) (Dd k d c e (wrap .i64 (b+1)))) none) none) (some (.inr ()))
def Ef (k:Nat) (a0:List y0) (a1:ByteArray):Option (Int):=(Dd k a1 a0 (length a0:Int) 0).bind λ r1=>Sum.elim (λ y2=>some y2) (λ z3=>some (-1)) r1
def Dw (k:Nat) (a0:List y0) (a1:ByteArray):Option (List y0):=(Ef k a0 a1).bind λ r1=>cond (decide (r1<0)) (some a0) (cond (decide (0≤r1)&&decide (r1≤(length a0:Int))) (cond (decide (r1=(length (List.take (toNat r1) a0):Int))) (cond (Nat.ble ((length ([]:List y0)+length (List.take (toNat r1) a0))*40) 140737488355328) (let v2:List y0:=([]:List y0)++(List.take (toNat r1) a0);cond (decide (0≤wrap .i64 (r1+1))&&decide (wrap .i64 (r1+1)≤(length a0:Int))&&Nat.ble (toNat r1) (toNat (wrap .i64 (r1+1)))) (cond (Nat.ble ((length v2+length (List.drop (toNat (wrap .i64 (r1+1))) a0))*40) 140737488355328) (some (v2++(List.drop (toNat (wrap .i64 (r1+1))) a0))) none) none) none) none) none)
def Be (k:Nat) (a0:y1) (a1:ByteArray):Option (y1×Bool):=(Bd k a0).bind λ r1=>(Cr k a0).bind λ r2=>cond (!r2) (some (r1,false)) ((B7 k a1).bind λ r3=>cond (!r3) (some (r1,false)) ((Dw k r1.2 a1).bind λ r4=>(Ef k a0.1 a1).bind λ r5=>cond (decide (r5≥0)) (cond (decide ((0:Int)≤r5)) (cond (decide (r5<(length a0.1:Int))) ((B4 (getD a0.1 (toNat r5) ((⟨#[]⟩:ByteArray),[])).2).bind λ r7=>(Ee k r4 (a1,r7)).bind λ r8=>cond (decide ((length r8:Int) > 60)) ((Bd k a0).bind λ r9=>some (r9,false)) (some ((r1.1,r8),true))) none) none) (cond (decide ((length r4:Int) > 60)) ((Bd k a0).bind λ r10=>some (r10,false)) (some ((r1.1,r4),true)))))
def Ap (k:Nat) (a0:y1) (a1:ByteArray):Option (Bool):=cond (decide ((ByteArray.size a1:Int) > 1048576)) (some true) ((D7 k a0 1048576).bind λ r1=>cond (decide (r1<0)) (some true) ((Ca k a0).bind λ r2=>(Bs k r2 a1).bind λ r3=>(Ca k a0).bind λ r4=>(Be k r4 a1).bind λ r5=>(Cb k r5.1 r3.1).bind λ r6=>cond (!r6) (some false) (cond (!(r5.2==r3.2)) (some false) ((Ca k a0).bind λ r7=>(Cb k r4 r7).bind λ r8=>cond (!r8) (some false) ((Bq k r4 1).bind λ r9=>cond (decide (r9.1<0)) (some false) ((Cb k r5.1 r3.1).bind λ r10=>cond (!r10) (some false) (cond (!(r5.2==r3.2)) (some false) ((Bq k r5.1 1).bind λ r11=>(Br k r11.2 1).bind λ r12=>cond (decide (r12<0)) (some false) (cond (r12 != r11.1) (some false) ((Ca k a0).bind λ r13=>(Be k r13 a1).bind λ r14=>(Cb k r14.1 r3.1).bind λ r15=>cond (!r15) (some false) (cond (!(r14.2==r3.2)) (some false) ((Br k r11.2 1).bind λ r16=>cond (decide (r16<0)) (some false) (cond (r16 != r11.1) (some false) (some true))))))))))))))

end Go.Proofs.Ytbbifgjgneefkaa.Vf
