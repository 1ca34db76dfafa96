import Derived.Calls
import Derived.Orders
set_option linter.all false
namespace Go.Proofs.Ytbbifgjgneefkaa.Vf
open Go
open List (length getD)
open Int (toNat)
open Go.IntKind (wrap)
open BitVec (ofInt)

inductive Ty where
 |i (k:IntKind)
 |b
 |s
 |sl (e:TypeId) (r:Ty)
 |ow (e:TypeId) (r:Ty)
 |pr (x y:Ty)
 deriving DecidableEq
@[reducible] def Ty.den:Ty→Type
 |.i _=>Int
 |.b=>Bool
 |.s=>ByteArray
 |.sl _ r=>List r.den
 |.ow _ r=>List r.den
 |.pr x y=>x.den×y.den
def Ty.dflt:(t:Ty)→t.den
 |.i _=>(0:Int)
 |.b=>false
 |.s=>(⟨#[]⟩:ByteArray)
 |.sl _ _=>[]
 |.ow _ _=>[]
 |.pr x y=>(x.dflt,y.dflt)
def Ty.sz:Ty→Nat
 |.pr x y=>x.sz+y.sz
 |_=>1
def shp:Ty→Ty
 |.i k => .i k
 |.b => .b
 |.s => .s
 |.sl e r => .sl e (shp r)
 |.ow e r => .sl e (shp r)
 |.pr x y => .pr (shp x) (shp y)
def Eu:∀ t:Ty,(shp t).den=t.den
 |.i _=>rfl
 |.b=>rfl
 |.s=>rfl
 |.sl _ r=>congrArg List (Eu r)
 |.ow _ r=>congrArg List (Eu r)
 |.pr x y=>by show ((shp x).den×(shp y).den)=(x.den×y.den);rw[Eu x,Eu y]
def X6 {t u:Ty} (h:shp u=shp t):u.den=t.den:=(Eu u).symm.trans ((congrArg Ty.den h).trans (Eu t))
def Gd:Ty→Bool
 |.ow _ _=>false
 |.pr x y=>Gd x&&Gd y
 |_=>true
def Dh:Ty→Bool
 |.sl _ _=>false
 |.ow _ r=>Dh r
 |.pr x y=>Dh x&&Dh y
 |_=>true
inductive Lf where
 |dead
 |un
 |sc (u:Value)
 |fz (e:TypeId) (r:Ty) (xs:List r.den)
 |own (e:TypeId) (r:Ty) (xs:List r.den)
 |al (p v:Nat)
 |bp (b v off:Nat)
 |ep (p v:Nat) (i:Int) (off:Nat)
 |fp (r:Ty) (x:r.den) (off:Nat)
 |hd (n:Nat)
 |da (p v:Nat) (pi:Option (List (Int×Nat))) (e:TypeId) (r:Ty) (xs:List r.den)
 |dp (p v:Nat) (pi:Option (List (Int×Nat))) (e:TypeId) (r:Ty) (xs:List r.den) (i:Int) (off:Nat)
 |opn (e:TypeId) (r:Ty) (xs:List r.den) (i:Int) (b v:Nat)
 |fn (F:FuncId) (bs:List (Nat×Nat))
 |io (p:Nat)
 |par (e:TypeId) (r:Ty) (xs:List r.den) (m:Nat)
 |two (q v1 v2:Nat)
inductive Sv where
 |one (x:Lf)
 |agg (cs:List Lf)
 |tup (vs:List (Bool×List Lf))
abbrev Ab:=List (Nat×Nat×Sv)
def get:Ab→Nat→Nat×Sv
 |[],_=>(0,.one .dead)
 |(k,n,s)::t,l=>bif Nat.beq k l then (n,s) else get t l
structure Up where
 l:Nat
 keep:Bool
 s:Sv
def up (A:Ab) (u:Up):Ab:=(u.l,bif u.keep then (get A u.l).1 else (get A u.l).1+1,u.s)::A
def ups (A:Ab):List Up→Ab
 |[]=>A
 |u::l=>ups (up A u) l
def Mu:Ty→Ty→Bool
 |.i k,.i k'=>decide (k=k')
 |.b,.b=>true
 |.s,.s=>true
 |.sl _ _,.sl _ _=>true
 |.sl _ _,.ow _ _=>true
 |.ow _ _,.sl _ _=>true
 |.ow _ _,.ow _ _=>true
 |.pr x y,.pr x' y'=>Mu x x'&&Mu y y'
 |_,_=>false
def C (b j:Nat):Nat:=1000*(b+1)+j
def H (b:Nat):Nat:=1000*(b+1)+999
def K7 (r r':Ty) (xs:List r'.den):Option (List r.den):=if h:shp r'=shp r then some (cast (congrArg List (X6 h)) xs) else none
def Js (r r':Ty) (xs:List r'.den):Option (List r.den):=if h:r'=r then some (h ▸ xs) else if shp r'=shp r then (match xs with|[]=>some []|_=>none) else none
def A4:(t:Ty)→t.den→List Lf
 |.i k,n=>[.sc (.int k n)]
 |.b,x=>[.sc (.bool x)]
 |.s,x=>[.sc (.string x)]
 |.sl e r,xs=>[.fz e r xs]
 |.ow e r,xs=>[.own e r xs]
 |.pr x y,p=>A4 x p.1++A4 y p.2
def lvs:(t:Ty)→t.den→List Lf
 |.i k,n=>[.sc (.int k n)]
 |.b,x=>[.sc (.bool x)]
 |.s,x=>[.sc (.string x)]
 |.sl e r,xs=>[.fz e r xs]
 |.ow e r,xs=>[.fz e r xs]
 |.pr x y,p=>lvs x p.1++lvs y p.2
def mkT:(t:Ty)→List Lf→Option (t.den×List Lf)
 |.i k,.sc (.int k' n)::l=>bif decide (k=k') then some (n,l) else none
 |.b,.sc (.bool x)::l=>some (x,l)
 |.s,.sc (.string x)::l=>some (x,l)
 |.sl e r,.fz e' r' xs::l=>bif Nat.beq e e' then (match K7 r r' xs with|some ys=>some (ys,l)|none=>none) else none
 |.sl e r,.own e' r' xs::l=>bif Nat.beq e e' then (match K7 r r' xs with|some ys=>some (ys,l)|none=>none) else none
 |.ow e r,.own e' r' xs::l=>bif Nat.beq e e' then (match Js r r' xs with|some ys=>some (ys,l)|none=>none) else none
 |.pr x y,l=>match mkT x l with
  |some (p,l1)=>(match mkT y l1 with
   |some (q,l2)=>some ((p,q),l2)
   |none=>none)
  |none=>none
 |_,_=>none
def mkW (t:Ty) (l:List Lf):Option t.den:=match mkT t l with
 |some (x,[])=>some x
 |_=>none
structure TI where
 ty:Ty
 ag:Bool
 by_:Nat
 fo:List (Nat×Nat×Bool)
@[reducible] def Den:List Ty→Type
 |[]=>Unit
 |[t]=>t.den
 |t::u::l=>t.den×Den (u::l)
inductive Par where
 |io (ag:Bool) (t:Ty)
 |vw (t:Ty) (h:Nat)
 |val (ag:Bool) (t:Ty)
 |ptr (t t':Ty)
 |rd (t:Ty)
 |fn (F:FuncId) (m:Nat)
 |hid (t t':Ty)
def Par.ty:Par→Ty
 |.io _ t=>t
 |.vw t _=>t
 |.val _ t=>t
 |.ptr t _=>t
 |.rd t=>t
 |.fn _ _ => .b
 |.hid t _=>t
def Ks:(ts:List Ty)→List (List Lf)→Option (Den ts)
 |[],[]=>some ()
 |[t],[l]=>mkW t l
 |t::u::ts,l::ls=>match mkW t l with
  |some x=>(match Ks (u::ts) ls with
   |some y=>some (x,y)
   |none=>none)
  |none=>none
 |_,_=>none
def Ar:(ts:List Ty)→Den ts→List (List Lf)
 |[],_=>[]
 |[t],x=>[A4 t x]
 |t::u::ts,x=>A4 t x.1::Ar (u::ts) x.2
def Eg:List Par→List Ty
 |[]=>[]
 |.ptr _ t'::l=>t'::Eg l
 |.hid _ t'::l=>t'::Eg l
 |.io _ t::l=>t::Eg l
 |_::l=>Eg l
inductive RK where
 |one
 |agg
 |ptr
structure Ent where
 nv:Nat
 ps:List Par
 rs:List (RK×Ty)
 run:Den (ps.map Par.ty)→Option (Den (rs.map Prod.snd++Eg ps))
inductive Ex where
 |normal
 |exit (id:Nat)
 |ret
structure Ru where
 cs:List (Nat×Lf)
 vs:List (Nat×Ty)
@[reducible] def Ru.den (v:Ru):Type:=Den (v.vs.map Prod.snd)
@[reducible] def Foa:List (Ex×Ru)→Type
 |[]=>Empty
 |[a]=>a.2.den
 |a::b::l=>a.2.den ⊕ Foa (b::l)
structure Lp where
 ins:Ru
 alts:List (Ex×Ru)
 run:ins.den→Option (Foa alts)
inductive Gh where
 |cl (p:Nat)
 |op (p t B:Nat)
 |od (d B:Nat)
 |oc (p:Nat) (i:Int) (B:Nat)
 |sp (p t B:Nat)
structure En where
 nt:Nat
 ti:TypeId→Option TI
 eq:TypeId→Bool
 nm:Nat→Bool
 res:Nat→Bool
 call:FuncId→Option Ent
 lp:Nat→Option Lp
 np:Nat
 hint:Nat→Option Ty
 mv:Nat→Bool
 gh:Nat→List Gh
 opn:Nat→Bool
 sh:Nat→Bool
 rf:Bool
def U6:Value→Bool
 |.int _ _ | .bool _ | .string _ | .func _ _ _ | .pointer none=>true
 |_=>false
def opT (E:En) (T:TypeId) (A:Ab):Operand→Option Sv
 |.tmp t=>bif Nat.blt t E.nt then some (get A t).2 else none
 |.const (.slice none 0 0)=>match E.ti T with
  |some ⟨.sl e r,false,_,_⟩=>some (.one (.own e r []))
  |_=>none
 |.const v=>bif U6 v then some (.one (.sc v)) else none
 |.func f=>some (.one (.sc (.func (.func f) #[] #[])))
 |.global _=>none
def elT (E:En) (T:TypeId):Option TypeId:=match E.ti T with
 |some ⟨.sl e _,false,_,_⟩=>some e
 |_=>none
def Jt (E:En) (T e:TypeId):Bool:=match elT E T with
 |some e'=>Nat.beq e' e
 |none=>false
def Rv (E:En) (T:TypeId):Bool:=match E.ti T with
 |some ⟨.s,false,_,_⟩=>true
 |_=>false
def G5 (A:Ab):Lf→Lf
 |.al p v=>match get A p with
  |(n,.one (.own e r xs))=>bif Nat.beq n v then .own e r xs else .dead
  |(n,.one (.fz e r xs))=>bif Nat.beq n v then .fz e r xs else .dead
  |_ => .dead
 |x=>x
def Qb (A:Ab):Lf→Lf
 |.da p v _ e r xs=>bif Nat.beq (get A p).1 v then .fz e r xs else .dead
 |x=>G5 A x
structure Sl where
 e:TypeId
 r:Ty
 xs:List r.den
def U7 (A:Ab) (x:Lf):Option Sl:=match x with
 |.da p v _ e r xs=>bif Nat.beq (get A p).1 v&&Gd r then some ⟨e,r,xs⟩ else none
 |x=>(match G5 A x with
  |.fz e r xs=>some ⟨e,r,xs⟩
  |.own e r xs=>bif Gd r then some ⟨e,r,xs⟩ else none
  |_=>none)
def P7 (A:Ab):Lf→Bool
 |.bp b v _=>Nat.beq (get A (H b)).1 v
 |.ep p v _ _=>(match get A p with
  |(n,.one (.own _ _ _))=>Nat.beq n v
  |_=>false)
 |.fp _ _ _=>true
 |.dp p v _ _ _ _ _ _=>Nat.beq (get A p).1 v
 |_=>false
def Bna:Lf→Nat→Lf
 |.bp b v n,k => .bp b v (n+k)
 |.ep p v i n,k => .ep p v i (n+k)
 |.fp r x n,k => .fp r x (n+k)
 |.dp p v pi e r xs i n,k => .dp p v pi e r xs i (n+k)
 |x,_=>x
def Cm:List Lf→Bool
 |[]=>false
 |.own _ _ _::_=>true
 |.opn _ _ _ _ _ _::_=>true
 |.par _ _ _ _::_=>true
 |_::l=>Cm l
def Hr:Sv→Bool
 |.one x=>Cm [x]
 |.agg l=>Cm l
 |.tup vs=>vs.any λ v=>Cm v.2
def Hn:Lf→Lf
 |.own e r xs => .fz e r xs
 |.opn _ _ _ _ _ _ => .dead
 |.par _ _ _ _ => .dead
 |x=>x
def N3 (A:Ab):Lf→List Up
 |.al p v=>match get A p with
  |(n,.one (.own e r xs))=>bif Nat.beq n v then [⟨p,true,.one (.fz e r xs)⟩] else []
  |_=>[]
 |_=>[]
def G0 (A:Ab):List Lf→List Up
 |[]=>[]
 |x::l=>N3 A x++G0 A l
def Boa (p:Nat):List Up→Bool
 |[]=>true
 |u::l => !(Nat.beq u.l p)&&Boa p l
def gone:Operand→Sv→List Up
 |.tmp t,s=>bif Hr s then [⟨t,false,.one .dead⟩] else []
 |_,_=>[]
def Pf:Lf→Operand→List Up
 |.al p _,_=>[⟨p,false,.one .dead⟩]
 |_,.tmp t=>[⟨t,false,.one .dead⟩]
 |_,_=>[]
def parts:Sv→List Lf
 |.one x=>[x]
 |.agg l=>l
 |.tup _=>[]
def Gx (ag:Bool) (l:List Lf):Option Sv:=bif ag then some (.agg l) else match l with
 |[x]=>some (.one x)
 |_=>none
def nth {α:Type}:List α→Nat→Option α
 |[],_=>none
 |x::_,0=>some x
 |_::l,n+1=>nth l n
section
variable {R:Type}
def Mm (op:BinOp) (k:IntKind) (x y:Int) (K:Value→Option R):Option R:=
 match op with
 |.add=>K (.int k (k.wrap (x+y)))
 |.sub=>K (.int k (k.wrap (x-y)))
 |.mul=>K (.int k (k.wrap (x*y)))
 |.quo=>bif decide (y=0) then none else K (.int k (k.wrap (x.tdiv y)))
 |.rem=>bif decide (y=0) then none else K (.int k (x.tmod y))
 |.and=>K (.int k (k.wrap ((ofInt k.bits x &&& ofInt k.bits y).toNat)))
 |.or=>K (.int k (k.wrap ((ofInt k.bits x ||| ofInt k.bits y).toNat)))
 |.xor=>K (.int k (k.wrap ((ofInt k.bits x ^^^ ofInt k.bits y).toNat)))
 |.andNot=>K (.int k (k.wrap ((ofInt k.bits x &&& ~~~ ofInt k.bits y).toNat)))
 |.eql=>K (.bool (x==y))
 |.neq=>K (.bool (x != y))
 |.lss=>K (.bool (x<y))
 |.leq=>K (.bool (x≤y))
 |.gtr=>K (.bool (x > y))
 |.geq=>K (.bool (x≥y))
 |_=>none
def Pg (op:BinOp) (x y:ByteArray) (K:Value→Option R):Option R:=
 match op with
 |.add=>bif Nat.ble (x.size+y.size) 9223372036854775807 then K (.string (x++y)) else none
 |.eql=>K (.bool (x.toList==y.toList))
 |.neq=>K (.bool !(x.toList==y.toList))
 |.lss=>K (.bool (Op.bytesLess x.toList y.toList))
 |.leq=>K (.bool (Op.bytesLess x.toList y.toList||x.toList==y.toList))
 |.gtr=>K (.bool !(Op.bytesLess x.toList y.toList||x.toList==y.toList))
 |.geq=>K (.bool !(Op.bytesLess x.toList y.toList))
 |_=>none
def Bz:List Lf→List Lf→Option Bool
 |[],[]=>some true
 |[.sc (.int k x)],[.sc (.int k' y)]=>bif decide (k=k') then some (x==y) else none
 |[.sc (.bool x)],[.sc (.bool y)]=>some (x==y)
 |[.sc (.string x)],[.sc (.string y)]=>some (x==y)
 |.sc (.int k x)::l,.sc (.int k' y)::l'=>bif decide (k=k') then (match Bz l l' with|some b=>some ((x==y)&&b)|none=>none) else none
 |.sc (.bool x)::l,.sc (.bool y)::l'=>match Bz l l' with|some b=>some ((x==y)&&b)|none=>none
 |.sc (.string x)::l,.sc (.string y)::l'=>match Bz l l' with|some b=>some ((x==y)&&b)|none=>none
 |_,_=>none
def Iu:List Lf→Bool
 |[]=>true
 |.sc _::l=>Iu l
 |_=>false
def I5 (tT:Option TI) (l:List Lf):Bool:=match tT with
 |some ti=>(mkW ti.ty l).isSome
 |none=>false
def bop (op:BinOp) (tT:Option TI) (eqs:Bool) (x y:Sv) (K:Value→Option R):Option R:=
 match x,y with
 |.one (.sc (.int k a)),.one (.sc (.int k' b))=>
  match op with
  |.shl=>bif decide (b<0) then none else K (.int k (k.wrap (a*2 ^ (min b.toNat k.bits))))
  |.shr=>bif decide (b<0) then none else K (.int k (a.fdiv (2 ^ (min b.toNat k.bits))))
  |_=>bif decide (k=k') then Mm op k a b K else none
 |.one (.sc (.string a)),.one (.sc (.string b))=>Pg op a b K
 |.one (.sc (.bool a)),.one (.sc (.bool b))=>match op,tT with
  |.eql,some ⟨.b,false,_,_⟩=>K (.bool (a==b))
  |.neq,some ⟨.b,false,_,_⟩=>K (.bool (!(a==b)))
  |_,_=>none
 |.agg l,.agg l'=>bif eqs&&Iu l&&Iu l'&&(I5 tT l&&I5 tT l') then (match op with
  |.eql=>(match Bz l l' with|some b=>K (.bool b)|none=>none)
  |.neq=>(match Bz l l' with|some b=>K (.bool (!b))|none=>none)
  |_=>none) else none
 |_,_=>none
def uop (op:UnOp) (x:Sv) (K:Value→Option R):Option R:=
 match op,x with
 |.neg,.one (.sc (.int k n))=>K (.int k (k.wrap (0-n)))
 |.xor,.one (.sc (.int k n))=>K (.int k (k.wrap ((ofInt k.bits (if k.signed then -1 else k.max) ^^^ ofInt k.bits n).toNat)))
 |.not,.one (.sc (.bool b))=>K (.bool !b)
 |_,_=>none
def Ft (xs:List Int):ByteArray:=⟨(xs.map λ n=>UInt8.ofNat n.toNat).toArray⟩
def bytesOf (s:ByteArray):List Int:=s.data.toList.map λ b=>(b.toNat:Int)
def bt (s:ByteArray) (i:Int):Int:=((s.data.toList.getD i.toNat 0).toNat:Int)
def conv (src dst:Option TI) (x:Sv) (K:Sv→Option R):Option R:=
 match src,dst,x with
 |some ⟨.i _,false,_,_⟩,some ⟨.i k,false,_,_⟩,.one (.sc (.int _ n))=>K (.one (.sc (.int k (k.wrap n))))
 |some ⟨.s,false,_,_⟩,some ⟨.s,false,_,_⟩,.one (.sc (.string s))=>K (.one (.sc (.string s)))
 |some ⟨.sl e (.i .u8),false,_,_⟩,some ⟨.s,false,_,_⟩,.one (.fz e' (.i .u8) xs)=>bif Nat.beq e e' then K (.one (.sc (.string (Ft xs)))) else none
 |some ⟨.sl e (.i .u8),false,_,_⟩,some ⟨.s,false,_,_⟩,.one (.own e' (.i .u8) xs)=>bif Nat.beq e e' then K (.one (.sc (.string (Ft xs)))) else none
 |some ⟨.s,false,_,_⟩,some ⟨.sl e (.i .u8),false,_,_⟩,.one (.sc (.string s))=>bif Nat.ble s.size 140737488355328 then K (.one (.fz e (.i .u8) (bytesOf s))) else none
 |_,_,_=>none
def Jx (mx:Bool):List Sv→IntKind→Int→(Value→Option R)→Option R
 |[],k,x,K=>K (.int k x)
 |.one (.sc (.int k' y))::l,k,x,K=>bif decide (k=k') then Jx mx l k (bif mx then (if x<y then y else x) else (if y<x then y else x)) K else none
 |_,_,_,_=>none
def cellsOf (A:Ab) (b:Nat):Nat→Nat→List Lf
 |_,0=>[]
 |j,n+1=>(match get A (C b j) with
  |(v,.one (.own _ _ _))=>Lf.al (C b j) v
  |(v,.one (.opn _ _ _ _ _ _))=>Lf.al (C b j) v
  |(v,.one (.par _ _ _ _))=>Lf.al (C b j) v
  |(_,.one x)=>x
  |_ => .dead)::cellsOf A b (j+1) n
def Bi (b:Nat):Nat→List Lf→List Up
 |_,[]=>[]
 |j,x::l=>⟨C b j,false,.one x⟩::Bi b (j+1) l
def Gk (A:Ab) (x:Lf):Lf:=match x with
 |.al _ _=>Hn (G5 A x)
 |_=>x
def P8:Ty→List Lf
 |.i k=>[.sc (.int k 0)]
 |.b=>[.sc (.bool false)]
 |.s=>[.sc (.string ⟨#[]⟩)]
 |.sl e r=>[.own e r []]
 |.ow e r=>[.own e r []]
 |.pr x y=>P8 x++P8 y
def A3:List Lf→Bool
 |[]=>true
 |.sc _::l | .fz _ _ _::l | .own _ _ _::l=>A3 l
 |_=>false
def E7 (A:Ab):List Lf→Bool
 |[]=>true
 |.sc _::l | .fz _ _ _::l | .own _ _ _::l=>E7 A l
 |.da p v _ _ _ _::l=>Nat.beq (get A p).1 v&&E7 A l
 |_=>false
def Cn (A:Ab):List Lf→Bool
 |[]=>true
 |.sc _::l | .fz _ _ _::l=>Cn A l
 |.al p v::l=>(match G5 A (.al p v) with
  |.own _ _ _ | .fz _ _ _=>true
  |_=>false)&&Cn A l
 |_=>false
def setAll (l:List Lf) (off:Nat) (m:List Lf):List Lf:=l.take off++m++l.drop (off+m.length)
def Ge:Ab→List Lf→Option (List Lf×List Up)
 |_,[]=>some ([],[])
 |A,.al p v::l=>(match G5 A (.al p v) with
  |.own e r xs=>(match Ge (up A ⟨p,false,.one .dead⟩) l with
   |some (m,us)=>some (.own e r xs::m,⟨p,false,.one .dead⟩::us)
   |none=>none)
  |_=>none)
 |A,x::l=>(match Ge A l with
  |some (m,us)=>some (x::m,us)
  |none=>none)
def Bia (A:Ab) (x:Operand) (s:Sv):Option (List Lf×List Up):=match Ge (ups A (gone x s)) (parts s) with
 |some (m,us)=>some (m,gone x s++us)
 |none=>none
def K8:List Lf→Bool
 |[]=>true
 |.sc _::l | .own _ _ _::l=>K8 l
 |_=>false
def Dx:Ty→List Ty
 |.pr x y=>Dx x++Dx y
 |t=>[t]
def daL (p v:Nat) (pi:Option (List (Int×Nat))) (i:Int):Nat→List Lf→List Lf
 |_,[]=>[]
 |j,.own e r xs::l => .da p v (match pi with|some q=>some (q++[(i,j)])|none=>none) e r xs::daL p v pi i (j+1) l
 |j,.opn _ _ _ _ _ _::l => .dead::daL p v pi i (j+1) l
 |j,.par _ _ _ _::l => .dead::daL p v pi i (j+1) l
 |j,x::l=>x::daL p v pi i (j+1) l
def A8a (r0:Ty) (ys:List r0.den):List (Int×Nat)→(r:Ty)→List r.den→Option (List r.den)
 |[],r,_=>if h:r0=r then some (h ▸ ys) else none
 |(i,j)::q,r,xs=>match nth (A4 r (xs.getD i.toNat r.dflt)) j with
  |some (.own e1 r1 zs)=>(match A8a r0 ys q r1 zs with
   |some zs'=>(match mkW r (setAll (A4 r (xs.getD i.toNat r.dflt)) j [.own e1 r1 zs']) with
    |some z=>some (xs.set i.toNat z)
    |none=>none)
   |none=>none)
  |_=>none
def Iv:List Par→Bool
 |[]=>true
 |.val _ t::ps=>Gd t&&Iv ps
 |_::_=>false
def P4:List (RK×Ty)→Bool
 |[]=>true
 |(.ptr,_)::_=>false
 |(_,t)::rs=>Dh t&&P4 rs
def Bja:Sv→Option Bool
 |.one _=>some false
 |.agg _=>some true
 |.tup _=>none
def Fy (ag:Bool) (s:Sv):Bool:=match Bja s with
 |some b=>bif ag then b else !b
 |none=>false
def Iw (A:Ab):List Par→List Sv→Option (List (List Lf))
 |[],[]=>some []
 |.val ag _::ps,s::ss=>bif Fy ag s&&A3 ((parts s).map (λ y=>Hn (Qb A y))) then (match Iw A ps ss with
  |some ls=>some ((parts s).map (λ y=>Hn (Qb A y))::ls)
  |none=>none) else none
 |_,_=>none
def P9 (e:TypeId) (r:Ty):Lf→Option Lf
 |.own e' r' xs=>bif Nat.beq e e' then (match Js r r' xs with
  |some ys=>some (.own e r ys)
  |none=>bif Gd r then (match K7 r r' xs with
   |some ys=>some (.own e r ys)
   |none=>none) else none) else none
 |_=>none
def U8:Lf→List Up
 |.al p _=>[⟨p,false,.one .dead⟩]
 |_=>[]
def Ck:Ab→List Ty→List Lf→Option (List Lf×List Up)
 |_,[],[]=>some ([],[])
 |A,.ow e r::ts,x::l=>(match P9 e r (G5 A x) with
  |some y=>(match Ck (ups A (U8 x)) ts l with
   |some (m,us)=>some (y::m,U8 x++us)
   |none=>none)
  |none=>none)
 |A,_::ts,x::l=>(match Ck (ups A (N3 A x)) ts l with
  |some (m,us)=>some (Hn (Gk A x)::m,N3 A x++us)
  |none=>none)
 |_,_,_=>none
def Lw (A:Ab) (x:Operand) (s:Sv) (ts:List Ty):Option (List Lf×List Up):=match Ck (ups A (gone x s)) ts (parts s) with
 |some (m,us)=>bif A3 m then some (m,gone x s++us) else none
 |none=>none
def Kt (A:Ab) (x:Operand) (s:Sv) (t:Ty):Option (List Lf×List Up):=Lw A x s (Dx t)
def Iya (A:Ab):List Lf→List Ty
 |[]=>[]
 |x::l=>(match G5 A x with
  |.own e r _ => .ow e r
  |_ => .b)::Iya A l
def Ka (A:Ab) (b v:Nat) (t t':Ty):Option (List Lf×List Up):=match get A (H b) with
 |(n,.one (.hd m))=>bif Nat.beq n v&&Nat.beq m t.sz&&Nat.beq m t'.sz then (match Ck A (Dx t) (cellsOf A b 0 m) with
  |some (l,us)=>bif A3 l then some (l,us) else none
  |none=>none) else none
 |_=>none
def Hwa:List (Nat×Nat)→List (Nat×Nat)→Bool
 |[],[]=>true
 |a::l,b::m=>Nat.beq a.1 b.1&&Nat.beq a.2 b.2&&Hwa l m
 |_,_=>false
def He (A:Ab):List (Nat×Nat)→Bool
 |[]=>true
 |b::l=>Nat.beq (get A (H b.1)).1 b.2&&He A l
def Fka:Lf→Bool
 |.sc _ | .fz _ _ _=>true
 |_=>false
def U9 (A:Ab) (b:Nat):Nat→List Ty→List Lf→Option (List Lf)
 |_,[],[]=>some []
 |j,.ow e r::ts,.al p v::l=>bif Nat.beq p (C b j)&&Nat.beq (get A p).1 v then (match P9 e r (G5 A (.al p v)) with
  |some y=>(match U9 A b (j+1) ts l with
   |some m=>some (y::m)
   |none=>none)
  |none=>none) else none
 |_,.ow _ _::_,_=>none
 |j,_::ts,x::l=>bif Fka (G5 A x) then (match U9 A b (j+1) ts l with
  |some m=>some (G5 A x::m)
  |none=>none) else none
 |_,_,_=>none
def Rw:List Lf→Option Nat
 |[]=>none
 |.al p _::l=>bif Nat.ble 1000 p then some (p/1000-1) else Rw l
 |_::l=>Rw l
def Rx (A:Ab):List Par→List Sv→List (Nat×Nat)
 |.vw _ _::ps,.agg ys::ss=>(match Rw ys with
  |some b=>(b,(get A (H b)).1)::Rx A ps ss
  |none=>Rx A ps ss)
 |_::ps,_::ss=>Rx A ps ss
 |_,_=>[]
def Mv (A:Ab) (cb hb:List (Nat×Nat)) (nv:Nat) (x:Operand):Par→Sv→Option (List Lf×List Up×List Nat)
 |.vw t h,.agg ys=>(match nth hb (h-nv) with
  |some c=>(match get A (H c.1) with
   |(n,.one (.hd m))=>bif Nat.ble nv h&&Nat.beq n c.2&&Nat.beq m t.sz then (match U9 A c.1 0 (Dx t) ys with
    |some l=>some (l,[],[])
    |none=>none) else none
   |_=>none)
  |none=>none)
 |.val ag t,s=>bif Fy ag s then (match Kt A x s t with
  |some (m,us)=>some (m,us,[])
  |none=>none) else none
 |.ptr t t',.one (.bp b v 0)=>(match Ka A b v t t' with
  |some (m,us)=>some (m,us,[b])
  |none=>none)
 |.hid t t',.one (.bp b v 0)=>(match Ka A b v t t' with
  |some (m,us)=>some (m,us,[b])
  |none=>none)
 |.rd t,.one (.fp r y 0)=>bif decide (shp r=shp t)&&Gd t then some (lvs r y,[],[]) else none
 |.fn F m,.one (.fn F' bs)=>bif Nat.beq F F'&&Nat.beq m bs.length&&Hwa bs cb&&He A bs then some ([.sc (.bool true)],[],[]) else none
 |_,_=>none
def Gz (E:En) (cb hb:List (Nat×Nat)) (nv:Nat):Ab→List (TypeId×Operand)→List (Nat×Nat)→List Par→Option (List (List Lf)×List Up×List Nat)
 |_,[],[],[]=>some ([],[],[])
 |A,x::xs,hs,p::ps=>(match opT E x.1 A x.2 with
  |some s=>(match Mv A cb hb nv x.2 p s with
   |some (l,u,b)=>(match Gz E cb hb nv (ups A u) xs hs ps with
    |some (ls,us,bs)=>some (l::ls,u++us,b++bs)
    |none=>none)
   |none=>none)
  |none=>none)
 |A,[],h::hs,p::ps=>(match Mv A cb hb nv (.func 0) p (.one (.bp h.1 h.2 0)) with
   |some (l,u,b)=>(match Gz E cb hb nv (ups A u) [] hs ps with
    |some (ls,us,bs)=>some (l::ls,u++us,b++bs)
    |none=>none)
   |none=>none)
 |_,_,_,_=>none
def Bpa:List Sv→List (Nat×Nat)
 |[]=>[]
 |.one (.fn _ bs)::_=>bs
 |_::l=>Bpa l
def Gg (nv:Nat):Nat→List Par→Bool
 |_,[]=>true
 |i,.hid _ _::ps=>Nat.ble nv i&&Gg nv (i+1) ps
 |i,_::ps=>Nat.blt i nv&&Gg nv (i+1) ps
def Ry:List Nat→Bool
 |[]=>true
 |b::l => !(l.any (Nat.beq b))&&Ry l
def A9a:List Nat→List (List Lf)→Option (List Up)
 |[],_=>some []
 |b::bs,l::ls=>match A9a bs ls with
  |some us=>some (Bi b 0 l++us)
  |none=>none
 |_,_=>none
def Bqa (A:Ab) (d:Nat) (l:List Lf):List Up:=
 ⟨H d,false,.one (.hd l.length)⟩::Bi d 0 l++[⟨d,false,.one (.bp d ((get A (H d)).1+1) 0)⟩]
def F6:List (RK×Ty)→Bool
 |[]=>false
 |(.ptr,_)::_=>true
 |_::l=>F6 l
def Mn:RK→Bool
 |.agg=>true
 |_=>false
def Rz:List (RK×Ty)→List (List Lf)→List (Bool×List Lf)
 |r::rs,l::ls=>(Mn r.1,l)::Rz rs ls
 |_,_=>[]
def Ju (A:Ab) (rs:List (RK×Ty)) (ls:List (List Lf)) (d:Option Nat):Option (List Up):=
 match rs,ls,d with
 |_,_,none=>some []
 |[],_,some d=>some [⟨d,false,.tup []⟩]
 |[(.one,_)],[x]::_,some d=>some [⟨d,false,.one x⟩]
 |[(.agg,_)],l::_,some d=>some [⟨d,false,.agg l⟩]
 |[(.ptr,_)],l::_,some d=>some (Bqa A d l)
 |r::q::rs,ls,some d=>bif F6 (r::q::rs) then none else some [⟨d,false,.tup (Rz (r::q::rs) ls)⟩]
 |_,_,_=>none
def Lu (E:En) (Ts:List TypeId) (A:Ab):List Operand→Option (List Sv)
 |[]=>some []
 |x::l=>match Ts with
  |[]=>none
  |T::Ts=>(match opT E T A x with
   |some s=>(match Lu E Ts A l with
    |some ss=>some (s::ss)
    |none=>none)
   |none=>none)
def Fpa (E:En) (rs:List (RK×Ty)) (d:Option Nat):Bool := !(F6 rs)||(match d with
 |some d=>Nat.ble E.np d
 |none=>true)
def shL (E:En) (d:Option Nat) (ls:List (List Lf)):List (List Lf):=match d with
 |some d=>bif E.sh d then ls.map (λ l=>l.map Hn) else ls
 |none=>ls
def Qc (E:En) (A:Ab) (en:Ent) (xs:List (TypeId×Operand)) (cs:List (Nat×Nat)) (ss:List Sv) (d:Option Nat) (K:List Up→Option R):Option R:=
 bif Nat.beq en.nv (xs.length+cs.length) then
 (bif Iv en.ps&&P4 en.rs&&cs.isEmpty then
  (match Iw A en.ps ss with
  |none=>none
  |some ls=>match Ks _ ls with
   |none=>none
   |some x=>(en.run x).bind λ r=>
    match Ju A en.rs (shL E d (Ar _ r)) d with
    |none=>none
    |some rs=>K rs)
 else bif Fpa E en.rs d&&(Nat.ble en.nv 1000&&Gg en.nv 0 en.ps&&Nat.ble en.rs.length 400&&Nat.ble en.ps.length 2000) then
  (match Gz E (Bpa ss++Rx A en.ps ss) (Bpa ss++Rx A en.ps ss) en.nv A xs (cs++(Bpa ss++Rx A en.ps ss)) en.ps with
  |none=>none
  |some (ls,us,bs)=>bif Ry bs then (match Ks _ ls with
   |none=>none
   |some x=>(en.run x).bind λ r=>
    match A9a bs ((Ar _ r).drop en.rs.length) with
    |none=>none
    |some ws=>match Ju (ups (ups A us) ws) en.rs (shL E d (Ar _ r)) d with
     |none=>none
     |some rs=>K (us++(ws++rs))) else none)
 else none) else none
def Bra:List Par→Bool
 |[]=>false
 |.io _ _::_=>true
 |_::l=>Bra l
def Nua:Lf→Option Nat
 |.al p _=>some p
 |.io p=>some p
 |_=>none
def L8a (A:Ab):Lf→Lf
 |.io p => .al p (get A p).1
 |x=>x
def Mta (A:Ab):Sv→Sv
 |.one x => .one (L8a A x)
 |.agg l => .agg (l.map (L8a A))
 |s=>s
def Bsa (A:Ab) (x:Operand):Par→Sv→Option (List Lf×List Up×List (List (Option Nat)))
 |.val ag t,s=>bif Fy ag s then (match Kt A x s t with
  |some (m,us)=>some (m,us,[])
  |none=>none) else none
 |.io ag t,s=>bif Fy ag s&&(!(Cm (parts (Mta A s)))&&Nat.blt t.sz 999) then (match Ck A (Dx t) (parts (Mta A s)) with
  |some (m,us)=>bif A3 m then some (m,us,[(parts s).map Nua]) else none
  |none=>none) else none
 |_,_=>none
def Nh (E:En):Ab→List (TypeId×Operand)→List Par→Option (List (List Lf)×List Up×List (List (Option Nat)))
 |_,[],[]=>some ([],[],[])
 |A,x::xs,p::ps=>(match opT E x.1 A x.2 with
  |some s=>(match Bsa A x.2 p s with
   |some (l,u,b)=>(match Nh E (ups A u) xs ps with
    |some (ls,us,bs)=>some (l::ls,u++us,b++bs)
    |none=>none)
   |none=>none)
  |none=>none)
 |_,_,_=>none
def Fla:List (Option Nat)→List Lf→List Up
 |some p::ps,.own e r xs::l=>⟨p,false,.one (.own e r xs)⟩::Fla ps l
 |_::ps,_::l=>Fla ps l
 |_,_=>[]
def Bta:List (List (Option Nat))→List (List Lf)→List Up
 |b::bs,l::ls=>Fla b l++Bta bs ls
 |_,_=>[]
def Bua (E:En) (A:Ab) (en:Ent) (xs:List (TypeId×Operand)) (d:Option Nat) (K:List Up→Option R):Option R:=
 bif Nat.beq en.nv xs.length&&(Fpa E en.rs d&&!(F6 en.rs))&&(Nat.ble en.nv 1000&&Gg en.nv 0 en.ps&&Nat.ble en.rs.length 400&&Nat.ble en.ps.length 2000) then
  (match Nh E A xs en.ps with
  |none=>none
  |some (ls,us,bs)=>(match Ks _ ls with
   |none=>none
   |some x=>(en.run x).bind λ r=>
    match Ju (ups (ups A us) (Bta bs ((Ar _ r).drop en.rs.length))) en.rs (shL E d (Ar _ r)) d with
    |none=>none
    |some rs=>K (us++(Bta bs ((Ar _ r).drop en.rs.length)++rs))))
 else none
def Hs (E:En) (A:Ab) (T:TI) (l:List Lf) (us:List Up):List (Nat×Operand)→Option (List Lf×List Up)
 |[]=>some (l,us)
 |(i,x)::ps=>match nth T.fo i with
  |none=>none
  |some (off,z,_)=>(match x with
   |.const (.slice none 0 0)=>bif Nat.beq z 1 then (match nth l off with
    |some (.own _ _ [])=>Hs E A T l us ps
    |_=>none) else none
   |_=>(match opT E 0 A x with
    |some s=>let m:=(parts s).map (Gk A)
     bif A3 m&&Nat.beq m.length z&&Nat.ble (off+z) l.length then Hs E (ups A (G0 A (parts s)++gone x s)) T (setAll l off m) (us++(G0 A (parts s)++gone x s)) ps else none
    |none=>none))
def S4 (E:En) (A:Ab) (e:TypeId) (r:Ty) (i:Nat):List (Nat×Operand)→Option (List r.den×List Up)
 |[]=>some ([],[])
 |(j,x)::ps=>bif Nat.beq i j then (match opT E e A x with
  |some s=>(match bif A3 ((parts s).map (Gk A)) then mkW r ((parts s).map λ x=>Hn (Gk A x)) else none with
   |some y=>(match S4 E (ups A (G0 A (parts s)++gone x s)) e r (i+1) ps with
    |some (ys,us)=>some (y::ys,(G0 A (parts s)++gone x s)++us)
    |none=>none)
   |none=>none)
  |none=>none) else none
def S5 (E:En) (A:Ab) (e:TypeId) (r:Ty) (i:Nat):List (Nat×Operand)→Option (List r.den×List Up)
 |[]=>some ([],[])
 |(j,x)::ps=>bif Nat.beq i j then (match opT E e A x with
  |some s=>(match Bia A x s with
   |some (m,us)=>(match bif K8 m then mkW r m else none with
    |some y=>(match S5 E (ups A us) e r (i+1) ps with
     |some (ys,us')=>some (y::ys,us++us')
     |none=>none)
    |none=>none)
   |none=>none)
  |none=>none) else none
def Ua {α:Type} (xs:List α) (lo hi:Option Int):List α:=
 match lo,hi with
 |none,none=>xs
 |some l,none=>xs.drop l.toNat
 |none,some h=>xs.take h.toNat
 |some l,some h=>(xs.take h.toNat).drop l.toNat
def U3 (lo hi:Option Int) (n:Nat) (K:Unit→Option R):Option R:=
 match lo,hi with
 |none,none=>K ()
 |some l,none=>bif decide (0≤l) then (bif decide (l≤(n:Int)) then K () else none) else none
 |none,some h=>bif decide (0≤h) then (bif decide (h≤(n:Int)) then K () else none) else none
 |some l,some h=>bif decide (0≤l) then (bif decide (l≤h) then (bif decide (h≤(n:Int)) then K () else none) else none) else none
def Qd (E:En) (A:Ab):Option Operand→Option (Option Int)
 |none=>some none
 |some x=>match opT E 0 A x with
  |some (.one (.sc (.int .i64 n)))=>some (some n)
  |_=>none
def mvO (E:En):Operand→Bool
 |.tmp t=>E.mv t
 |_=>false
def S6 (E:En) (A:Ab):List Operand→Option (List (Nat×Nat))
 |[]=>some []
 |x::l=>(match opT E 0 A x with
  |some (.one (.bp b v 0))=>(match S6 E A l with
   |some bs=>some ((b,v)::bs)
   |none=>none)
  |_=>none)
def Ku (A:Ab) (B p:Nat) (e:TypeId) (r:Ty) (xs:List r.den) (i:Int):Option (List Up):=
 bif (Gd r||Dh r)&&Nat.blt r.sz 999&&!(Nat.beq (p/1000) (B+1))&&(Nat.ble 2000 B&&Nat.blt B 3000) then (bif decide (0≤i) then (bif decide (i<(xs.length:Int)) then
  some (⟨p,false,.one (.opn e r xs i B ((get A (H B)).1+1))⟩::⟨H B,false,.one (.hd r.sz)⟩::Bi B 0 (A4 r (xs.getD i.toNat r.dflt))) else none) else none) else none
def Ni (A:Ab) (B p:Nat) (e:TypeId) (r:Ty) (xs:List r.den) (i:Int) (K:List Up→Option R) (Z:Option R):Option R:=
 bif (Gd r||Dh r)&&Nat.blt r.sz 999&&!(Nat.beq (p/1000) (B+1))&&(Nat.ble 2000 B&&Nat.blt B 3000) then (bif decide (0≤i) then (bif decide (i<(xs.length:Int)) then
  K (⟨p,false,.one (.opn e r xs i B ((get A (H B)).1+1))⟩::⟨H B,false,.one (.hd r.sz)⟩::Bi B 0 (A4 r (xs.getD i.toNat r.dflt))) else none) else none) else Z
def Mo (E:En) (A:Ab) (T T':TypeId) (x:Operand) (d:Nat):Option (List Up):=match x with
 |.tmp t=>(match opT E T A (.tmp t),E.ti T with
  |some (.one (.own e (.i .u8) xs)),some ⟨.sl e' (.i .u8),false,_,_⟩=>bif Nat.beq T T'&&(Nat.beq e e'&&Nat.blt 0 xs.length) then some [⟨t,false,.one .dead⟩,⟨d,false,.one (.fz e (.i .u8) xs)⟩] else none
  |_,_=>none)
 |_=>none
def Ph (E:En) (A:Ab) (T:TypeId) (x:Operand) (lo hi:Option Operand) (d:Nat):Option (Bool×List Up):=match opT E T A x with
 |some (.one (.two q v1 v2))=>(match lo,hi with
  |none,some y=>(match get A q,Qd E A (some y) with
   |(n,.one (.par e r ys m)),some (some h)=>bif Nat.beq n v1&&Jt E T e&&Nat.beq m 0 then some (decide (h=(ys.length:Int)),[⟨q,false,.one .dead⟩,⟨d,false,.one (.par e r ys 0)⟩]) else none
   |_,_=>none)
  |some y,none=>(match get A (q+1),Qd E A (some y) with
   |(n,.one (.par e r xs m)),some (some l)=>bif Nat.beq n v2&&Jt E T e then some (decide (0≤l)&&decide (l≤(xs.length:Int))&&Nat.ble m l.toNat,[⟨q+1,false,.one .dead⟩,⟨d,false,.one (.par e r (xs.drop l.toNat) 0)⟩]) else none
   |_,_=>none)
  |_,_=>none)
 |_=>none
def Ai (E:En) (o:Oper) (A:Ab) (K:List Up→Option R):Option R:=
 match o.op,o.dst with
 |.makeFunc (.func f) x y,some d=>(match x.toList,S6 E A y.toList with
  |[],some bs=>K [⟨d,false,.one (.fn f bs)⟩]
  |_,_=>none)
 |.move x,some d=>match opT E o.type A x with
  |some s=>(match x,s with
   |.tmp t,.one (.own e r xs)=>bif E.nm t&&!(E.mv d) then K [⟨d,false,.one (.al t (get A t).1)⟩] else K [⟨t,false,.one .dead⟩,⟨d,false,.one (.own e r xs)⟩]
   |.tmp _,.one (.io p)=>K [⟨d,false,.one (.al p (get A p).1)⟩]
   |_,_=>K (gone x s++[⟨d,false,s⟩]))
  |none=>none
 |.assign x,some d=>match opT E o.type A x with
  |some (.one (.al p v))=>(match get A p with
   |(n,.one (.own e r xs))=>bif Nat.beq n v then (bif E.res d then K [⟨p,false,.one .dead⟩,⟨d,false,.one (.own e r xs)⟩] else K [⟨p,true,.one (.fz e r xs)⟩,⟨d,false,.one (.fz e r xs)⟩]) else none
   |(n,.one (.fz e r xs))=>bif Nat.beq n v then K [⟨d,false,.one (.fz e r xs)⟩] else none
   |_=>none)
  |some s=>K (gone x s++[⟨d,false,s⟩])
  |none=>none
 |.pick c x y,some d=>match opT E 0 A c with
  |some (.one (.sc (.bool b)))=>bif b then (match opT E o.type A x with
    |some (.one (.sc u))=>K [⟨d,false,.one (.sc u)⟩]
    |_=>none)
   else (match opT E o.type A y with
    |some (.one (.sc u))=>K [⟨d,false,.one (.sc u)⟩]
    |_=>none)
  |_=>none
 |.binOp op T x y T',some d=>match opT E T A x,opT E T' A y with
  |some s,some s'=>bop op (E.ti T) (E.eq T) s s' λ u=>K [⟨d,false,.one (.sc u)⟩]
  |_,_=>none
 |.unOp op T x,some d=>match opT E T A x with
  |some s=>uop op s λ u=>K [⟨d,false,.one (.sc u)⟩]
  |none=>none
 |.convert T T' x,some d=>(match Mo E A T T' x d with
  |some U=>K U
  |none=>(match opT E T A x with
   |some (.one y)=>conv (E.ti T) (E.ti T') (.one (Qb A y)) λ s=>K [⟨d,false,s⟩]
   |_=>none))
 |.nilCheck x,some d=>match opT E 0 A x with
  |some (.one y)=>bif P7 A y then K [⟨d,false,.one y⟩] else none
  |_=>none
 |.extract (.tmp t) j,some d=>match bif Nat.blt t E.nt then (get A t).2 else .one .dead with
  |.tup vs=>(match nth vs j with
   |some (ag,l)=>(match Gx ag l with
    |some s=>bif Cm l then K [⟨t,false,.tup (vs.set j (false,[.dead]))⟩,⟨d,false,s⟩] else K [⟨d,false,s⟩]
    |none=>none)
   |none=>none)
  |_=>none
 |.field T (.tmp t) j,some d=>match E.ti T,(get A t).2 with
  |some ti,.agg l=>(match nth ti.fo j with
   |some (off,z,ag)=>(match Gx ag ((l.drop off).take z) with
    |some s=>bif ti.ag&&Nat.blt t E.nt&&Nat.ble (off+z) l.length then (bif Cm ((l.drop off).take z) then K [⟨t,false,.agg (setAll l off (List.replicate z .dead))⟩,⟨d,false,s⟩] else K [⟨d,false,s⟩]) else none
    |none=>none)
   |none=>none)
  |_,_=>none
 |.build T ps,some d=>match E.ti T with
  |some ti=>(match Hs E A ti (P8 ti.ty) [] ps.toList with
   |some (l,us)=>bif ti.ag then K (us++[⟨d,false,.agg l⟩]) else none
   |none=>none)
  |none=>none
 |.alloc T,some d=>match E.ti T with
  |some ti=>bif Nat.blt ti.ty.sz 999&&Nat.ble E.np d then K (⟨H d,false,.one (.hd ti.ty.sz)⟩::Bi d 0 (P8 ti.ty)++[⟨d,false,.one (.bp d ((get A (H d)).1+1) 0)⟩]) else none
  |none=>none
 |.box T x,some d=>match E.ti T,opT E T A x with
  |some ti,some s=>
   bif mvO E x then (bif Cn A (parts s)&&Nat.beq (parts s).length ti.ty.sz&&Nat.blt ti.ty.sz 999&&Nat.ble E.np d then K (⟨H d,false,.one (.hd ti.ty.sz)⟩::Bi d 0 (parts s)++[⟨d,false,.one (.bp d ((get A (H d)).1+1) 0)⟩]) else none) else
   let m:=(parts s).map (Gk A)
   bif A3 m&&Nat.beq m.length ti.ty.sz&&Nat.blt ti.ty.sz 999&&Nat.ble E.np d then K (G0 A (parts s)++gone x s++(⟨H d,false,.one (.hd ti.ty.sz)⟩::Bi d 0 m++[⟨d,false,.one (.bp d ((get A (H d)).1+1) 0)⟩])) else none
  |_,_=>none
 |.load T x,some d=>match E.ti T,opT E 0 A x with
  |some ti,some (.one (.bp b v off))=>(match get A (H b) with
   |(n,.one (.hd m))=>bif Nat.beq n v&&Nat.ble (off+ti.ty.sz) m then (match Gx ti.ag (cellsOf A b off ti.ty.sz) with
    |some s=>K [⟨d,false,s⟩]
    |none=>none) else none
   |_=>none)
  |some ti,some (.one (.ep p v i off))=>(match get A p with
   |(n,.one (.own _ r xs))=>bif Nat.beq n v&&Gd r&&Nat.ble (off+ti.ty.sz) r.sz then (match Gx ti.ag (((lvs r (xs.getD i.toNat r.dflt)).drop off).take ti.ty.sz) with
    |some s=>K [⟨d,false,s⟩]
    |none=>none) else none
   |_=>none)
  |some ti,some (.one (.dp p v pi _ r xs i off))=>bif Nat.beq (get A p).1 v&&Nat.ble (off+ti.ty.sz) r.sz then (match Gx ti.ag (((daL p v pi i 0 (A4 r (xs.getD i.toNat r.dflt))).drop off).take ti.ty.sz) with
   |some s=>K [⟨d,false,s⟩]
   |none=>none) else none
  |some ti,some (.one (.fp r x off))=>bif Nat.ble (off+ti.ty.sz) r.sz then (match Gx ti.ag (((lvs r x).drop off).take ti.ty.sz) with
   |some s=>K [⟨d,false,s⟩]
   |none=>none) else none
  |_,_=>none
 |.store T x y,none=>match E.ti T,opT E 0 A x,opT E T A y with
  |some ti,some (.one (.bp b v off)),some s=>bif mvO E y then (match Lw A y s (Iya (ups A (gone y s)) (parts s)) with
   |some (m,us)=>(match get A (H b) with
    |(n,.one (.hd h))=>bif Nat.beq n v&&Nat.beq m.length ti.ty.sz&&Nat.ble (off+ti.ty.sz) h then K (us++Bi b off m) else none
    |_=>none)
   |none=>none) else
   let m:=(parts s).map (Gk A)
   (match get A (H b) with
   |(n,.one (.hd h))=>bif Nat.beq n v&&E7 (ups A (G0 A (parts s)++gone y s)) m&&Nat.beq m.length ti.ty.sz&&Nat.ble (off+ti.ty.sz) h then K (G0 A (parts s)++gone y s++Bi b off m) else none
   |_=>none)
  |some ti,some (.one (.ep p v i off)),some s=>
   let m:=(parts s).map λ x=>Hn (Gk A x)
   (match get A p with
   |(n,.one (.own e r xs))=>bif Nat.beq n v&&Gd r&&A3 ((parts s).map (Gk A))&&Nat.beq m.length ti.ty.sz&&Nat.ble (off+m.length) r.sz&&Boa p (G0 A (parts s)++gone y s) then (match mkW r (setAll (lvs r (xs.getD i.toNat r.dflt)) off m) with
    |some z=>K (G0 A (parts s)++gone y s++[⟨p,true,.one (.own e r (xs.set i.toNat z))⟩])
    |none=>none) else none
   |_=>none)
  |some ti,some (.one (.dp p v (some pi) _ r xs i off)),some s=>(match Bia A y s with
   |some (m,us)=>(match get A p with
    |(n,.one (.own E0 R0 XS))=>bif Nat.beq n v&&K8 m&&Nat.beq m.length ti.ty.sz&&Nat.ble (off+m.length) r.sz&&Boa p us&&Dh R0 then (match mkW r (setAll (A4 r (xs.getD i.toNat r.dflt)) off m) with
     |some z=>(match A8a r (xs.set i.toNat z) pi R0 XS with
      |some XS'=>K (us++[⟨p,false,.one (.own E0 R0 XS')⟩])
      |none=>none)
     |none=>none) else none
    |_=>none)
   |none=>none)
  |_,_,_=>none
 |.fieldAddr T x j,some d=>match E.ti T,opT E 0 A x with
  |some ti,some (.one y)=>(match nth ti.fo j with
   |some o=>bif ti.ag&&P7 A y then K [⟨d,false,.one (Bna y o.1)⟩] else none
   |none=>none)
  |_,_=>none
 |.indexAddr T x i,some d=>bif E.opn d then (match opT E T A x,opT E 0 A i with
  |some (.one (.al p v)),some (.one (.sc (.int _ n)))=>(match get A p with
   |(m,.one (.own e r xs))=>bif Nat.beq m v&&Jt E T e&&!(Nat.beq p d) then Ni A (2000+d) p e r xs n (λ us=>K (us++[⟨d,false,.one (.bp (2000+d) ((get A (H (2000+d))).1+1) 0)⟩])) none else none
   |_=>none)
  |_,_=>none) else match opT E T A x,opT E 0 A i with
  |some (.one y),some (.one (.sc (.int _ n)))=>(match y,G5 A y with
   |.al p v,.own e r xs=>bif Jt E T e&&decide (0≤n) then (bif decide (n<(xs.length:Int)) then (bif Gd r then K [⟨d,false,.one (.ep p v n 0)⟩] else bif Dh r then K [⟨d,false,.one (.dp p v (some []) e r xs n 0)⟩] else none) else none) else none
   |.da p v pi e r xs,_=>bif Jt E T e&&Nat.beq (get A p).1 v&&decide (0≤n) then (bif decide (n<(xs.length:Int)) then K [⟨d,false,.one (.dp p v pi e r xs n 0)⟩] else none) else none
   |.al p v,.dead=>(match get A p with
    |(m,.one (.opn e _ _ i b vb))=>bif Nat.beq m v&&Jt E T e then (bif decide (n=i) then K [⟨d,false,.one (.bp b vb 0)⟩] else none) else none
    |_=>none)
   |_,.fz e r xs=>bif Jt E T e&&decide (0≤n) then (bif decide (n<(xs.length:Int)) then K [⟨d,false,.one (.fp r (xs.getD n.toNat r.dflt) 0)⟩] else none) else none
   |_,.own e r xs=>(match x with
    |.tmp t=>bif Jt E T e&&decide (0≤n) then (bif decide (n<(xs.length:Int)) then (bif Gd r then K [⟨d,false,.one (.ep t (get A t).1 n 0)⟩] else bif Dh r then K [⟨d,false,.one (.dp t (get A t).1 (some []) e r xs n 0)⟩] else none) else none) else none
    |_=>none)
   |_,_=>none)
  |_,_=>none
 |.index T x i,some d=>match opT E 0 A x,opT E 0 A i with
  |some (.one (.sc (.string s))),some (.one (.sc (.int _ n)))=>bif Rv E T&&decide (0≤n) then (bif decide (n<(s.size:Int)) then K [⟨d,false,.one (.sc (.int .u8 (bt s n)))⟩] else none) else none
  |_,_=>none
 |.slice T x lo hi none,some d=>(match Ph E A T x lo hi d with
  |some q=>bif q.1 then K q.2 else none
  |none=>(match opT E T A x,Qd E A lo,Qd E A hi with
   |some (.one (.sc (.string s))),some lo,some hi=>bif Rv E T then U3 lo hi s.size λ _=>
    K [⟨d,false,.one (.sc (.string (s.extract (match lo with|some l=>l.toNat|none=>0) (match hi with|some h=>h.toNat|none=>s.size))))⟩] else none
   |some (.one y),some lo,some hi=>(match y,G5 A y with
    |.own _ _ _,.own e r xs=>bif Jt E T e then (match lo with
     |none=>U3 lo hi xs.length λ _=>K (gone x (.one y)++[⟨d,false,.one (.own e r (Ua xs lo hi))⟩])
     |some _=>U3 lo hi xs.length λ _=>K (gone x (.one y)++[⟨d,false,.one (.fz e r (Ua xs lo hi))⟩])) else none
    |.al p v,.own e r xs=>bif Jt E T e then (bif E.mv d then (match lo with
      |none=>U3 lo hi xs.length λ _=>K [⟨p,false,.one .dead⟩,⟨d,false,.one (.own e r (Ua xs lo hi))⟩]
      |some _=>none)
     else bif Gd r then U3 lo hi xs.length λ _=>K (N3 A y++[⟨d,false,.one (.fz e r (Ua xs lo hi))⟩])
     else bif Dh r then U3 lo hi xs.length λ _=>K [⟨d,false,.one (.da p v none e r (Ua xs lo hi))⟩] else none) else none
    |.da p v _ e r xs,_=>bif Jt E T e&&Nat.beq (get A p).1 v then U3 lo hi xs.length λ _=>K [⟨d,false,.one (.da p v none e r (Ua xs lo hi))⟩] else none
    |_,.fz e r xs=>bif Jt E T e then U3 lo hi xs.length λ _=>K [⟨d,false,.one (.fz e r (Ua xs lo hi))⟩] else none
    |_,_=>none)
   |_,_,_=>none))
 |.buildSlice T n ps,some d=>match E.ti T with
  |some ⟨.sl e r,false,_,_⟩=>bif Nat.beq n ps.size&&Nat.ble (n*r.sz) 16777216&&(E.ti e).isSome then (match E.hint d with
   |none=>bif Gd r then (match S4 E A e r 0 ps.toList with
    |some (ys,us)=>K (us++[⟨d,false,.one (.own e r ys)⟩])
    |none=>none) else none
   |some r2=>bif decide (shp r2=shp r)&&Dh r2 then (match S5 E A e r2 0 ps.toList with
    |some (ys,us)=>K (us++[⟨d,false,.one (.own e r2 ys)⟩])
    |none=>none) else none) else none
  |_=>none
 |.makeSlice T x y,some d=>match E.ti T,opT E 0 A x,opT E 0 A y with
  |some ⟨.sl e r,false,_,_⟩,some (.one (.sc (.int .i64 n))),some (.one (.sc (.int .i64 m)))=>(match E.ti e with
   |some te=>bif Mu te.ty r&&decide (n=m) then (bif decide (0≤n) then (bif decide (n*te.by_≤140737488355328) then (match E.hint d with
    |none=>K [⟨d,false,.one (.own e r (List.replicate n.toNat r.dflt))⟩]
    |some r2=>bif decide (shp r2=shp r) then K [⟨d,false,.one (.own e r2 (List.replicate n.toNat r2.dflt))⟩] else none) else none) else none) else none
   |none=>none)
  |_,_,_=>none
 |.call c,d=>match c.callee with
  |.builtin .len=>(match c.argTypes.toList,c.args.toList,d with
   |[T],[x],some d=>(match opT E T A x with
    |some (.one y)=>(match G5 A y with
     |.sc (.string s)=>bif Rv E T then K [⟨d,false,.one (.sc (.int .i64 (s.size:Int)))⟩] else none
     |.da p v _ e _ xs=>bif Jt E T e&&Nat.beq (get A p).1 v then K [⟨d,false,.one (.sc (.int .i64 (xs.length:Int)))⟩] else none
     |.fz e _ xs=>bif Jt E T e then K [⟨d,false,.one (.sc (.int .i64 (xs.length:Int)))⟩] else none
     |.own e _ xs=>bif Jt E T e then K [⟨d,false,.one (.sc (.int .i64 (xs.length:Int)))⟩] else none
     |_=>none)
    |_=>none)
   |_,_,_=>none)
  |.builtin .min=>(match Lu E c.argTypes.toList A c.args.toList,d with
   |some (.one (.sc (.int k x))::l),some d=>Jx false l k x λ u=>K [⟨d,false,.one (.sc u)⟩]
   |_,_=>none)
  |.builtin .max=>(match Lu E c.argTypes.toList A c.args.toList,d with
   |some (.one (.sc (.int k x))::l),some d=>Jx true l k x λ u=>K [⟨d,false,.one (.sc u)⟩]
   |_,_=>none)
  |.builtin .append=>(match c.argTypes.toList,c.args.toList,d with
   |[T,T'],[x,y],some d=>(match opT E T A x,opT E T' A y with
    |some (.one u),some (.one w)=>(match G5 A u with
     |.own e r xs=>(match E.hint d with
      |some r2=>(match opT E T' (ups A (Pf u x)) y with
       |some (.one w2)=>(match G5 (ups A (Pf u x)) w2,Js r2 r xs,E.ti e with
        |.own e' r' ys,some xs2,some te=>(match Js r2 r' ys with
         |some ys2=>bif Dh r2&&Nat.beq e e'&&Jt E T e&&Nat.beq T T' then (bif Nat.ble ((xs2.length+ys2.length)*te.by_) 140737488355328 then
           K (Pf u x++(Pf w2 y++[⟨d,false,.one (.own e r2 (xs2++ys2))⟩])) else none) else none
         |none=>none)
        |.par e' r' ys m,some xs2,some te=>(match Js r2 r' ys with
         |some ys2=>bif Nat.beq m 0&&(Dh r2&&Nat.beq e e'&&Jt E T e&&Nat.beq T T') then (bif Nat.ble ((xs2.length+ys2.length)*te.by_) 140737488355328 then
           K (Pf u x++(Pf w2 y++[⟨d,false,.one (.own e r2 (xs2++ys2))⟩])) else none) else none
         |none=>none)
        |_,_,_=>none)
       |_=>none)
      |none=>bif Gd r then (match U7 A w with
       |some ⟨e',r',ys⟩=>(match K7 r r' ys,E.ti e with
        |some ys,some te=>bif Nat.beq e e'&&Jt E T e&&Nat.beq T T' then (bif Nat.ble ((xs.length+ys.length)*te.by_) 140737488355328 then
          K (Pf u x++[⟨d,false,.one (.own e r (xs++ys))⟩]) else none) else none
        |_,_=>none)
       |none=>(match w with
        |.sc (.string s)=>(match K7 r (.i .u8) (bytesOf s),E.ti e with
         |some ys,some ⟨.i .u8,false,1,_⟩=>bif Jt E T e&&Rv E T'&&Nat.ble ((xs.length+s.size)*1) 140737488355328 then
          K (Pf u x++[⟨d,false,.one (.own e r (xs++ys))⟩]) else none
         |_,_=>none)
        |_=>none)) else none)
     |_=>none)
    |_,_=>none)
   |_,_,_=>none)
  |.value (.func f)=>(match E.call f,Lu E c.argTypes.toList A c.args.toList with
   |some en,some ss=>bif Bra en.ps then Bua E A en (c.argTypes.toList.zip c.args.toList) d K else Qc E A en (c.argTypes.toList.zip c.args.toList) [] ss d K
   |_,_=>none)
  |.value (.tmp t)=>(match opT E 0 A (.tmp t) with
   |some (.one (.fn f bs))=>(match E.call f,Lu E c.argTypes.toList A c.args.toList with
    |some en,some ss=>bif He A bs then Qc E A en (c.argTypes.toList.zip c.args.toList) bs ss d K else none
    |_,_=>none)
   |_=>none)
  |_=>none
 |_,_=>none
def Fqa (A:Ab) (p t B:Nat):Option (List Up):=match (get A p).2,(get A t).2 with
 |.one (.own e r xs),.one (.sc (.int _ i))=>Ku A B p e r xs i
 |_,_=>none
def Aaa (A:Ab) (d B:Nat):Option (List Up):=match (get A d).2 with
 |.one (.ep p v i off)=>(match get A p with
  |(n,.one (.own e r xs))=>bif Nat.beq n v&&Gd r&&!(Nat.beq p d) then (match Ku A B p e r xs i with
   |some us=>some (us++[⟨d,false,.one (.bp B ((get A (H B)).1+1) off)⟩])
   |none=>none) else none
  |_=>none)
 |.one (.dp p v (some []) _ _ _ i off)=>(match get A p with
  |(n,.one (.own e r xs))=>bif Nat.beq n v&&!(Gd r)&&!(Nat.beq p d) then (match Ku A B p e r xs i with
   |some us=>some (us++[⟨d,false,.one (.bp B ((get A (H B)).1+1) off)⟩])
   |none=>none) else none
  |_=>none)
 |_=>none
def Bva (A:Ab) (p:Nat):Option (List Up):=match (get A p).2 with
 |.one (.opn _ r0 _ _ b v)=>(match Ka A b v r0 r0 with
  |some (l,us)=>(match (get (ups A us) p).2 with
   |.one (.opn e r xs i b' v')=>bif Nat.beq b b'&&Nat.beq (get (ups A us) (H b)).1 v'&&Nat.ble 2000 b&&Nat.beq l.length r.sz&&((Gd r&&!(Cm l))||(Dh r&&K8 l)) then (match mkW r l with
    |some z=>some (us++[⟨H b,false,.one .dead⟩,⟨p,false,.one (.own e r (xs.set i.toNat z))⟩])
    |none=>none) else none
   |_=>none)
  |none=>none)
 |_=>none
def Nj (E:En) (A:Ab) (K:Ab→Option R):Gh→Option R
 |.cl p=>(match Bva A p with
  |some us=>K (ups A us)
  |none=>K A)
 |.op p t B=>bif Nat.blt t E.nt then (match (get A p).2,(get A t).2 with
  |.one (.own e r xs),.one (.sc (.int _ i))=>Ni A B p e r xs i (λ us=>K (ups A us)) (K A)
  |_,_=>K A) else K A
 |.oc p i B=>(match (get A p).2 with
  |.one (.own e r xs)=>Ni A B p e r xs i (λ us=>K (ups A us)) (K A)
  |_=>K A)
 |.sp p t B=>bif Nat.blt t E.nt&&(Nat.ble 2000 B&&Nat.blt B 3000)&&!(Nat.beq p (C B 0))&&!(Nat.beq p (C B 1)) then (match get A p,(get A t).2,(get A (H B)).2 with
  |(_,.one (.own e r xs)),.one (.sc (.int _ i)),.one .dead=>bif Dh r then (bif decide (0≤i)&&decide (i≤(xs.length:Int)) then
    K (ups A [⟨C B 0,false,.one (.par e r (xs.take i.toNat) 0)⟩,⟨C B 1,false,.one (.par e r xs i.toNat)⟩,⟨p,false,.one (.two (C B 0) ((get A (C B 0)).1+1) ((get A (C B 1)).1+1))⟩]) else none) else K A
  |_,_,_=>K A) else K A
 |.od d B=>bif Nat.blt d E.nt then (match (get A d).2 with
  |.one (.ep p v i off)=>(match get A p with
   |(n,.one (.own e r xs))=>bif Nat.beq n v&&Gd r&&!(Nat.beq p d) then Ni A B p e r xs i (λ us=>K (ups A (us++[⟨d,false,.one (.bp B ((get A (H B)).1+1) off)⟩]))) (K A) else K A
   |_=>K A)
  |.one (.dp p v (some []) _ _ _ i off)=>(match get A p with
   |(n,.one (.own e r xs))=>bif Nat.beq n v&&!(Gd r)&&!(Nat.beq p d) then Ni A B p e r xs i (λ us=>K (ups A (us++[⟨d,false,.one (.bp B ((get A (H B)).1+1) off)⟩]))) (K A) else K A
   |_=>K A)
  |_=>K A) else K A
def I6 (E:En):List Gh→Ab→(Ab→Option R)→Option R
 |[],A,K=>K A
 |g::l,A,K=>Nj E A (λ A=>I6 E l A K) g
def S7 (E:En) (o:Oper):Bool:=match o.dst with
 |some d=>Nat.blt d E.nt
 |none=>true
def Bwa (ops:List Oper) (j:Nat):Option Nat:=match nth ops j with
 |some o=>o.dst
 |none=>none
def Kw (o:Oper) (A:Ab):Ab:=match o.dst with
 |some d=>up A ⟨d,false,.one .un⟩
 |none=>A
def lit (A:Ab) (d n:Nat) (v:Bool):Ab:=(d,n,.one (.sc (.bool v)))::A
def Nk (E:En) (ops:List Oper):List Nat→Ab→(Ab→Option R)→Option R
 |[],A,K=>K A
 |i::l,A,K=>match nth ops i with
  |none=>none
  |some o=>bif S7 E o then (match o.guard with
   |none=>Ai E o A λ U=>Nk E ops l (ups A U) K
   |some (j,want)=>(match Bwa ops j with
    |none=>none
    |some dj=>bif Nat.blt dj E.nt then (match get A dj with
     |(n,.one (.sc (.bool b)))=>
      bif b then (bif want then Ai E o (lit A dj n true) λ U=>Nk E ops l (ups (lit A dj n true) U) K else Nk E ops l (Kw o (lit A dj n true)) K)
      else (bif want then Nk E ops l (Kw o (lit A dj n false)) K else Ai E o (lit A dj n false) λ U=>Nk E ops l (ups (lit A dj n false) U) K)
     |(_,.one .un)=>Nk E ops l (Kw o A) K
     |_=>none) else none))
   else none
def rdC (A:Ab) (b:Nat):Nat→Nat→List Nat
 |_,0=>[]
 |j,n+1=>C b j::((match (get A (C b j)).2 with
  |.one (.al p _)=>[p]
  |_=>[])++rdC A b (j+1) n)
def rdL (A:Ab):Lf→List Nat
 |.al p _=>[p]
 |.ep p _ _ _=>[p]
 |.da p _ _ _ _ _=>[p]
 |.dp p _ _ _ _ _ _ _=>[p]
 |.bp b _ off=>H b::(match (get A (H b)).2 with
  |.one (.hd n)=>rdC A b off (n-off)
  |_=>[])
 |.fn _ bs=>bs.flatMap λ b=>H b.1::(match (get A (H b.1)).2 with
  |.one (.hd n)=>rdC A b.1 0 (n-0)
  |_=>[])
 |_=>[]
def Mua (A:Ab):List Lf→List Nat
 |[]=>[]
 |y::l=>rdL A y++Mua A l
def rdO (A:Ab):Operand→List Nat
 |.tmp t=>t::Mua A (parts (get A t).2)
 |_=>[]
def Fma (A:Ab):List Operand→List Nat
 |[]=>[]
 |x::l=>rdO A x++Fma A l
def Fm:Op→List Operand
 |.move x | .assign x | .unOp _ _ x | .convert _ _ x | .nilCheck x | .extract x _ | .field _ x _ | .box _ x | .load _ x | .fieldAddr _ x _=>[x]
 |.pick c x y=>[c,x,y]
 |.binOp _ _ x y _ | .store _ x y | .makeSlice _ x y | .indexAddr _ x y | .index _ x y=>[x,y]
 |.build _ ps | .buildSlice _ _ ps=>ps.toList.map Prod.snd
 |.slice _ x lo hi _=>x::(lo.toList++hi.toList)
 |.call c=>(match c.callee with
  |.value x=>x::c.args.toList
  |_=>c.args.toList)
 |.makeFunc _ f c=>f.toList++c.toList
 |_=>[]
def rdD:Option Nat→List Nat
 |some d=>[d,H d,H (2000+d)]
 |none=>[]
def rdH:Lf→List Nat
 |.bp b _ _=>[H b]
 |.ep p _ _ _=>[p]
 |.dp p _ _ _ _ _ _ _=>[p]
 |_=>[]
def L9a:List Lf→List Nat
 |[]=>[]
 |y::l=>rdH y++L9a l
def rdP (A:Ab):Operand→List Nat
 |.tmp t=>t::L9a (parts (get A t).2)
 |_=>[]
def rdT:Operand→List Nat
 |.tmp t=>[t]
 |_=>[]
def N1a (A:Ab):Operand→List Nat
 |.tmp t=>(match (get A t).2 with
  |.one (.io p)=>[p]
  |_=>[])
 |_=>[]
def Aba (A:Ab):Operand→Option Operand→List Nat
 |.tmp t,lo=>(match (get A t).2,lo with
  |.one (.two q _ _),none=>[q]
  |.one (.two q _ _),some _=>[q+1]
  |_,_=>[])
 |_,_=>[]
def Mva (E:En) (o:Oper):Bool:=match o.op with
 |.call c=>(match c.callee with
  |.value (.func f)=>(match E.call f with
   |some en => !(Bra en.ps)
   |none=>true)
  |_=>true)
 |_=>true
def Kwa (A:Ab):List Lf→List Nat
 |[]=>[]
 |.al p _::l=>(bif Nat.ble 1000 p then H (p/1000-1)::(match (get A (H (p/1000-1))).2 with
  |.one (.hd n)=>rdC A (p/1000-1) 0 (n-0)
  |_=>[]) else [])++Kwa A l
 |_::l=>Kwa A l
def Iza (A:Ab):List Operand→List Nat
 |[]=>[]
 |.tmp t::l=>(match (get A t).2 with
  |.agg ys=>Kwa A ys
  |_=>[])++Iza A l
 |_::l=>Iza A l
def Kxa (A:Ab):Op→List Nat
 |.call c=>Fma A (Fm (.call c))++Iza A c.args.toList
 |.move x=>rdT x++N1a A x
 |.slice T x lo hi m=>Fma A (Fm (.slice T x lo hi m))++Aba A x lo
 |.nilCheck x | .fieldAddr _ x _=>rdP A x
 |op=>Fma A (Fm op)
def rds (A:Ab) (o:Oper):List Nat:=rdD o.dst++Kxa A o.op
structure Lg where
 i:Nat
 anc:Nat
 F:List Nat
 W:List Nat
 ex:Option (Nat×Nat×Nat)
def Kya (p:Nat):List Nat→Bool
 |[]=>false
 |q::l=>Nat.beq q p||Kya p l
def Kza:List Nat→List Nat→Bool
 |[],_=>true
 |p::l,m => !(Kya p m)&&Kza l m
def Bxa (x y:Lg):Bool:=(Kza x.W y.F&&Kza y.W x.F)||(match x.ex,y.ex with
 |some (t,j,d),some (t',j',d')=>Nat.beq t t'&&!(Nat.beq j j')&&!(Nat.beq d d')&&!(Nat.beq d t)&&!(Nat.beq d' t)
 |_,_=>false)
def aft (o:Oper):List Nat:=o.after.toList.filterMap λ e=>bif Region.binds .any e then some e.on else none
def Bya:List Lg→Nat→Nat
 |[],_=>0
 |x::l,j=>bif Nat.beq x.i j then x.anc else Bya l j
def Hxa (lg:List Lg):List Nat→Nat
 |[]=>0
 |j::l=>(2 ^ j ||| Bya lg j) ||| Hxa lg l
def Bza (l:List Lg) (y:Lg):Bool:=l.all λ x=>Nat.testBit y.anc x.i||Bxa x y
def Laa (o:Oper):Option (Nat×Nat×Nat):=match o.op,o.dst with
 |.extract (.tmp t) j,some d=>some (t,j,d)
 |_,_=>none
def Pi (o:Oper) (i:Nat) (lg:List Lg) (g:List Nat) (A:Ab) (U:List Up):Lg:=⟨i,Hxa lg (aft o),g++rds A o++U.map Up.l,U.map Up.l,bif g.isEmpty then Laa o else none⟩
def Kx (o:Oper) (i:Nat) (lg:List Lg) (g:List Nat):Lg:=⟨i,Hxa lg (aft o),g++o.dst.toList,o.dst.toList,none⟩
def Ff (E:En) (ops:List Oper):List Nat→List Lg→Ab→(Ab→Option R)→Option R
 |[],_,A,K=>K A
 |i::l,lg,A,K=>match nth ops i with
  |none=>none
  |some o=>bif (S7 E o&&Mva E o)&&(aft o).all (λ j=>Nat.blt j i) then (match o.guard with
   |none=>Ai E o A λ U=>bif Bza lg (Pi o i lg [] A U) then Ff E ops l (Pi o i lg [] A U::lg) (ups A U) K else none
   |some (j,want)=>(match Bwa ops j with
    |none=>none
    |some dj=>bif Nat.blt dj E.nt then (match get A dj with
     |(n,.one (.sc (.bool b)))=>
      bif b then (bif want then Ai E o (lit A dj n true) λ U=>bif Bza lg (Pi o i lg [dj] (lit A dj n true) U) then Ff E ops l (Pi o i lg [dj] (lit A dj n true) U::lg) (ups (lit A dj n true) U) K else none
       else bif Bza lg (Kx o i lg [dj]) then Ff E ops l (Kx o i lg [dj]::lg) (Kw o (lit A dj n true)) K else none)
      else (bif want then bif Bza lg (Kx o i lg [dj]) then Ff E ops l (Kx o i lg [dj]::lg) (Kw o (lit A dj n false)) K else none
       else Ai E o (lit A dj n false) λ U=>bif Bza lg (Pi o i lg [dj] (lit A dj n false) U) then Ff E ops l (Pi o i lg [dj] (lit A dj n false) U::lg) (ups (lit A dj n false) U) K else none)
     |(_,.one .un)=>bif Bza lg (Kx o i lg [dj]) then Ff E ops l (Kx o i lg [dj]::lg) (Kw o A) K else none
     |_=>none) else none))
   else none
def Hya (E:En) (ops:List Oper) (A:Ab) (K:Ab→Option R):Option R:=Ff E ops (List.range ops.length) [] A K
def first:Code→Nat
 |.region id _ _=>id
 |.seq a _=>first a
 |.block _ c=>first c
 |.loop c=>first c
 |.scope c=>first c
 |.cond _ a _=>first a
 |_=>0
def Ky (vs:List (Nat×Ty)) (p:Nat):Bool:=vs.any (λ x=>Nat.beq x.1 p&&(match x.2 with | .ow _ _=>true|_=>false))
def L0a:Ty→Bool
 |.ow _ _=>true
 |_=>false
def Fra (A:Ab) (vs:List (Nat×Ty)) (l:Nat) (t:Ty):Option t.den:=
 match (get A l).2 with
 |.one (.al p v)=>bif Ky vs p then none else mkW t [Hn (G5 A (.al p v))]
 |.one (.own e r xs)=>bif L0a t then mkW t [.own e r xs] else bif Ky vs l then none else mkW t [.fz e r xs]
 |.one x=>mkW t [x]
 |_=>none
def Fsa:Nat→Ty→List (Nat×Ty)
 |l,.pr t u=>Fsa l t++Fsa (l+t.sz) u
 |l,t=>[(l,t)]
def Qe:List (Nat×Ty)→List (Nat×Ty)
 |[]=>[]
 |v::l=>Fsa v.1 v.2++Qe l
def L1a (A:Ab) (all:List (Nat×Ty)):Nat→(t:Ty)→Option t.den
 |l,.pr t u=>match L1a A all l t with
  |some x=>(match L1a A all (l+t.sz) u with
   |some y=>some (x,y)
   |none=>none)
  |none=>none
 |l,.i k=>Fra A all l (.i k)
 |l,.b=>Fra A all l .b
 |l,.s=>Fra A all l .s
 |l,.sl e r=>Fra A all l (.sl e r)
 |l,.ow e r=>Fra A all l (.ow e r)
def Fta (A:Ab) (all:List (Nat×Ty)):(vs:List (Nat×Ty))→Option (Den (vs.map Prod.snd))
 |[]=>some ()
 |[v]=>L1a A all v.1 v.2
 |v::w::l=>match L1a A all v.1 v.2 with
  |some x=>(match Fta A all (w::l) with
   |some y=>some (x,y)
   |none=>none)
  |none=>none
def Ub:List (Nat×Nat)→List (Nat×Nat)→Bool
 |[],[]=>true
 |a::l,b::m=>Nat.beq a.1 b.1&&Nat.beq a.2 0&&Ub l m
 |_,_=>false
def C0a (A:Ab):List (Nat×Lf)→Bool
 |[]=>true
 |(l,.bp b v0 off)::cs=>(match get A l with
  |(_,.one (.bp b' v off'))=>Nat.beq v0 0&&Nat.beq b b'&&Nat.beq off off'&&(match get A (H b) with
   |(n,.one (.hd _))=>Nat.beq n v
   |_=>false)
  |_=>false)&&C0a A cs
 |(l,.hd m)::cs=>(match get A l with
  |(_,.one (.hd m'))=>Nat.beq m m'
  |_=>false)&&C0a A cs
 |(l,.fn F bs)::cs=>(match get A l with
  |(_,.one (.fn F' bs'))=>Nat.beq F F'&&Ub bs bs'&&He A bs'
  |_=>false)&&C0a A cs
 |(l,.io p)::cs=>(match get A l with
  |(_,.one (.io p'))=>Nat.beq p p'
  |_=>false)&&C0a A cs
 |_=>false
def J0a (v:Ru) (A:Ab):Option v.den:=bif C0a A v.cs then Fta A (Qe v.vs) v.vs else none
def C1a:Nat→(t:Ty)→t.den→Ab
 |l,.pr t u,x=>C1a l t x.1++C1a (l+t.sz) u x.2
 |l,.i k,x=>[(l,0,.one (.sc (.int k x)))]
 |l,.b,x=>[(l,0,.one (.sc (.bool x)))]
 |l,.s,x=>[(l,0,.one (.sc (.string x)))]
 |l,.sl e r,x=>[(l,0,.one (.fz e r x))]
 |l,.ow e r,x=>[(l,0,.one (.own e r x))]
def S8:(vs:List (Nat×Ty))→Den (vs.map Prod.snd)→Ab
 |[],_=>[]
 |[v],x=>C1a v.1 v.2 x
 |v::w::l,x=>C1a v.1 v.2 x.1++S8 (w::l) x.2
def Mw (v:Ru) (x:v.den):Ab:=S8 v.vs x++v.cs.map λ c=>(c.1,0,.one c.2)
def J1a (K:Ex→Ab→Option R):(l:List (Ex×Ru))→Foa l→Option R
 |[],x=>nomatch x
 |[a],x=>K a.1 (Mw a.2 x)
 |a::b::l,x=>Sum.elim (λ y=>K a.1 (Mw a.2 y)) (λ z=>J1a K (b::l) z) x
def exB:Ex→Ex→Bool
 |.normal,.normal=>true
 |.exit i,.exit j=>Nat.beq i j
 |.ret,.ret=>true
 |_,_=>false
def Aca (e:Ex) (A:Ab):(l:List (Ex×Ru))→Option (Foa l)
 |[]=>none
 |[a]=>bif exB e a.1 then J0a a.2 A else none
 |a::b::l=>bif exB e a.1 then (match J0a a.2 A with|some x=>some (.inl x)|none=>none) else (match Aca e A (b::l) with|some x=>some (.inr x)|none=>none)
def Mwa (E:En) (A:Ab) (c:Operand) (v:Bool):Ab:=match c with
 |.tmp t=>bif E.rf then up A ⟨t,true,.one (.sc (.bool v))⟩ else A
 |_=>A
def Hf (E:En):Code→Ab→(Ex→Ab→Option R)→Option R
 |.skip,A,K=>K .normal A
 |.region id ops draw,A,K=>I6 E (E.gh id) A λ A=>bif draw then Hya E ops.toList A (K .normal) else Nk E ops.toList (List.range ops.size) A (K .normal)
 |.seq a b,A,K=>Hf E a A λ e A'=>match e with
  |.normal=>Hf E b A' K
  |e=>K e A'
 |.cond c x y,A,K=>match opT E 0 A c with
  |some (.one (.sc (.bool b)))=>bif b then Hf E x (Mwa E A c true) K else Hf E y (Mwa E A c false) K
  |_=>none
 |.block id c,A,K=>Hf E c A λ e A'=>match e with
  |.exit i=>bif Nat.beq i id then K .normal A' else K (.exit i) A'
  |e=>K e A'
 |.loop c,A,K=>match E.lp (first c) with
  |some L=>I6 E (E.gh (1000001+first c)) A λ A=>(match J0a L.ins A with
   |some x=>(L.run x).bind λ r=>J1a K L.alts r
   |none=>none)
  |none=>none
 |.exit id,A,K=>K (.exit id) A
 |.ret,A,K=>K .ret A
 |_,_,_=>none
def F7 (l:Nat):Code→Code
 |.seq a b=>match F7 l a with
  |.skip=>F7 l b
  |c=>c
 |.cond _ a b=>match F7 l a with
  |.skip=>F7 l b
  |c=>c
 |.block _ c=>F7 l c
 |.loop c=>bif Nat.beq (first c) l then c else F7 l c
 |_ => .skip
def C2a (E:En) (L:Lp) (c:Code) (x:L.ins.den):Option (Foa L.alts):=
 Hf E c (Mw L.ins x) λ e A=>match e with
  |.normal=>I6 E (E.gh (1000001+first c)) A λ A=>(match J0a L.ins A with
   |some y=>L.run y
   |none=>none)
  |e=>I6 E (E.gh (1000001+first c)) A λ A=>Aca e A L.alts
def Hza:List Lf→Lf
 |[x]=>x
 |_ => .dead
def bid (nv i:Nat):Nat:=bif Nat.blt i nv then i else 1500+(i-nv)
def vwL (B:Nat):Nat→List Lf→List Lf
 |_,[]=>[]
 |j,.own _ _ _::l => .al (C B j) 0::vwL B (j+1) l
 |j,x::l=>x::vwL B (j+1) l
def Nl (B:Nat):Nat→List Lf→Ab
 |_,[]=>[]
 |j,x::l=>(C B j,0,.one x)::Nl B (j+1) l
def ioL (B:Nat):Nat→List Lf→List Lf
 |_,[]=>[]
 |j,.own _ _ _::l => .io (C B j)::ioL B (j+1) l
 |j,x::l=>x::ioL B (j+1) l
def Fk (nv:Nat):Nat→List Par→List (List Lf)→Ab
 |i,.io ag _::ps,l::ls=>(i,0,(bif ag then .agg (vwL (3000+i) 0 l) else .one (Hza (ioL (3000+i) 0 l))))::(Nl (3000+i) 0 l++Fk nv (i+1) ps ls)
 |i,.vw _ h::ps,l::ls=>(i,0,.agg (vwL (bid nv h) 0 l))::Fk nv (i+1) ps ls
 |i,.val ag _::ps,l::ls=>(i,0,(bif ag then .agg l else .one (Hza l)))::Fk nv (i+1) ps ls
 |i,.ptr t _::ps,l::ls=>(i,0,.one (.bp i 0 0))::(H i,0,.one (.hd t.sz))::(ups [] (Bi i 0 l)++Fk nv (i+1) ps ls)
 |i,.hid t _::ps,l::ls=>(H (bid nv i),0,.one (.hd t.sz))::(Nl (bid nv i) 0 l++Fk nv (i+1) ps ls)
 |i,.rd t::ps,l::ls=>(match mkW t l with
  |some x=>(i,0,.one (.fp t x 0))::Fk nv (i+1) ps ls
  |none=>Fk nv (i+1) ps ls)
 |i,.fn F m::ps,_::ls=>(i,0,.one (.fn F ((List.range m).map λ j=>(bid nv (nv+j),0))))::Fk nv (i+1) ps ls
 |_,_,_=>[]
def N2a (nv:Nat) (ps:List Par) (x:Den (ps.map Par.ty)):Ab:=Fk nv 0 ps (Ar _ x)
def Uc (np:Nat) (A:Ab) (k:RK) (t:Ty) (x:Operand) (s:Sv):Option (List Lf×List Up):=match k with
 |.ptr=>(match s with
  |.one (.bp b v 0)=>(match get A (H b) with
   |(n,.one (.hd m))=>bif Nat.beq n v&&(Nat.ble np b&&Nat.blt b 1000)&&Gd t&&Nat.beq m t.sz&&Nat.blt m 999&&A3 ((cellsOf A b 0 m).map (Gk A)) then some ((cellsOf A b 0 m).map (Gk A),G0 A (cellsOf A b 0 m)++[⟨H b,false,.one .dead⟩]) else none
   |_=>none)
  |_=>none)
 |k=>bif Fy (Mn k) s then Kt A x s t else none
def Ud (A:Ab) (t:Ty):Sv→Option (List Lf×List Up)
 |.one (.bp b v 0)=>Ka A b v t t
 |_=>none
def Nm (E:En):Ab→List (RK×Ty)→List ResultVar→Option (List (List Lf)×List Up)
 |_,[],[]=>some ([],[])
 |A,(k,t)::ks,.tmp x::rs=>bif Nat.blt x E.nt then (match Uc E.np A k t (.tmp x) (get A x).2 with
  |some (l,u)=>(match Nm E (ups A u) ks rs with
   |some (ls,us)=>some (l::ls,u++us)
   |none=>none)
  |none=>none) else none
 |A,(.agg,t)::ks,.cell x T::rs=>bif Nat.blt x E.nt&&(match E.ti T with|some ti=>ti.ag&&Nat.beq ti.ty.sz t.sz|none=>false) then (match Ud A t (get A x).2 with
  |some (l,u)=>(match Nm E (ups A u) ks rs with
   |some (ls,us)=>some (l::ls,u++us)
   |none=>none)
  |none=>none) else none
 |_,_,_=>none
def Nva:Sv→Lf
 |.one (.sc v) => .sc v
 |.one (.fz e r xs) => .fz e r xs
 |_ => .dead
def Lba (A:Ab) (B:Nat):Nat→List Ty→List Lf
 |_,[]=>[]
 |j,.ow _ _::ts => .al (C B j) (get A (C B j)).1::Lba A B (j+1) ts
 |j,_::ts=>Nva (get A (C B j)).2::Lba A B (j+1) ts
def J2a (A:Ab) (b:Nat) (t':Ty):Option (List Lf×List Up):=Ka A b (get A (H b)).1 t' t'
def C3a (nv:Nat):Ab→Nat→List Par→Option (List (List Lf))
 |_,_,[]=>some []
 |A,i,.ptr _ t'::ps=>(match J2a A (bid nv i) t' with
  |some (l,us)=>(match C3a nv (ups A us) (i+1) ps with
   |some ls=>some (l::ls)
   |none=>none)
  |none=>none)
 |A,i,.hid _ t'::ps=>(match J2a A (bid nv i) t' with
  |some (l,us)=>(match C3a nv (ups A us) (i+1) ps with
   |some ls=>some (l::ls)
   |none=>none)
  |none=>none)
 |A,i,.io _ t::ps=>(match Ck A (Dx t) (Lba A (3000+i) 0 (Dx t)) with
  |some (l,us)=>bif A3 l then (match C3a nv (ups A us) (i+1) ps with
   |some ls=>some (l::ls)
   |none=>none) else none
  |none=>none)
 |A,i,_::ps=>C3a nv A (i+1) ps
def C4a (E:En) (c:Code) (rv:List ResultVar) (en:Ent) (x:Den (en.ps.map Par.ty)):Option (Den (en.rs.map Prod.snd++Eg en.ps)):=
 Hf E c (N2a en.nv en.ps x) λ e A=>match e with
  |.exit _=>none
  |_=>I6 E (E.gh 1000000) A λ A=>match Nm E A en.rs rv with
   |some (ls,us)=>(match C3a en.nv (ups A us) 0 en.ps with
    |some bs=>Ks (en.rs.map Prod.snd++Eg en.ps) (ls++bs)
    |none=>none)
   |none=>none
end
def csi {R:Type} {c:Bool} {a:Option R} {r:R}:cond c a none=some r↔c=true∧a=some r:=by
 cases c with
 |false=>exact⟨λ h=>(nomatch h),λ h=>(nomatch h.1)⟩
 |true=>exact⟨λ h=>⟨rfl,h⟩,λ h=>h.2⟩
def cs {R:Type} {c:Bool} {a:Option R} {r:R} (h:cond c a none=some r):c=true∧a=some r:=csi.1 h

end Go.Proofs.Ytbbifgjgneefkaa.Vf
