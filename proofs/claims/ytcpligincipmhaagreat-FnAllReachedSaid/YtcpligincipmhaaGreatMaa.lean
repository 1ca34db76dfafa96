import Derived.Calls
import Derived.Orders
set_option linter.all false
namespace Go.Proofs.YtcpligincipmhaaGreat.Vf
open Go
open List (length getD)
open Int (toNat)
open Go.IntKind (wrap)
open BitVec (ofInt)

inductive Ty where
 |i (k:IntKind)
 |b
 |s
 |sl (e:TypeId) (r:Ty)
 |ow (e:TypeId) (r:Ty)
 |pr (x y:Ty)
 deriving DecidableEq
@[reducible] def Ty.den:Ty→Type
 |.i _=>Int
 |.b=>Bool
 |.s=>ByteArray
 |.sl _ r=>List r.den
 |.ow _ r=>List r.den
 |.pr x y=>x.den×y.den
def Ty.dflt:(t:Ty)→t.den
 |.i _=>(0:Int)
 |.b=>false
 |.s=>(⟨#[]⟩:ByteArray)
 |.sl _ _=>[]
 |.ow _ _=>[]
 |.pr x y=>(x.dflt,y.dflt)
def Ty.sz:Ty→Nat
 |.pr x y=>x.sz+y.sz
 |_=>1
def shp:Ty→Ty
 |.i k => .i k
 |.b => .b
 |.s => .s
 |.sl e r => .sl e (shp r)
 |.ow e r => .sl e (shp r)
 |.pr x y => .pr (shp x) (shp y)
def Hf:∀ t:Ty,(shp t).den=t.den
 |.i _=>rfl
 |.b=>rfl
 |.s=>rfl
 |.sl _ r=>congrArg List (Hf r)
 |.ow _ r=>congrArg List (Hf r)
 |.pr x y=>by show ((shp x).den×(shp y).den)=(x.den×y.den);rw[Hf x,Hf y]
def G0a {t u:Ty} (h:shp u=shp t):u.den=t.den:=(Hf u).symm.trans ((congrArg Ty.den h).trans (Hf t))
def J6:Ty→Bool
 |.ow _ _=>false
 |.pr x y=>J6 x&&J6 y
 |_=>true
def Gk:Ty→Bool
 |.sl _ _=>false
 |.ow _ r=>Gk r
 |.pr x y=>Gk x&&Gk y
 |_=>true
inductive Lf where
 |dead
 |un
 |sc (u:Value)
 |fz (e:TypeId) (r:Ty) (xs:List r.den)
 |own (e:TypeId) (r:Ty) (xs:List r.den)
 |al (p v:Nat)
 |bp (b v off:Nat)
 |ep (p v:Nat) (i:Int) (off:Nat)
 |fp (r:Ty) (x:r.den) (off:Nat)
 |hd (n:Nat)
 |da (p v:Nat) (pi:Option (List (Int×Nat))) (e:TypeId) (r:Ty) (xs:List r.den)
 |dp (p v:Nat) (pi:Option (List (Int×Nat))) (e:TypeId) (r:Ty) (xs:List r.den) (i:Int) (off:Nat)
 |opn (e:TypeId) (r:Ty) (xs:List r.den) (i:Int) (b v:Nat)
 |fn (F:FuncId) (bs:List (Nat×Nat))
inductive Sv where
 |one (x:Lf)
 |agg (cs:List Lf)
 |tup (vs:List (Bool×List Lf))
abbrev Ab:=List (Nat×Nat×Sv)
def get:Ab→Nat→Nat×Sv
 |[],_=>(0,.one .dead)
 |(k,n,s)::t,l=>bif Nat.beq k l then (n,s) else get t l
structure Up where
 l:Nat
 keep:Bool
 s:Sv
def up (A:Ab) (u:Up):Ab:=(u.l,bif u.keep then (get A u.l).1 else (get A u.l).1+1,u.s)::A
def ups (A:Ab):List Up→Ab
 |[]=>A
 |u::l=>ups (up A u) l
def S5:Ty→Ty→Bool
 |.i k,.i k'=>decide (k=k')
 |.b,.b=>true
 |.s,.s=>true
 |.sl _ _,.sl _ _=>true
 |.sl _ _,.ow _ _=>true
 |.ow _ _,.sl _ _=>true
 |.ow _ _,.ow _ _=>true
 |.pr x y,.pr x' y'=>S5 x x'&&S5 y y'
 |_,_=>false
def C (b j:Nat):Nat:=1000*(b+1)+j
def H (b:Nat):Nat:=1000*(b+1)+999
def Oz (r r':Ty) (xs:List r'.den):Option (List r.den):=if h:shp r'=shp r then some (cast (congrArg List (G0a h)) xs) else none
def S6 (r r':Ty) (xs:List r'.den):Option (List r.den):=if h:r'=r then some (h ▸ xs) else if shp r'=shp r then (match xs with|[]=>some []|_=>none) else none
def A6:(t:Ty)→t.den→List Lf
 |.i k,n=>[.sc (.int k n)]
 |.b,x=>[.sc (.bool x)]
 |.s,x=>[.sc (.string x)]
 |.sl e r,xs=>[.fz e r xs]
 |.ow e r,xs=>[.own e r xs]
 |.pr x y,p=>A6 x p.1++A6 y p.2
def lvs:(t:Ty)→t.den→List Lf
 |.i k,n=>[.sc (.int k n)]
 |.b,x=>[.sc (.bool x)]
 |.s,x=>[.sc (.string x)]
 |.sl e r,xs=>[.fz e r xs]
 |.ow e r,xs=>[.fz e r xs]
 |.pr x y,p=>lvs x p.1++lvs y p.2
def mkT:(t:Ty)→List Lf→Option (t.den×List Lf)
 |.i k,.sc (.int k' n)::l=>bif decide (k=k') then some (n,l) else none
 |.b,.sc (.bool x)::l=>some (x,l)
 |.s,.sc (.string x)::l=>some (x,l)
 |.sl e r,.fz e' r' xs::l=>bif Nat.beq e e' then (match Oz r r' xs with|some ys=>some (ys,l)|none=>none) else none
 |.sl e r,.own e' r' xs::l=>bif Nat.beq e e' then (match Oz r r' xs with|some ys=>some (ys,l)|none=>none) else none
 |.ow e r,.own e' r' xs::l=>bif Nat.beq e e' then (match S6 r r' xs with|some ys=>some (ys,l)|none=>none) else none
 |.pr x y,l=>match mkT x l with
  |some (p,l1)=>(match mkT y l1 with
   |some (q,l2)=>some ((p,q),l2)
   |none=>none)
  |none=>none
 |_,_=>none
def mkW (t:Ty) (l:List Lf):Option t.den:=match mkT t l with
 |some (x,[])=>some x
 |_=>none
structure TI where
 ty:Ty
 ag:Bool
 by_:Nat
 fo:List (Nat×Nat×Bool)
@[reducible] def Den:List Ty→Type
 |[]=>Unit
 |[t]=>t.den
 |t::u::l=>t.den×Den (u::l)
inductive Par where
 |vw (t:Ty) (h:Nat)
 |val (ag:Bool) (t:Ty)
 |ptr (t t':Ty)
 |rd (t:Ty)
 |fn (F:FuncId) (m:Nat)
 |hid (t t':Ty)
def Par.ty:Par→Ty
 |.vw t _=>t
 |.val _ t=>t
 |.ptr t _=>t
 |.rd t=>t
 |.fn _ _ => .b
 |.hid t _=>t
def Qq:(ts:List Ty)→List (List Lf)→Option (Den ts)
 |[],[]=>some ()
 |[t],[l]=>mkW t l
 |t::u::ts,l::ls=>match mkW t l with
  |some x=>(match Qq (u::ts) ls with
   |some y=>some (x,y)
   |none=>none)
  |none=>none
 |_,_=>none
def Dx:(ts:List Ty)→Den ts→List (List Lf)
 |[],_=>[]
 |[t],x=>[A6 t x]
 |t::u::ts,x=>A6 t x.1::Dx (u::ts) x.2
def Jf:List Par→List Ty
 |[]=>[]
 |.ptr _ t'::l=>t'::Jf l
 |.hid _ t'::l=>t'::Jf l
 |_::l=>Jf l
inductive RK where
 |one
 |agg
 |ptr
structure Ent where
 nv:Nat
 ps:List Par
 rs:List (RK×Ty)
 run:Den (ps.map Par.ty)→Option (Den (rs.map Prod.snd++Jf ps))
inductive Ex where
 |normal
 |exit (id:Nat)
 |ret
structure B0a where
 cs:List (Nat×Lf)
 vs:List (Nat×Ty)
@[reducible] def B0a.den (v:B0a):Type:=Den (v.vs.map Prod.snd)
@[reducible] def Psa:List (Ex×B0a)→Type
 |[]=>Empty
 |[a]=>a.2.den
 |a::b::l=>a.2.den ⊕ Psa (b::l)
structure Lp where
 ins:B0a
 alts:List (Ex×B0a)
 run:ins.den→Option (Psa alts)
inductive Gh where
 |cl (p:Nat)
 |op (p t B:Nat)
 |od (d B:Nat)
 |oc (p:Nat) (i:Int) (B:Nat)
structure En where
 nt:Nat
 ti:TypeId→Option TI
 eq:TypeId→Bool
 nm:Nat→Bool
 res:Nat→Bool
 call:FuncId→Option Ent
 lp:Nat→Option Lp
 np:Nat
 hint:Nat→Option Ty
 mv:Nat→Bool
 gh:Nat→List Gh
 opn:Nat→Bool
 sh:Nat→Bool
 rf:Bool
def G1a:Value→Bool
 |.int _ _ | .bool _ | .string _ | .func _ _ _ | .pointer none=>true
 |_=>false
def opT (E:En) (T:TypeId) (A:Ab):Operand→Option Sv
 |.tmp t=>bif Nat.blt t E.nt then some (get A t).2 else none
 |.const (.slice none 0 0)=>match E.ti T with
  |some ⟨.sl e r,false,_,_⟩=>some (.one (.own e r []))
  |_=>none
 |.const v=>bif G1a v then some (.one (.sc v)) else none
 |.func f=>some (.one (.sc (.func (.func f) #[] #[])))
 |.global _=>none
def elT (E:En) (T:TypeId):Option TypeId:=match E.ti T with
 |some ⟨.sl e _,false,_,_⟩=>some e
 |_=>none
def Po (E:En) (T e:TypeId):Bool:=match elT E T with
 |some e'=>Nat.beq e' e
 |none=>false
def B1a (E:En) (T:TypeId):Bool:=match E.ti T with
 |some ⟨.s,false,_,_⟩=>true
 |_=>false
def Jb (A:Ab):Lf→Lf
 |.al p v=>match get A p with
  |(n,.one (.own e r xs))=>bif Nat.beq n v then .own e r xs else .dead
  |(n,.one (.fz e r xs))=>bif Nat.beq n v then .fz e r xs else .dead
  |_ => .dead
 |x=>x
def Xt (A:Ab):Lf→Lf
 |.da p v _ e r xs=>bif Nat.beq (get A p).1 v then .fz e r xs else .dead
 |x=>Jb A x
structure Sl where
 e:TypeId
 r:Ty
 xs:List r.den
def Dva (A:Ab) (x:Lf):Option Sl:=match x with
 |.da p v _ e r xs=>bif Nat.beq (get A p).1 v&&J6 r then some ⟨e,r,xs⟩ else none
 |x=>(match Jb A x with
  |.fz e r xs=>some ⟨e,r,xs⟩
  |.own e r xs=>bif J6 r then some ⟨e,r,xs⟩ else none
  |_=>none)
def V3 (A:Ab):Lf→Bool
 |.bp b v _=>Nat.beq (get A (H b)).1 v
 |.ep p v _ _=>(match get A p with
  |(n,.one (.own _ _ _))=>Nat.beq n v
  |_=>false)
 |.fp _ _ _=>true
 |.dp p v _ _ _ _ _ _=>Nat.beq (get A p).1 v
 |_=>false
def Kga:Lf→Nat→Lf
 |.bp b v n,k => .bp b v (n+k)
 |.ep p v i n,k => .ep p v i (n+k)
 |.fp r x n,k => .fp r x (n+k)
 |.dp p v pi e r xs i n,k => .dp p v pi e r xs i (n+k)
 |x,_=>x
def F8:List Lf→Bool
 |[]=>false
 |.own _ _ _::_=>true
 |.opn _ _ _ _ _ _::_=>true
 |_::l=>F8 l
def Lm:Sv→Bool
 |.one x=>F8 [x]
 |.agg l=>F8 l
 |.tup vs=>vs.any λ v=>F8 v.2
def Le:Lf→Lf
 |.own e r xs => .fz e r xs
 |.opn _ _ _ _ _ _ => .dead
 |x=>x
def Sf (A:Ab):Lf→List Up
 |.al p v=>match get A p with
  |(n,.one (.own e r xs))=>bif Nat.beq n v then [⟨p,true,.one (.fz e r xs)⟩] else []
  |_=>[]
 |_=>[]
def Iq (A:Ab):List Lf→List Up
 |[]=>[]
 |x::l=>Sf A x++Iq A l
def Kha (p:Nat):List Up→Bool
 |[]=>true
 |u::l => !(Nat.beq u.l p)&&Kha p l
def gone:Operand→Sv→List Up
 |.tmp t,s=>bif Lm s then [⟨t,false,.one .dead⟩] else []
 |_,_=>[]
def Dwa:Lf→Operand→List Up
 |.al p _,_=>[⟨p,false,.one .dead⟩]
 |_,.tmp t=>[⟨t,false,.one .dead⟩]
 |_,_=>[]
def parts:Sv→List Lf
 |.one x=>[x]
 |.agg l=>l
 |.tup _=>[]
def Jw (ag:Bool) (l:List Lf):Option Sv:=bif ag then some (.agg l) else match l with
 |[x]=>some (.one x)
 |_=>none
def nth {α:Type}:List α→Nat→Option α
 |[],_=>none
 |x::_,0=>some x
 |_::l,n+1=>nth l n
section
variable {R:Type}
def Rp (op:BinOp) (k:IntKind) (x y:Int) (K:Value→Option R):Option R:=
 match op with
 |.add=>K (.int k (k.wrap (x+y)))
 |.sub=>K (.int k (k.wrap (x-y)))
 |.mul=>K (.int k (k.wrap (x*y)))
 |.quo=>bif decide (y=0) then none else K (.int k (k.wrap (x.tdiv y)))
 |.rem=>bif decide (y=0) then none else K (.int k (x.tmod y))
 |.and=>K (.int k (k.wrap ((ofInt k.bits x &&& ofInt k.bits y).toNat)))
 |.or=>K (.int k (k.wrap ((ofInt k.bits x ||| ofInt k.bits y).toNat)))
 |.xor=>K (.int k (k.wrap ((ofInt k.bits x ^^^ ofInt k.bits y).toNat)))
 |.andNot=>K (.int k (k.wrap ((ofInt k.bits x &&& ~~~ ofInt k.bits y).toNat)))
 |.eql=>K (.bool (x==y))
 |.neq=>K (.bool (x != y))
 |.lss=>K (.bool (x<y))
 |.leq=>K (.bool (x≤y))
 |.gtr=>K (.bool (x > y))
 |.geq=>K (.bool (x≥y))
 |_=>none
def W4 (op:BinOp) (x y:ByteArray) (K:Value→Option R):Option R:=
 match op with
 |.add=>bif Nat.ble (x.size+y.size) 9223372036854775807 then K (.string (x++y)) else none
 |.eql=>K (.bool (x.toList==y.toList))
 |.neq=>K (.bool !(x.toList==y.toList))
 |.lss=>K (.bool (Op.bytesLess x.toList y.toList))
 |.leq=>K (.bool (Op.bytesLess x.toList y.toList||x.toList==y.toList))
 |.gtr=>K (.bool !(Op.bytesLess x.toList y.toList||x.toList==y.toList))
 |.geq=>K (.bool !(Op.bytesLess x.toList y.toList))
 |_=>none
def Dz:List Lf→List Lf→Option Bool
 |[],[]=>some true
 |[.sc (.int k x)],[.sc (.int k' y)]=>bif decide (k=k') then some (x==y) else none
 |[.sc (.bool x)],[.sc (.bool y)]=>some (x==y)
 |[.sc (.string x)],[.sc (.string y)]=>some (x==y)
 |.sc (.int k x)::l,.sc (.int k' y)::l'=>bif decide (k=k') then (match Dz l l' with|some b=>some ((x==y)&&b)|none=>none) else none
 |.sc (.bool x)::l,.sc (.bool y)::l'=>match Dz l l' with|some b=>some ((x==y)&&b)|none=>none
 |.sc (.string x)::l,.sc (.string y)::l'=>match Dz l l' with|some b=>some ((x==y)&&b)|none=>none
 |_,_=>none
def Na:List Lf→Bool
 |[]=>true
 |.sc _::l=>Na l
 |_=>false
def Mf (tT:Option TI) (l:List Lf):Bool:=match tT with
 |some ti=>(mkW ti.ty l).isSome
 |none=>false
def bop (op:BinOp) (tT:Option TI) (eqs:Bool) (x y:Sv) (K:Value→Option R):Option R:=
 match x,y with
 |.one (.sc (.int k a)),.one (.sc (.int k' b))=>
  match op with
  |.shl=>bif decide (b<0) then none else K (.int k (k.wrap (a*2 ^ (min b.toNat k.bits))))
  |.shr=>bif decide (b<0) then none else K (.int k (a.fdiv (2 ^ (min b.toNat k.bits))))
  |_=>bif decide (k=k') then Rp op k a b K else none
 |.one (.sc (.string a)),.one (.sc (.string b))=>W4 op a b K
 |.one (.sc (.bool a)),.one (.sc (.bool b))=>match op,tT with
  |.eql,some ⟨.b,false,_,_⟩=>K (.bool (a==b))
  |.neq,some ⟨.b,false,_,_⟩=>K (.bool (!(a==b)))
  |_,_=>none
 |.agg l,.agg l'=>bif eqs&&Na l&&Na l'&&(Mf tT l&&Mf tT l') then (match op with
  |.eql=>(match Dz l l' with|some b=>K (.bool b)|none=>none)
  |.neq=>(match Dz l l' with|some b=>K (.bool (!b))|none=>none)
  |_=>none) else none
 |_,_=>none
def uop (op:UnOp) (x:Sv) (K:Value→Option R):Option R:=
 match op,x with
 |.neg,.one (.sc (.int k n))=>K (.int k (k.wrap (0-n)))
 |.xor,.one (.sc (.int k n))=>K (.int k (k.wrap ((ofInt k.bits (if k.signed then -1 else k.max) ^^^ ofInt k.bits n).toNat)))
 |.not,.one (.sc (.bool b))=>K (.bool !b)
 |_,_=>none
def Jc (xs:List Int):ByteArray:=⟨(xs.map λ n=>UInt8.ofNat n.toNat).toArray⟩
def bytesOf (s:ByteArray):List Int:=s.data.toList.map λ b=>(b.toNat:Int)
def bt (s:ByteArray) (i:Int):Int:=((s.data.toList.getD i.toNat 0).toNat:Int)
def conv (src dst:Option TI) (x:Sv) (K:Sv→Option R):Option R:=
 match src,dst,x with
 |some ⟨.i _,false,_,_⟩,some ⟨.i k,false,_,_⟩,.one (.sc (.int _ n))=>K (.one (.sc (.int k (k.wrap n))))
 |some ⟨.s,false,_,_⟩,some ⟨.s,false,_,_⟩,.one (.sc (.string s))=>K (.one (.sc (.string s)))
 |some ⟨.sl e (.i .u8),false,_,_⟩,some ⟨.s,false,_,_⟩,.one (.fz e' (.i .u8) xs)=>bif Nat.beq e e' then K (.one (.sc (.string (Jc xs)))) else none
 |some ⟨.sl e (.i .u8),false,_,_⟩,some ⟨.s,false,_,_⟩,.one (.own e' (.i .u8) xs)=>bif Nat.beq e e' then K (.one (.sc (.string (Jc xs)))) else none
 |some ⟨.s,false,_,_⟩,some ⟨.sl e (.i .u8),false,_,_⟩,.one (.sc (.string s))=>bif Nat.ble s.size 140737488355328 then K (.one (.fz e (.i .u8) (bytesOf s))) else none
 |_,_,_=>none
def Oo (mx:Bool):List Sv→IntKind→Int→(Value→Option R)→Option R
 |[],k,x,K=>K (.int k x)
 |.one (.sc (.int k' y))::l,k,x,K=>bif decide (k=k') then Oo mx l k (bif mx then (if x<y then y else x) else (if y<x then y else x)) K else none
 |_,_,_,_=>none
def cellsOf (A:Ab) (b:Nat):Nat→Nat→List Lf
 |_,0=>[]
 |j,n+1=>(match get A (C b j) with
  |(v,.one (.own _ _ _))=>Lf.al (C b j) v
  |(v,.one (.opn _ _ _ _ _ _))=>Lf.al (C b j) v
  |(_,.one x)=>x
  |_ => .dead)::cellsOf A b (j+1) n
def Cw (b:Nat):Nat→List Lf→List Up
 |_,[]=>[]
 |j,x::l=>⟨C b j,false,.one x⟩::Cw b (j+1) l
def kept (A:Ab) (x:Lf):Lf:=match x with
 |.al _ _=>Le (Jb A x)
 |_=>x
def V4:Ty→List Lf
 |.i k=>[.sc (.int k 0)]
 |.b=>[.sc (.bool false)]
 |.s=>[.sc (.string ⟨#[]⟩)]
 |.sl e r=>[.own e r []]
 |.ow e r=>[.own e r []]
 |.pr x y=>V4 x++V4 y
def A4:List Lf→Bool
 |[]=>true
 |.sc _::l | .fz _ _ _::l | .own _ _ _::l=>A4 l
 |_=>false
def Gt (A:Ab):List Lf→Bool
 |[]=>true
 |.sc _::l | .fz _ _ _::l | .own _ _ _::l=>Gt A l
 |.da p v _ _ _ _::l=>Nat.beq (get A p).1 v&&Gt A l
 |_=>false
def Eh (A:Ab):List Lf→Bool
 |[]=>true
 |.sc _::l | .fz _ _ _::l=>Eh A l
 |.al p v::l=>(match Jb A (.al p v) with
  |.own _ _ _ | .fz _ _ _=>true
  |_=>false)&&Eh A l
 |_=>false
def setAll (l:List Lf) (off:Nat) (m:List Lf):List Lf:=l.take off++m++l.drop (off+m.length)
def J7:Ab→List Lf→Option (List Lf×List Up)
 |_,[]=>some ([],[])
 |A,.al p v::l=>(match Jb A (.al p v) with
  |.own e r xs=>(match J7 (up A ⟨p,false,.one .dead⟩) l with
   |some (m,us)=>some (.own e r xs::m,⟨p,false,.one .dead⟩::us)
   |none=>none)
  |_=>none)
 |A,x::l=>(match J7 A l with
  |some (m,us)=>some (x::m,us)
  |none=>none)
def give (A:Ab) (x:Operand) (s:Sv):Option (List Lf×List Up):=match J7 (ups A (gone x s)) (parts s) with
 |some (m,us)=>some (m,gone x s++us)
 |none=>none
def P0:List Lf→Bool
 |[]=>true
 |.sc _::l | .own _ _ _::l=>P0 l
 |_=>false
def Hv:Ty→List Ty
 |.pr x y=>Hv x++Hv y
 |t=>[t]
def daL (p v:Nat) (pi:Option (List (Int×Nat))) (i:Int):Nat→List Lf→List Lf
 |_,[]=>[]
 |j,.own e r xs::l => .da p v (match pi with|some q=>some (q++[(i,j)])|none=>none) e r xs::daL p v pi i (j+1) l
 |j,.opn _ _ _ _ _ _::l => .dead::daL p v pi i (j+1) l
 |j,x::l=>x::daL p v pi i (j+1) l
def Ioa (r0:Ty) (ys:List r0.den):List (Int×Nat)→(r:Ty)→List r.den→Option (List r.den)
 |[],r,_=>if h:r0=r then some (h ▸ ys) else none
 |(i,j)::q,r,xs=>match nth (A6 r (xs.getD i.toNat r.dflt)) j with
  |some (.own e1 r1 zs)=>(match Ioa r0 ys q r1 zs with
   |some zs'=>(match mkW r (setAll (A6 r (xs.getD i.toNat r.dflt)) j [.own e1 r1 zs']) with
    |some z=>some (xs.set i.toNat z)
    |none=>none)
   |none=>none)
  |_=>none
def Nb:List Par→Bool
 |[]=>true
 |.val _ t::ps=>J6 t&&Nb ps
 |_::_=>false
def Uy:List (RK×Ty)→Bool
 |[]=>true
 |(.ptr,_)::_=>false
 |(_,t)::rs=>Gk t&&Uy rs
def Kaa:Sv→Option Bool
 |.one _=>some false
 |.agg _=>some true
 |.tup _=>none
def J8 (ag:Bool) (s:Sv):Bool:=match Kaa s with
 |some b=>bif ag then b else !b
 |none=>false
def Nc (A:Ab):List Par→List Sv→Option (List (List Lf))
 |[],[]=>some []
 |.val ag _::ps,s::ss=>bif J8 ag s&&A4 ((parts s).map (λ y=>Le (Xt A y))) then (match Nc A ps ss with
  |some ls=>some ((parts s).map (λ y=>Le (Xt A y))::ls)
  |none=>none) else none
 |_,_=>none
def Dxa (e:TypeId) (r:Ty):Lf→Option Lf
 |.own e' r' xs=>bif Nat.beq e e' then (match S6 r r' xs with
  |some ys=>some (.own e r ys)
  |none=>bif J6 r then (match Oz r r' xs with
   |some ys=>some (.own e r ys)
   |none=>none) else none) else none
 |_=>none
def Dya:Lf→List Up
 |.al p _=>[⟨p,false,.one .dead⟩]
 |_=>[]
def Fy:Ab→List Ty→List Lf→Option (List Lf×List Up)
 |_,[],[]=>some ([],[])
 |A,.ow e r::ts,x::l=>(match Dxa e r (Jb A x) with
  |some y=>(match Fy (ups A (Dya x)) ts l with
   |some (m,us)=>some (y::m,Dya x++us)
   |none=>none)
  |none=>none)
 |A,_::ts,x::l=>(match Fy (ups A (Sf A x)) ts l with
  |some (m,us)=>some (Le (kept A x)::m,Sf A x++us)
  |none=>none)
 |_,_,_=>none
def Qr (A:Ab) (x:Operand) (s:Sv) (ts:List Ty):Option (List Lf×List Up):=match Fy (ups A (gone x s)) ts (parts s) with
 |some (m,us)=>bif A4 m then some (m,gone x s++us) else none
 |none=>none
def Qs (A:Ab) (x:Operand) (s:Sv) (t:Ty):Option (List Lf×List Up):=Qr A x s (Hv t)
def Uya (A:Ab):List Lf→List Ty
 |[]=>[]
 |x::l=>(match Jb A x with
  |.own e r _ => .ow e r
  |_ => .b)::Uya A l
def P3 (A:Ab) (b v:Nat) (t t':Ty):Option (List Lf×List Up):=match get A (H b) with
 |(n,.one (.hd m))=>bif Nat.beq n v&&Nat.beq m t.sz&&Nat.beq m t'.sz then (match Fy A (Hv t) (cellsOf A b 0 m) with
  |some (l,us)=>bif A4 l then some (l,us) else none
  |none=>none) else none
 |_=>none
def T5a:List (Nat×Nat)→List (Nat×Nat)→Bool
 |[],[]=>true
 |a::l,b::m=>Nat.beq a.1 b.1&&Nat.beq a.2 b.2&&T5a l m
 |_,_=>false
def Kz (A:Ab):List (Nat×Nat)→Bool
 |[]=>true
 |b::l=>Nat.beq (get A (H b.1)).1 b.2&&Kz A l
def Pqa:Lf→Bool
 |.sc _ | .fz _ _ _=>true
 |_=>false
def Dza (A:Ab) (b:Nat):Nat→List Ty→List Lf→Option (List Lf)
 |_,[],[]=>some []
 |j,.ow e r::ts,.al p v::l=>bif Nat.beq p (C b j)&&Nat.beq (get A p).1 v then (match Dxa e r (Jb A (.al p v)) with
  |some y=>(match Dza A b (j+1) ts l with
   |some m=>some (y::m)
   |none=>none)
  |none=>none) else none
 |_,.ow _ _::_,_=>none
 |j,_::ts,x::l=>bif Pqa (Jb A x) then (match Dza A b (j+1) ts l with
  |some m=>some (Jb A x::m)
  |none=>none) else none
 |_,_,_=>none
def B2a:List Lf→Option Nat
 |[]=>none
 |.al p _::l=>bif Nat.ble 1000 p then some (p/1000-1) else B2a l
 |_::l=>B2a l
def B3a (A:Ab):List Par→List Sv→List (Nat×Nat)
 |.vw _ _::ps,.agg ys::ss=>(match B2a ys with
  |some b=>(b,(get A (H b)).1)::B3a A ps ss
  |none=>B3a A ps ss)
 |_::ps,_::ss=>B3a A ps ss
 |_,_=>[]
def S7 (A:Ab) (cb hb:List (Nat×Nat)) (nv:Nat) (x:Operand):Par→Sv→Option (List Lf×List Up×List Nat)
 |.vw t h,.agg ys=>(match nth hb (h-nv) with
  |some c=>(match get A (H c.1) with
   |(n,.one (.hd m))=>bif Nat.ble nv h&&Nat.beq n c.2&&Nat.beq m t.sz then (match Dza A c.1 0 (Hv t) ys with
    |some l=>some (l,[],[])
    |none=>none) else none
   |_=>none)
  |none=>none)
 |.val ag t,s=>bif J8 ag s then (match Qs A x s t with
  |some (m,us)=>some (m,us,[])
  |none=>none) else none
 |.ptr t t',.one (.bp b v 0)=>(match P3 A b v t t' with
  |some (m,us)=>some (m,us,[b])
  |none=>none)
 |.hid t t',.one (.bp b v 0)=>(match P3 A b v t t' with
  |some (m,us)=>some (m,us,[b])
  |none=>none)
 |.rd t,.one (.fp r y 0)=>bif decide (shp r=shp t)&&J6 t then some (lvs r y,[],[]) else none
 |.fn F m,.one (.fn F' bs)=>bif Nat.beq F F'&&Nat.beq m bs.length&&T5a bs cb&&Kz A bs then some ([.sc (.bool true)],[],[]) else none
 |_,_=>none
def K5 (E:En) (cb hb:List (Nat×Nat)) (nv:Nat):Ab→List (TypeId×Operand)→List (Nat×Nat)→List Par→Option (List (List Lf)×List Up×List Nat)
 |_,[],[],[]=>some ([],[],[])
 |A,x::xs,hs,p::ps=>(match opT E x.1 A x.2 with
  |some s=>(match S7 A cb hb nv x.2 p s with
   |some (l,u,b)=>(match K5 E cb hb nv (ups A u) xs hs ps with
    |some (ls,us,bs)=>some (l::ls,u++us,b++bs)
    |none=>none)
   |none=>none)
  |none=>none)
 |A,[],h::hs,p::ps=>(match S7 A cb hb nv (.func 0) p (.one (.bp h.1 h.2 0)) with
   |some (l,u,b)=>(match K5 E cb hb nv (ups A u) [] hs ps with
    |some (ls,us,bs)=>some (l::ls,u++us,b++bs)
    |none=>none)
   |none=>none)
 |_,_,_,_=>none
def Kia:List Sv→List (Nat×Nat)
 |[]=>[]
 |.one (.fn _ bs)::_=>bs
 |_::l=>Kia l
def Kl (nv:Nat):Nat→List Par→Bool
 |_,[]=>true
 |i,.hid _ _::ps=>Nat.ble nv i&&Kl nv (i+1) ps
 |i,_::ps=>Nat.blt i nv&&Kl nv (i+1) ps
def B4a:List Nat→Bool
 |[]=>true
 |b::l => !(l.any (Nat.beq b))&&B4a l
def Ipa:List Nat→List (List Lf)→Option (List Up)
 |[],_=>some []
 |b::bs,l::ls=>match Ipa bs ls with
  |some us=>some (Cw b 0 l++us)
  |none=>none
 |_,_=>none
def Kja (A:Ab) (d:Nat) (l:List Lf):List Up:=
 ⟨H d,false,.one (.hd l.length)⟩::Cw d 0 l++[⟨d,false,.one (.bp d ((get A (H d)).1+1) 0)⟩]
def Jg:List (RK×Ty)→Bool
 |[]=>false
 |(.ptr,_)::_=>true
 |_::l=>Jg l
def Rq:RK→Bool
 |.agg=>true
 |_=>false
def B5a:List (RK×Ty)→List (List Lf)→List (Bool×List Lf)
 |r::rs,l::ls=>(Rq r.1,l)::B5a rs ls
 |_,_=>[]
def P4 (A:Ab) (rs:List (RK×Ty)) (ls:List (List Lf)) (d:Option Nat):Option (List Up):=
 match rs,ls,d with
 |_,_,none=>some []
 |[],_,some d=>some [⟨d,false,.tup []⟩]
 |[(.one,_)],[x]::_,some d=>some [⟨d,false,.one x⟩]
 |[(.agg,_)],l::_,some d=>some [⟨d,false,.agg l⟩]
 |[(.ptr,_)],l::_,some d=>some (Kja A d l)
 |r::q::rs,ls,some d=>bif Jg (r::q::rs) then none else some [⟨d,false,.tup (B5a (r::q::rs) ls)⟩]
 |_,_,_=>none
def Qt (E:En) (Ts:List TypeId) (A:Ab):List Operand→Option (List Sv)
 |[]=>some []
 |x::l=>match Ts with
  |[]=>none
  |T::Ts=>(match opT E T A x with
   |some s=>(match Qt E Ts A l with
    |some ss=>some (s::ss)
    |none=>none)
   |none=>none)
def Uza (E:En) (rs:List (RK×Ty)) (d:Option Nat):Bool := !(Jg rs)||(match d with
 |some d=>Nat.ble E.np d
 |none=>true)
def shL (E:En) (d:Option Nat) (ls:List (List Lf)):List (List Lf):=match d with
 |some d=>bif E.sh d then ls.map (λ l=>l.map Le) else ls
 |none=>ls
def Xu (E:En) (A:Ab) (en:Ent) (xs:List (TypeId×Operand)) (cs:List (Nat×Nat)) (ss:List Sv) (d:Option Nat) (K:List Up→Option R):Option R:=
 bif Nat.beq en.nv (xs.length+cs.length) then
 (bif Nb en.ps&&Uy en.rs&&cs.isEmpty then
  (match Nc A en.ps ss with
  |none=>none
  |some ls=>match Qq _ ls with
   |none=>none
   |some x=>(en.run x).bind λ r=>
    match P4 A en.rs (shL E d (Dx _ r)) d with
    |none=>none
    |some rs=>K rs)
 else bif Uza E en.rs d&&(Nat.ble en.nv 1000&&Kl en.nv 0 en.ps&&Nat.ble en.rs.length 400&&Nat.ble en.ps.length 2000) then
  (match K5 E (Kia ss++B3a A en.ps ss) (Kia ss++B3a A en.ps ss) en.nv A xs (cs++(Kia ss++B3a A en.ps ss)) en.ps with
  |none=>none
  |some (ls,us,bs)=>bif B4a bs then (match Qq _ ls with
   |none=>none
   |some x=>(en.run x).bind λ r=>
    match Ipa bs ((Dx _ r).drop en.rs.length) with
    |none=>none
    |some ws=>match P4 (ups (ups A us) ws) en.rs (shL E d (Dx _ r)) d with
     |none=>none
     |some rs=>K (us++(ws++rs))) else none)
 else none) else none
def Ln (E:En) (A:Ab) (T:TI) (l:List Lf) (us:List Up):List (Nat×Operand)→Option (List Lf×List Up)
 |[]=>some (l,us)
 |(i,x)::ps=>match nth T.fo i with
  |none=>none
  |some (off,z,_)=>(match x with
   |.const (.slice none 0 0)=>bif Nat.beq z 1 then (match nth l off with
    |some (.own _ _ [])=>Ln E A T l us ps
    |_=>none) else none
   |_=>(match opT E 0 A x with
    |some s=>let m:=(parts s).map (kept A)
     bif A4 m&&Nat.beq m.length z&&Nat.ble (off+z) l.length then Ln E (ups A (Iq A (parts s)++gone x s)) T (setAll l off m) (us++(Iq A (parts s)++gone x s)) ps else none
    |none=>none))
def B6a (E:En) (A:Ab) (e:TypeId) (r:Ty) (i:Nat):List (Nat×Operand)→Option (List r.den×List Up)
 |[]=>some ([],[])
 |(j,x)::ps=>bif Nat.beq i j then (match opT E e A x with
  |some s=>(match bif A4 ((parts s).map (kept A)) then mkW r ((parts s).map λ x=>Le (kept A x)) else none with
   |some y=>(match B6a E (ups A (Iq A (parts s)++gone x s)) e r (i+1) ps with
    |some (ys,us)=>some (y::ys,(Iq A (parts s)++gone x s)++us)
    |none=>none)
   |none=>none)
  |none=>none) else none
def B7a (E:En) (A:Ab) (e:TypeId) (r:Ty) (i:Nat):List (Nat×Operand)→Option (List r.den×List Up)
 |[]=>some ([],[])
 |(j,x)::ps=>bif Nat.beq i j then (match opT E e A x with
  |some s=>(match give A x s with
   |some (m,us)=>(match bif P0 m then mkW r m else none with
    |some y=>(match B7a E (ups A us) e r (i+1) ps with
     |some (ys,us')=>some (y::ys,us++us')
     |none=>none)
    |none=>none)
   |none=>none)
  |none=>none) else none
def E0a {α:Type} (xs:List α) (lo hi:Option Int):List α:=
 match lo,hi with
 |none,none=>xs
 |some l,none=>xs.drop l.toNat
 |none,some h=>xs.take h.toNat
 |some l,some h=>(xs.take h.toNat).drop l.toNat
def Dsa (lo hi:Option Int) (n:Nat) (K:Unit→Option R):Option R:=
 match lo,hi with
 |none,none=>K ()
 |some l,none=>bif decide (0≤l) then (bif decide (l≤(n:Int)) then K () else none) else none
 |none,some h=>bif decide (0≤h) then (bif decide (h≤(n:Int)) then K () else none) else none
 |some l,some h=>bif decide (0≤l) then (bif decide (l≤h) then (bif decide (h≤(n:Int)) then K () else none) else none) else none
def E1a (E:En) (A:Ab):Option Operand→Option (Option Int)
 |none=>some none
 |some x=>match opT E 0 A x with
  |some (.one (.sc (.int .i64 n)))=>some (some n)
  |_=>none
def mvO (E:En):Operand→Bool
 |.tmp t=>E.mv t
 |_=>false
def B8a (E:En) (A:Ab):List Operand→Option (List (Nat×Nat))
 |[]=>some []
 |x::l=>(match opT E 0 A x with
  |some (.one (.bp b v 0))=>(match B8a E A l with
   |some bs=>some ((b,v)::bs)
   |none=>none)
  |_=>none)
def Pp (A:Ab) (B p:Nat) (e:TypeId) (r:Ty) (xs:List r.den) (i:Int):Option (List Up):=
 bif (J6 r||Gk r)&&Nat.blt r.sz 999&&!(Nat.beq (p/1000) (B+1))&&Nat.ble 2000 B then (bif decide (0≤i) then (bif decide (i<(xs.length:Int)) then
  some (⟨p,false,.one (.opn e r xs i B ((get A (H B)).1+1))⟩::⟨H B,false,.one (.hd r.sz)⟩::Cw B 0 (A6 r (xs.getD i.toNat r.dflt))) else none) else none) else none
def T2 (A:Ab) (B p:Nat) (e:TypeId) (r:Ty) (xs:List r.den) (i:Int) (K:List Up→Option R) (Z:Option R):Option R:=
 bif (J6 r||Gk r)&&Nat.blt r.sz 999&&!(Nat.beq (p/1000) (B+1))&&Nat.ble 2000 B then (bif decide (0≤i) then (bif decide (i<(xs.length:Int)) then
  K (⟨p,false,.one (.opn e r xs i B ((get A (H B)).1+1))⟩::⟨H B,false,.one (.hd r.sz)⟩::Cw B 0 (A6 r (xs.getD i.toNat r.dflt))) else none) else none) else Z
def Rr (E:En) (A:Ab) (T T':TypeId) (x:Operand) (d:Nat):Option (List Up):=match x with
 |.tmp t=>(match opT E T A (.tmp t),E.ti T with
  |some (.one (.own e (.i .u8) xs)),some ⟨.sl e' (.i .u8),false,_,_⟩=>bif Nat.beq T T'&&(Nat.beq e e'&&Nat.blt 0 xs.length) then some [⟨t,false,.one .dead⟩,⟨d,false,.one (.fz e (.i .u8) xs)⟩] else none
  |_,_=>none)
 |_=>none
def Au (E:En) (o:Oper) (A:Ab) (K:List Up→Option R):Option R:=
 match o.op,o.dst with
 |.makeFunc (.func f) x y,some d=>(match x.toList,B8a E A y.toList with
  |[],some bs=>K [⟨d,false,.one (.fn f bs)⟩]
  |_,_=>none)
 |.move x,some d=>match opT E o.type A x with
  |some s=>(match x,s with
   |.tmp t,.one (.own e r xs)=>bif E.nm t&&!(E.mv d) then K [⟨d,false,.one (.al t (get A t).1)⟩] else K [⟨t,false,.one .dead⟩,⟨d,false,.one (.own e r xs)⟩]
   |_,_=>K (gone x s++[⟨d,false,s⟩]))
  |none=>none
 |.assign x,some d=>match opT E o.type A x with
  |some (.one (.al p v))=>(match get A p with
   |(n,.one (.own e r xs))=>bif Nat.beq n v then (bif E.res d then K [⟨p,false,.one .dead⟩,⟨d,false,.one (.own e r xs)⟩] else K [⟨p,true,.one (.fz e r xs)⟩,⟨d,false,.one (.fz e r xs)⟩]) else none
   |(n,.one (.fz e r xs))=>bif Nat.beq n v then K [⟨d,false,.one (.fz e r xs)⟩] else none
   |_=>none)
  |some s=>K (gone x s++[⟨d,false,s⟩])
  |none=>none
 |.pick c x y,some d=>match opT E 0 A c with
  |some (.one (.sc (.bool b)))=>bif b then (match opT E o.type A x with
    |some (.one (.sc u))=>K [⟨d,false,.one (.sc u)⟩]
    |_=>none)
   else (match opT E o.type A y with
    |some (.one (.sc u))=>K [⟨d,false,.one (.sc u)⟩]
    |_=>none)
  |_=>none
 |.binOp op T x y T',some d=>match opT E T A x,opT E T' A y with
  |some s,some s'=>bop op (E.ti T) (E.eq T) s s' λ u=>K [⟨d,false,.one (.sc u)⟩]
  |_,_=>none
 |.unOp op T x,some d=>match opT E T A x with
  |some s=>uop op s λ u=>K [⟨d,false,.one (.sc u)⟩]
  |none=>none
 |.convert T T' x,some d=>(match Rr E A T T' x d with
  |some U=>K U
  |none=>(match opT E T A x with
   |some (.one y)=>conv (E.ti T) (E.ti T') (.one (Xt A y)) λ s=>K [⟨d,false,s⟩]
   |_=>none))
 |.nilCheck x,some d=>match opT E 0 A x with
  |some (.one y)=>bif V3 A y then K [⟨d,false,.one y⟩] else none
  |_=>none
 |.extract (.tmp t) j,some d=>match bif Nat.blt t E.nt then (get A t).2 else .one .dead with
  |.tup vs=>(match nth vs j with
   |some (ag,l)=>(match Jw ag l with
    |some s=>bif F8 l then K [⟨t,false,.tup (vs.set j (false,[.dead]))⟩,⟨d,false,s⟩] else K [⟨d,false,s⟩]
    |none=>none)
   |none=>none)
  |_=>none
 |.field T (.tmp t) j,some d=>match E.ti T,(get A t).2 with
  |some ti,.agg l=>(match nth ti.fo j with
   |some (off,z,ag)=>(match Jw ag ((l.drop off).take z) with
    |some s=>bif ti.ag&&Nat.blt t E.nt&&Nat.ble (off+z) l.length then (bif F8 ((l.drop off).take z) then K [⟨t,false,.agg (setAll l off (List.replicate z .dead))⟩,⟨d,false,s⟩] else K [⟨d,false,s⟩]) else none
    |none=>none)
   |none=>none)
  |_,_=>none
 |.build T ps,some d=>match E.ti T with
  |some ti=>(match Ln E A ti (V4 ti.ty) [] ps.toList with
   |some (l,us)=>bif ti.ag then K (us++[⟨d,false,.agg l⟩]) else none
   |none=>none)
  |none=>none
 |.alloc T,some d=>match E.ti T with
  |some ti=>bif Nat.blt ti.ty.sz 999&&Nat.ble E.np d then K (⟨H d,false,.one (.hd ti.ty.sz)⟩::Cw d 0 (V4 ti.ty)++[⟨d,false,.one (.bp d ((get A (H d)).1+1) 0)⟩]) else none
  |none=>none
 |.box T x,some d=>match E.ti T,opT E T A x with
  |some ti,some s=>
   bif mvO E x then (bif Eh A (parts s)&&Nat.beq (parts s).length ti.ty.sz&&Nat.blt ti.ty.sz 999&&Nat.ble E.np d then K (⟨H d,false,.one (.hd ti.ty.sz)⟩::Cw d 0 (parts s)++[⟨d,false,.one (.bp d ((get A (H d)).1+1) 0)⟩]) else none) else
   let m:=(parts s).map (kept A)
   bif A4 m&&Nat.beq m.length ti.ty.sz&&Nat.blt ti.ty.sz 999&&Nat.ble E.np d then K (Iq A (parts s)++gone x s++(⟨H d,false,.one (.hd ti.ty.sz)⟩::Cw d 0 m++[⟨d,false,.one (.bp d ((get A (H d)).1+1) 0)⟩])) else none
  |_,_=>none
 |.load T x,some d=>match E.ti T,opT E 0 A x with
  |some ti,some (.one (.bp b v off))=>(match get A (H b) with
   |(n,.one (.hd m))=>bif Nat.beq n v&&Nat.ble (off+ti.ty.sz) m then (match Jw ti.ag (cellsOf A b off ti.ty.sz) with
    |some s=>K [⟨d,false,s⟩]
    |none=>none) else none
   |_=>none)
  |some ti,some (.one (.ep p v i off))=>(match get A p with
   |(n,.one (.own _ r xs))=>bif Nat.beq n v&&J6 r&&Nat.ble (off+ti.ty.sz) r.sz then (match Jw ti.ag (((lvs r (xs.getD i.toNat r.dflt)).drop off).take ti.ty.sz) with
    |some s=>K [⟨d,false,s⟩]
    |none=>none) else none
   |_=>none)
  |some ti,some (.one (.dp p v pi _ r xs i off))=>bif Nat.beq (get A p).1 v&&Nat.ble (off+ti.ty.sz) r.sz then (match Jw ti.ag (((daL p v pi i 0 (A6 r (xs.getD i.toNat r.dflt))).drop off).take ti.ty.sz) with
   |some s=>K [⟨d,false,s⟩]
   |none=>none) else none
  |some ti,some (.one (.fp r x off))=>bif Nat.ble (off+ti.ty.sz) r.sz then (match Jw ti.ag (((lvs r x).drop off).take ti.ty.sz) with
   |some s=>K [⟨d,false,s⟩]
   |none=>none) else none
  |_,_=>none
 |.store T x y,none=>match E.ti T,opT E 0 A x,opT E T A y with
  |some ti,some (.one (.bp b v off)),some s=>bif mvO E y then (match Qr A y s (Uya (ups A (gone y s)) (parts s)) with
   |some (m,us)=>(match get A (H b) with
    |(n,.one (.hd h))=>bif Nat.beq n v&&Nat.beq m.length ti.ty.sz&&Nat.ble (off+ti.ty.sz) h then K (us++Cw b off m) else none
    |_=>none)
   |none=>none) else
   let m:=(parts s).map (kept A)
   (match get A (H b) with
   |(n,.one (.hd h))=>bif Nat.beq n v&&Gt (ups A (Iq A (parts s)++gone y s)) m&&Nat.beq m.length ti.ty.sz&&Nat.ble (off+ti.ty.sz) h then K (Iq A (parts s)++gone y s++Cw b off m) else none
   |_=>none)
  |some ti,some (.one (.ep p v i off)),some s=>
   let m:=(parts s).map λ x=>Le (kept A x)
   (match get A p with
   |(n,.one (.own e r xs))=>bif Nat.beq n v&&J6 r&&A4 ((parts s).map (kept A))&&Nat.beq m.length ti.ty.sz&&Nat.ble (off+m.length) r.sz&&Kha p (Iq A (parts s)++gone y s) then (match mkW r (setAll (lvs r (xs.getD i.toNat r.dflt)) off m) with
    |some z=>K (Iq A (parts s)++gone y s++[⟨p,true,.one (.own e r (xs.set i.toNat z))⟩])
    |none=>none) else none
   |_=>none)
  |some ti,some (.one (.dp p v (some pi) _ r xs i off)),some s=>(match give A y s with
   |some (m,us)=>(match get A p with
    |(n,.one (.own E0 R0 XS))=>bif Nat.beq n v&&P0 m&&Nat.beq m.length ti.ty.sz&&Nat.ble (off+m.length) r.sz&&Kha p us&&Gk R0 then (match mkW r (setAll (A6 r (xs.getD i.toNat r.dflt)) off m) with
     |some z=>(match Ioa r (xs.set i.toNat z) pi R0 XS with
      |some XS'=>K (us++[⟨p,false,.one (.own E0 R0 XS')⟩])
      |none=>none)
     |none=>none) else none
    |_=>none)
   |none=>none)
  |_,_,_=>none
 |.fieldAddr T x j,some d=>match E.ti T,opT E 0 A x with
  |some ti,some (.one y)=>(match nth ti.fo j with
   |some o=>bif ti.ag&&V3 A y then K [⟨d,false,.one (Kga y o.1)⟩] else none
   |none=>none)
  |_,_=>none
 |.indexAddr T x i,some d=>bif E.opn d then (match opT E T A x,opT E 0 A i with
  |some (.one (.al p v)),some (.one (.sc (.int _ n)))=>(match get A p with
   |(m,.one (.own e r xs))=>bif Nat.beq m v&&Po E T e&&!(Nat.beq p d) then T2 A (2000+d) p e r xs n (λ us=>K (us++[⟨d,false,.one (.bp (2000+d) ((get A (H (2000+d))).1+1) 0)⟩])) none else none
   |_=>none)
  |_,_=>none) else match opT E T A x,opT E 0 A i with
  |some (.one y),some (.one (.sc (.int _ n)))=>(match y,Jb A y with
   |.al p v,.own e r xs=>bif Po E T e&&decide (0≤n) then (bif decide (n<(xs.length:Int)) then (bif J6 r then K [⟨d,false,.one (.ep p v n 0)⟩] else bif Gk r then K [⟨d,false,.one (.dp p v (some []) e r xs n 0)⟩] else none) else none) else none
   |.da p v pi e r xs,_=>bif Po E T e&&Nat.beq (get A p).1 v&&decide (0≤n) then (bif decide (n<(xs.length:Int)) then K [⟨d,false,.one (.dp p v pi e r xs n 0)⟩] else none) else none
   |.al p v,.dead=>(match get A p with
    |(m,.one (.opn e _ _ i b vb))=>bif Nat.beq m v&&Po E T e then (bif decide (n=i) then K [⟨d,false,.one (.bp b vb 0)⟩] else none) else none
    |_=>none)
   |_,.fz e r xs=>bif Po E T e&&decide (0≤n) then (bif decide (n<(xs.length:Int)) then K [⟨d,false,.one (.fp r (xs.getD n.toNat r.dflt) 0)⟩] else none) else none
   |_,.own e r xs=>(match x with
    |.tmp t=>bif Po E T e&&decide (0≤n) then (bif decide (n<(xs.length:Int)) then (bif J6 r then K [⟨d,false,.one (.ep t (get A t).1 n 0)⟩] else bif Gk r then K [⟨d,false,.one (.dp t (get A t).1 (some []) e r xs n 0)⟩] else none) else none) else none
    |_=>none)
   |_,_=>none)
  |_,_=>none
 |.index T x i,some d=>match opT E 0 A x,opT E 0 A i with
  |some (.one (.sc (.string s))),some (.one (.sc (.int _ n)))=>bif B1a E T&&decide (0≤n) then (bif decide (n<(s.size:Int)) then K [⟨d,false,.one (.sc (.int .u8 (bt s n)))⟩] else none) else none
  |_,_=>none
 |.slice T x lo hi none,some d=>match opT E T A x,E1a E A lo,E1a E A hi with
  |some (.one (.sc (.string s))),some lo,some hi=>bif B1a E T then Dsa lo hi s.size λ _=>
   K [⟨d,false,.one (.sc (.string (s.extract (match lo with|some l=>l.toNat|none=>0) (match hi with|some h=>h.toNat|none=>s.size))))⟩] else none
  |some (.one y),some lo,some hi=>(match y,Jb A y with
   |.own _ _ _,.own e r xs=>bif Po E T e then (match lo with
    |none=>Dsa lo hi xs.length λ _=>K (gone x (.one y)++[⟨d,false,.one (.own e r (E0a xs lo hi))⟩])
    |some _=>Dsa lo hi xs.length λ _=>K (gone x (.one y)++[⟨d,false,.one (.fz e r (E0a xs lo hi))⟩])) else none
   |.al p v,.own e r xs=>bif Po E T e then (bif E.mv d then (match lo with
     |none=>Dsa lo hi xs.length λ _=>K [⟨p,false,.one .dead⟩,⟨d,false,.one (.own e r (E0a xs lo hi))⟩]
     |some _=>none)
    else bif J6 r then Dsa lo hi xs.length λ _=>K (Sf A y++[⟨d,false,.one (.fz e r (E0a xs lo hi))⟩])
    else bif Gk r then Dsa lo hi xs.length λ _=>K [⟨d,false,.one (.da p v none e r (E0a xs lo hi))⟩] else none) else none
   |.da p v _ e r xs,_=>bif Po E T e&&Nat.beq (get A p).1 v then Dsa lo hi xs.length λ _=>K [⟨d,false,.one (.da p v none e r (E0a xs lo hi))⟩] else none
   |_,.fz e r xs=>bif Po E T e then Dsa lo hi xs.length λ _=>K [⟨d,false,.one (.fz e r (E0a xs lo hi))⟩] else none
   |_,_=>none)
  |_,_,_=>none
 |.buildSlice T n ps,some d=>match E.ti T with
  |some ⟨.sl e r,false,_,_⟩=>bif Nat.beq n ps.size&&Nat.ble (n*r.sz) 16777216&&(E.ti e).isSome then (match E.hint d with
   |none=>bif J6 r then (match B6a E A e r 0 ps.toList with
    |some (ys,us)=>K (us++[⟨d,false,.one (.own e r ys)⟩])
    |none=>none) else none
   |some r2=>bif decide (shp r2=shp r)&&Gk r2 then (match B7a E A e r2 0 ps.toList with
    |some (ys,us)=>K (us++[⟨d,false,.one (.own e r2 ys)⟩])
    |none=>none) else none) else none
  |_=>none
 |.makeSlice T x y,some d=>match E.ti T,opT E 0 A x,opT E 0 A y with
  |some ⟨.sl e r,false,_,_⟩,some (.one (.sc (.int .i64 n))),some (.one (.sc (.int .i64 m)))=>(match E.ti e with
   |some te=>bif S5 te.ty r&&decide (n=m) then (bif decide (0≤n) then (bif decide (n*te.by_≤140737488355328) then (match E.hint d with
    |none=>K [⟨d,false,.one (.own e r (List.replicate n.toNat r.dflt))⟩]
    |some r2=>bif decide (shp r2=shp r) then K [⟨d,false,.one (.own e r2 (List.replicate n.toNat r2.dflt))⟩] else none) else none) else none) else none
   |none=>none)
  |_,_,_=>none
 |.call c,d=>match c.callee with
  |.builtin .len=>(match c.argTypes.toList,c.args.toList,d with
   |[T],[x],some d=>(match opT E T A x with
    |some (.one y)=>(match Jb A y with
     |.sc (.string s)=>bif B1a E T then K [⟨d,false,.one (.sc (.int .i64 (s.size:Int)))⟩] else none
     |.da p v _ e _ xs=>bif Po E T e&&Nat.beq (get A p).1 v then K [⟨d,false,.one (.sc (.int .i64 (xs.length:Int)))⟩] else none
     |.fz e _ xs=>bif Po E T e then K [⟨d,false,.one (.sc (.int .i64 (xs.length:Int)))⟩] else none
     |.own e _ xs=>bif Po E T e then K [⟨d,false,.one (.sc (.int .i64 (xs.length:Int)))⟩] else none
     |_=>none)
    |_=>none)
   |_,_,_=>none)
  |.builtin .min=>(match Qt E c.argTypes.toList A c.args.toList,d with
   |some (.one (.sc (.int k x))::l),some d=>Oo false l k x λ u=>K [⟨d,false,.one (.sc u)⟩]
   |_,_=>none)
  |.builtin .max=>(match Qt E c.argTypes.toList A c.args.toList,d with
   |some (.one (.sc (.int k x))::l),some d=>Oo true l k x λ u=>K [⟨d,false,.one (.sc u)⟩]
   |_,_=>none)
  |.builtin .append=>(match c.argTypes.toList,c.args.toList,d with
   |[T,T'],[x,y],some d=>(match opT E T A x,opT E T' A y with
    |some (.one u),some (.one w)=>(match Jb A u with
     |.own e r xs=>(match E.hint d with
      |some r2=>(match opT E T' (ups A (Dwa u x)) y with
       |some (.one w2)=>(match Jb (ups A (Dwa u x)) w2,S6 r2 r xs,E.ti e with
        |.own e' r' ys,some xs2,some te=>(match S6 r2 r' ys with
         |some ys2=>bif Gk r2&&Nat.beq e e'&&Po E T e&&Nat.beq T T' then (bif Nat.ble ((xs2.length+ys2.length)*te.by_) 140737488355328 then
           K (Dwa u x++(Dwa w2 y++[⟨d,false,.one (.own e r2 (xs2++ys2))⟩])) else none) else none
         |none=>none)
        |_,_,_=>none)
       |_=>none)
      |none=>bif J6 r then (match Dva A w with
       |some ⟨e',r',ys⟩=>(match Oz r r' ys,E.ti e with
        |some ys,some te=>bif Nat.beq e e'&&Po E T e&&Nat.beq T T' then (bif Nat.ble ((xs.length+ys.length)*te.by_) 140737488355328 then
          K (Dwa u x++[⟨d,false,.one (.own e r (xs++ys))⟩]) else none) else none
        |_,_=>none)
       |none=>(match w with
        |.sc (.string s)=>(match Oz r (.i .u8) (bytesOf s),E.ti e with
         |some ys,some ⟨.i .u8,false,1,_⟩=>bif Po E T e&&B1a E T'&&Nat.ble ((xs.length+s.size)*1) 140737488355328 then
          K (Dwa u x++[⟨d,false,.one (.own e r (xs++ys))⟩]) else none
         |_,_=>none)
        |_=>none)) else none)
     |_=>none)
    |_,_=>none)
   |_,_,_=>none)
  |.value (.func f)=>(match E.call f,Qt E c.argTypes.toList A c.args.toList with
   |some en,some ss=>Xu E A en (c.argTypes.toList.zip c.args.toList) [] ss d K
   |_,_=>none)
  |.value (.tmp t)=>(match opT E 0 A (.tmp t) with
   |some (.one (.fn f bs))=>(match E.call f,Qt E c.argTypes.toList A c.args.toList with
    |some en,some ss=>bif Kz A bs then Xu E A en (c.argTypes.toList.zip c.args.toList) bs ss d K else none
    |_,_=>none)
   |_=>none)
  |_=>none
 |_,_=>none
def Pta (A:Ab) (p t B:Nat):Option (List Up):=match (get A p).2,(get A t).2 with
 |.one (.own e r xs),.one (.sc (.int _ i))=>Pp A B p e r xs i
 |_,_=>none
def Iqa (A:Ab) (d B:Nat):Option (List Up):=match (get A d).2 with
 |.one (.ep p v i off)=>(match get A p with
  |(n,.one (.own e r xs))=>bif Nat.beq n v&&J6 r&&!(Nat.beq p d) then (match Pp A B p e r xs i with
   |some us=>some (us++[⟨d,false,.one (.bp B ((get A (H B)).1+1) off)⟩])
   |none=>none) else none
  |_=>none)
 |.one (.dp p v (some []) _ _ _ i off)=>(match get A p with
  |(n,.one (.own e r xs))=>bif Nat.beq n v&&!(J6 r)&&!(Nat.beq p d) then (match Pp A B p e r xs i with
   |some us=>some (us++[⟨d,false,.one (.bp B ((get A (H B)).1+1) off)⟩])
   |none=>none) else none
  |_=>none)
 |_=>none
def Kka (A:Ab) (p:Nat):Option (List Up):=match (get A p).2 with
 |.one (.opn _ r0 _ _ b v)=>(match P3 A b v r0 r0 with
  |some (l,us)=>(match (get (ups A us) p).2 with
   |.one (.opn e r xs i b' v')=>bif Nat.beq b b'&&Nat.beq (get (ups A us) (H b)).1 v'&&Nat.ble 2000 b&&Nat.beq l.length r.sz&&((J6 r&&!(F8 l))||(Gk r&&P0 l)) then (match mkW r l with
    |some z=>some (us++[⟨H b,false,.one .dead⟩,⟨p,false,.one (.own e r (xs.set i.toNat z))⟩])
    |none=>none) else none
   |_=>none)
  |none=>none)
 |_=>none
def W5 (E:En) (A:Ab) (K:Ab→Option R):Gh→Option R
 |.cl p=>(match Kka A p with
  |some us=>K (ups A us)
  |none=>K A)
 |.op p t B=>bif Nat.blt t E.nt then (match (get A p).2,(get A t).2 with
  |.one (.own e r xs),.one (.sc (.int _ i))=>T2 A B p e r xs i (λ us=>K (ups A us)) (K A)
  |_,_=>K A) else K A
 |.oc p i B=>(match (get A p).2 with
  |.one (.own e r xs)=>T2 A B p e r xs i (λ us=>K (ups A us)) (K A)
  |_=>K A)
 |.od d B=>bif Nat.blt d E.nt then (match (get A d).2 with
  |.one (.ep p v i off)=>(match get A p with
   |(n,.one (.own e r xs))=>bif Nat.beq n v&&J6 r&&!(Nat.beq p d) then T2 A B p e r xs i (λ us=>K (ups A (us++[⟨d,false,.one (.bp B ((get A (H B)).1+1) off)⟩]))) (K A) else K A
   |_=>K A)
  |.one (.dp p v (some []) _ _ _ i off)=>(match get A p with
   |(n,.one (.own e r xs))=>bif Nat.beq n v&&!(J6 r)&&!(Nat.beq p d) then T2 A B p e r xs i (λ us=>K (ups A (us++[⟨d,false,.one (.bp B ((get A (H B)).1+1) off)⟩]))) (K A) else K A
   |_=>K A)
  |_=>K A) else K A
def Mg (E:En):List Gh→Ab→(Ab→Option R)→Option R
 |[],A,K=>K A
 |g::l,A,K=>W5 E A (λ A=>Mg E l A K) g
def B9a (E:En) (o:Oper):Bool:=match o.dst with
 |some d=>Nat.blt d E.nt
 |none=>true
def Kla (ops:List Oper) (j:Nat):Option Nat:=match nth ops j with
 |some o=>o.dst
 |none=>none
def Pq (o:Oper) (A:Ab):Ab:=match o.dst with
 |some d=>up A ⟨d,false,.one .un⟩
 |none=>A
def lit (A:Ab) (d n:Nat) (v:Bool):Ab:=(d,n,.one (.sc (.bool v)))::A
def T3 (E:En) (ops:List Oper):List Nat→Ab→(Ab→Option R)→Option R
 |[],A,K=>K A
 |i::l,A,K=>match nth ops i with
  |none=>none
  |some o=>bif B9a E o then (match o.guard with
   |none=>Au E o A λ U=>T3 E ops l (ups A U) K
   |some (j,want)=>(match Kla ops j with
    |none=>none
    |some dj=>bif Nat.blt dj E.nt then (match get A dj with
     |(n,.one (.sc (.bool b)))=>
      bif b then (bif want then Au E o (lit A dj n true) λ U=>T3 E ops l (ups (lit A dj n true) U) K else T3 E ops l (Pq o (lit A dj n true)) K)
      else (bif want then T3 E ops l (Pq o (lit A dj n false)) K else Au E o (lit A dj n false) λ U=>T3 E ops l (ups (lit A dj n false) U) K)
     |(_,.one .un)=>T3 E ops l (Pq o A) K
     |_=>none) else none))
   else none
def rdC (A:Ab) (b:Nat):Nat→Nat→List Nat
 |_,0=>[]
 |j,n+1=>C b j::((match (get A (C b j)).2 with
  |.one (.al p _)=>[p]
  |_=>[])++rdC A b (j+1) n)
def rdL (A:Ab):Lf→List Nat
 |.al p _=>[p]
 |.ep p _ _ _=>[p]
 |.da p _ _ _ _ _=>[p]
 |.dp p _ _ _ _ _ _ _=>[p]
 |.bp b _ off=>H b::(match (get A (H b)).2 with
  |.one (.hd n)=>rdC A b off (n-off)
  |_=>[])
 |.fn _ bs=>bs.flatMap λ b=>H b.1::(match (get A (H b.1)).2 with
  |.one (.hd n)=>rdC A b.1 0 (n-0)
  |_=>[])
 |_=>[]
def Aab (A:Ab):List Lf→List Nat
 |[]=>[]
 |y::l=>rdL A y++Aab A l
def rdO (A:Ab):Operand→List Nat
 |.tmp t=>t::Aab A (parts (get A t).2)
 |_=>[]
def T6a (A:Ab):List Operand→List Nat
 |[]=>[]
 |x::l=>rdO A x++T6a A l
def Ir:Op→List Operand
 |.move x | .assign x | .unOp _ _ x | .convert _ _ x | .nilCheck x | .extract x _ | .field _ x _ | .box _ x | .load _ x | .fieldAddr _ x _=>[x]
 |.pick c x y=>[c,x,y]
 |.binOp _ _ x y _ | .store _ x y | .makeSlice _ x y | .indexAddr _ x y | .index _ x y=>[x,y]
 |.build _ ps | .buildSlice _ _ ps=>ps.toList.map Prod.snd
 |.slice _ x lo hi _=>x::(lo.toList++hi.toList)
 |.call c=>(match c.callee with
  |.value x=>x::c.args.toList
  |_=>c.args.toList)
 |.makeFunc _ f c=>f.toList++c.toList
 |_=>[]
def rdD:Option Nat→List Nat
 |some d=>[d,H d,H (2000+d)]
 |none=>[]
def rdH:Lf→List Nat
 |.bp b _ _=>[H b]
 |.ep p _ _ _=>[p]
 |.dp p _ _ _ _ _ _ _=>[p]
 |_=>[]
def Xxa:List Lf→List Nat
 |[]=>[]
 |y::l=>rdH y++Xxa l
def rdP (A:Ab):Operand→List Nat
 |.tmp t=>t::Xxa (parts (get A t).2)
 |_=>[]
def rdT:Operand→List Nat
 |.tmp t=>[t]
 |_=>[]
def Xja (A:Ab):List Lf→List Nat
 |[]=>[]
 |.al p _::l=>(bif Nat.ble 1000 p then H (p/1000-1)::(match (get A (H (p/1000-1))).2 with
  |.one (.hd n)=>rdC A (p/1000-1) 0 (n-0)
  |_=>[]) else [])++Xja A l
 |_::l=>Xja A l
def V0a (A:Ab):List Operand→List Nat
 |[]=>[]
 |.tmp t::l=>(match (get A t).2 with
  |.agg ys=>Xja A ys
  |_=>[])++V0a A l
 |_::l=>V0a A l
def Xya (A:Ab):Op→List Nat
 |.call c=>T6a A (Ir (.call c))++V0a A c.args.toList
 |.move x=>rdT x
 |.nilCheck x | .fieldAddr _ x _=>rdP A x
 |op=>T6a A (Ir op)
def rds (A:Ab) (o:Oper):List Nat:=rdD o.dst++Xya A o.op
structure Lg where
 i:Nat
 anc:Nat
 F:List Nat
 W:List Nat
 ex:Option (Nat×Nat×Nat)
def Xka (p:Nat):List Nat→Bool
 |[]=>false
 |q::l=>Nat.beq q p||Xka p l
def Xla:List Nat→List Nat→Bool
 |[],_=>true
 |p::l,m => !(Xka p m)&&Xla l m
def Kma (x y:Lg):Bool:=(Xla x.W y.F&&Xla y.W x.F)||(match x.ex,y.ex with
 |some (t,j,d),some (t',j',d')=>Nat.beq t t'&&!(Nat.beq j j')&&!(Nat.beq d d')&&!(Nat.beq d t)&&!(Nat.beq d' t)
 |_,_=>false)
def aft (o:Oper):List Nat:=o.after.toList.filterMap λ e=>bif Region.binds .any e then some e.on else none
def Kna:List Lg→Nat→Nat
 |[],_=>0
 |x::l,j=>bif Nat.beq x.i j then x.anc else Kna l j
def T7a (lg:List Lg):List Nat→Nat
 |[]=>0
 |j::l=>(2 ^ j ||| Kna lg j) ||| T7a lg l
def Koa (l:List Lg) (y:Lg):Bool:=l.all λ x=>Nat.testBit y.anc x.i||Kma x y
def Xza (o:Oper):Option (Nat×Nat×Nat):=match o.op,o.dst with
 |.extract (.tmp t) j,some d=>some (t,j,d)
 |_,_=>none
def W6 (o:Oper) (i:Nat) (lg:List Lg) (g:List Nat) (A:Ab) (U:List Up):Lg:=⟨i,T7a lg (aft o),g++rds A o++U.map Up.l,U.map Up.l,bif g.isEmpty then Xza o else none⟩
def Pr (o:Oper) (i:Nat) (lg:List Lg) (g:List Nat):Lg:=⟨i,T7a lg (aft o),g++o.dst.toList,o.dst.toList,none⟩
def I2 (E:En) (ops:List Oper):List Nat→List Lg→Ab→(Ab→Option R)→Option R
 |[],_,A,K=>K A
 |i::l,lg,A,K=>match nth ops i with
  |none=>none
  |some o=>bif B9a E o&&(aft o).all (λ j=>Nat.blt j i) then (match o.guard with
   |none=>Au E o A λ U=>bif Koa lg (W6 o i lg [] A U) then I2 E ops l (W6 o i lg [] A U::lg) (ups A U) K else none
   |some (j,want)=>(match Kla ops j with
    |none=>none
    |some dj=>bif Nat.blt dj E.nt then (match get A dj with
     |(n,.one (.sc (.bool b)))=>
      bif b then (bif want then Au E o (lit A dj n true) λ U=>bif Koa lg (W6 o i lg [dj] (lit A dj n true) U) then I2 E ops l (W6 o i lg [dj] (lit A dj n true) U::lg) (ups (lit A dj n true) U) K else none
       else bif Koa lg (Pr o i lg [dj]) then I2 E ops l (Pr o i lg [dj]::lg) (Pq o (lit A dj n true)) K else none)
      else (bif want then bif Koa lg (Pr o i lg [dj]) then I2 E ops l (Pr o i lg [dj]::lg) (Pq o (lit A dj n false)) K else none
       else Au E o (lit A dj n false) λ U=>bif Koa lg (W6 o i lg [dj] (lit A dj n false) U) then I2 E ops l (W6 o i lg [dj] (lit A dj n false) U::lg) (ups (lit A dj n false) U) K else none)
     |(_,.one .un)=>bif Koa lg (Pr o i lg [dj]) then I2 E ops l (Pr o i lg [dj]::lg) (Pq o A) K else none
     |_=>none) else none))
   else none
def T8a (E:En) (ops:List Oper) (A:Ab) (K:Ab→Option R):Option R:=I2 E ops (List.range ops.length) [] A K
def first:Code→Nat
 |.region id _ _=>id
 |.seq a _=>first a
 |.block _ c=>first c
 |.loop c=>first c
 |.scope c=>first c
 |.cond _ a _=>first a
 |_=>0
def Ps (vs:List (Nat×Ty)) (p:Nat):Bool:=vs.any (λ x=>Nat.beq x.1 p&&(match x.2 with | .ow _ _=>true|_=>false))
def Xma:Ty→Bool
 |.ow _ _=>true
 |_=>false
def Pua (A:Ab) (vs:List (Nat×Ty)) (l:Nat) (t:Ty):Option t.den:=
 match (get A l).2 with
 |.one (.al p v)=>bif Ps vs p then none else mkW t [Le (Jb A (.al p v))]
 |.one (.own e r xs)=>bif Xma t then mkW t [.own e r xs] else bif Ps vs l then none else mkW t [.fz e r xs]
 |.one x=>mkW t [x]
 |_=>none
def Pva:Nat→Ty→List (Nat×Ty)
 |l,.pr t u=>Pva l t++Pva (l+t.sz) u
 |l,t=>[(l,t)]
def Xv:List (Nat×Ty)→List (Nat×Ty)
 |[]=>[]
 |v::l=>Pva v.1 v.2++Xv l
def Xna (A:Ab) (all:List (Nat×Ty)):Nat→(t:Ty)→Option t.den
 |l,.pr t u=>match Xna A all l t with
  |some x=>(match Xna A all (l+t.sz) u with
   |some y=>some (x,y)
   |none=>none)
  |none=>none
 |l,.i k=>Pua A all l (.i k)
 |l,.b=>Pua A all l .b
 |l,.s=>Pua A all l .s
 |l,.sl e r=>Pua A all l (.sl e r)
 |l,.ow e r=>Pua A all l (.ow e r)
def Pwa (A:Ab) (all:List (Nat×Ty)):(vs:List (Nat×Ty))→Option (Den (vs.map Prod.snd))
 |[]=>some ()
 |[v]=>Xna A all v.1 v.2
 |v::w::l=>match Xna A all v.1 v.2 with
  |some x=>(match Pwa A all (w::l) with
   |some y=>some (x,y)
   |none=>none)
  |none=>none
def E2a:List (Nat×Nat)→List (Nat×Nat)→Bool
 |[],[]=>true
 |a::l,b::m=>Nat.beq a.1 b.1&&Nat.beq a.2 0&&E2a l m
 |_,_=>false
def Pxa (A:Ab):List (Nat×Lf)→Bool
 |[]=>true
 |(l,.bp b v0 off)::cs=>(match get A l with
  |(_,.one (.bp b' v off'))=>Nat.beq v0 0&&Nat.beq b b'&&Nat.beq off off'&&(match get A (H b) with
   |(n,.one (.hd _))=>Nat.beq n v
   |_=>false)
  |_=>false)&&Pxa A cs
 |(l,.hd m)::cs=>(match get A l with
  |(_,.one (.hd m'))=>Nat.beq m m'
  |_=>false)&&Pxa A cs
 |(l,.fn F bs)::cs=>(match get A l with
  |(_,.one (.fn F' bs'))=>Nat.beq F F'&&E2a bs bs'&&Kz A bs'
  |_=>false)&&Pxa A cs
 |_=>false
def V1a (v:B0a) (A:Ab):Option v.den:=bif Pxa A v.cs then Pwa A (Xv v.vs) v.vs else none
def Kpa:Nat→(t:Ty)→t.den→Ab
 |l,.pr t u,x=>Kpa l t x.1++Kpa (l+t.sz) u x.2
 |l,.i k,x=>[(l,0,.one (.sc (.int k x)))]
 |l,.b,x=>[(l,0,.one (.sc (.bool x)))]
 |l,.s,x=>[(l,0,.one (.sc (.string x)))]
 |l,.sl e r,x=>[(l,0,.one (.fz e r x))]
 |l,.ow e r,x=>[(l,0,.one (.own e r x))]
def Baa:(vs:List (Nat×Ty))→Den (vs.map Prod.snd)→Ab
 |[],_=>[]
 |[v],x=>Kpa v.1 v.2 x
 |v::w::l,x=>Kpa v.1 v.2 x.1++Baa (w::l) x.2
def S8 (v:B0a) (x:v.den):Ab:=Baa v.vs x++v.cs.map λ c=>(c.1,0,.one c.2)
def V2a (K:Ex→Ab→Option R):(l:List (Ex×B0a))→Psa l→Option R
 |[],x=>nomatch x
 |[a],x=>K a.1 (S8 a.2 x)
 |a::b::l,x=>Sum.elim (λ y=>K a.1 (S8 a.2 y)) (λ z=>V2a K (b::l) z) x
def exB:Ex→Ex→Bool
 |.normal,.normal=>true
 |.exit i,.exit j=>Nat.beq i j
 |.ret,.ret=>true
 |_,_=>false
def Ira (e:Ex) (A:Ab):(l:List (Ex×B0a))→Option (Psa l)
 |[]=>none
 |[a]=>bif exB e a.1 then V1a a.2 A else none
 |a::b::l=>bif exB e a.1 then (match V1a a.2 A with|some x=>some (.inl x)|none=>none) else (match Ira e A (b::l) with|some x=>some (.inr x)|none=>none)
def Abb (E:En) (A:Ab) (c:Operand) (v:Bool):Ab:=match c with
 |.tmp t=>bif E.rf then up A ⟨t,true,.one (.sc (.bool v))⟩ else A
 |_=>A
def L5 (E:En):Code→Ab→(Ex→Ab→Option R)→Option R
 |.skip,A,K=>K .normal A
 |.region id ops draw,A,K=>Mg E (E.gh id) A λ A=>bif draw then T8a E ops.toList A (K .normal) else T3 E ops.toList (List.range ops.size) A (K .normal)
 |.seq a b,A,K=>L5 E a A λ e A'=>match e with
  |.normal=>L5 E b A' K
  |e=>K e A'
 |.cond c x y,A,K=>match opT E 0 A c with
  |some (.one (.sc (.bool b)))=>bif b then L5 E x (Abb E A c true) K else L5 E y (Abb E A c false) K
  |_=>none
 |.block id c,A,K=>L5 E c A λ e A'=>match e with
  |.exit i=>bif Nat.beq i id then K .normal A' else K (.exit i) A'
  |e=>K e A'
 |.loop c,A,K=>match E.lp (first c) with
  |some L=>Mg E (E.gh (1000001+first c)) A λ A=>(match V1a L.ins A with
   |some x=>(L.run x).bind λ r=>V2a K L.alts r
   |none=>none)
  |none=>none
 |.exit id,A,K=>K (.exit id) A
 |.ret,A,K=>K .ret A
 |_,_,_=>none
def Ht (l:Nat):Code→Code
 |.seq a b=>match Ht l a with
  |.skip=>Ht l b
  |c=>c
 |.cond _ a b=>match Ht l a with
  |.skip=>Ht l b
  |c=>c
 |.block _ c=>Ht l c
 |.loop c=>bif Nat.beq (first c) l then c else Ht l c
 |_ => .skip
def Kqa (E:En) (L:Lp) (c:Code) (x:L.ins.den):Option (Psa L.alts):=
 L5 E c (S8 L.ins x) λ e A=>match e with
  |.normal=>Mg E (E.gh (1000001+first c)) A λ A=>(match V1a L.ins A with
   |some y=>L.run y
   |none=>none)
  |e=>Mg E (E.gh (1000001+first c)) A λ A=>Ira e A L.alts
def Y0a:List Lf→Lf
 |[x]=>x
 |_ => .dead
def bid (nv i:Nat):Nat:=bif Nat.blt i nv then i else 1500+(i-nv)
def vwL (B:Nat):Nat→List Lf→List Lf
 |_,[]=>[]
 |j,.own _ _ _::l => .al (C B j) 0::vwL B (j+1) l
 |j,x::l=>x::vwL B (j+1) l
def Bba (B:Nat):Nat→List Lf→Ab
 |_,[]=>[]
 |j,x::l=>(C B j,0,.one x)::Bba B (j+1) l
def Ip (nv:Nat):Nat→List Par→List (List Lf)→Ab
 |i,.vw _ h::ps,l::ls=>(i,0,.agg (vwL (bid nv h) 0 l))::Ip nv (i+1) ps ls
 |i,.val ag _::ps,l::ls=>(i,0,(bif ag then .agg l else .one (Y0a l)))::Ip nv (i+1) ps ls
 |i,.ptr t _::ps,l::ls=>(i,0,.one (.bp i 0 0))::(H i,0,.one (.hd t.sz))::(ups [] (Cw i 0 l)++Ip nv (i+1) ps ls)
 |i,.hid t _::ps,l::ls=>(H (bid nv i),0,.one (.hd t.sz))::(Bba (bid nv i) 0 l++Ip nv (i+1) ps ls)
 |i,.rd t::ps,l::ls=>(match mkW t l with
  |some x=>(i,0,.one (.fp t x 0))::Ip nv (i+1) ps ls
  |none=>Ip nv (i+1) ps ls)
 |i,.fn F m::ps,_::ls=>(i,0,.one (.fn F ((List.range m).map λ j=>(bid nv (nv+j),0))))::Ip nv (i+1) ps ls
 |_,_,_=>[]
def Akb (nv:Nat) (ps:List Par) (x:Den (ps.map Par.ty)):Ab:=Ip nv 0 ps (Dx _ x)
def E3a (np:Nat) (A:Ab) (k:RK) (t:Ty) (x:Operand) (s:Sv):Option (List Lf×List Up):=match k with
 |.ptr=>(match s with
  |.one (.bp b v 0)=>(match get A (H b) with
   |(n,.one (.hd m))=>bif Nat.beq n v&&(Nat.ble np b&&Nat.blt b 1000)&&J6 t&&Nat.beq m t.sz&&Nat.blt m 999&&A4 ((cellsOf A b 0 m).map (kept A)) then some ((cellsOf A b 0 m).map (kept A),Iq A (cellsOf A b 0 m)++[⟨H b,false,.one .dead⟩]) else none
   |_=>none)
  |_=>none)
 |k=>bif J8 (Rq k) s then Qs A x s t else none
def E4a (A:Ab) (t:Ty):Sv→Option (List Lf×List Up)
 |.one (.bp b v 0)=>P3 A b v t t
 |_=>none
def T4 (E:En):Ab→List (RK×Ty)→List ResultVar→Option (List (List Lf)×List Up)
 |_,[],[]=>some ([],[])
 |A,(k,t)::ks,.tmp x::rs=>bif Nat.blt x E.nt then (match E3a E.np A k t (.tmp x) (get A x).2 with
  |some (l,u)=>(match T4 E (ups A u) ks rs with
   |some (ls,us)=>some (l::ls,u++us)
   |none=>none)
  |none=>none) else none
 |A,(.agg,t)::ks,.cell x T::rs=>bif Nat.blt x E.nt&&(match E.ti T with|some ti=>ti.ag&&Nat.beq ti.ty.sz t.sz|none=>false) then (match E4a A t (get A x).2 with
  |some (l,u)=>(match T4 E (ups A u) ks rs with
   |some (ls,us)=>some (l::ls,u++us)
   |none=>none)
  |none=>none) else none
 |_,_,_=>none
def V3a (A:Ab) (b:Nat) (t':Ty):Option (List Lf×List Up):=P3 A b (get A (H b)).1 t' t'
def Pya (nv:Nat):Ab→Nat→List Par→Option (List (List Lf))
 |_,_,[]=>some []
 |A,i,.ptr _ t'::ps=>(match V3a A (bid nv i) t' with
  |some (l,us)=>(match Pya nv (ups A us) (i+1) ps with
   |some ls=>some (l::ls)
   |none=>none)
  |none=>none)
 |A,i,.hid _ t'::ps=>(match V3a A (bid nv i) t' with
  |some (l,us)=>(match Pya nv (ups A us) (i+1) ps with
   |some ls=>some (l::ls)
   |none=>none)
  |none=>none)
 |A,i,_::ps=>Pya nv A (i+1) ps
def Kra (E:En) (c:Code) (rv:List ResultVar) (en:Ent) (x:Den (en.ps.map Par.ty)):Option (Den (en.rs.map Prod.snd++Jf en.ps)):=
 L5 E c (Akb en.nv en.ps x) λ e A=>match e with
  |.exit _=>none
  |_=>Mg E (E.gh 1000000) A λ A=>match T4 E A en.rs rv with
   |some (ls,us)=>(match Pya en.nv (ups A us) 0 en.ps with
    |some bs=>Qq (en.rs.map Prod.snd++Jf en.ps) (ls++bs)
    |none=>none)
   |none=>none
end
def csi {R:Type} {c:Bool} {a:Option R} {r:R}:cond c a none=some r↔c=true∧a=some r:=by
 cases c with
 |false=>exact⟨λ h=>(nomatch h),λ h=>(nomatch h.1)⟩
 |true=>exact⟨λ h=>⟨rfl,h⟩,λ h=>h.2⟩
def cs {R:Type} {c:Bool} {a:Option R} {r:R} (h:cond c a none=some r):c=true∧a=some r:=csi.1 h

end Go.Proofs.YtcpligincipmhaaGreat.Vf
