import Derived.Calls
import Derived.Orders
set_option linter.all false
namespace Go.Proofs.YtiiekghlhfbmmaaGreat.Vf
open Go
open List (length getD)
open Int (toNat)
open Go.IntKind (wrap)
open BitVec (ofInt)

inductive Ty where
 |i (k:IntKind)
 |b
 |s
 |sl (e:TypeId) (r:Ty)
 |ow (e:TypeId) (r:Ty)
 |pr (x y:Ty)
 deriving DecidableEq
@[reducible] def Ty.den:Ty→Type
 |.i _=>Int
 |.b=>Bool
 |.s=>ByteArray
 |.sl _ r=>List r.den
 |.ow _ r=>List r.den
 |.pr x y=>x.den×y.den
def Ty.dflt:(t:Ty)→t.den
 |.i _=>(0:Int)
 |.b=>false
 |.s=>(⟨#[]⟩:ByteArray)
 |.sl _ _=>[]
 |.ow _ _=>[]
 |.pr x y=>(x.dflt,y.dflt)
def Ty.sz:Ty→Nat
 |.pr x y=>x.sz+y.sz
 |_=>1
def shp:Ty→Ty
 |.i k => .i k
 |.b => .b
 |.s => .s
 |.sl e r => .sl e (shp r)
 |.ow e r => .sl e (shp r)
 |.pr x y => .pr (shp x) (shp y)
def Kk:∀ t:Ty,(shp t).den=t.den
 |.i _=>rfl
 |.b=>rfl
 |.s=>rfl
 |.sl _ r=>congrArg List (Kk r)
 |.ow _ r=>congrArg List (Kk r)
 |.pr x y=>by show ((shp x).den×(shp y).den)=(x.den×y.den);rw[Kk x,Kk y]
def K4a {t u:Ty} (h:shp u=shp t):u.den=t.den:=(Kk u).symm.trans ((congrArg Ty.den h).trans (Kk t))
def Md:Ty→Bool
 |.ow _ _=>false
 |.pr x y=>Md x&&Md y
 |_=>true
def Jb:Ty→Bool
 |.sl _ _=>false
 |.ow _ r=>Jb r
 |.pr x y=>Jb x&&Jb y
 |_=>true
inductive Lf where
 |dead
 |un
 |sc (u:Value)
 |fz (e:TypeId) (r:Ty) (xs:List r.den)
 |own (e:TypeId) (r:Ty) (xs:List r.den)
 |al (p v:Nat)
 |bp (b v off:Nat)
 |ep (p v:Nat) (i:Int) (off:Nat)
 |fp (r:Ty) (x:r.den) (off:Nat)
 |hd (n:Nat)
 |da (p v:Nat) (pi:Option (List (Int×Nat))) (e:TypeId) (r:Ty) (xs:List r.den)
 |dp (p v:Nat) (pi:Option (List (Int×Nat))) (e:TypeId) (r:Ty) (xs:List r.den) (i:Int) (off:Nat)
 |opn (e:TypeId) (r:Ty) (xs:List r.den) (i:Int) (b v:Nat)
 |fn (F:FuncId) (bs:List (Nat×Nat))
inductive Sv where
 |one (x:Lf)
 |agg (cs:List Lf)
 |tup (vs:List (Bool×List Lf))
abbrev Ab:=List (Nat×Nat×Sv)
def get:Ab→Nat→Nat×Sv
 |[],_=>(0,.one .dead)
 |(k,n,s)::t,l=>bif Nat.beq k l then (n,s) else get t l
structure Up where
 l:Nat
 keep:Bool
 s:Sv
def up (A:Ab) (u:Up):Ab:=(u.l,bif u.keep then (get A u.l).1 else (get A u.l).1+1,u.s)::A
def ups (A:Ab):List Up→Ab
 |[]=>A
 |u::l=>ups (up A u) l
def W7:Ty→Ty→Bool
 |.i k,.i k'=>decide (k=k')
 |.b,.b=>true
 |.s,.s=>true
 |.sl _ _,.sl _ _=>true
 |.sl _ _,.ow _ _=>true
 |.ow _ _,.sl _ _=>true
 |.ow _ _,.ow _ _=>true
 |.pr x y,.pr x' y'=>W7 x x'&&W7 y y'
 |_,_=>false
def C (b j:Nat):Nat:=1000*(b+1)+j
def H (b:Nat):Nat:=1000*(b+1)+999
def S5 (r r':Ty) (xs:List r'.den):Option (List r.den):=if h:shp r'=shp r then some (cast (congrArg List (K4a h)) xs) else none
def W8 (r r':Ty) (xs:List r'.den):Option (List r.den):=if h:r'=r then some (h ▸ xs) else if shp r'=shp r then (match xs with|[]=>some []|_=>none) else none
def A8:(t:Ty)→t.den→List Lf
 |.i k,n=>[.sc (.int k n)]
 |.b,x=>[.sc (.bool x)]
 |.s,x=>[.sc (.string x)]
 |.sl e r,xs=>[.fz e r xs]
 |.ow e r,xs=>[.own e r xs]
 |.pr x y,p=>A8 x p.1++A8 y p.2
def lvs:(t:Ty)→t.den→List Lf
 |.i k,n=>[.sc (.int k n)]
 |.b,x=>[.sc (.bool x)]
 |.s,x=>[.sc (.string x)]
 |.sl e r,xs=>[.fz e r xs]
 |.ow e r,xs=>[.fz e r xs]
 |.pr x y,p=>lvs x p.1++lvs y p.2
def mkT:(t:Ty)→List Lf→Option (t.den×List Lf)
 |.i k,.sc (.int k' n)::l=>bif decide (k=k') then some (n,l) else none
 |.b,.sc (.bool x)::l=>some (x,l)
 |.s,.sc (.string x)::l=>some (x,l)
 |.sl e r,.fz e' r' xs::l=>bif Nat.beq e e' then (match S5 r r' xs with|some ys=>some (ys,l)|none=>none) else none
 |.sl e r,.own e' r' xs::l=>bif Nat.beq e e' then (match S5 r r' xs with|some ys=>some (ys,l)|none=>none) else none
 |.ow e r,.own e' r' xs::l=>bif Nat.beq e e' then (match W8 r r' xs with|some ys=>some (ys,l)|none=>none) else none
 |.pr x y,l=>match mkT x l with
  |some (p,l1)=>(match mkT y l1 with
   |some (q,l2)=>some ((p,q),l2)
   |none=>none)
  |none=>none
 |_,_=>none
def mkW (t:Ty) (l:List Lf):Option t.den:=match mkT t l with
 |some (x,[])=>some x
 |_=>none
structure TI where
 ty:Ty
 ag:Bool
 by_:Nat
 fo:List (Nat×Nat×Bool)
@[reducible] def Den:List Ty→Type
 |[]=>Unit
 |[t]=>t.den
 |t::u::l=>t.den×Den (u::l)
inductive Par where
 |vw (t:Ty) (h:Nat)
 |val (ag:Bool) (t:Ty)
 |ptr (t t':Ty)
 |rd (t:Ty)
 |fn (F:FuncId) (m:Nat)
 |hid (t t':Ty)
def Par.ty:Par→Ty
 |.vw t _=>t
 |.val _ t=>t
 |.ptr t _=>t
 |.rd t=>t
 |.fn _ _ => .b
 |.hid t _=>t
def U0:(ts:List Ty)→List (List Lf)→Option (Den ts)
 |[],[]=>some ()
 |[t],[l]=>mkW t l
 |t::u::ts,l::ls=>match mkW t l with
  |some x=>(match U0 (u::ts) ls with
   |some y=>some (x,y)
   |none=>none)
  |none=>none
 |_,_=>none
def Fc:(ts:List Ty)→Den ts→List (List Lf)
 |[],_=>[]
 |[t],x=>[A8 t x]
 |t::u::ts,x=>A8 t x.1::Fc (u::ts) x.2
def Mj:List Par→List Ty
 |[]=>[]
 |.ptr _ t'::l=>t'::Mj l
 |.hid _ t'::l=>t'::Mj l
 |_::l=>Mj l
inductive RK where
 |one
 |agg
 |ptr
structure Ent where
 nv:Nat
 ps:List Par
 rs:List (RK×Ty)
 run:Den (ps.map Par.ty)→Option (Den (rs.map Prod.snd++Mj ps))
inductive Ex where
 |normal
 |exit (id:Nat)
 |ret
structure Efa where
 cs:List (Nat×Lf)
 vs:List (Nat×Ty)
@[reducible] def Efa.den (v:Efa):Type:=Den (v.vs.map Prod.snd)
@[reducible] def U0a:List (Ex×Efa)→Type
 |[]=>Empty
 |[a]=>a.2.den
 |a::b::l=>a.2.den ⊕ U0a (b::l)
structure Lp where
 ins:Efa
 alts:List (Ex×Efa)
 run:ins.den→Option (U0a alts)
inductive Gh where
 |cl (p:Nat)
 |op (p t B:Nat)
 |od (d B:Nat)
 |oc (p:Nat) (i:Int) (B:Nat)
structure En where
 nt:Nat
 ti:TypeId→Option TI
 eq:TypeId→Bool
 nm:Nat→Bool
 res:Nat→Bool
 call:FuncId→Option Ent
 lp:Nat→Option Lp
 np:Nat
 hint:Nat→Option Ty
 mv:Nat→Bool
 gh:Nat→List Gh
 opn:Nat→Bool
 sh:Nat→Bool
 rf:Bool
def K5a:Value→Bool
 |.int _ _ | .bool _ | .string _ | .func _ _ _ | .pointer none=>true
 |_=>false
def opT (E:En) (T:TypeId) (A:Ab):Operand→Option Sv
 |.tmp t=>bif Nat.blt t E.nt then some (get A t).2 else none
 |.const (.slice none 0 0)=>match E.ti T with
  |some ⟨.sl e r,false,_,_⟩=>some (.one (.own e r []))
  |_=>none
 |.const v=>bif K5a v then some (.one (.sc v)) else none
 |.func f=>some (.one (.sc (.func (.func f) #[] #[])))
 |.global _=>none
def elT (E:En) (T:TypeId):Option TypeId:=match E.ti T with
 |some ⟨.sl e _,false,_,_⟩=>some e
 |_=>none
def St (E:En) (T e:TypeId):Bool:=match elT E T with
 |some e'=>Nat.beq e' e
 |none=>false
def Ega (E:En) (T:TypeId):Bool:=match E.ti T with
 |some ⟨.s,false,_,_⟩=>true
 |_=>false
def Mi (A:Ab):Lf→Lf
 |.al p v=>match get A p with
  |(n,.one (.own e r xs))=>bif Nat.beq n v then .own e r xs else .dead
  |(n,.one (.fz e r xs))=>bif Nat.beq n v then .fz e r xs else .dead
  |_ => .dead
 |x=>x
def Cha (A:Ab):Lf→Lf
 |.da p v _ e r xs=>bif Nat.beq (get A p).1 v then .fz e r xs else .dead
 |x=>Mi A x
structure Sl where
 e:TypeId
 r:Ty
 xs:List r.den
def Hta (A:Ab) (x:Lf):Option Sl:=match x with
 |.da p v _ e r xs=>bif Nat.beq (get A p).1 v&&Md r then some ⟨e,r,xs⟩ else none
 |x=>(match Mi A x with
  |.fz e r xs=>some ⟨e,r,xs⟩
  |.own e r xs=>bif Md r then some ⟨e,r,xs⟩ else none
  |_=>none)
def Awa (A:Ab):Lf→Bool
 |.bp b v _=>Nat.beq (get A (H b)).1 v
 |.ep p v _ _=>(match get A p with
  |(n,.one (.own _ _ _))=>Nat.beq n v
  |_=>false)
 |.fp _ _ _=>true
 |.dp p v _ _ _ _ _ _=>Nat.beq (get A p).1 v
 |_=>false
def Ora:Lf→Nat→Lf
 |.bp b v n,k => .bp b v (n+k)
 |.ep p v i n,k => .ep p v i (n+k)
 |.fp r x n,k => .fp r x (n+k)
 |.dp p v pi e r xs i n,k => .dp p v pi e r xs i (n+k)
 |x,_=>x
def Hj:List Lf→Bool
 |[]=>false
 |.own _ _ _::_=>true
 |.opn _ _ _ _ _ _::_=>true
 |_::l=>Hj l
def Oq:Sv→Bool
 |.one x=>Hj [x]
 |.agg l=>Hj l
 |.tup vs=>vs.any λ v=>Hj v.2
def Ol:Lf→Lf
 |.own e r xs => .fz e r xs
 |.opn _ _ _ _ _ _ => .dead
 |x=>x
def Wx (A:Ab):Lf→List Up
 |.al p v=>match get A p with
  |(n,.one (.own e r xs))=>bif Nat.beq n v then [⟨p,true,.one (.fz e r xs)⟩] else []
  |_=>[]
 |_=>[]
def Lz (A:Ab):List Lf→List Up
 |[]=>[]
 |x::l=>Wx A x++Lz A l
def Osa (p:Nat):List Up→Bool
 |[]=>true
 |u::l => !(Nat.beq u.l p)&&Osa p l
def gone:Operand→Sv→List Up
 |.tmp t,s=>bif Oq s then [⟨t,false,.one .dead⟩] else []
 |_,_=>[]
def Hua:Lf→Operand→List Up
 |.al p _,_=>[⟨p,false,.one .dead⟩]
 |_,.tmp t=>[⟨t,false,.one .dead⟩]
 |_,_=>[]
def parts:Sv→List Lf
 |.one x=>[x]
 |.agg l=>l
 |.tup _=>[]
def Nh (ag:Bool) (l:List Lf):Option Sv:=bif ag then some (.agg l) else match l with
 |[x]=>some (.one x)
 |_=>none
def nth {α:Type}:List α→Nat→Option α
 |[],_=>none
 |x::_,0=>some x
 |_::l,n+1=>nth l n
section
variable {R:Type}
def V4 (op:BinOp) (k:IntKind) (x y:Int) (K:Value→Option R):Option R:=
 match op with
 |.add=>K (.int k (k.wrap (x+y)))
 |.sub=>K (.int k (k.wrap (x-y)))
 |.mul=>K (.int k (k.wrap (x*y)))
 |.quo=>bif decide (y=0) then none else K (.int k (k.wrap (x.tdiv y)))
 |.rem=>bif decide (y=0) then none else K (.int k (x.tmod y))
 |.and=>K (.int k (k.wrap ((ofInt k.bits x &&& ofInt k.bits y).toNat)))
 |.or=>K (.int k (k.wrap ((ofInt k.bits x ||| ofInt k.bits y).toNat)))
 |.xor=>K (.int k (k.wrap ((ofInt k.bits x ^^^ ofInt k.bits y).toNat)))
 |.andNot=>K (.int k (k.wrap ((ofInt k.bits x &&& ~~~ ofInt k.bits y).toNat)))
 |.eql=>K (.bool (x==y))
 |.neq=>K (.bool (x != y))
 |.lss=>K (.bool (x<y))
 |.leq=>K (.bool (x≤y))
 |.gtr=>K (.bool (x > y))
 |.geq=>K (.bool (x≥y))
 |_=>none
def Baa (op:BinOp) (x y:ByteArray) (K:Value→Option R):Option R:=
 match op with
 |.add=>bif Nat.ble (x.size+y.size) 9223372036854775807 then K (.string (x++y)) else none
 |.eql=>K (.bool (x.toList==y.toList))
 |.neq=>K (.bool !(x.toList==y.toList))
 |.lss=>K (.bool (Op.bytesLess x.toList y.toList))
 |.leq=>K (.bool (Op.bytesLess x.toList y.toList||x.toList==y.toList))
 |.gtr=>K (.bool !(Op.bytesLess x.toList y.toList||x.toList==y.toList))
 |.geq=>K (.bool !(Op.bytesLess x.toList y.toList))
 |_=>none
def Fh:List Lf→List Lf→Option Bool
 |[],[]=>some true
 |[.sc (.int k x)],[.sc (.int k' y)]=>bif decide (k=k') then some (x==y) else none
 |[.sc (.bool x)],[.sc (.bool y)]=>some (x==y)
 |[.sc (.string x)],[.sc (.string y)]=>some (x==y)
 |.sc (.int k x)::l,.sc (.int k' y)::l'=>bif decide (k=k') then (match Fh l l' with|some b=>some ((x==y)&&b)|none=>none) else none
 |.sc (.bool x)::l,.sc (.bool y)::l'=>match Fh l l' with|some b=>some ((x==y)&&b)|none=>none
 |.sc (.string x)::l,.sc (.string y)::l'=>match Fh l l' with|some b=>some ((x==y)&&b)|none=>none
 |_,_=>none
def Q7:List Lf→Bool
 |[]=>true
 |.sc _::l=>Q7 l
 |_=>false
def Pd (tT:Option TI) (l:List Lf):Bool:=match tT with
 |some ti=>(mkW ti.ty l).isSome
 |none=>false
def bop (op:BinOp) (tT:Option TI) (eqs:Bool) (x y:Sv) (K:Value→Option R):Option R:=
 match x,y with
 |.one (.sc (.int k a)),.one (.sc (.int k' b))=>
  match op with
  |.shl=>bif decide (b<0) then none else K (.int k (k.wrap (a*2 ^ (min b.toNat k.bits))))
  |.shr=>bif decide (b<0) then none else K (.int k (a.fdiv (2 ^ (min b.toNat k.bits))))
  |_=>bif decide (k=k') then V4 op k a b K else none
 |.one (.sc (.string a)),.one (.sc (.string b))=>Baa op a b K
 |.one (.sc (.bool a)),.one (.sc (.bool b))=>match op,tT with
  |.eql,some ⟨.b,false,_,_⟩=>K (.bool (a==b))
  |.neq,some ⟨.b,false,_,_⟩=>K (.bool (!(a==b)))
  |_,_=>none
 |.agg l,.agg l'=>bif eqs&&Q7 l&&Q7 l'&&(Pd tT l&&Pd tT l') then (match op with
  |.eql=>(match Fh l l' with|some b=>K (.bool b)|none=>none)
  |.neq=>(match Fh l l' with|some b=>K (.bool (!b))|none=>none)
  |_=>none) else none
 |_,_=>none
def uop (op:UnOp) (x:Sv) (K:Value→Option R):Option R:=
 match op,x with
 |.neg,.one (.sc (.int k n))=>K (.int k (k.wrap (0-n)))
 |.xor,.one (.sc (.int k n))=>K (.int k (k.wrap ((ofInt k.bits (if k.signed then -1 else k.max) ^^^ ofInt k.bits n).toNat)))
 |.not,.one (.sc (.bool b))=>K (.bool !b)
 |_,_=>none
def M1 (xs:List Int):ByteArray:=⟨(xs.map λ n=>UInt8.ofNat n.toNat).toArray⟩
def bytesOf (s:ByteArray):List Int:=s.data.toList.map λ b=>(b.toNat:Int)
def bt (s:ByteArray) (i:Int):Int:=((s.data.toList.getD i.toNat 0).toNat:Int)
def conv (src dst:Option TI) (x:Sv) (K:Sv→Option R):Option R:=
 match src,dst,x with
 |some ⟨.i _,false,_,_⟩,some ⟨.i k,false,_,_⟩,.one (.sc (.int _ n))=>K (.one (.sc (.int k (k.wrap n))))
 |some ⟨.s,false,_,_⟩,some ⟨.s,false,_,_⟩,.one (.sc (.string s))=>K (.one (.sc (.string s)))
 |some ⟨.sl e (.i .u8),false,_,_⟩,some ⟨.s,false,_,_⟩,.one (.fz e' (.i .u8) xs)=>bif Nat.beq e e' then K (.one (.sc (.string (M1 xs)))) else none
 |some ⟨.sl e (.i .u8),false,_,_⟩,some ⟨.s,false,_,_⟩,.one (.own e' (.i .u8) xs)=>bif Nat.beq e e' then K (.one (.sc (.string (M1 xs)))) else none
 |some ⟨.s,false,_,_⟩,some ⟨.sl e (.i .u8),false,_,_⟩,.one (.sc (.string s))=>bif Nat.ble s.size 140737488355328 then K (.one (.fz e (.i .u8) (bytesOf s))) else none
 |_,_,_=>none
def Rt (mx:Bool):List Sv→IntKind→Int→(Value→Option R)→Option R
 |[],k,x,K=>K (.int k x)
 |.one (.sc (.int k' y))::l,k,x,K=>bif decide (k=k') then Rt mx l k (bif mx then (if x<y then y else x) else (if y<x then y else x)) K else none
 |_,_,_,_=>none
def cellsOf (A:Ab) (b:Nat):Nat→Nat→List Lf
 |_,0=>[]
 |j,n+1=>(match get A (C b j) with
  |(v,.one (.own _ _ _))=>Lf.al (C b j) v
  |(v,.one (.opn _ _ _ _ _ _))=>Lf.al (C b j) v
  |(_,.one x)=>x
  |_ => .dead)::cellsOf A b (j+1) n
def Dx (b:Nat):Nat→List Lf→List Up
 |_,[]=>[]
 |j,x::l=>⟨C b j,false,.one x⟩::Dx b (j+1) l
def kept (A:Ab) (x:Lf):Lf:=match x with
 |.al _ _=>Ol (Mi A x)
 |_=>x
def Axa:Ty→List Lf
 |.i k=>[.sc (.int k 0)]
 |.b=>[.sc (.bool false)]
 |.s=>[.sc (.string ⟨#[]⟩)]
 |.sl e r=>[.own e r []]
 |.ow e r=>[.own e r []]
 |.pr x y=>Axa x++Axa y
def A5:List Lf→Bool
 |[]=>true
 |.sc _::l | .fz _ _ _::l | .own _ _ _::l=>A5 l
 |_=>false
def Jj (A:Ab):List Lf→Bool
 |[]=>true
 |.sc _::l | .fz _ _ _::l | .own _ _ _::l=>Jj A l
 |.da p v _ _ _ _::l=>Nat.beq (get A p).1 v&&Jj A l
 |_=>false
def Gp (A:Ab):List Lf→Bool
 |[]=>true
 |.sc _::l | .fz _ _ _::l=>Gp A l
 |.al p v::l=>(match Mi A (.al p v) with
  |.own _ _ _ | .fz _ _ _=>true
  |_=>false)&&Gp A l
 |_=>false
def setAll (l:List Lf) (off:Nat) (m:List Lf):List Lf:=l.take off++m++l.drop (off+m.length)
def Me:Ab→List Lf→Option (List Lf×List Up)
 |_,[]=>some ([],[])
 |A,.al p v::l=>(match Mi A (.al p v) with
  |.own e r xs=>(match Me (up A ⟨p,false,.one .dead⟩) l with
   |some (m,us)=>some (.own e r xs::m,⟨p,false,.one .dead⟩::us)
   |none=>none)
  |_=>none)
 |A,x::l=>(match Me A l with
  |some (m,us)=>some (x::m,us)
  |none=>none)
def give (A:Ab) (x:Operand) (s:Sv):Option (List Lf×List Up):=match Me (ups A (gone x s)) (parts s) with
 |some (m,us)=>some (m,gone x s++us)
 |none=>none
def S6:List Lf→Bool
 |[]=>true
 |.sc _::l | .own _ _ _::l=>S6 l
 |_=>false
def L5:Ty→List Ty
 |.pr x y=>L5 x++L5 y
 |t=>[t]
def daL (p v:Nat) (pi:Option (List (Int×Nat))) (i:Int):Nat→List Lf→List Lf
 |_,[]=>[]
 |j,.own e r xs::l => .da p v (match pi with|some q=>some (q++[(i,j)])|none=>none) e r xs::daL p v pi i (j+1) l
 |j,.opn _ _ _ _ _ _::l => .dead::daL p v pi i (j+1) l
 |j,x::l=>x::daL p v pi i (j+1) l
def Mwa (r0:Ty) (ys:List r0.den):List (Int×Nat)→(r:Ty)→List r.den→Option (List r.den)
 |[],r,_=>if h:r0=r then some (h ▸ ys) else none
 |(i,j)::q,r,xs=>match nth (A8 r (xs.getD i.toNat r.dflt)) j with
  |some (.own e1 r1 zs)=>(match Mwa r0 ys q r1 zs with
   |some zs'=>(match mkW r (setAll (A8 r (xs.getD i.toNat r.dflt)) j [.own e1 r1 zs']) with
    |some z=>some (xs.set i.toNat z)
    |none=>none)
   |none=>none)
  |_=>none
def Q8:List Par→Bool
 |[]=>true
 |.val _ t::ps=>Md t&&Q8 ps
 |_::_=>false
def Asa:List (RK×Ty)→Bool
 |[]=>true
 |(.ptr,_)::_=>false
 |(_,t)::rs=>Jb t&&Asa rs
def Oka:Sv→Option Bool
 |.one _=>some false
 |.agg _=>some true
 |.tup _=>none
def Mf (ag:Bool) (s:Sv):Bool:=match Oka s with
 |some b=>bif ag then b else !b
 |none=>false
def Q9 (A:Ab):List Par→List Sv→Option (List (List Lf))
 |[],[]=>some []
 |.val ag _::ps,s::ss=>bif Mf ag s&&A5 ((parts s).map (λ y=>Ol (Cha A y))) then (match Q9 A ps ss with
  |some ls=>some ((parts s).map (λ y=>Ol (Cha A y))::ls)
  |none=>none) else none
 |_,_=>none
def Hva (e:TypeId) (r:Ty):Lf→Option Lf
 |.own e' r' xs=>bif Nat.beq e e' then (match W8 r r' xs with
  |some ys=>some (.own e r ys)
  |none=>bif Md r then (match S5 r r' xs with
   |some ys=>some (.own e r ys)
   |none=>none) else none) else none
 |_=>none
def Hwa:Lf→List Up
 |.al p _=>[⟨p,false,.one .dead⟩]
 |_=>[]
def Ii:Ab→List Ty→List Lf→Option (List Lf×List Up)
 |_,[],[]=>some ([],[])
 |A,.ow e r::ts,x::l=>(match Hva e r (Mi A x) with
  |some y=>(match Ii (ups A (Hwa x)) ts l with
   |some (m,us)=>some (y::m,Hwa x++us)
   |none=>none)
  |none=>none)
 |A,_::ts,x::l=>(match Ii (ups A (Wx A x)) ts l with
  |some (m,us)=>some (Ol (kept A x)::m,Wx A x++us)
  |none=>none)
 |_,_,_=>none
def U1 (A:Ab) (x:Operand) (s:Sv) (ts:List Ty):Option (List Lf×List Up):=match Ii (ups A (gone x s)) ts (parts s) with
 |some (m,us)=>bif A5 m then some (m,gone x s++us) else none
 |none=>none
def U2 (A:Ab) (x:Operand) (s:Sv) (t:Ty):Option (List Lf×List Up):=U1 A x s (L5 t)
def Yka (A:Ab):List Lf→List Ty
 |[]=>[]
 |x::l=>(match Mi A x with
  |.own e r _ => .ow e r
  |_ => .b)::Yka A l
def S7 (A:Ab) (b v:Nat) (t t':Ty):Option (List Lf×List Up):=match get A (H b) with
 |(n,.one (.hd m))=>bif Nat.beq n v&&Nat.beq m t.sz&&Nat.beq m t'.sz then (match Ii A (L5 t) (cellsOf A b 0 m) with
  |some (l,us)=>bif A5 l then some (l,us) else none
  |none=>none) else none
 |_=>none
def X3a:List (Nat×Nat)→List (Nat×Nat)→Bool
 |[],[]=>true
 |a::l,b::m=>Nat.beq a.1 b.1&&Nat.beq a.2 b.2&&X3a l m
 |_,_=>false
def O9 (A:Ab):List (Nat×Nat)→Bool
 |[]=>true
 |b::l=>Nat.beq (get A (H b.1)).1 b.2&&O9 A l
def Txa:Lf→Bool
 |.sc _ | .fz _ _ _=>true
 |_=>false
def Hxa (A:Ab) (b:Nat):Nat→List Ty→List Lf→Option (List Lf)
 |_,[],[]=>some []
 |j,.ow e r::ts,.al p v::l=>bif Nat.beq p (C b j)&&Nat.beq (get A p).1 v then (match Hva e r (Mi A (.al p v)) with
  |some y=>(match Hxa A b (j+1) ts l with
   |some m=>some (y::m)
   |none=>none)
  |none=>none) else none
 |_,.ow _ _::_,_=>none
 |j,_::ts,x::l=>bif Txa (Mi A x) then (match Hxa A b (j+1) ts l with
  |some m=>some (Mi A x::m)
  |none=>none) else none
 |_,_,_=>none
def Eha:List Lf→Option Nat
 |[]=>none
 |.al p _::l=>bif Nat.ble 1000 p then some (p/1000-1) else Eha l
 |_::l=>Eha l
def Eia (A:Ab):List Par→List Sv→List (Nat×Nat)
 |.vw _ _::ps,.agg ys::ss=>(match Eha ys with
  |some b=>(b,(get A (H b)).1)::Eia A ps ss
  |none=>Eia A ps ss)
 |_::ps,_::ss=>Eia A ps ss
 |_,_=>[]
def W9 (A:Ab) (cb hb:List (Nat×Nat)) (nv:Nat) (x:Operand):Par→Sv→Option (List Lf×List Up×List Nat)
 |.vw t h,.agg ys=>(match nth hb (h-nv) with
  |some c=>(match get A (H c.1) with
   |(n,.one (.hd m))=>bif Nat.ble nv h&&Nat.beq n c.2&&Nat.beq m t.sz then (match Hxa A c.1 0 (L5 t) ys with
    |some l=>some (l,[],[])
    |none=>none) else none
   |_=>none)
  |none=>none)
 |.val ag t,s=>bif Mf ag s then (match U2 A x s t with
  |some (m,us)=>some (m,us,[])
  |none=>none) else none
 |.ptr t t',.one (.bp b v 0)=>(match S7 A b v t t' with
  |some (m,us)=>some (m,us,[b])
  |none=>none)
 |.hid t t',.one (.bp b v 0)=>(match S7 A b v t t' with
  |some (m,us)=>some (m,us,[b])
  |none=>none)
 |.rd t,.one (.fp r y 0)=>bif decide (shp r=shp t)&&Md t then some (lvs r y,[],[]) else none
 |.fn F m,.one (.fn F' bs)=>bif Nat.beq F F'&&Nat.beq m bs.length&&X3a bs cb&&O9 A bs then some ([.sc (.bool true)],[],[]) else none
 |_,_=>none
def Nj (E:En) (cb hb:List (Nat×Nat)) (nv:Nat):Ab→List (TypeId×Operand)→List (Nat×Nat)→List Par→Option (List (List Lf)×List Up×List Nat)
 |_,[],[],[]=>some ([],[],[])
 |A,x::xs,hs,p::ps=>(match opT E x.1 A x.2 with
  |some s=>(match W9 A cb hb nv x.2 p s with
   |some (l,u,b)=>(match Nj E cb hb nv (ups A u) xs hs ps with
    |some (ls,us,bs)=>some (l::ls,u++us,b++bs)
    |none=>none)
   |none=>none)
  |none=>none)
 |A,[],h::hs,p::ps=>(match W9 A cb hb nv (.func 0) p (.one (.bp h.1 h.2 0)) with
   |some (l,u,b)=>(match Nj E cb hb nv (ups A u) [] hs ps with
    |some (ls,us,bs)=>some (l::ls,u++us,b++bs)
    |none=>none)
   |none=>none)
 |_,_,_,_=>none
def Ota:List Sv→List (Nat×Nat)
 |[]=>[]
 |.one (.fn _ bs)::_=>bs
 |_::l=>Ota l
def Nt (nv:Nat):Nat→List Par→Bool
 |_,[]=>true
 |i,.hid _ _::ps=>Nat.ble nv i&&Nt nv (i+1) ps
 |i,_::ps=>Nat.blt i nv&&Nt nv (i+1) ps
def Eja:List Nat→Bool
 |[]=>true
 |b::l => !(l.any (Nat.beq b))&&Eja l
def Mxa:List Nat→List (List Lf)→Option (List Up)
 |[],_=>some []
 |b::bs,l::ls=>match Mxa bs ls with
  |some us=>some (Dx b 0 l++us)
  |none=>none
 |_,_=>none
def Oua (A:Ab) (d:Nat) (l:List Lf):List Up:=
 ⟨H d,false,.one (.hd l.length)⟩::Dx d 0 l++[⟨d,false,.one (.bp d ((get A (H d)).1+1) 0)⟩]
def Ml:List (RK×Ty)→Bool
 |[]=>false
 |(.ptr,_)::_=>true
 |_::l=>Ml l
def V5:RK→Bool
 |.agg=>true
 |_=>false
def Eka:List (RK×Ty)→List (List Lf)→List (Bool×List Lf)
 |r::rs,l::ls=>(V5 r.1,l)::Eka rs ls
 |_,_=>[]
def S8 (A:Ab) (rs:List (RK×Ty)) (ls:List (List Lf)) (d:Option Nat):Option (List Up):=
 match rs,ls,d with
 |_,_,none=>some []
 |[],_,some d=>some [⟨d,false,.tup []⟩]
 |[(.one,_)],[x]::_,some d=>some [⟨d,false,.one x⟩]
 |[(.agg,_)],l::_,some d=>some [⟨d,false,.agg l⟩]
 |[(.ptr,_)],l::_,some d=>some (Oua A d l)
 |r::q::rs,ls,some d=>bif Ml (r::q::rs) then none else some [⟨d,false,.tup (Eka (r::q::rs) ls)⟩]
 |_,_,_=>none
def U3 (E:En) (Ts:List TypeId) (A:Ab):List Operand→Option (List Sv)
 |[]=>some []
 |x::l=>match Ts with
  |[]=>none
  |T::Ts=>(match opT E T A x with
   |some s=>(match U3 E Ts A l with
    |some ss=>some (s::ss)
    |none=>none)
   |none=>none)
def Yla (E:En) (rs:List (RK×Ty)) (d:Option Nat):Bool := !(Ml rs)||(match d with
 |some d=>Nat.ble E.np d
 |none=>true)
def shL (E:En) (d:Option Nat) (ls:List (List Lf)):List (List Lf):=match d with
 |some d=>bif E.sh d then ls.map (λ l=>l.map Ol) else ls
 |none=>ls
def Cia (E:En) (A:Ab) (en:Ent) (xs:List (TypeId×Operand)) (cs:List (Nat×Nat)) (ss:List Sv) (d:Option Nat) (K:List Up→Option R):Option R:=
 bif Nat.beq en.nv (xs.length+cs.length) then
 (bif Q8 en.ps&&Asa en.rs&&cs.isEmpty then
  (match Q9 A en.ps ss with
  |none=>none
  |some ls=>match U0 _ ls with
   |none=>none
   |some x=>(en.run x).bind λ r=>
    match S8 A en.rs (shL E d (Fc _ r)) d with
    |none=>none
    |some rs=>K rs)
 else bif Yla E en.rs d&&(Nat.ble en.nv 1000&&Nt en.nv 0 en.ps&&Nat.ble en.rs.length 400&&Nat.ble en.ps.length 2000) then
  (match Nj E (Ota ss++Eia A en.ps ss) (Ota ss++Eia A en.ps ss) en.nv A xs (cs++(Ota ss++Eia A en.ps ss)) en.ps with
  |none=>none
  |some (ls,us,bs)=>bif Eja bs then (match U0 _ ls with
   |none=>none
   |some x=>(en.run x).bind λ r=>
    match Mxa bs ((Fc _ r).drop en.rs.length) with
    |none=>none
    |some ws=>match S8 (ups (ups A us) ws) en.rs (shL E d (Fc _ r)) d with
     |none=>none
     |some rs=>K (us++(ws++rs))) else none)
 else none) else none
def Ot (E:En) (A:Ab) (T:TI) (l:List Lf) (us:List Up):List (Nat×Operand)→Option (List Lf×List Up)
 |[]=>some (l,us)
 |(i,x)::ps=>match nth T.fo i with
  |none=>none
  |some (off,z,_)=>(match x with
   |.const (.slice none 0 0)=>bif Nat.beq z 1 then (match nth l off with
    |some (.own _ _ [])=>Ot E A T l us ps
    |_=>none) else none
   |_=>(match opT E 0 A x with
    |some s=>let m:=(parts s).map (kept A)
     bif A5 m&&Nat.beq m.length z&&Nat.ble (off+z) l.length then Ot E (ups A (Lz A (parts s)++gone x s)) T (setAll l off m) (us++(Lz A (parts s)++gone x s)) ps else none
    |none=>none))
def Ela (E:En) (A:Ab) (e:TypeId) (r:Ty) (i:Nat):List (Nat×Operand)→Option (List r.den×List Up)
 |[]=>some ([],[])
 |(j,x)::ps=>bif Nat.beq i j then (match opT E e A x with
  |some s=>(match bif A5 ((parts s).map (kept A)) then mkW r ((parts s).map λ x=>Ol (kept A x)) else none with
   |some y=>(match Ela E (ups A (Lz A (parts s)++gone x s)) e r (i+1) ps with
    |some (ys,us)=>some (y::ys,(Lz A (parts s)++gone x s)++us)
    |none=>none)
   |none=>none)
  |none=>none) else none
def Ema (E:En) (A:Ab) (e:TypeId) (r:Ty) (i:Nat):List (Nat×Operand)→Option (List r.den×List Up)
 |[]=>some ([],[])
 |(j,x)::ps=>bif Nat.beq i j then (match opT E e A x with
  |some s=>(match give A x s with
   |some (m,us)=>(match bif S6 m then mkW r m else none with
    |some y=>(match Ema E (ups A us) e r (i+1) ps with
     |some (ys,us')=>some (y::ys,us++us')
     |none=>none)
    |none=>none)
   |none=>none)
  |none=>none) else none
def Hya {α:Type} (xs:List α) (lo hi:Option Int):List α:=
 match lo,hi with
 |none,none=>xs
 |some l,none=>xs.drop l.toNat
 |none,some h=>xs.take h.toNat
 |some l,some h=>(xs.take h.toNat).drop l.toNat
def Hoa (lo hi:Option Int) (n:Nat) (K:Unit→Option R):Option R:=
 match lo,hi with
 |none,none=>K ()
 |some l,none=>bif decide (0≤l) then (bif decide (l≤(n:Int)) then K () else none) else none
 |none,some h=>bif decide (0≤h) then (bif decide (h≤(n:Int)) then K () else none) else none
 |some l,some h=>bif decide (0≤l) then (bif decide (l≤h) then (bif decide (h≤(n:Int)) then K () else none) else none) else none
def Hza (E:En) (A:Ab):Option Operand→Option (Option Int)
 |none=>some none
 |some x=>match opT E 0 A x with
  |some (.one (.sc (.int .i64 n)))=>some (some n)
  |_=>none
def mvO (E:En):Operand→Bool
 |.tmp t=>E.mv t
 |_=>false
def Ena (E:En) (A:Ab):List Operand→Option (List (Nat×Nat))
 |[]=>some []
 |x::l=>(match opT E 0 A x with
  |some (.one (.bp b v 0))=>(match Ena E A l with
   |some bs=>some ((b,v)::bs)
   |none=>none)
  |_=>none)
def Su (A:Ab) (B p:Nat) (e:TypeId) (r:Ty) (xs:List r.den) (i:Int):Option (List Up):=
 bif (Md r||Jb r)&&Nat.blt r.sz 999&&!(Nat.beq (p/1000) (B+1))&&Nat.ble 2000 B then (bif decide (0≤i) then (bif decide (i<(xs.length:Int)) then
  some (⟨p,false,.one (.opn e r xs i B ((get A (H B)).1+1))⟩::⟨H B,false,.one (.hd r.sz)⟩::Dx B 0 (A8 r (xs.getD i.toNat r.dflt))) else none) else none) else none
def Xl (A:Ab) (B p:Nat) (e:TypeId) (r:Ty) (xs:List r.den) (i:Int) (K:List Up→Option R) (Z:Option R):Option R:=
 bif (Md r||Jb r)&&Nat.blt r.sz 999&&!(Nat.beq (p/1000) (B+1))&&Nat.ble 2000 B then (bif decide (0≤i) then (bif decide (i<(xs.length:Int)) then
  K (⟨p,false,.one (.opn e r xs i B ((get A (H B)).1+1))⟩::⟨H B,false,.one (.hd r.sz)⟩::Dx B 0 (A8 r (xs.getD i.toNat r.dflt))) else none) else none) else Z
def B0 (E:En) (o:Oper) (A:Ab) (K:List Up→Option R):Option R:=
 match o.op,o.dst with
 |.makeFunc (.func f) x y,some d=>(match x.toList,Ena E A y.toList with
  |[],some bs=>K [⟨d,false,.one (.fn f bs)⟩]
  |_,_=>none)
 |.move x,some d=>match opT E o.type A x with
  |some s=>(match x,s with
   |.tmp t,.one (.own e r xs)=>bif E.nm t&&!(E.mv d) then K [⟨d,false,.one (.al t (get A t).1)⟩] else K [⟨t,false,.one .dead⟩,⟨d,false,.one (.own e r xs)⟩]
   |_,_=>K (gone x s++[⟨d,false,s⟩]))
  |none=>none
 |.assign x,some d=>match opT E o.type A x with
  |some (.one (.al p v))=>(match get A p with
   |(n,.one (.own e r xs))=>bif Nat.beq n v then (bif E.res d then K [⟨p,false,.one .dead⟩,⟨d,false,.one (.own e r xs)⟩] else K [⟨p,true,.one (.fz e r xs)⟩,⟨d,false,.one (.fz e r xs)⟩]) else none
   |(n,.one (.fz e r xs))=>bif Nat.beq n v then K [⟨d,false,.one (.fz e r xs)⟩] else none
   |_=>none)
  |some s=>K (gone x s++[⟨d,false,s⟩])
  |none=>none
 |.pick c x y,some d=>match opT E 0 A c with
  |some (.one (.sc (.bool b)))=>bif b then (match opT E o.type A x with
    |some (.one (.sc u))=>K [⟨d,false,.one (.sc u)⟩]
    |_=>none)
   else (match opT E o.type A y with
    |some (.one (.sc u))=>K [⟨d,false,.one (.sc u)⟩]
    |_=>none)
  |_=>none
 |.binOp op T x y T',some d=>match opT E T A x,opT E T' A y with
  |some s,some s'=>bop op (E.ti T) (E.eq T) s s' λ u=>K [⟨d,false,.one (.sc u)⟩]
  |_,_=>none
 |.unOp op T x,some d=>match opT E T A x with
  |some s=>uop op s λ u=>K [⟨d,false,.one (.sc u)⟩]
  |none=>none
 |.convert T T' x,some d=>match opT E T A x with
  |some (.one y)=>conv (E.ti T) (E.ti T') (.one (Cha A y)) λ s=>K [⟨d,false,s⟩]
  |_=>none
 |.nilCheck x,some d=>match opT E 0 A x with
  |some (.one y)=>bif Awa A y then K [⟨d,false,.one y⟩] else none
  |_=>none
 |.extract (.tmp t) j,some d=>match bif Nat.blt t E.nt then (get A t).2 else .one .dead with
  |.tup vs=>(match nth vs j with
   |some (ag,l)=>(match Nh ag l with
    |some s=>bif Hj l then K [⟨t,false,.tup (vs.set j (false,[.dead]))⟩,⟨d,false,s⟩] else K [⟨d,false,s⟩]
    |none=>none)
   |none=>none)
  |_=>none
 |.field T (.tmp t) j,some d=>match E.ti T,(get A t).2 with
  |some ti,.agg l=>(match nth ti.fo j with
   |some (off,z,ag)=>(match Nh ag ((l.drop off).take z) with
    |some s=>bif ti.ag&&Nat.blt t E.nt&&Nat.ble (off+z) l.length then (bif Hj ((l.drop off).take z) then K [⟨t,false,.agg (setAll l off (List.replicate z .dead))⟩,⟨d,false,s⟩] else K [⟨d,false,s⟩]) else none
    |none=>none)
   |none=>none)
  |_,_=>none
 |.build T ps,some d=>match E.ti T with
  |some ti=>(match Ot E A ti (Axa ti.ty) [] ps.toList with
   |some (l,us)=>bif ti.ag then K (us++[⟨d,false,.agg l⟩]) else none
   |none=>none)
  |none=>none
 |.alloc T,some d=>match E.ti T with
  |some ti=>bif Nat.blt ti.ty.sz 999&&Nat.ble E.np d then K (⟨H d,false,.one (.hd ti.ty.sz)⟩::Dx d 0 (Axa ti.ty)++[⟨d,false,.one (.bp d ((get A (H d)).1+1) 0)⟩]) else none
  |none=>none
 |.box T x,some d=>match E.ti T,opT E T A x with
  |some ti,some s=>
   bif mvO E x then (bif Gp A (parts s)&&Nat.beq (parts s).length ti.ty.sz&&Nat.blt ti.ty.sz 999&&Nat.ble E.np d then K (⟨H d,false,.one (.hd ti.ty.sz)⟩::Dx d 0 (parts s)++[⟨d,false,.one (.bp d ((get A (H d)).1+1) 0)⟩]) else none) else
   let m:=(parts s).map (kept A)
   bif A5 m&&Nat.beq m.length ti.ty.sz&&Nat.blt ti.ty.sz 999&&Nat.ble E.np d then K (Lz A (parts s)++gone x s++(⟨H d,false,.one (.hd ti.ty.sz)⟩::Dx d 0 m++[⟨d,false,.one (.bp d ((get A (H d)).1+1) 0)⟩])) else none
  |_,_=>none
 |.load T x,some d=>match E.ti T,opT E 0 A x with
  |some ti,some (.one (.bp b v off))=>(match get A (H b) with
   |(n,.one (.hd m))=>bif Nat.beq n v&&Nat.ble (off+ti.ty.sz) m then (match Nh ti.ag (cellsOf A b off ti.ty.sz) with
    |some s=>K [⟨d,false,s⟩]
    |none=>none) else none
   |_=>none)
  |some ti,some (.one (.ep p v i off))=>(match get A p with
   |(n,.one (.own _ r xs))=>bif Nat.beq n v&&Md r&&Nat.ble (off+ti.ty.sz) r.sz then (match Nh ti.ag (((lvs r (xs.getD i.toNat r.dflt)).drop off).take ti.ty.sz) with
    |some s=>K [⟨d,false,s⟩]
    |none=>none) else none
   |_=>none)
  |some ti,some (.one (.dp p v pi _ r xs i off))=>bif Nat.beq (get A p).1 v&&Nat.ble (off+ti.ty.sz) r.sz then (match Nh ti.ag (((daL p v pi i 0 (A8 r (xs.getD i.toNat r.dflt))).drop off).take ti.ty.sz) with
   |some s=>K [⟨d,false,s⟩]
   |none=>none) else none
  |some ti,some (.one (.fp r x off))=>bif Nat.ble (off+ti.ty.sz) r.sz then (match Nh ti.ag (((lvs r x).drop off).take ti.ty.sz) with
   |some s=>K [⟨d,false,s⟩]
   |none=>none) else none
  |_,_=>none
 |.store T x y,none=>match E.ti T,opT E 0 A x,opT E T A y with
  |some ti,some (.one (.bp b v off)),some s=>bif mvO E y then (match U1 A y s (Yka (ups A (gone y s)) (parts s)) with
   |some (m,us)=>(match get A (H b) with
    |(n,.one (.hd h))=>bif Nat.beq n v&&Nat.beq m.length ti.ty.sz&&Nat.ble (off+ti.ty.sz) h then K (us++Dx b off m) else none
    |_=>none)
   |none=>none) else
   let m:=(parts s).map (kept A)
   (match get A (H b) with
   |(n,.one (.hd h))=>bif Nat.beq n v&&Jj (ups A (Lz A (parts s)++gone y s)) m&&Nat.beq m.length ti.ty.sz&&Nat.ble (off+ti.ty.sz) h then K (Lz A (parts s)++gone y s++Dx b off m) else none
   |_=>none)
  |some ti,some (.one (.ep p v i off)),some s=>
   let m:=(parts s).map λ x=>Ol (kept A x)
   (match get A p with
   |(n,.one (.own e r xs))=>bif Nat.beq n v&&Md r&&A5 ((parts s).map (kept A))&&Nat.beq m.length ti.ty.sz&&Nat.ble (off+m.length) r.sz&&Osa p (Lz A (parts s)++gone y s) then (match mkW r (setAll (lvs r (xs.getD i.toNat r.dflt)) off m) with
    |some z=>K (Lz A (parts s)++gone y s++[⟨p,true,.one (.own e r (xs.set i.toNat z))⟩])
    |none=>none) else none
   |_=>none)
  |some ti,some (.one (.dp p v (some pi) _ r xs i off)),some s=>(match give A y s with
   |some (m,us)=>(match get A p with
    |(n,.one (.own E0 R0 XS))=>bif Nat.beq n v&&S6 m&&Nat.beq m.length ti.ty.sz&&Nat.ble (off+m.length) r.sz&&Osa p us&&Jb R0 then (match mkW r (setAll (A8 r (xs.getD i.toNat r.dflt)) off m) with
     |some z=>(match Mwa r (xs.set i.toNat z) pi R0 XS with
      |some XS'=>K (us++[⟨p,false,.one (.own E0 R0 XS')⟩])
      |none=>none)
     |none=>none) else none
    |_=>none)
   |none=>none)
  |_,_,_=>none
 |.fieldAddr T x j,some d=>match E.ti T,opT E 0 A x with
  |some ti,some (.one y)=>(match nth ti.fo j with
   |some o=>bif ti.ag&&Awa A y then K [⟨d,false,.one (Ora y o.1)⟩] else none
   |none=>none)
  |_,_=>none
 |.indexAddr T x i,some d=>bif E.opn d then (match opT E T A x,opT E 0 A i with
  |some (.one (.al p v)),some (.one (.sc (.int _ n)))=>(match get A p with
   |(m,.one (.own e r xs))=>bif Nat.beq m v&&St E T e&&!(Nat.beq p d) then Xl A (2000+d) p e r xs n (λ us=>K (us++[⟨d,false,.one (.bp (2000+d) ((get A (H (2000+d))).1+1) 0)⟩])) none else none
   |_=>none)
  |_,_=>none) else match opT E T A x,opT E 0 A i with
  |some (.one y),some (.one (.sc (.int _ n)))=>(match y,Mi A y with
   |.al p v,.own e r xs=>bif St E T e&&decide (0≤n) then (bif decide (n<(xs.length:Int)) then (bif Md r then K [⟨d,false,.one (.ep p v n 0)⟩] else bif Jb r then K [⟨d,false,.one (.dp p v (some []) e r xs n 0)⟩] else none) else none) else none
   |.da p v pi e r xs,_=>bif St E T e&&Nat.beq (get A p).1 v&&decide (0≤n) then (bif decide (n<(xs.length:Int)) then K [⟨d,false,.one (.dp p v pi e r xs n 0)⟩] else none) else none
   |.al p v,.dead=>(match get A p with
    |(m,.one (.opn e _ _ i b vb))=>bif Nat.beq m v&&St E T e then (bif decide (n=i) then K [⟨d,false,.one (.bp b vb 0)⟩] else none) else none
    |_=>none)
   |_,.fz e r xs=>bif St E T e&&decide (0≤n) then (bif decide (n<(xs.length:Int)) then K [⟨d,false,.one (.fp r (xs.getD n.toNat r.dflt) 0)⟩] else none) else none
   |_,.own e r xs=>(match x with
    |.tmp t=>bif St E T e&&decide (0≤n) then (bif decide (n<(xs.length:Int)) then (bif Md r then K [⟨d,false,.one (.ep t (get A t).1 n 0)⟩] else bif Jb r then K [⟨d,false,.one (.dp t (get A t).1 (some []) e r xs n 0)⟩] else none) else none) else none
    |_=>none)
   |_,_=>none)
  |_,_=>none
 |.index T x i,some d=>match opT E 0 A x,opT E 0 A i with
  |some (.one (.sc (.string s))),some (.one (.sc (.int _ n)))=>bif Ega E T&&decide (0≤n) then (bif decide (n<(s.size:Int)) then K [⟨d,false,.one (.sc (.int .u8 (bt s n)))⟩] else none) else none
  |_,_=>none
 |.slice T x lo hi none,some d=>match opT E T A x,Hza E A lo,Hza E A hi with
  |some (.one (.sc (.string s))),some lo,some hi=>bif Ega E T then Hoa lo hi s.size λ _=>
   K [⟨d,false,.one (.sc (.string (s.extract (match lo with|some l=>l.toNat|none=>0) (match hi with|some h=>h.toNat|none=>s.size))))⟩] else none
  |some (.one y),some lo,some hi=>(match y,Mi A y with
   |.own _ _ _,.own e r xs=>bif St E T e then (match lo with
    |none=>Hoa lo hi xs.length λ _=>K (gone x (.one y)++[⟨d,false,.one (.own e r (Hya xs lo hi))⟩])
    |some _=>Hoa lo hi xs.length λ _=>K (gone x (.one y)++[⟨d,false,.one (.fz e r (Hya xs lo hi))⟩])) else none
   |.al p v,.own e r xs=>bif St E T e then (bif E.mv d then (match lo with
     |none=>Hoa lo hi xs.length λ _=>K [⟨p,false,.one .dead⟩,⟨d,false,.one (.own e r (Hya xs lo hi))⟩]
     |some _=>none)
    else bif Md r then Hoa lo hi xs.length λ _=>K (Wx A y++[⟨d,false,.one (.fz e r (Hya xs lo hi))⟩])
    else bif Jb r then Hoa lo hi xs.length λ _=>K [⟨d,false,.one (.da p v none e r (Hya xs lo hi))⟩] else none) else none
   |.da p v _ e r xs,_=>bif St E T e&&Nat.beq (get A p).1 v then Hoa lo hi xs.length λ _=>K [⟨d,false,.one (.da p v none e r (Hya xs lo hi))⟩] else none
   |_,.fz e r xs=>bif St E T e then Hoa lo hi xs.length λ _=>K [⟨d,false,.one (.fz e r (Hya xs lo hi))⟩] else none
   |_,_=>none)
  |_,_,_=>none
 |.buildSlice T n ps,some d=>match E.ti T with
  |some ⟨.sl e r,false,_,_⟩=>bif Nat.beq n ps.size&&Nat.ble (n*r.sz) 16777216&&(E.ti e).isSome then (match E.hint d with
   |none=>bif Md r then (match Ela E A e r 0 ps.toList with
    |some (ys,us)=>K (us++[⟨d,false,.one (.own e r ys)⟩])
    |none=>none) else none
   |some r2=>bif decide (shp r2=shp r)&&Jb r2 then (match Ema E A e r2 0 ps.toList with
    |some (ys,us)=>K (us++[⟨d,false,.one (.own e r2 ys)⟩])
    |none=>none) else none) else none
  |_=>none
 |.makeSlice T x y,some d=>match E.ti T,opT E 0 A x,opT E 0 A y with
  |some ⟨.sl e r,false,_,_⟩,some (.one (.sc (.int .i64 n))),some (.one (.sc (.int .i64 m)))=>(match E.ti e with
   |some te=>bif W7 te.ty r&&decide (n=m) then (bif decide (0≤n) then (bif decide (n*te.by_≤140737488355328) then (match E.hint d with
    |none=>K [⟨d,false,.one (.own e r (List.replicate n.toNat r.dflt))⟩]
    |some r2=>bif decide (shp r2=shp r) then K [⟨d,false,.one (.own e r2 (List.replicate n.toNat r2.dflt))⟩] else none) else none) else none) else none
   |none=>none)
  |_,_,_=>none
 |.call c,d=>match c.callee with
  |.builtin .len=>(match c.argTypes.toList,c.args.toList,d with
   |[T],[x],some d=>(match opT E T A x with
    |some (.one y)=>(match Mi A y with
     |.sc (.string s)=>bif Ega E T then K [⟨d,false,.one (.sc (.int .i64 (s.size:Int)))⟩] else none
     |.da p v _ e _ xs=>bif St E T e&&Nat.beq (get A p).1 v then K [⟨d,false,.one (.sc (.int .i64 (xs.length:Int)))⟩] else none
     |.fz e _ xs=>bif St E T e then K [⟨d,false,.one (.sc (.int .i64 (xs.length:Int)))⟩] else none
     |.own e _ xs=>bif St E T e then K [⟨d,false,.one (.sc (.int .i64 (xs.length:Int)))⟩] else none
     |_=>none)
    |_=>none)
   |_,_,_=>none)
  |.builtin .min=>(match U3 E c.argTypes.toList A c.args.toList,d with
   |some (.one (.sc (.int k x))::l),some d=>Rt false l k x λ u=>K [⟨d,false,.one (.sc u)⟩]
   |_,_=>none)
  |.builtin .max=>(match U3 E c.argTypes.toList A c.args.toList,d with
   |some (.one (.sc (.int k x))::l),some d=>Rt true l k x λ u=>K [⟨d,false,.one (.sc u)⟩]
   |_,_=>none)
  |.builtin .append=>(match c.argTypes.toList,c.args.toList,d with
   |[T,T'],[x,y],some d=>(match opT E T A x,opT E T' A y with
    |some (.one u),some (.one w)=>(match Mi A u with
     |.own e r xs=>(match E.hint d with
      |some r2=>(match opT E T' (ups A (Hua u x)) y with
       |some (.one w2)=>(match Mi (ups A (Hua u x)) w2,W8 r2 r xs,E.ti e with
        |.own e' r' ys,some xs2,some te=>(match W8 r2 r' ys with
         |some ys2=>bif Jb r2&&Nat.beq e e'&&St E T e&&Nat.beq T T' then (bif Nat.ble ((xs2.length+ys2.length)*te.by_) 140737488355328 then
           K (Hua u x++(Hua w2 y++[⟨d,false,.one (.own e r2 (xs2++ys2))⟩])) else none) else none
         |none=>none)
        |_,_,_=>none)
       |_=>none)
      |none=>bif Md r then (match Hta A w with
       |some ⟨e',r',ys⟩=>(match S5 r r' ys,E.ti e with
        |some ys,some te=>bif Nat.beq e e'&&St E T e&&Nat.beq T T' then (bif Nat.ble ((xs.length+ys.length)*te.by_) 140737488355328 then
          K (Hua u x++[⟨d,false,.one (.own e r (xs++ys))⟩]) else none) else none
        |_,_=>none)
       |none=>(match w with
        |.sc (.string s)=>(match S5 r (.i .u8) (bytesOf s),E.ti e with
         |some ys,some ⟨.i .u8,false,1,_⟩=>bif St E T e&&Ega E T'&&Nat.ble ((xs.length+s.size)*1) 140737488355328 then
          K (Hua u x++[⟨d,false,.one (.own e r (xs++ys))⟩]) else none
         |_,_=>none)
        |_=>none)) else none)
     |_=>none)
    |_,_=>none)
   |_,_,_=>none)
  |.value (.func f)=>(match E.call f,U3 E c.argTypes.toList A c.args.toList with
   |some en,some ss=>Cia E A en (c.argTypes.toList.zip c.args.toList) [] ss d K
   |_,_=>none)
  |.value (.tmp t)=>(match opT E 0 A (.tmp t) with
   |some (.one (.fn f bs))=>(match E.call f,U3 E c.argTypes.toList A c.args.toList with
    |some en,some ss=>bif O9 A bs then Cia E A en (c.argTypes.toList.zip c.args.toList) bs ss d K else none
    |_,_=>none)
   |_=>none)
  |_=>none
 |_,_=>none
def U1a (A:Ab) (p t B:Nat):Option (List Up):=match (get A p).2,(get A t).2 with
 |.one (.own e r xs),.one (.sc (.int _ i))=>Su A B p e r xs i
 |_,_=>none
def Mya (A:Ab) (d B:Nat):Option (List Up):=match (get A d).2 with
 |.one (.ep p v i off)=>(match get A p with
  |(n,.one (.own e r xs))=>bif Nat.beq n v&&Md r&&!(Nat.beq p d) then (match Su A B p e r xs i with
   |some us=>some (us++[⟨d,false,.one (.bp B ((get A (H B)).1+1) off)⟩])
   |none=>none) else none
  |_=>none)
 |.one (.dp p v (some []) _ _ _ i off)=>(match get A p with
  |(n,.one (.own e r xs))=>bif Nat.beq n v&&!(Md r)&&!(Nat.beq p d) then (match Su A B p e r xs i with
   |some us=>some (us++[⟨d,false,.one (.bp B ((get A (H B)).1+1) off)⟩])
   |none=>none) else none
  |_=>none)
 |_=>none
def Ova (A:Ab) (p:Nat):Option (List Up):=match (get A p).2 with
 |.one (.opn _ r0 _ _ b v)=>(match S7 A b v r0 r0 with
  |some (l,us)=>(match (get (ups A us) p).2 with
   |.one (.opn e r xs i b' v')=>bif Nat.beq b b'&&Nat.beq (get (ups A us) (H b)).1 v'&&Nat.ble 2000 b&&Nat.beq l.length r.sz&&((Md r&&!(Hj l))||(Jb r&&S6 l)) then (match mkW r l with
    |some z=>some (us++[⟨H b,false,.one .dead⟩,⟨p,false,.one (.own e r (xs.set i.toNat z))⟩])
    |none=>none) else none
   |_=>none)
  |none=>none)
 |_=>none
def Bba (E:En) (A:Ab) (K:Ab→Option R):Gh→Option R
 |.cl p=>(match Ova A p with
  |some us=>K (ups A us)
  |none=>K A)
 |.op p t B=>bif Nat.blt t E.nt then (match (get A p).2,(get A t).2 with
  |.one (.own e r xs),.one (.sc (.int _ i))=>Xl A B p e r xs i (λ us=>K (ups A us)) (K A)
  |_,_=>K A) else K A
 |.oc p i B=>(match (get A p).2 with
  |.one (.own e r xs)=>Xl A B p e r xs i (λ us=>K (ups A us)) (K A)
  |_=>K A)
 |.od d B=>bif Nat.blt d E.nt then (match (get A d).2 with
  |.one (.ep p v i off)=>(match get A p with
   |(n,.one (.own e r xs))=>bif Nat.beq n v&&Md r&&!(Nat.beq p d) then Xl A B p e r xs i (λ us=>K (ups A (us++[⟨d,false,.one (.bp B ((get A (H B)).1+1) off)⟩]))) (K A) else K A
   |_=>K A)
  |.one (.dp p v (some []) _ _ _ i off)=>(match get A p with
   |(n,.one (.own e r xs))=>bif Nat.beq n v&&!(Md r)&&!(Nat.beq p d) then Xl A B p e r xs i (λ us=>K (ups A (us++[⟨d,false,.one (.bp B ((get A (H B)).1+1) off)⟩]))) (K A) else K A
   |_=>K A)
  |_=>K A) else K A
def Pe (E:En):List Gh→Ab→(Ab→Option R)→Option R
 |[],A,K=>K A
 |g::l,A,K=>Bba E A (λ A=>Pe E l A K) g
def Eoa (E:En) (o:Oper):Bool:=match o.dst with
 |some d=>Nat.blt d E.nt
 |none=>true
def Owa (ops:List Oper) (j:Nat):Option Nat:=match nth ops j with
 |some o=>o.dst
 |none=>none
def Sw (o:Oper) (A:Ab):Ab:=match o.dst with
 |some d=>up A ⟨d,false,.one .un⟩
 |none=>A
def lit (A:Ab) (d n:Nat) (v:Bool):Ab:=(d,n,.one (.sc (.bool v)))::A
def Xm (E:En) (ops:List Oper):List Nat→Ab→(Ab→Option R)→Option R
 |[],A,K=>K A
 |i::l,A,K=>match nth ops i with
  |none=>none
  |some o=>bif Eoa E o then (match o.guard with
   |none=>B0 E o A λ U=>Xm E ops l (ups A U) K
   |some (j,want)=>(match Owa ops j with
    |none=>none
    |some dj=>bif Nat.blt dj E.nt then (match get A dj with
     |(n,.one (.sc (.bool b)))=>
      bif b then (bif want then B0 E o (lit A dj n true) λ U=>Xm E ops l (ups (lit A dj n true) U) K else Xm E ops l (Sw o (lit A dj n true)) K)
      else (bif want then Xm E ops l (Sw o (lit A dj n false)) K else B0 E o (lit A dj n false) λ U=>Xm E ops l (ups (lit A dj n false) U) K)
     |(_,.one .un)=>Xm E ops l (Sw o A) K
     |_=>none) else none))
   else none
def rdC (A:Ab) (b:Nat):Nat→Nat→List Nat
 |_,0=>[]
 |j,n+1=>C b j::((match (get A (C b j)).2 with
  |.one (.al p _)=>[p]
  |_=>[])++rdC A b (j+1) n)
def rdL (A:Ab):Lf→List Nat
 |.al p _=>[p]
 |.ep p _ _ _=>[p]
 |.da p _ _ _ _ _=>[p]
 |.dp p _ _ _ _ _ _ _=>[p]
 |.bp b _ off=>H b::(match (get A (H b)).2 with
  |.one (.hd n)=>rdC A b off (n-off)
  |_=>[])
 |.fn _ bs=>bs.flatMap λ b=>H b.1::(match (get A (H b.1)).2 with
  |.one (.hd n)=>rdC A b.1 0 (n-0)
  |_=>[])
 |_=>[]
def E1b (A:Ab):List Lf→List Nat
 |[]=>[]
 |y::l=>rdL A y++E1b A l
def rdO (A:Ab):Operand→List Nat
 |.tmp t=>t::E1b A (parts (get A t).2)
 |_=>[]
def X4a (A:Ab):List Operand→List Nat
 |[]=>[]
 |x::l=>rdO A x++X4a A l
def M0:Op→List Operand
 |.move x | .assign x | .unOp _ _ x | .convert _ _ x | .nilCheck x | .extract x _ | .field _ x _ | .box _ x | .load _ x | .fieldAddr _ x _=>[x]
 |.pick c x y=>[c,x,y]
 |.binOp _ _ x y _ | .store _ x y | .makeSlice _ x y | .indexAddr _ x y | .index _ x y=>[x,y]
 |.build _ ps | .buildSlice _ _ ps=>ps.toList.map Prod.snd
 |.slice _ x lo hi _=>x::(lo.toList++hi.toList)
 |.call c=>(match c.callee with
  |.value x=>x::c.args.toList
  |_=>c.args.toList)
 |.makeFunc _ f c=>f.toList++c.toList
 |_=>[]
def rdD:Option Nat→List Nat
 |some d=>[d,H d,H (2000+d)]
 |none=>[]
def rdH:Lf→List Nat
 |.bp b _ _=>[H b]
 |.ep p _ _ _=>[p]
 |.dp p _ _ _ _ _ _ _=>[p]
 |_=>[]
def Bqb:List Lf→List Nat
 |[]=>[]
 |y::l=>rdH y++Bqb l
def rdP (A:Ab):Operand→List Nat
 |.tmp t=>t::Bqb (parts (get A t).2)
 |_=>[]
def rdT:Operand→List Nat
 |.tmp t=>[t]
 |_=>[]
def Bfb (A:Ab):List Lf→List Nat
 |[]=>[]
 |.al p _::l=>(bif Nat.ble 1000 p then H (p/1000-1)::(match (get A (H (p/1000-1))).2 with
  |.one (.hd n)=>rdC A (p/1000-1) 0 (n-0)
  |_=>[]) else [])++Bfb A l
 |_::l=>Bfb A l
def Yma (A:Ab):List Operand→List Nat
 |[]=>[]
 |.tmp t::l=>(match (get A t).2 with
  |.agg ys=>Bfb A ys
  |_=>[])++Yma A l
 |_::l=>Yma A l
def Brb (A:Ab):Op→List Nat
 |.call c=>X4a A (M0 (.call c))++Yma A c.args.toList
 |.move x=>rdT x
 |.nilCheck x | .fieldAddr _ x _=>rdP A x
 |op=>X4a A (M0 op)
def rds (A:Ab) (o:Oper):List Nat:=rdD o.dst++Brb A o.op
structure Lg where
 i:Nat
 anc:Nat
 F:List Nat
 W:List Nat
 ex:Option (Nat×Nat×Nat)
def Bgb (p:Nat):List Nat→Bool
 |[]=>false
 |q::l=>Nat.beq q p||Bgb p l
def Bhb:List Nat→List Nat→Bool
 |[],_=>true
 |p::l,m => !(Bgb p m)&&Bhb l m
def Oxa (x y:Lg):Bool:=(Bhb x.W y.F&&Bhb y.W x.F)||(match x.ex,y.ex with
 |some (t,j,d),some (t',j',d')=>Nat.beq t t'&&!(Nat.beq j j')&&!(Nat.beq d d')&&!(Nat.beq d t)&&!(Nat.beq d' t)
 |_,_=>false)
def aft (o:Oper):List Nat:=o.after.toList.filterMap λ e=>bif Region.binds .any e then some e.on else none
def Oya:List Lg→Nat→Nat
 |[],_=>0
 |x::l,j=>bif Nat.beq x.i j then x.anc else Oya l j
def X5a (lg:List Lg):List Nat→Nat
 |[]=>0
 |j::l=>(2 ^ j ||| Oya lg j) ||| X5a lg l
def Oza (l:List Lg) (y:Lg):Bool:=l.all λ x=>Nat.testBit y.anc x.i||Oxa x y
def Bsb (o:Oper):Option (Nat×Nat×Nat):=match o.op,o.dst with
 |.extract (.tmp t) j,some d=>some (t,j,d)
 |_,_=>none
def Bca (o:Oper) (i:Nat) (lg:List Lg) (g:List Nat) (A:Ab) (U:List Up):Lg:=⟨i,X5a lg (aft o),g++rds A o++U.map Up.l,U.map Up.l,bif g.isEmpty then Bsb o else none⟩
def Sx (o:Oper) (i:Nat) (lg:List Lg) (g:List Nat):Lg:=⟨i,X5a lg (aft o),g++o.dst.toList,o.dst.toList,none⟩
def L8 (E:En) (ops:List Oper):List Nat→List Lg→Ab→(Ab→Option R)→Option R
 |[],_,A,K=>K A
 |i::l,lg,A,K=>match nth ops i with
  |none=>none
  |some o=>bif Eoa E o&&(aft o).all (λ j=>Nat.blt j i) then (match o.guard with
   |none=>B0 E o A λ U=>bif Oza lg (Bca o i lg [] A U) then L8 E ops l (Bca o i lg [] A U::lg) (ups A U) K else none
   |some (j,want)=>(match Owa ops j with
    |none=>none
    |some dj=>bif Nat.blt dj E.nt then (match get A dj with
     |(n,.one (.sc (.bool b)))=>
      bif b then (bif want then B0 E o (lit A dj n true) λ U=>bif Oza lg (Bca o i lg [dj] (lit A dj n true) U) then L8 E ops l (Bca o i lg [dj] (lit A dj n true) U::lg) (ups (lit A dj n true) U) K else none
       else bif Oza lg (Sx o i lg [dj]) then L8 E ops l (Sx o i lg [dj]::lg) (Sw o (lit A dj n true)) K else none)
      else (bif want then bif Oza lg (Sx o i lg [dj]) then L8 E ops l (Sx o i lg [dj]::lg) (Sw o (lit A dj n false)) K else none
       else B0 E o (lit A dj n false) λ U=>bif Oza lg (Bca o i lg [dj] (lit A dj n false) U) then L8 E ops l (Bca o i lg [dj] (lit A dj n false) U::lg) (ups (lit A dj n false) U) K else none)
     |(_,.one .un)=>bif Oza lg (Sx o i lg [dj]) then L8 E ops l (Sx o i lg [dj]::lg) (Sw o A) K else none
     |_=>none) else none))
   else none
def X6a (E:En) (ops:List Oper) (A:Ab) (K:Ab→Option R):Option R:=L8 E ops (List.range ops.length) [] A K
def first:Code→Nat
 |.region id _ _=>id
 |.seq a _=>first a
 |.block _ c=>first c
 |.loop c=>first c
 |.scope c=>first c
 |.cond _ a _=>first a
 |_=>0
def Sy (vs:List (Nat×Ty)) (p:Nat):Bool:=vs.any (λ x=>Nat.beq x.1 p&&(match x.2 with | .ow _ _=>true|_=>false))
def Bib:Ty→Bool
 |.ow _ _=>true
 |_=>false
def U2a (A:Ab) (vs:List (Nat×Ty)) (l:Nat) (t:Ty):Option t.den:=
 match (get A l).2 with
 |.one (.al p v)=>bif Sy vs p then none else mkW t [Ol (Mi A (.al p v))]
 |.one (.own e r xs)=>bif Bib t then mkW t [.own e r xs] else bif Sy vs l then none else mkW t [.fz e r xs]
 |.one x=>mkW t [x]
 |_=>none
def U3a:Nat→Ty→List (Nat×Ty)
 |l,.pr t u=>U3a l t++U3a (l+t.sz) u
 |l,t=>[(l,t)]
def Cja:List (Nat×Ty)→List (Nat×Ty)
 |[]=>[]
 |v::l=>U3a v.1 v.2++Cja l
def Bjb (A:Ab) (all:List (Nat×Ty)):Nat→(t:Ty)→Option t.den
 |l,.pr t u=>match Bjb A all l t with
  |some x=>(match Bjb A all (l+t.sz) u with
   |some y=>some (x,y)
   |none=>none)
  |none=>none
 |l,.i k=>U2a A all l (.i k)
 |l,.b=>U2a A all l .b
 |l,.s=>U2a A all l .s
 |l,.sl e r=>U2a A all l (.sl e r)
 |l,.ow e r=>U2a A all l (.ow e r)
def U4a (A:Ab) (all:List (Nat×Ty)):(vs:List (Nat×Ty))→Option (Den (vs.map Prod.snd))
 |[]=>some ()
 |[v]=>Bjb A all v.1 v.2
 |v::w::l=>match Bjb A all v.1 v.2 with
  |some x=>(match U4a A all (w::l) with
   |some y=>some (x,y)
   |none=>none)
  |none=>none
def I0a:List (Nat×Nat)→List (Nat×Nat)→Bool
 |[],[]=>true
 |a::l,b::m=>Nat.beq a.1 b.1&&Nat.beq a.2 0&&I0a l m
 |_,_=>false
def U5a (A:Ab):List (Nat×Lf)→Bool
 |[]=>true
 |(l,.bp b v0 off)::cs=>(match get A l with
  |(_,.one (.bp b' v off'))=>Nat.beq v0 0&&Nat.beq b b'&&Nat.beq off off'&&(match get A (H b) with
   |(n,.one (.hd _))=>Nat.beq n v
   |_=>false)
  |_=>false)&&U5a A cs
 |(l,.hd m)::cs=>(match get A l with
  |(_,.one (.hd m'))=>Nat.beq m m'
  |_=>false)&&U5a A cs
 |(l,.fn F bs)::cs=>(match get A l with
  |(_,.one (.fn F' bs'))=>Nat.beq F F'&&I0a bs bs'&&O9 A bs'
  |_=>false)&&U5a A cs
 |_=>false
def Yna (v:Efa) (A:Ab):Option v.den:=bif U5a A v.cs then U4a A (Cja v.vs) v.vs else none
def P0a:Nat→(t:Ty)→t.den→Ab
 |l,.pr t u,x=>P0a l t x.1++P0a (l+t.sz) u x.2
 |l,.i k,x=>[(l,0,.one (.sc (.int k x)))]
 |l,.b,x=>[(l,0,.one (.sc (.bool x)))]
 |l,.s,x=>[(l,0,.one (.sc (.string x)))]
 |l,.sl e r,x=>[(l,0,.one (.fz e r x))]
 |l,.ow e r,x=>[(l,0,.one (.own e r x))]
def Epa:(vs:List (Nat×Ty))→Den (vs.map Prod.snd)→Ab
 |[],_=>[]
 |[v],x=>P0a v.1 v.2 x
 |v::w::l,x=>P0a v.1 v.2 x.1++Epa (w::l) x.2
def Wr (v:Efa) (x:v.den):Ab:=Epa v.vs x++v.cs.map λ c=>(c.1,0,.one c.2)
def Yoa (K:Ex→Ab→Option R):(l:List (Ex×Efa))→U0a l→Option R
 |[],x=>nomatch x
 |[a],x=>K a.1 (Wr a.2 x)
 |a::b::l,x=>Sum.elim (λ y=>K a.1 (Wr a.2 y)) (λ z=>Yoa K (b::l) z) x
def exB:Ex→Ex→Bool
 |.normal,.normal=>true
 |.exit i,.exit j=>Nat.beq i j
 |.ret,.ret=>true
 |_,_=>false
def Mza (e:Ex) (A:Ab):(l:List (Ex×Efa))→Option (U0a l)
 |[]=>none
 |[a]=>bif exB e a.1 then Yna a.2 A else none
 |a::b::l=>bif exB e a.1 then (match Yna a.2 A with|some x=>some (.inl x)|none=>none) else (match Mza e A (b::l) with|some x=>some (.inr x)|none=>none)
def E2b (E:En) (A:Ab) (c:Operand) (v:Bool):Ab:=match c with
 |.tmp t=>bif E.rf then up A ⟨t,true,.one (.sc (.bool v))⟩ else A
 |_=>A
def Oa (E:En):Code→Ab→(Ex→Ab→Option R)→Option R
 |.skip,A,K=>K .normal A
 |.region id ops draw,A,K=>Pe E (E.gh id) A λ A=>bif draw then X6a E ops.toList A (K .normal) else Xm E ops.toList (List.range ops.size) A (K .normal)
 |.seq a b,A,K=>Oa E a A λ e A'=>match e with
  |.normal=>Oa E b A' K
  |e=>K e A'
 |.cond c x y,A,K=>match opT E 0 A c with
  |some (.one (.sc (.bool b)))=>bif b then Oa E x (E2b E A c true) K else Oa E y (E2b E A c false) K
  |_=>none
 |.block id c,A,K=>Oa E c A λ e A'=>match e with
  |.exit i=>bif Nat.beq i id then K .normal A' else K (.exit i) A'
  |e=>K e A'
 |.loop c,A,K=>match E.lp (first c) with
  |some L=>Pe E (E.gh (1000001+first c)) A λ A=>(match Yna L.ins A with
   |some x=>(L.run x).bind λ r=>Yoa K L.alts r
   |none=>none)
  |none=>none
 |.exit id,A,K=>K (.exit id) A
 |.ret,A,K=>K .ret A
 |_,_,_=>none
def Ky (l:Nat):Code→Code
 |.seq a b=>match Ky l a with
  |.skip=>Ky l b
  |c=>c
 |.cond _ a b=>match Ky l a with
  |.skip=>Ky l b
  |c=>c
 |.block _ c=>Ky l c
 |.loop c=>bif Nat.beq (first c) l then c else Ky l c
 |_ => .skip
def P1a (E:En) (L:Lp) (c:Code) (x:L.ins.den):Option (U0a L.alts):=
 Oa E c (Wr L.ins x) λ e A=>match e with
  |.normal=>Pe E (E.gh (1000001+first c)) A λ A=>(match Yna L.ins A with
   |some y=>L.run y
   |none=>none)
  |e=>Pe E (E.gh (1000001+first c)) A λ A=>Mza e A L.alts
def Btb:List Lf→Lf
 |[x]=>x
 |_ => .dead
def bid (nv i:Nat):Nat:=bif Nat.blt i nv then i else 1500+(i-nv)
def vwL (B:Nat):Nat→List Lf→List Lf
 |_,[]=>[]
 |j,.own _ _ _::l => .al (C B j) 0::vwL B (j+1) l
 |j,x::l=>x::vwL B (j+1) l
def Eqa (B:Nat):Nat→List Lf→Ab
 |_,[]=>[]
 |j,x::l=>(C B j,0,.one x)::Eqa B (j+1) l
def Lx (nv:Nat):Nat→List Par→List (List Lf)→Ab
 |i,.vw _ h::ps,l::ls=>(i,0,.agg (vwL (bid nv h) 0 l))::Lx nv (i+1) ps ls
 |i,.val ag _::ps,l::ls=>(i,0,(bif ag then .agg l else .one (Btb l)))::Lx nv (i+1) ps ls
 |i,.ptr t _::ps,l::ls=>(i,0,.one (.bp i 0 0))::(H i,0,.one (.hd t.sz))::(ups [] (Dx i 0 l)++Lx nv (i+1) ps ls)
 |i,.hid t _::ps,l::ls=>(H (bid nv i),0,.one (.hd t.sz))::(Eqa (bid nv i) 0 l++Lx nv (i+1) ps ls)
 |i,.rd t::ps,l::ls=>(match mkW t l with
  |some x=>(i,0,.one (.fp t x 0))::Lx nv (i+1) ps ls
  |none=>Lx nv (i+1) ps ls)
 |i,.fn F m::ps,_::ls=>(i,0,.one (.fn F ((List.range m).map λ j=>(bid nv (nv+j),0))))::Lx nv (i+1) ps ls
 |_,_,_=>[]
def E8b (nv:Nat) (ps:List Par) (x:Den (ps.map Par.ty)):Ab:=Lx nv 0 ps (Fc _ x)
def I1a (np:Nat) (A:Ab) (k:RK) (t:Ty) (x:Operand) (s:Sv):Option (List Lf×List Up):=match k with
 |.ptr=>(match s with
  |.one (.bp b v 0)=>(match get A (H b) with
   |(n,.one (.hd m))=>bif Nat.beq n v&&(Nat.ble np b&&Nat.blt b 1000)&&Md t&&Nat.beq m t.sz&&Nat.blt m 999&&A5 ((cellsOf A b 0 m).map (kept A)) then some ((cellsOf A b 0 m).map (kept A),Lz A (cellsOf A b 0 m)++[⟨H b,false,.one .dead⟩]) else none
   |_=>none)
  |_=>none)
 |k=>bif Mf (V5 k) s then U2 A x s t else none
def I2a (A:Ab) (t:Ty):Sv→Option (List Lf×List Up)
 |.one (.bp b v 0)=>S7 A b v t t
 |_=>none
def Xn (E:En):Ab→List (RK×Ty)→List ResultVar→Option (List (List Lf)×List Up)
 |_,[],[]=>some ([],[])
 |A,(k,t)::ks,.tmp x::rs=>bif Nat.blt x E.nt then (match I1a E.np A k t (.tmp x) (get A x).2 with
  |some (l,u)=>(match Xn E (ups A u) ks rs with
   |some (ls,us)=>some (l::ls,u++us)
   |none=>none)
  |none=>none) else none
 |A,(.agg,t)::ks,.cell x T::rs=>bif Nat.blt x E.nt&&(match E.ti T with|some ti=>ti.ag&&Nat.beq ti.ty.sz t.sz|none=>false) then (match I2a A t (get A x).2 with
  |some (l,u)=>(match Xn E (ups A u) ks rs with
   |some (ls,us)=>some (l::ls,u++us)
   |none=>none)
  |none=>none) else none
 |_,_,_=>none
def Ypa (A:Ab) (b:Nat) (t':Ty):Option (List Lf×List Up):=S7 A b (get A (H b)).1 t' t'
def U6a (nv:Nat):Ab→Nat→List Par→Option (List (List Lf))
 |_,_,[]=>some []
 |A,i,.ptr _ t'::ps=>(match Ypa A (bid nv i) t' with
  |some (l,us)=>(match U6a nv (ups A us) (i+1) ps with
   |some ls=>some (l::ls)
   |none=>none)
  |none=>none)
 |A,i,.hid _ t'::ps=>(match Ypa A (bid nv i) t' with
  |some (l,us)=>(match U6a nv (ups A us) (i+1) ps with
   |some ls=>some (l::ls)
   |none=>none)
  |none=>none)
 |A,i,_::ps=>U6a nv A (i+1) ps
def P2a (E:En) (c:Code) (rv:List ResultVar) (en:Ent) (x:Den (en.ps.map Par.ty)):Option (Den (en.rs.map Prod.snd++Mj en.ps)):=
 Oa E c (E8b en.nv en.ps x) λ e A=>match e with
  |.exit _=>none
  |_=>Pe E (E.gh 1000000) A λ A=>match Xn E A en.rs rv with
   |some (ls,us)=>(match U6a en.nv (ups A us) 0 en.ps with
    |some bs=>U0 (en.rs.map Prod.snd++Mj en.ps) (ls++bs)
    |none=>none)
   |none=>none
end
def csi {R:Type} {c:Bool} {a:Option R} {r:R}:cond c a none=some r↔c=true∧a=some r:=by
 cases c with
 |false=>exact⟨λ h=>(nomatch h),λ h=>(nomatch h.1)⟩
 |true=>exact⟨λ h=>⟨rfl,h⟩,λ h=>h.2⟩
def cs {R:Type} {c:Bool} {a:Option R} {r:R} (h:cond c a none=some r):c=true∧a=some r:=csi.1 h

end Go.Proofs.YtiiekghlhfbmmaaGreat.Vf
