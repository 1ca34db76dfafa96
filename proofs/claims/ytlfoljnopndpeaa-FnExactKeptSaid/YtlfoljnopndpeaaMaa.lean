import Derived.Calls
import Derived.Orders
set_option linter.unusedVariables false
set_option linter.unusedSimpArgs false
namespace Go.Proofs.Ytlfoljnopndpeaa.Vf
open Go

inductive Ty where
 |i (k:IntKind)
 |b
 |s
 |sl (e:TypeId) (r:Ty)
 |ow (e:TypeId) (r:Ty)
 |pr (x y:Ty)
 deriving DecidableEq
@[reducible] def Ty.den:Ty→Type
 |.i _=>Int
 |.b=>Bool
 |.s=>ByteArray
 |.sl _ r=>List r.den
 |.ow _ r=>List r.den
 |.pr x y=>x.den×y.den
def Ty.dflt:(t:Ty)→t.den
 |.i _=>(0:Int)
 |.b=>false
 |.s=>(⟨#[]⟩:ByteArray)
 |.sl _ _=>[]
 |.ow _ _=>[]
 |.pr x y=>(x.dflt,y.dflt)
def Ty.sz:Ty→Nat
 |.pr x y=>x.sz+y.sz
 |_=>1
def shp:Ty→Ty
 |.i k => .i k
 |.b => .b
 |.s => .s
 |.sl e r => .sl e (shp r)
 |.ow e r => .sl e (shp r)
 |.pr x y => .pr (shp x) (shp y)
theorem Fa:∀ t:Ty,(shp t).den=t.den
 |.i _=>rfl
 |.b=>rfl
 |.s=>rfl
 |.sl _ r=>congrArg List (Fa r)
 |.ow _ r=>congrArg List (Fa r)
 |.pr x y=>by show ((shp x).den×(shp y).den)=(x.den×y.den); rw [Fa x,Fa y]
theorem V8 {t u:Ty} (h:shp u=shp t):u.den=t.den:=(Fa u).symm.trans ((congrArg Ty.den h).trans (Fa t))
def Fu:Ty→Bool
 |.ow _ _=>false
 |.pr x y=>Fu x&&Fu y
 |_=>true
def Cs:Ty→Bool
 |.sl _ _=>false
 |.ow _ r=>Cs r
 |.pr x y=>Cs x&&Cs y
 |_=>true
inductive Lf where
 |dead
 |un
 |sc (u:Value)
 |fz (e:TypeId) (r:Ty) (xs:List r.den)
 |own (e:TypeId) (r:Ty) (xs:List r.den)
 |al (p v:Nat)
 |bp (b v off:Nat)
 |ep (p v:Nat) (i:Int) (off:Nat)
 |fp (r:Ty) (x:r.den) (off:Nat)
 |hd (n:Nat)
 |da (p v:Nat) (pi:Option (List (Int×Nat))) (e:TypeId) (r:Ty) (xs:List r.den)
 |dp (p v:Nat) (pi:Option (List (Int×Nat))) (e:TypeId) (r:Ty) (xs:List r.den) (i:Int) (off:Nat)
 |opn (e:TypeId) (r:Ty) (xs:List r.den) (i:Int) (b v:Nat)
 |fn (F:FuncId) (bs:List (Nat×Nat))
inductive Sv where
 |one (x:Lf)
 |agg (cs:List Lf)
 |tup (vs:List (Bool×List Lf))
abbrev Ab:=List (Nat×Nat×Sv)
def get:Ab→Nat→Nat×Sv
 |[],_=>(0,.one .dead)
 |(k,n,s)::t,l=>bif Nat.beq k l then (n,s) else get t l
structure Up where
 l:Nat
 keep:Bool
 s:Sv
def up (A:Ab) (u:Up):Ab:=(u.l,bif u.keep then (get A u.l).1 else (get A u.l).1+1,u.s)::A
def ups (A:Ab):List Up→Ab
 |[]=>A
 |u::l=>ups (up A u) l
def Kt:Ty→Ty→Bool
 |.i k,.i k'=>decide (k=k')
 |.b,.b=>true
 |.s,.s=>true
 |.sl _ _,.sl _ _=>true
 |.sl _ _,.ow _ _=>true
 |.ow _ _,.sl _ _=>true
 |.ow _ _,.ow _ _=>true
 |.pr x y,.pr x' y'=>Kt x x'&&Kt y y'
 |_,_=>false
def C (b j:Nat):Nat:=1000 * (b+1)+j
def H (b:Nat):Nat:=1000 * (b+1)+999
def Kd (r r':Ty) (xs:List r'.den):Option (List r.den):=if h:shp r'=shp r then some (cast (congrArg List (V8 h)) xs) else none
def Mp (r r':Ty) (xs:List r'.den):Option (List r.den):=if h:r'=r then some (h ▸ xs) else if shp r'=shp r then (match xs with|[]=>some []|_=>none) else none
def A4:(t:Ty)→t.den→List Lf
 |.i k,n=>[.sc (.int k n)]
 |.b,x=>[.sc (.bool x)]
 |.s,x=>[.sc (.string x)]
 |.sl e r,xs=>[.fz e r xs]
 |.ow e r,xs=>[.own e r xs]
 |.pr x y,p=>A4 x p.1++A4 y p.2
def lvs:(t:Ty)→t.den→List Lf
 |.i k,n=>[.sc (.int k n)]
 |.b,x=>[.sc (.bool x)]
 |.s,x=>[.sc (.string x)]
 |.sl e r,xs=>[.fz e r xs]
 |.ow e r,xs=>[.fz e r xs]
 |.pr x y,p=>lvs x p.1++lvs y p.2
def mkT:(t:Ty)→List Lf→Option (t.den×List Lf)
 |.i k,.sc (.int k' n)::l=>bif decide (k=k') then some (n,l) else none
 |.b,.sc (.bool x)::l=>some (x,l)
 |.s,.sc (.string x)::l=>some (x,l)
 |.sl e r,.fz e' r' xs::l=>bif Nat.beq e e' then (match Kd r r' xs with|some ys=>some (ys,l)|none=>none) else none
 |.sl e r,.own e' r' xs::l=>bif Nat.beq e e' then (match Kd r r' xs with|some ys=>some (ys,l)|none=>none) else none
 |.ow e r,.own e' r' xs::l=>bif Nat.beq e e' then (match Mp r r' xs with|some ys=>some (ys,l)|none=>none) else none
 |.pr x y,l=>match mkT x l with
  |some (p,l1)=>(match mkT y l1 with
   |some (q,l2)=>some ((p,q),l2)
   |none=>none)
  |none=>none
 |_,_=>none
def mkW (t:Ty) (l:List Lf):Option t.den:=match mkT t l with
 |some (x,[])=>some x
 |_=>none
structure TI where
 ty:Ty
 ag:Bool
 by_:Nat
 fo:List (Nat×Nat×Bool)
@[reducible] def Den:List Ty→Type
 |[]=>Unit
 |[t]=>t.den
 |t::u::l=>t.den×Den (u::l)
inductive Par where
 |vw (t:Ty) (h:Nat)
 |val (ag:Bool) (t:Ty)
 |ptr (t t':Ty)
 |rd (t:Ty)
 |fn (F:FuncId) (m:Nat)
 |hid (t t':Ty)
def Par.ty:Par→Ty
 |.vw t _=>t
 |.val _ t=>t
 |.ptr t _=>t
 |.rd t=>t
 |.fn _ _ => .b
 |.hid t _=>t
def Lv:(ts:List Ty)→List (List Lf)→Option (Den ts)
 |[],[]=>some ()
 |[t],[l]=>mkW t l
 |t::u::ts,l::ls=>match mkW t l with
  |some x=>(match Lv (u::ts) ls with
   |some y=>some (x,y)
   |none=>none)
  |none=>none
 |_,_=>none
def Bj:(ts:List Ty)→Den ts→List (List Lf)
 |[],_=>[]
 |[t],x=>[A4 t x]
 |t::u::ts,x=>A4 t x.1::Bj (u::ts) x.2
def Gu:List Par→List Ty
 |[]=>[]
 |.ptr _ t'::l=>t'::Gu l
 |.hid _ t'::l=>t'::Gu l
 |_::l=>Gu l
inductive RK where
 |one
 |agg
 |ptr
structure Ent where
 nv:Nat
 ps:List Par
 rs:List (RK×Ty)
 run:Den (ps.map Par.ty)→Option (Den (rs.map Prod.snd++Gu ps))
inductive Ex where
 |normal
 |exit (id:Nat)
 |ret
structure R9 where
 cs:List (Nat×Lf)
 vs:List (Nat×Ty)
@[reducible] def R9.den (v:R9):Type:=Den (v.vs.map Prod.snd)
@[reducible] def Eta:List (Ex×R9)→Type
 |[]=>Empty
 |[a]=>a.2.den
 |a::b::l=>a.2.den ⊕ Eta (b::l)
structure Lp where
 ins:R9
 alts:List (Ex×R9)
 run:ins.den→Option (Eta alts)
inductive Gh where
 |cl (p:Nat)
 |op (p t B:Nat)
 |od (d B:Nat)
 |oc (p:Nat) (i:Int) (B:Nat)
structure En where
 nt:Nat
 ti:TypeId→Option TI
 eq:TypeId→Bool
 nm:Nat→Bool
 res:Nat→Bool
 call:FuncId→Option Ent
 lp:Nat→Option Lp
 np:Nat
 hint:Nat→Option Ty
 mv:Nat→Bool
 gh:Nat→List Gh
 opn:Nat→Bool
 sh:Nat→Bool
 rf:Bool
def V9:Value→Bool
 |.int _ _ | .bool _ | .string _ | .func _ _ _ | .pointer none=>true
 |_=>false
def opT (E:En) (T:TypeId) (A:Ab):Operand→Option Sv
 |.tmp t=>bif Nat.blt t E.nt then some (get A t).2 else none
 |.const (.slice none 0 0)=>match E.ti T with
  |some ⟨.sl e r,false,_,_⟩=>some (.one (.own e r []))
  |_=>none
 |.const v=>bif V9 v then some (.one (.sc v)) else none
 |.func f=>some (.one (.sc (.func (.func f) #[] #[])))
 |.global _=>none
def elT (E:En) (T:TypeId):Option TypeId:=match E.ti T with
 |some ⟨.sl e _,false,_,_⟩=>some e
 |_=>none
def H6 (E:En) (T e:TypeId):Bool:=match elT E T with
 |some e'=>Nat.beq e' e
 |none=>false
def Ku (E:En) (T:TypeId):Bool:=match E.ti T with
 |some ⟨.s,false,_,_⟩=>true
 |_=>false
def Gp (A:Ab):Lf→Lf
 |.al p v=>match get A p with
  |(n,.one (.own e r xs))=>bif Nat.beq n v then .own e r xs else .dead
  |(n,.one (.fz e r xs))=>bif Nat.beq n v then .fz e r xs else .dead
  |_ => .dead
 |x=>x
def P5 (A:Ab):Lf→Lf
 |.da p v _ e r xs=>bif Nat.beq (get A p).1 v then .fz e r xs else .dead
 |x=>Gp A x
structure Sl where
 e:TypeId
 r:Ty
 xs:List r.den
def Tf (A:Ab) (x:Lf):Option Sl:=match x with
 |.da p v _ e r xs=>bif Nat.beq (get A p).1 v&&Fu r then some ⟨e,r,xs⟩ else none
 |x=>(match Gp A x with
  |.fz e r xs=>some ⟨e,r,xs⟩
  |.own e r xs=>bif Fu r then some ⟨e,r,xs⟩ else none
  |_=>none)
def Kw (A:Ab):Lf→Bool
 |.bp b v _=>Nat.beq (get A (H b)).1 v
 |.ep p v _ _=>(match get A p with
  |(n,.one (.own _ _ _))=>Nat.beq n v
  |_=>false)
 |.fp _ _ _=>true
 |.dp p v _ _ _ _ _ _=>Nat.beq (get A p).1 v
 |_=>false
def B2a:Lf→Nat→Lf
 |.bp b v n,k => .bp b v (n+k)
 |.ep p v i n,k => .ep p v i (n+k)
 |.fp r x n,k => .fp r x (n+k)
 |.dp p v pi e r xs i n,k => .dp p v pi e r xs i (n+k)
 |x,_=>x
def Ct:List Lf→Bool
 |[]=>false
 |.own _ _ _::_=>true
 |.opn _ _ _ _ _ _::_=>true
 |_::l=>Ct l
def Hx:Sv→Bool
 |.one x=>Ct [x]
 |.agg l=>Ct l
 |.tup vs=>vs.any λ v=>Ct v.2
def Hh:Lf→Lf
 |.own e r xs => .fz e r xs
 |.opn _ _ _ _ _ _ => .dead
 |x=>x
def Mu (A:Ab):Lf→List Up
 |.al p v=>match get A p with
  |(n,.one (.own e r xs))=>bif Nat.beq n v then [⟨p,true,.one (.fz e r xs)⟩] else []
  |_=>[]
 |_=>[]
def Fv (A:Ab):List Lf→List Up
 |[]=>[]
 |x::l=>Mu A x++Fv A l
def Q1 (p:Nat):List Up→Bool
 |[]=>true
 |u::l => !(Nat.beq u.l p)&&Q1 p l
def gone:Operand→Sv→List Up
 |.tmp t,s=>bif Hx s then [⟨t,false,.one .dead⟩] else []
 |_,_=>[]
def Tg:Lf→Operand→List Up
 |.al p _,_=>[⟨p,false,.one .dead⟩]
 |_,.tmp t=>[⟨t,false,.one .dead⟩]
 |_,_=>[]
def parts:Sv→List Lf
 |.one x=>[x]
 |.agg l=>l
 |.tup _=>[]
def H9 (ag:Bool) (l:List Lf):Option Sv:=bif ag then some (.agg l) else match l with
 |[x]=>some (.one x)
 |_=>none
def nth {α:Type}:List α→Nat→Option α
 |[],_=>none
 |x::_,0=>some x
 |_::l,n+1=>nth l n
section
variable {R:Type}
def Ml (op:BinOp) (k:IntKind) (x y:Int) (K:Value→Option R):Option R:=
 match op with
 |.add=>K (.int k (k.wrap (x+y)))
 |.sub=>K (.int k (k.wrap (x - y)))
 |.mul=>K (.int k (k.wrap (x * y)))
 |.quo=>bif decide (y=0) then none else K (.int k (k.wrap (x.tdiv y)))
 |.rem=>bif decide (y=0) then none else K (.int k (x.tmod y))
 |.and=>K (.int k (k.wrap ((BitVec.ofInt k.bits x &&& BitVec.ofInt k.bits y).toNat)))
 |.or=>K (.int k (k.wrap ((BitVec.ofInt k.bits x ||| BitVec.ofInt k.bits y).toNat)))
 |.xor=>K (.int k (k.wrap ((BitVec.ofInt k.bits x ^^^ BitVec.ofInt k.bits y).toNat)))
 |.andNot=>K (.int k (k.wrap ((BitVec.ofInt k.bits x &&& ~~~ BitVec.ofInt k.bits y).toNat)))
 |.eql=>K (.bool (x==y))
 |.neq=>K (.bool (x != y))
 |.lss=>K (.bool (x<y))
 |.leq=>K (.bool (x≤y))
 |.gtr=>K (.bool (x > y))
 |.geq=>K (.bool (x≥y))
 |_=>none
def P6 (op:BinOp) (x y:ByteArray) (K:Value→Option R):Option R:=
 match op with
 |.add=>bif Nat.ble (x.size+y.size) 9223372036854775807 then K (.string (x++y)) else none
 |.eql=>K (.bool (x.toList==y.toList))
 |.neq=>K (.bool !(x.toList==y.toList))
 |.lss=>K (.bool (Op.bytesLess x.toList y.toList))
 |.leq=>K (.bool (Op.bytesLess x.toList y.toList || x.toList==y.toList))
 |.gtr=>K (.bool !(Op.bytesLess x.toList y.toList || x.toList==y.toList))
 |.geq=>K (.bool !(Op.bytesLess x.toList y.toList))
 |_=>none
def Bl:List Lf→List Lf→Option Bool
 |[],[]=>some true
 |[.sc (.int k x)],[.sc (.int k' y)]=>bif decide (k=k') then some (x==y) else none
 |[.sc (.bool x)],[.sc (.bool y)]=>some (x==y)
 |[.sc (.string x)],[.sc (.string y)]=>some (x==y)
 |.sc (.int k x)::l,.sc (.int k' y)::l'=>bif decide (k=k') then (match Bl l l' with|some b=>some ((x==y)&&b)|none=>none) else none
 |.sc (.bool x)::l,.sc (.bool y)::l'=>match Bl l l' with|some b=>some ((x==y)&&b)|none=>none
 |.sc (.string x)::l,.sc (.string y)::l'=>match Bl l l' with|some b=>some ((x==y)&&b)|none=>none
 |_,_=>none
def Ic:List Lf→Bool
 |[]=>true
 |.sc _::l=>Ic l
 |_=>false
def Hi (tT:Option TI) (l:List Lf):Bool:=match tT with
 |some ti=>(mkW ti.ty l).isSome
 |none=>false
def bop (op:BinOp) (tT:Option TI) (eqs:Bool) (x y:Sv) (K:Value→Option R):Option R:=
 match x,y with
 |.one (.sc (.int k a)),.one (.sc (.int k' b))=>
  match op with
  |.shl=>bif decide (b<0) then none else K (.int k (k.wrap (a * 2 ^ (min b.toNat k.bits))))
  |.shr=>bif decide (b<0) then none else K (.int k (a.fdiv (2 ^ (min b.toNat k.bits))))
  |_=>bif decide (k=k') then Ml op k a b K else none
 |.one (.sc (.string a)),.one (.sc (.string b))=>P6 op a b K
 |.one (.sc (.bool a)),.one (.sc (.bool b))=>match op,tT with
  |.eql,some ⟨.b,false,_,_⟩=>K (.bool (a==b))
  |.neq,some ⟨.b,false,_,_⟩=>K (.bool (!(a==b)))
  |_,_=>none
 |.agg l,.agg l'=>bif eqs&&Ic l&&Ic l'&&(Hi tT l&&Hi tT l') then (match op with
  |.eql=>(match Bl l l' with|some b=>K (.bool b)|none=>none)
  |.neq=>(match Bl l l' with|some b=>K (.bool (!b))|none=>none)
  |_=>none) else none
 |_,_=>none
def uop (op:UnOp) (x:Sv) (K:Value→Option R):Option R:=
 match op,x with
 |.neg,.one (.sc (.int k n))=>K (.int k (k.wrap (0 - n)))
 |.xor,.one (.sc (.int k n))=>K (.int k (k.wrap ((BitVec.ofInt k.bits (if k.signed then -1 else k.max) ^^^ BitVec.ofInt k.bits n).toNat)))
 |.not,.one (.sc (.bool b))=>K (.bool !b)
 |_,_=>none
def Gn (xs:List Int):ByteArray:=⟨(xs.map λ n=>UInt8.ofNat n.toNat).toArray⟩
def bytesOf (s:ByteArray):List Int:=s.data.toList.map λ b=>(b.toNat:Int)
def bt (s:ByteArray) (i:Int):Int:=((s.data.toList.getD i.toNat 0).toNat:Int)
def conv (src dst:Option TI) (x:Sv) (K:Sv→Option R):Option R:=
 match src,dst,x with
 |some ⟨.i _,false,_,_⟩,some ⟨.i k,false,_,_⟩,.one (.sc (.int _ n))=>K (.one (.sc (.int k (k.wrap n))))
 |some ⟨.s,false,_,_⟩,some ⟨.s,false,_,_⟩,.one (.sc (.string s))=>K (.one (.sc (.string s)))
 |some ⟨.sl e (.i .u8),false,_,_⟩,some ⟨.s,false,_,_⟩,.one (.fz e' (.i .u8) xs)=>bif Nat.beq e e' then K (.one (.sc (.string (Gn xs)))) else none
 |some ⟨.sl e (.i .u8),false,_,_⟩,some ⟨.s,false,_,_⟩,.one (.own e' (.i .u8) xs)=>bif Nat.beq e e' then K (.one (.sc (.string (Gn xs)))) else none
 |some ⟨.s,false,_,_⟩,some ⟨.sl e (.i .u8),false,_,_⟩,.one (.sc (.string s))=>bif Nat.ble s.size 140737488355328 then K (.one (.fz e (.i .u8) (bytesOf s))) else none
 |_,_,_=>none
def Jy (mx:Bool):List Sv→IntKind→Int→(Value→Option R)→Option R
 |[],k,x,K=>K (.int k x)
 |.one (.sc (.int k' y))::l,k,x,K=>bif decide (k=k') then Jy mx l k (bif mx then (if x<y then y else x) else (if y<x then y else x)) K else none
 |_,_,_,_=>none
def cellsOf (A:Ab) (b:Nat):Nat→Nat→List Lf
 |_,0=>[]
 |j,n+1=>(match get A (C b j) with
  |(v,.one (.own _ _ _))=>Lf.al (C b j) v
  |(v,.one (.opn _ _ _ _ _ _))=>Lf.al (C b j) v
  |(_,.one x)=>x
  |_ => .dead)::cellsOf A b (j+1) n
def B2 (b:Nat):Nat→List Lf→List Up
 |_,[]=>[]
 |j,x::l=>⟨C b j,false,.one x⟩::B2 b (j+1) l
def Fy (A:Ab) (x:Lf):Lf:=match x with
 |.al _ _=>Hh (Gp A x)
 |_=>x
def Ov:Ty→List Lf
 |.i k=>[.sc (.int k 0)]
 |.b=>[.sc (.bool false)]
 |.s=>[.sc (.string ⟨#[]⟩)]
 |.sl e r=>[.own e r []]
 |.ow e r=>[.own e r []]
 |.pr x y=>Ov x++Ov y
def A3:List Lf→Bool
 |[]=>true
 |.sc _::l | .fz _ _ _::l | .own _ _ _::l=>A3 l
 |_=>false
def Dg (A:Ab):List Lf→Bool
 |[]=>true
 |.sc _::l | .fz _ _ _::l | .own _ _ _::l=>Dg A l
 |.da p v _ _ _ _::l=>Nat.beq (get A p).1 v&&Dg A l
 |_=>false
def Bm (A:Ab):List Lf→Bool
 |[]=>true
 |.sc _::l | .fz _ _ _::l=>Bm A l
 |.al p v::l=>(match Gp A (.al p v) with
  |.own _ _ _ | .fz _ _ _=>true
  |_=>false)&&Bm A l
 |_=>false
def setAll (l:List Lf) (off:Nat) (m:List Lf):List Lf:=l.take off++m++l.drop (off+m.length)
def Gq:Ab→List Lf→Option (List Lf×List Up)
 |_,[]=>some ([],[])
 |A,.al p v::l=>(match Gp A (.al p v) with
  |.own e r xs=>(match Gq (up A ⟨p,false,.one .dead⟩) l with
   |some (m,us)=>some (.own e r xs::m,⟨p,false,.one .dead⟩::us)
   |none=>none)
  |_=>none)
 |A,x::l=>(match Gq A l with
  |some (m,us)=>some (x::m,us)
  |none=>none)
def Ava (A:Ab) (x:Operand) (s:Sv):Option (List Lf×List Up):=match Gq (ups A (gone x s)) (parts s) with
 |some (m,us)=>some (m,gone x s++us)
 |none=>none
def Ix:List Lf→Bool
 |[]=>true
 |.sc _::l | .own _ _ _::l=>Ix l
 |_=>false
def Fm:Ty→List Ty
 |.pr x y=>Fm x++Fm y
 |t=>[t]
def daL (p v:Nat) (pi:Option (List (Int×Nat))) (i:Int):Nat→List Lf→List Lf
 |_,[]=>[]
 |j,.own e r xs::l => .da p v (match pi with|some q=>some (q++[(i,j)])|none=>none) e r xs::daL p v pi i (j+1) l
 |j,.opn _ _ _ _ _ _::l => .dead::daL p v pi i (j+1) l
 |j,x::l=>x::daL p v pi i (j+1) l
def Y4 (r0:Ty) (ys:List r0.den):List (Int×Nat)→(r:Ty)→List r.den→Option (List r.den)
 |[],r,_=>if h:r0=r then some (h ▸ ys) else none
 |(i,j)::q,r,xs=>match nth (A4 r (xs.getD i.toNat r.dflt)) j with
  |some (.own e1 r1 zs)=>(match Y4 r0 ys q r1 zs with
   |some zs'=>(match mkW r (setAll (A4 r (xs.getD i.toNat r.dflt)) j [.own e1 r1 zs']) with
    |some z=>some (xs.set i.toNat z)
    |none=>none)
   |none=>none)
  |_=>none
def J0:List Par→Bool
 |[]=>true
 |.val _ t::ps=>Fu t&&J0 ps
 |_::_=>false
def On:List (RK×Ty)→Bool
 |[]=>true
 |(.ptr,_)::_=>false
 |(_,t)::rs=>Cs t&&On rs
def Awa:Sv→Option Bool
 |.one _=>some false
 |.agg _=>some true
 |.tup _=>none
def Fz (ag:Bool) (s:Sv):Bool:=match Awa s with
 |some b=>bif ag then b else !b
 |none=>false
def J1 (A:Ab):List Par→List Sv→Option (List (List Lf))
 |[],[]=>some []
 |.val ag _::ps,s::ss=>bif Fz ag s&&A3 ((parts s).map (λ y=>Hh (P5 A y))) then (match J1 A ps ss with
  |some ls=>some ((parts s).map (λ y=>Hh (P5 A y))::ls)
  |none=>none) else none
 |_,_=>none
def Th (e:TypeId) (r:Ty):Lf→Option Lf
 |.own e' r' xs=>bif Nat.beq e e' then (match Mp r r' xs with
  |some ys=>some (.own e r ys)
  |none=>bif Fu r then (match Kd r r' xs with
   |some ys=>some (.own e r ys)
   |none=>none) else none) else none
 |_=>none
def Ti:Lf→List Up
 |.al p _=>[⟨p,false,.one .dead⟩]
 |_=>[]
def Dd:Ab→List Ty→List Lf→Option (List Lf×List Up)
 |_,[],[]=>some ([],[])
 |A,.ow e r::ts,x::l=>(match Th e r (Gp A x) with
  |some y=>(match Dd (ups A (Ti x)) ts l with
   |some (m,us)=>some (y::m,Ti x++us)
   |none=>none)
  |none=>none)
 |A,_::ts,x::l=>(match Dd (ups A (Mu A x)) ts l with
  |some (m,us)=>some (Hh (Fy A x)::m,Mu A x++us)
  |none=>none)
 |_,_,_=>none
def Lw (A:Ab) (x:Operand) (s:Sv) (ts:List Ty):Option (List Lf×List Up):=match Dd (ups A (gone x s)) ts (parts s) with
 |some (m,us)=>bif A3 m then some (m,gone x s++us) else none
 |none=>none
def Lx (A:Ab) (x:Operand) (s:Sv) (t:Ty):Option (List Lf×List Up):=Lw A x s (Fm t)
def Hra (A:Ab):List Lf→List Ty
 |[]=>[]
 |x::l=>(match Gp A x with
  |.own e r _ => .ow e r
  |_ => .b)::Hra A l
def Ke (A:Ab) (b v:Nat) (t t':Ty):Option (List Lf×List Up):=match get A (H b) with
 |(n,.one (.hd m))=>bif Nat.beq n v&&Nat.beq m t.sz&&Nat.beq m t'.sz then (match Dd A (Fm t) (cellsOf A b 0 m) with
  |some (l,us)=>bif A3 l then some (l,us) else none
  |none=>none) else none
 |_=>none
def H0a:List (Nat×Nat)→List (Nat×Nat)→Bool
 |[],[]=>true
 |a::l,b::m=>Nat.beq a.1 b.1&&Nat.beq a.2 b.2&&H0a l m
 |_,_=>false
def Hc (A:Ab):List (Nat×Nat)→Bool
 |[]=>true
 |b::l=>Nat.beq (get A (H b.1)).1 b.2&&Hc A l
def B3a:Lf→Bool
 |.sc _ | .fz _ _ _=>true
 |_=>false
def Tj (A:Ab) (b:Nat):Nat→List Ty→List Lf→Option (List Lf)
 |_,[],[]=>some []
 |j,.ow e r::ts,.al p v::l=>bif Nat.beq p (C b j)&&Nat.beq (get A p).1 v then (match Th e r (Gp A (.al p v)) with
  |some y=>(match Tj A b (j+1) ts l with
   |some m=>some (y::m)
   |none=>none)
  |none=>none) else none
 |_,.ow _ _::_,_=>none
 |j,_::ts,x::l=>bif B3a (Gp A x) then (match Tj A b (j+1) ts l with
  |some m=>some (Gp A x::m)
  |none=>none) else none
 |_,_,_=>none
def Ra:List Lf→Option Nat
 |[]=>none
 |.al p _::l=>bif Nat.ble 1000 p then some (p / 1000 - 1) else Ra l
 |_::l=>Ra l
def Rb (A:Ab):List Par→List Sv→List (Nat×Nat)
 |.vw _ _::ps,.agg ys::ss=>(match Ra ys with
  |some b=>(b,(get A (H b)).1)::Rb A ps ss
  |none=>Rb A ps ss)
 |_::ps,_::ss=>Rb A ps ss
 |_,_=>[]
def Mq (A:Ab) (cb hb:List (Nat×Nat)) (nv:Nat) (x:Operand):Par→Sv→Option (List Lf×List Up×List Nat)
 |.vw t h,.agg ys=>(match nth hb (h - nv) with
  |some c=>(match get A (H c.1) with
   |(n,.one (.hd m))=>bif Nat.ble nv h&&Nat.beq n c.2&&Nat.beq m t.sz then (match Tj A c.1 0 (Fm t) ys with
    |some l=>some (l,[],[])
    |none=>none) else none
   |_=>none)
  |none=>none)
 |.val ag t,s=>bif Fz ag s then (match Lx A x s t with
  |some (m,us)=>some (m,us,[])
  |none=>none) else none
 |.ptr t t',.one (.bp b v 0)=>(match Ke A b v t t' with
  |some (m,us)=>some (m,us,[b])
  |none=>none)
 |.hid t t',.one (.bp b v 0)=>(match Ke A b v t t' with
  |some (m,us)=>some (m,us,[b])
  |none=>none)
 |.rd t,.one (.fp r y 0)=>bif decide (shp r=shp t)&&Fu t then some (lvs r y,[],[]) else none
 |.fn F m,.one (.fn F' bs)=>bif Nat.beq F F'&&Nat.beq m bs.length&&H0a bs cb&&Hc A bs then some ([.sc (.bool true)],[],[]) else none
 |_,_=>none
def Hd (E:En) (cb hb:List (Nat×Nat)) (nv:Nat):Ab→List (TypeId×Operand)→List (Nat×Nat)→List Par→Option (List (List Lf)×List Up×List Nat)
 |_,[],[],[]=>some ([],[],[])
 |A,x::xs,hs,p::ps=>(match opT E x.1 A x.2 with
  |some s=>(match Mq A cb hb nv x.2 p s with
   |some (l,u,b)=>(match Hd E cb hb nv (ups A u) xs hs ps with
    |some (ls,us,bs)=>some (l::ls,u++us,b++bs)
    |none=>none)
   |none=>none)
  |none=>none)
 |A,[],h::hs,p::ps=>(match Mq A cb hb nv (.func 0) p (.one (.bp h.1 h.2 0)) with
   |some (l,u,b)=>(match Hd E cb hb nv (ups A u) [] hs ps with
    |some (ls,us,bs)=>some (l::ls,u++us,b++bs)
    |none=>none)
   |none=>none)
 |_,_,_,_=>none
def B4a:List Sv→List (Nat×Nat)
 |[]=>[]
 |.one (.fn _ bs)::_=>bs
 |_::l=>B4a l
def H7 (nv:Nat):Nat→List Par→Bool
 |_,[]=>true
 |i,.hid _ _::ps=>Nat.ble nv i&&H7 nv (i+1) ps
 |i,_::ps=>Nat.blt i nv&&H7 nv (i+1) ps
def N8:List Nat→Bool
 |[]=>true
 |b::l => !(l.any (Nat.beq b))&&N8 l
def Y5:List Nat→List (List Lf)→Option (List Up)
 |[],_=>some []
 |b::bs,l::ls=>match Y5 bs ls with
  |some us=>some (B2 b 0 l++us)
  |none=>none
 |_,_=>none
def B5a (A:Ab) (d:Nat) (l:List Lf):List Up:=
 ⟨H d,false,.one (.hd l.length)⟩::B2 d 0 l++[⟨d,false,.one (.bp d ((get A (H d)).1+1) 0)⟩]
def Gv:List (RK×Ty)→Bool
 |[]=>false
 |(.ptr,_)::_=>true
 |_::l=>Gv l
def Mm:RK→Bool
 |.agg=>true
 |_=>false
def Rc:List (RK×Ty)→List (List Lf)→List (Bool×List Lf)
 |r::rs,l::ls=>(Mm r.1,l)::Rc rs ls
 |_,_=>[]
def Kf (A:Ab) (rs:List (RK×Ty)) (ls:List (List Lf)) (d:Option Nat):Option (List Up):=
 match rs,ls,d with
 |_,_,none=>some []
 |[],_,some d=>some [⟨d,false,.tup []⟩]
 |[(.one,_)],[x]::_,some d=>some [⟨d,false,.one x⟩]
 |[(.agg,_)],l::_,some d=>some [⟨d,false,.agg l⟩]
 |[(.ptr,_)],l::_,some d=>some (B5a A d l)
 |r::q::rs,ls,some d=>bif Gv (r::q::rs) then none else some [⟨d,false,.tup (Rc (r::q::rs) ls)⟩]
 |_,_,_=>none
def Ly (E:En) (Ts:List TypeId) (A:Ab):List Operand→Option (List Sv)
 |[]=>some []
 |x::l=>match Ts with
  |[]=>none
  |T::Ts=>(match opT E T A x with
   |some s=>(match Ly E Ts A l with
    |some ss=>some (s::ss)
    |none=>none)
   |none=>none)
def B6a (E:En) (rs:List (RK×Ty)) (d:Option Nat):Bool := !(Gv rs) || (match d with
 |some d=>Nat.ble E.np d
 |none=>true)
def shL (E:En) (d:Option Nat) (ls:List (List Lf)):List (List Lf):=match d with
 |some d=>bif E.sh d then ls.map (λ l=>l.map Hh) else ls
 |none=>ls
def Q2 (E:En) (A:Ab) (en:Ent) (xs:List (TypeId×Operand)) (cs:List (Nat×Nat)) (ss:List Sv) (d:Option Nat) (K:List Up→Option R):Option R:=
 bif Nat.beq en.nv (xs.length+cs.length) then
 (bif J0 en.ps&&On en.rs&&cs.isEmpty then
  (match J1 A en.ps ss with
  |none=>none
  |some ls=>match Lv _ ls with
   |none=>none
   |some x=>(en.run x).bind λ r=>
    match Kf A en.rs (shL E d (Bj _ r)) d with
    |none=>none
    |some rs=>K rs)
 else bif B6a E en.rs d&&(Nat.ble en.nv 1000&&H7 en.nv 0 en.ps&&Nat.ble en.rs.length 400&&Nat.ble en.ps.length 2000) then
  (match Hd E (B4a ss++Rb A en.ps ss) (B4a ss++Rb A en.ps ss) en.nv A xs (cs++(B4a ss++Rb A en.ps ss)) en.ps with
  |none=>none
  |some (ls,us,bs)=>bif N8 bs then (match Lv _ ls with
   |none=>none
   |some x=>(en.run x).bind λ r=>
    match Y5 bs ((Bj _ r).drop en.rs.length) with
    |none=>none
    |some ws=>match Kf (ups (ups A us) ws) en.rs (shL E d (Bj _ r)) d with
     |none=>none
     |some rs=>K (us++(ws++rs))) else none)
 else none) else none
def Hy (E:En) (A:Ab) (T:TI) (l:List Lf) (us:List Up):List (Nat×Operand)→Option (List Lf×List Up)
 |[]=>some (l,us)
 |(i,x)::ps=>match nth T.fo i with
  |none=>none
  |some (off,z,_)=>(match x with
   |.const (.slice none 0 0)=>bif Nat.beq z 1 then (match nth l off with
    |some (.own _ _ [])=>Hy E A T l us ps
    |_=>none) else none
   |_=>(match opT E 0 A x with
    |some s=>let m:=(parts s).map (Fy A)
     bif A3 m&&Nat.beq m.length z&&Nat.ble (off+z) l.length then Hy E (ups A (Fv A (parts s)++gone x s)) T (setAll l off m) (us++(Fv A (parts s)++gone x s)) ps else none
    |none=>none))
def Rd (E:En) (A:Ab) (e:TypeId) (r:Ty) (i:Nat):List (Nat×Operand)→Option (List r.den×List Up)
 |[]=>some ([],[])
 |(j,x)::ps=>bif Nat.beq i j then (match opT E e A x with
  |some s=>(match bif A3 ((parts s).map (Fy A)) then mkW r ((parts s).map λ x=>Hh (Fy A x)) else none with
   |some y=>(match Rd E (ups A (Fv A (parts s)++gone x s)) e r (i+1) ps with
    |some (ys,us)=>some (y::ys,(Fv A (parts s)++gone x s)++us)
    |none=>none)
   |none=>none)
  |none=>none) else none
def Re (E:En) (A:Ab) (e:TypeId) (r:Ty) (i:Nat):List (Nat×Operand)→Option (List r.den×List Up)
 |[]=>some ([],[])
 |(j,x)::ps=>bif Nat.beq i j then (match opT E e A x with
  |some s=>(match Ava A x s with
   |some (m,us)=>(match bif Ix m then mkW r m else none with
    |some y=>(match Re E (ups A us) e r (i+1) ps with
     |some (ys,us')=>some (y::ys,us++us')
     |none=>none)
    |none=>none)
   |none=>none)
  |none=>none) else none
def Tk {α:Type} (xs:List α) (lo hi:Option Int):List α:=
 match lo,hi with
 |none,none=>xs
 |some l,none=>xs.drop l.toNat
 |none,some h=>xs.take h.toNat
 |some l,some h=>(xs.take h.toNat).drop l.toNat
def Ta (lo hi:Option Int) (n:Nat) (K:Unit→Option R):Option R:=
 match lo,hi with
 |none,none=>K ()
 |some l,none=>bif decide (0≤l) then (bif decide (l≤(n:Int)) then K () else none) else none
 |none,some h=>bif decide (0≤h) then (bif decide (h≤(n:Int)) then K () else none) else none
 |some l,some h=>bif decide (0≤l) then (bif decide (l≤h) then (bif decide (h≤(n:Int)) then K () else none) else none) else none
def Tl (E:En) (A:Ab):Option Operand→Option (Option Int)
 |none=>some none
 |some x=>match opT E 0 A x with
  |some (.one (.sc (.int .i64 n)))=>some (some n)
  |_=>none
def mvO (E:En):Operand→Bool
 |.tmp t=>E.mv t
 |_=>false
def Rf (E:En) (A:Ab):List Operand→Option (List (Nat×Nat))
 |[]=>some []
 |x::l=>(match opT E 0 A x with
  |some (.one (.bp b v 0))=>(match Rf E A l with
   |some bs=>some ((b,v)::bs)
   |none=>none)
  |_=>none)
def Kx (A:Ab) (B p:Nat) (e:TypeId) (r:Ty) (xs:List r.den) (i:Int):Option (List Up):=
 bif (Fu r || Cs r)&&Nat.blt r.sz 999 && !(Nat.beq (p / 1000) (B+1))&&Nat.ble 2000 B then (bif decide (0≤i) then (bif decide (i<(xs.length:Int)) then
  some (⟨p,false,.one (.opn e r xs i B ((get A (H B)).1+1))⟩::⟨H B,false,.one (.hd r.sz)⟩::B2 B 0 (A4 r (xs.getD i.toNat r.dflt))) else none) else none) else none
def N9 (A:Ab) (B p:Nat) (e:TypeId) (r:Ty) (xs:List r.den) (i:Int) (K:List Up→Option R) (Z:Option R):Option R:=
 bif (Fu r || Cs r)&&Nat.blt r.sz 999 && !(Nat.beq (p / 1000) (B+1))&&Nat.ble 2000 B then (bif decide (0≤i) then (bif decide (i<(xs.length:Int)) then
  K (⟨p,false,.one (.opn e r xs i B ((get A (H B)).1+1))⟩::⟨H B,false,.one (.hd r.sz)⟩::B2 B 0 (A4 r (xs.getD i.toNat r.dflt))) else none) else none) else Z
def Aa (E:En) (o:Oper) (A:Ab) (K:List Up→Option R):Option R:=
 match o.op,o.dst with
 |.makeFunc (.func f) x y,some d=>(match x.toList,Rf E A y.toList with
  |[],some bs=>K [⟨d,false,.one (.fn f bs)⟩]
  |_,_=>none)
 |.move x,some d=>match opT E o.type A x with
  |some s=>(match x,s with
   |.tmp t,.one (.own e r xs)=>bif E.nm t && !(E.mv d) then K [⟨d,false,.one (.al t (get A t).1)⟩] else K [⟨t,false,.one .dead⟩,⟨d,false,.one (.own e r xs)⟩]
   |_,_=>K (gone x s++[⟨d,false,s⟩]))
  |none=>none
 |.assign x,some d=>match opT E o.type A x with
  |some (.one (.al p v))=>(match get A p with
   |(n,.one (.own e r xs))=>bif Nat.beq n v then (bif E.res d then K [⟨p,false,.one .dead⟩,⟨d,false,.one (.own e r xs)⟩] else K [⟨p,true,.one (.fz e r xs)⟩,⟨d,false,.one (.fz e r xs)⟩]) else none
   |(n,.one (.fz e r xs))=>bif Nat.beq n v then K [⟨d,false,.one (.fz e r xs)⟩] else none
   |_=>none)
  |some s=>K (gone x s++[⟨d,false,s⟩])
  |none=>none
 |.pick c x y,some d=>match opT E 0 A c with
  |some (.one (.sc (.bool b)))=>bif b then (match opT E o.type A x with
    |some (.one (.sc u))=>K [⟨d,false,.one (.sc u)⟩]
    |_=>none)
   else (match opT E o.type A y with
    |some (.one (.sc u))=>K [⟨d,false,.one (.sc u)⟩]
    |_=>none)
  |_=>none
 |.binOp op T x y T',some d=>match opT E T A x,opT E T' A y with
  |some s,some s'=>bop op (E.ti T) (E.eq T) s s' λ u=>K [⟨d,false,.one (.sc u)⟩]
  |_,_=>none
 |.unOp op T x,some d=>match opT E T A x with
  |some s=>uop op s λ u=>K [⟨d,false,.one (.sc u)⟩]
  |none=>none
 |.convert T T' x,some d=>match opT E T A x with
  |some (.one y)=>conv (E.ti T) (E.ti T') (.one (P5 A y)) λ s=>K [⟨d,false,s⟩]
  |_=>none
 |.nilCheck x,some d=>match opT E 0 A x with
  |some (.one y)=>bif Kw A y then K [⟨d,false,.one y⟩] else none
  |_=>none
 |.extract (.tmp t) j,some d=>match bif Nat.blt t E.nt then (get A t).2 else .one .dead with
  |.tup vs=>(match nth vs j with
   |some (ag,l)=>(match H9 ag l with
    |some s=>bif Ct l then K [⟨t,false,.tup (vs.set j (false,[.dead]))⟩,⟨d,false,s⟩] else K [⟨d,false,s⟩]
    |none=>none)
   |none=>none)
  |_=>none
 |.field T (.tmp t) j,some d=>match E.ti T,(get A t).2 with
  |some ti,.agg l=>(match nth ti.fo j with
   |some (off,z,ag)=>(match H9 ag ((l.drop off).take z) with
    |some s=>bif ti.ag&&Nat.blt t E.nt&&Nat.ble (off+z) l.length then (bif Ct ((l.drop off).take z) then K [⟨t,false,.agg (setAll l off (List.replicate z .dead))⟩,⟨d,false,s⟩] else K [⟨d,false,s⟩]) else none
    |none=>none)
   |none=>none)
  |_,_=>none
 |.build T ps,some d=>match E.ti T with
  |some ti=>(match Hy E A ti (Ov ti.ty) [] ps.toList with
   |some (l,us)=>bif ti.ag then K (us++[⟨d,false,.agg l⟩]) else none
   |none=>none)
  |none=>none
 |.alloc T,some d=>match E.ti T with
  |some ti=>bif Nat.blt ti.ty.sz 999&&Nat.ble E.np d then K (⟨H d,false,.one (.hd ti.ty.sz)⟩::B2 d 0 (Ov ti.ty)++[⟨d,false,.one (.bp d ((get A (H d)).1+1) 0)⟩]) else none
  |none=>none
 |.box T x,some d=>match E.ti T,opT E T A x with
  |some ti,some s=>
   bif mvO E x then (bif Bm A (parts s)&&Nat.beq (parts s).length ti.ty.sz&&Nat.blt ti.ty.sz 999&&Nat.ble E.np d then K (⟨H d,false,.one (.hd ti.ty.sz)⟩::B2 d 0 (parts s)++[⟨d,false,.one (.bp d ((get A (H d)).1+1) 0)⟩]) else none) else
   let m:=(parts s).map (Fy A)
   bif A3 m&&Nat.beq m.length ti.ty.sz&&Nat.blt ti.ty.sz 999&&Nat.ble E.np d then K (Fv A (parts s)++gone x s++(⟨H d,false,.one (.hd ti.ty.sz)⟩::B2 d 0 m++[⟨d,false,.one (.bp d ((get A (H d)).1+1) 0)⟩])) else none
  |_,_=>none
 |.load T x,some d=>match E.ti T,opT E 0 A x with
  |some ti,some (.one (.bp b v off))=>(match get A (H b) with
   |(n,.one (.hd m))=>bif Nat.beq n v&&Nat.ble (off+ti.ty.sz) m then (match H9 ti.ag (cellsOf A b off ti.ty.sz) with
    |some s=>K [⟨d,false,s⟩]
    |none=>none) else none
   |_=>none)
  |some ti,some (.one (.ep p v i off))=>(match get A p with
   |(n,.one (.own _ r xs))=>bif Nat.beq n v&&Fu r&&Nat.ble (off+ti.ty.sz) r.sz then (match H9 ti.ag (((lvs r (xs.getD i.toNat r.dflt)).drop off).take ti.ty.sz) with
    |some s=>K [⟨d,false,s⟩]
    |none=>none) else none
   |_=>none)
  |some ti,some (.one (.dp p v pi _ r xs i off))=>bif Nat.beq (get A p).1 v&&Nat.ble (off+ti.ty.sz) r.sz then (match H9 ti.ag (((daL p v pi i 0 (A4 r (xs.getD i.toNat r.dflt))).drop off).take ti.ty.sz) with
   |some s=>K [⟨d,false,s⟩]
   |none=>none) else none
  |some ti,some (.one (.fp r x off))=>bif Nat.ble (off+ti.ty.sz) r.sz then (match H9 ti.ag (((lvs r x).drop off).take ti.ty.sz) with
   |some s=>K [⟨d,false,s⟩]
   |none=>none) else none
  |_,_=>none
 |.store T x y,none=>match E.ti T,opT E 0 A x,opT E T A y with
  |some ti,some (.one (.bp b v off)),some s=>bif mvO E y then (match Lw A y s (Hra (ups A (gone y s)) (parts s)) with
   |some (m,us)=>(match get A (H b) with
    |(n,.one (.hd h))=>bif Nat.beq n v&&Nat.beq m.length ti.ty.sz&&Nat.ble (off+ti.ty.sz) h then K (us++B2 b off m) else none
    |_=>none)
   |none=>none) else
   let m:=(parts s).map (Fy A)
   (match get A (H b) with
   |(n,.one (.hd h))=>bif Nat.beq n v&&Dg (ups A (Fv A (parts s)++gone y s)) m&&Nat.beq m.length ti.ty.sz&&Nat.ble (off+ti.ty.sz) h then K (Fv A (parts s)++gone y s++B2 b off m) else none
   |_=>none)
  |some ti,some (.one (.ep p v i off)),some s=>
   let m:=(parts s).map λ x=>Hh (Fy A x)
   (match get A p with
   |(n,.one (.own e r xs))=>bif Nat.beq n v&&Fu r&&A3 ((parts s).map (Fy A))&&Nat.beq m.length ti.ty.sz&&Nat.ble (off+m.length) r.sz&&Q1 p (Fv A (parts s)++gone y s) then (match mkW r (setAll (lvs r (xs.getD i.toNat r.dflt)) off m) with
    |some z=>K (Fv A (parts s)++gone y s++[⟨p,true,.one (.own e r (xs.set i.toNat z))⟩])
    |none=>none) else none
   |_=>none)
  |some ti,some (.one (.dp p v (some pi) _ r xs i off)),some s=>(match Ava A y s with
   |some (m,us)=>(match get A p with
    |(n,.one (.own E0 R0 XS))=>bif Nat.beq n v&&Ix m&&Nat.beq m.length ti.ty.sz&&Nat.ble (off+m.length) r.sz&&Q1 p us&&Cs R0 then (match mkW r (setAll (A4 r (xs.getD i.toNat r.dflt)) off m) with
     |some z=>(match Y4 r (xs.set i.toNat z) pi R0 XS with
      |some XS'=>K (us++[⟨p,false,.one (.own E0 R0 XS')⟩])
      |none=>none)
     |none=>none) else none
    |_=>none)
   |none=>none)
  |_,_,_=>none
 |.fieldAddr T x j,some d=>match E.ti T,opT E 0 A x with
  |some ti,some (.one y)=>(match nth ti.fo j with
   |some o=>bif ti.ag&&Kw A y then K [⟨d,false,.one (B2a y o.1)⟩] else none
   |none=>none)
  |_,_=>none
 |.indexAddr T x i,some d=>bif E.opn d then (match opT E T A x,opT E 0 A i with
  |some (.one (.al p v)),some (.one (.sc (.int _ n)))=>(match get A p with
   |(m,.one (.own e r xs))=>bif Nat.beq m v&&H6 E T e && !(Nat.beq p d) then N9 A (2000+d) p e r xs n (λ us=>K (us++[⟨d,false,.one (.bp (2000+d) ((get A (H (2000+d))).1+1) 0)⟩])) none else none
   |_=>none)
  |_,_=>none) else match opT E T A x,opT E 0 A i with
  |some (.one y),some (.one (.sc (.int _ n)))=>(match y,Gp A y with
   |.al p v,.own e r xs=>bif H6 E T e&&decide (0≤n) then (bif decide (n<(xs.length:Int)) then (bif Fu r then K [⟨d,false,.one (.ep p v n 0)⟩] else bif Cs r then K [⟨d,false,.one (.dp p v (some []) e r xs n 0)⟩] else none) else none) else none
   |.da p v pi e r xs,_=>bif H6 E T e&&Nat.beq (get A p).1 v&&decide (0≤n) then (bif decide (n<(xs.length:Int)) then K [⟨d,false,.one (.dp p v pi e r xs n 0)⟩] else none) else none
   |.al p v,.dead=>(match get A p with
    |(m,.one (.opn e _ _ i b vb))=>bif Nat.beq m v&&H6 E T e then (bif decide (n=i) then K [⟨d,false,.one (.bp b vb 0)⟩] else none) else none
    |_=>none)
   |_,.fz e r xs=>bif H6 E T e&&decide (0≤n) then (bif decide (n<(xs.length:Int)) then K [⟨d,false,.one (.fp r (xs.getD n.toNat r.dflt) 0)⟩] else none) else none
   |_,.own e r xs=>(match x with
    |.tmp t=>bif H6 E T e&&decide (0≤n) then (bif decide (n<(xs.length:Int)) then (bif Fu r then K [⟨d,false,.one (.ep t (get A t).1 n 0)⟩] else bif Cs r then K [⟨d,false,.one (.dp t (get A t).1 (some []) e r xs n 0)⟩] else none) else none) else none
    |_=>none)
   |_,_=>none)
  |_,_=>none
 |.index T x i,some d=>match opT E 0 A x,opT E 0 A i with
  |some (.one (.sc (.string s))),some (.one (.sc (.int _ n)))=>bif Ku E T&&decide (0≤n) then (bif decide (n<(s.size:Int)) then K [⟨d,false,.one (.sc (.int .u8 (bt s n)))⟩] else none) else none
  |_,_=>none
 |.slice T x lo hi none,some d=>match opT E T A x,Tl E A lo,Tl E A hi with
  |some (.one (.sc (.string s))),some lo,some hi=>bif Ku E T then Ta lo hi s.size λ _=>
   K [⟨d,false,.one (.sc (.string (s.extract (match lo with|some l=>l.toNat|none=>0) (match hi with|some h=>h.toNat|none=>s.size))))⟩] else none
  |some (.one y),some lo,some hi=>(match y,Gp A y with
   |.own _ _ _,.own e r xs=>bif H6 E T e then (match lo with
    |none=>Ta lo hi xs.length λ _=>K (gone x (.one y)++[⟨d,false,.one (.own e r (Tk xs lo hi))⟩])
    |some _=>Ta lo hi xs.length λ _=>K (gone x (.one y)++[⟨d,false,.one (.fz e r (Tk xs lo hi))⟩])) else none
   |.al p v,.own e r xs=>bif H6 E T e then (bif E.mv d then (match lo with
     |none=>Ta lo hi xs.length λ _=>K [⟨p,false,.one .dead⟩,⟨d,false,.one (.own e r (Tk xs lo hi))⟩]
     |some _=>none)
    else bif Fu r then Ta lo hi xs.length λ _=>K (Mu A y++[⟨d,false,.one (.fz e r (Tk xs lo hi))⟩])
    else bif Cs r then Ta lo hi xs.length λ _=>K [⟨d,false,.one (.da p v none e r (Tk xs lo hi))⟩] else none) else none
   |.da p v _ e r xs,_=>bif H6 E T e&&Nat.beq (get A p).1 v then Ta lo hi xs.length λ _=>K [⟨d,false,.one (.da p v none e r (Tk xs lo hi))⟩] else none
   |_,.fz e r xs=>bif H6 E T e then Ta lo hi xs.length λ _=>K [⟨d,false,.one (.fz e r (Tk xs lo hi))⟩] else none
   |_,_=>none)
  |_,_,_=>none
 |.buildSlice T n ps,some d=>match E.ti T with
  |some ⟨.sl e r,false,_,_⟩=>bif Nat.beq n ps.size&&Nat.ble (n * r.sz) 16777216&&(E.ti e).isSome then (match E.hint d with
   |none=>bif Fu r then (match Rd E A e r 0 ps.toList with
    |some (ys,us)=>K (us++[⟨d,false,.one (.own e r ys)⟩])
    |none=>none) else none
   |some r2=>bif decide (shp r2=shp r)&&Cs r2 then (match Re E A e r2 0 ps.toList with
    |some (ys,us)=>K (us++[⟨d,false,.one (.own e r2 ys)⟩])
    |none=>none) else none) else none
  |_=>none
 |.makeSlice T x y,some d=>match E.ti T,opT E 0 A x,opT E 0 A y with
  |some ⟨.sl e r,false,_,_⟩,some (.one (.sc (.int .i64 n))),some (.one (.sc (.int .i64 m)))=>(match E.ti e with
   |some te=>bif Kt te.ty r&&decide (n=m) then (bif decide (0≤n) then (bif decide (n * te.by_≤140737488355328) then (match E.hint d with
    |none=>K [⟨d,false,.one (.own e r (List.replicate n.toNat r.dflt))⟩]
    |some r2=>bif decide (shp r2=shp r) then K [⟨d,false,.one (.own e r2 (List.replicate n.toNat r2.dflt))⟩] else none) else none) else none) else none
   |none=>none)
  |_,_,_=>none
 |.call c,d=>match c.callee with
  |.builtin .len=>(match c.argTypes.toList,c.args.toList,d with
   |[T],[x],some d=>(match opT E T A x with
    |some (.one y)=>(match Gp A y with
     |.sc (.string s)=>bif Ku E T then K [⟨d,false,.one (.sc (.int .i64 (s.size:Int)))⟩] else none
     |.da p v _ e _ xs=>bif H6 E T e&&Nat.beq (get A p).1 v then K [⟨d,false,.one (.sc (.int .i64 (xs.length:Int)))⟩] else none
     |.fz e _ xs=>bif H6 E T e then K [⟨d,false,.one (.sc (.int .i64 (xs.length:Int)))⟩] else none
     |.own e _ xs=>bif H6 E T e then K [⟨d,false,.one (.sc (.int .i64 (xs.length:Int)))⟩] else none
     |_=>none)
    |_=>none)
   |_,_,_=>none)
  |.builtin .min=>(match Ly E c.argTypes.toList A c.args.toList,d with
   |some (.one (.sc (.int k x))::l),some d=>Jy false l k x λ u=>K [⟨d,false,.one (.sc u)⟩]
   |_,_=>none)
  |.builtin .max=>(match Ly E c.argTypes.toList A c.args.toList,d with
   |some (.one (.sc (.int k x))::l),some d=>Jy true l k x λ u=>K [⟨d,false,.one (.sc u)⟩]
   |_,_=>none)
  |.builtin .append=>(match c.argTypes.toList,c.args.toList,d with
   |[T,T'],[x,y],some d=>(match opT E T A x,opT E T' A y with
    |some (.one u),some (.one w)=>(match Gp A u with
     |.own e r xs=>(match E.hint d with
      |some r2=>(match opT E T' (ups A (Tg u x)) y with
       |some (.one w2)=>(match Gp (ups A (Tg u x)) w2,Mp r2 r xs,E.ti e with
        |.own e' r' ys,some xs2,some te=>(match Mp r2 r' ys with
         |some ys2=>bif Cs r2&&Nat.beq e e'&&H6 E T e&&Nat.beq T T' then (bif Nat.ble ((xs2.length+ys2.length) * te.by_) 140737488355328 then
           K (Tg u x++(Tg w2 y++[⟨d,false,.one (.own e r2 (xs2++ys2))⟩])) else none) else none
         |none=>none)
        |_,_,_=>none)
       |_=>none)
      |none=>bif Fu r then (match Tf A w with
       |some ⟨e',r',ys⟩=>(match Kd r r' ys,E.ti e with
        |some ys,some te=>bif Nat.beq e e'&&H6 E T e&&Nat.beq T T' then (bif Nat.ble ((xs.length+ys.length) * te.by_) 140737488355328 then
          K (Tg u x++[⟨d,false,.one (.own e r (xs++ys))⟩]) else none) else none
        |_,_=>none)
       |none=>(match w with
        |.sc (.string s)=>(match Kd r (.i .u8) (bytesOf s),E.ti e with
         |some ys,some ⟨.i .u8,false,1,_⟩=>bif H6 E T e&&Ku E T'&&Nat.ble ((xs.length+s.size) * 1) 140737488355328 then
          K (Tg u x++[⟨d,false,.one (.own e r (xs++ys))⟩]) else none
         |_,_=>none)
        |_=>none)) else none)
     |_=>none)
    |_,_=>none)
   |_,_,_=>none)
  |.value (.func f)=>(match E.call f,Ly E c.argTypes.toList A c.args.toList with
   |some en,some ss=>Q2 E A en (c.argTypes.toList.zip c.args.toList) [] ss d K
   |_,_=>none)
  |.value (.tmp t)=>(match opT E 0 A (.tmp t) with
   |some (.one (.fn f bs))=>(match E.call f,Ly E c.argTypes.toList A c.args.toList with
    |some en,some ss=>bif Hc A bs then Q2 E A en (c.argTypes.toList.zip c.args.toList) bs ss d K else none
    |_,_=>none)
   |_=>none)
  |_=>none
 |_,_=>none
def Eua (A:Ab) (p t B:Nat):Option (List Up):=match (get A p).2,(get A t).2 with
 |.one (.own e r xs),.one (.sc (.int _ i))=>Kx A B p e r xs i
 |_,_=>none
def Y6 (A:Ab) (d B:Nat):Option (List Up):=match (get A d).2 with
 |.one (.ep p v i off)=>(match get A p with
  |(n,.one (.own e r xs))=>bif Nat.beq n v&&Fu r && !(Nat.beq p d) then (match Kx A B p e r xs i with
   |some us=>some (us++[⟨d,false,.one (.bp B ((get A (H B)).1+1) off)⟩])
   |none=>none) else none
  |_=>none)
 |.one (.dp p v (some []) _ _ _ i off)=>(match get A p with
  |(n,.one (.own e r xs))=>bif Nat.beq n v && !(Fu r) && !(Nat.beq p d) then (match Kx A B p e r xs i with
   |some us=>some (us++[⟨d,false,.one (.bp B ((get A (H B)).1+1) off)⟩])
   |none=>none) else none
  |_=>none)
 |_=>none
def B7a (A:Ab) (p:Nat):Option (List Up):=match (get A p).2 with
 |.one (.opn _ r0 _ _ b v)=>(match Ke A b v r0 r0 with
  |some (l,us)=>(match (get (ups A us) p).2 with
   |.one (.opn e r xs i b' v')=>bif Nat.beq b b'&&Nat.beq (get (ups A us) (H b)).1 v'&&Nat.ble 2000 b&&Nat.beq l.length r.sz&&((Fu r && !(Ct l)) || (Cs r&&Ix l)) then (match mkW r l with
    |some z=>some (us++[⟨H b,false,.one .dead⟩,⟨p,false,.one (.own e r (xs.set i.toNat z))⟩])
    |none=>none) else none
   |_=>none)
  |none=>none)
 |_=>none
def P7 (E:En) (A:Ab) (K:Ab→Option R):Gh→Option R
 |.cl p=>(match B7a A p with
  |some us=>K (ups A us)
  |none=>K A)
 |.op p t B=>bif Nat.blt t E.nt then (match (get A p).2,(get A t).2 with
  |.one (.own e r xs),.one (.sc (.int _ i))=>N9 A B p e r xs i (λ us=>K (ups A us)) (K A)
  |_,_=>K A) else K A
 |.oc p i B=>(match (get A p).2 with
  |.one (.own e r xs)=>N9 A B p e r xs i (λ us=>K (ups A us)) (K A)
  |_=>K A)
 |.od d B=>bif Nat.blt d E.nt then (match (get A d).2 with
  |.one (.ep p v i off)=>(match get A p with
   |(n,.one (.own e r xs))=>bif Nat.beq n v&&Fu r && !(Nat.beq p d) then N9 A B p e r xs i (λ us=>K (ups A (us++[⟨d,false,.one (.bp B ((get A (H B)).1+1) off)⟩]))) (K A) else K A
   |_=>K A)
  |.one (.dp p v (some []) _ _ _ i off)=>(match get A p with
   |(n,.one (.own e r xs))=>bif Nat.beq n v && !(Fu r) && !(Nat.beq p d) then N9 A B p e r xs i (λ us=>K (ups A (us++[⟨d,false,.one (.bp B ((get A (H B)).1+1) off)⟩]))) (K A) else K A
   |_=>K A)
  |_=>K A) else K A
def Id (E:En):List Gh→Ab→(Ab→Option R)→Option R
 |[],A,K=>K A
 |g::l,A,K=>P7 E A (λ A=>Id E l A K) g
def Ow (E:En) (o:Oper):Bool:=match o.dst with
 |some d=>Nat.blt d E.nt
 |none=>true
def B8a (ops:List Oper) (j:Nat):Option Nat:=match nth ops j with
 |some o=>o.dst
 |none=>none
def Ky (o:Oper) (A:Ab):Ab:=match o.dst with
 |some d=>up A ⟨d,false,.one .un⟩
 |none=>A
def lit (A:Ab) (d n:Nat) (v:Bool):Ab:=(d,n,.one (.sc (.bool v)))::A
def Na (E:En) (ops:List Oper):List Nat→Ab→(Ab→Option R)→Option R
 |[],A,K=>K A
 |i::l,A,K=>match nth ops i with
  |none=>none
  |some o=>bif Ow E o then (match o.guard with
   |none=>Aa E o A λ U=>Na E ops l (ups A U) K
   |some (j,want)=>(match B8a ops j with
    |none=>none
    |some dj=>bif Nat.blt dj E.nt then (match get A dj with
     |(n,.one (.sc (.bool b)))=>
      bif b then (bif want then Aa E o (lit A dj n true) λ U=>Na E ops l (ups (lit A dj n true) U) K else Na E ops l (Ky o (lit A dj n true)) K)
      else (bif want then Na E ops l (Ky o (lit A dj n false)) K else Aa E o (lit A dj n false) λ U=>Na E ops l (ups (lit A dj n false) U) K)
     |(_,.one .un)=>Na E ops l (Ky o A) K
     |_=>none) else none))
   else none
def rdC (A:Ab) (b:Nat):Nat→Nat→List Nat
 |_,0=>[]
 |j,n+1=>C b j::((match (get A (C b j)).2 with
  |.one (.al p _)=>[p]
  |_=>[])++rdC A b (j+1) n)
def rdL (A:Ab):Lf→List Nat
 |.al p _=>[p]
 |.ep p _ _ _=>[p]
 |.da p _ _ _ _ _=>[p]
 |.dp p _ _ _ _ _ _ _=>[p]
 |.bp b _ off=>H b::(match (get A (H b)).2 with
  |.one (.hd n)=>rdC A b off (n - off)
  |_=>[])
 |.fn _ bs=>bs.flatMap λ b=>H b.1::(match (get A (H b.1)).2 with
  |.one (.hd n)=>rdC A b.1 0 (n - 0)
  |_=>[])
 |_=>[]
def L8a (A:Ab):List Lf→List Nat
 |[]=>[]
 |y::l=>rdL A y++L8a A l
def rdO (A:Ab):Operand→List Nat
 |.tmp t=>t::L8a A (parts (get A t).2)
 |_=>[]
def H1a (A:Ab):List Operand→List Nat
 |[]=>[]
 |x::l=>rdO A x++H1a A l
def Gc:Op→List Operand
 |.move x | .assign x | .unOp _ _ x | .convert _ _ x | .nilCheck x | .extract x _ | .field _ x _ | .box _ x | .load _ x | .fieldAddr _ x _=>[x]
 |.pick c x y=>[c,x,y]
 |.binOp _ _ x y _ | .store _ x y | .makeSlice _ x y | .indexAddr _ x y | .index _ x y=>[x,y]
 |.build _ ps | .buildSlice _ _ ps=>ps.toList.map Prod.snd
 |.slice _ x lo hi _=>x::(lo.toList++hi.toList)
 |.call c=>(match c.callee with
  |.value x=>x::c.args.toList
  |_=>c.args.toList)
 |.makeFunc _ f c=>f.toList++c.toList
 |_=>[]
def rdD:Option Nat→List Nat
 |some d=>[d,H d,H (2000+d)]
 |none=>[]
def rdH:Lf→List Nat
 |.bp b _ _=>[H b]
 |.ep p _ _ _=>[p]
 |.dp p _ _ _ _ _ _ _=>[p]
 |_=>[]
def Jpa:List Lf→List Nat
 |[]=>[]
 |y::l=>rdH y++Jpa l
def rdP (A:Ab):Operand→List Nat
 |.tmp t=>t::Jpa (parts (get A t).2)
 |_=>[]
def rdT:Operand→List Nat
 |.tmp t=>[t]
 |_=>[]
def Jea (A:Ab):List Lf→List Nat
 |[]=>[]
 |.al p _::l=>(bif Nat.ble 1000 p then H (p / 1000 - 1)::(match (get A (H (p / 1000 - 1))).2 with
  |.one (.hd n)=>rdC A (p / 1000 - 1) 0 (n - 0)
  |_=>[]) else [])++Jea A l
 |_::l=>Jea A l
def Hsa (A:Ab):List Operand→List Nat
 |[]=>[]
 |.tmp t::l=>(match (get A t).2 with
  |.agg ys=>Jea A ys
  |_=>[])++Hsa A l
 |_::l=>Hsa A l
def Jqa (A:Ab):Op→List Nat
 |.call c=>H1a A (Gc (.call c))++Hsa A c.args.toList
 |.move x=>rdT x
 |.nilCheck x | .fieldAddr _ x _=>rdP A x
 |op=>H1a A (Gc op)
def rds (A:Ab) (o:Oper):List Nat:=rdD o.dst++Jqa A o.op
structure Lg where
 i:Nat
 anc:Nat
 F:List Nat
 W:List Nat
 ex:Option (Nat×Nat×Nat)
def Jfa (p:Nat):List Nat→Bool
 |[]=>false
 |q::l=>Nat.beq q p || Jfa p l
def Jga:List Nat→List Nat→Bool
 |[],_=>true
 |p::l,m => !(Jfa p m)&&Jga l m
def B9a (x y:Lg):Bool:=(Jga x.W y.F&&Jga y.W x.F) || (match x.ex,y.ex with
 |some (t,j,d),some (t',j',d')=>Nat.beq t t' && !(Nat.beq j j') && !(Nat.beq d d') && !(Nat.beq d t) && !(Nat.beq d' t)
 |_,_=>false)
def aft (o:Oper):List Nat:=o.after.toList.filterMap λ e=>bif Region.binds .any e then some e.on else none
def Baa:List Lg→Nat→Nat
 |[],_=>0
 |x::l,j=>bif Nat.beq x.i j then x.anc else Baa l j
def H2a (lg:List Lg):List Nat→Nat
 |[]=>0
 |j::l=>(2 ^ j ||| Baa lg j) ||| H2a lg l
def Bba (l:List Lg) (y:Lg):Bool:=l.all λ x=>Nat.testBit y.anc x.i || B9a x y
def Jra (o:Oper):Option (Nat×Nat×Nat):=match o.op,o.dst with
 |.extract (.tmp t) j,some d=>some (t,j,d)
 |_,_=>none
def P8 (o:Oper) (i:Nat) (lg:List Lg) (g:List Nat) (A:Ab) (U:List Up):Lg:=⟨i,H2a lg (aft o),g++rds A o++U.map Up.l,U.map Up.l,bif g.isEmpty then Jra o else none⟩
def Kz (o:Oper) (i:Nat) (lg:List Lg) (g:List Nat):Lg:=⟨i,H2a lg (aft o),g++o.dst.toList,o.dst.toList,none⟩
def Fo (E:En) (ops:List Oper):List Nat→List Lg→Ab→(Ab→Option R)→Option R
 |[],_,A,K=>K A
 |i::l,lg,A,K=>match nth ops i with
  |none=>none
  |some o=>bif Ow E o&&(aft o).all (λ j=>Nat.blt j i) then (match o.guard with
   |none=>Aa E o A λ U=>bif Bba lg (P8 o i lg [] A U) then Fo E ops l (P8 o i lg [] A U::lg) (ups A U) K else none
   |some (j,want)=>(match B8a ops j with
    |none=>none
    |some dj=>bif Nat.blt dj E.nt then (match get A dj with
     |(n,.one (.sc (.bool b)))=>
      bif b then (bif want then Aa E o (lit A dj n true) λ U=>bif Bba lg (P8 o i lg [dj] (lit A dj n true) U) then Fo E ops l (P8 o i lg [dj] (lit A dj n true) U::lg) (ups (lit A dj n true) U) K else none
       else bif Bba lg (Kz o i lg [dj]) then Fo E ops l (Kz o i lg [dj]::lg) (Ky o (lit A dj n true)) K else none)
      else (bif want then bif Bba lg (Kz o i lg [dj]) then Fo E ops l (Kz o i lg [dj]::lg) (Ky o (lit A dj n false)) K else none
       else Aa E o (lit A dj n false) λ U=>bif Bba lg (P8 o i lg [dj] (lit A dj n false) U) then Fo E ops l (P8 o i lg [dj] (lit A dj n false) U::lg) (ups (lit A dj n false) U) K else none)
     |(_,.one .un)=>bif Bba lg (Kz o i lg [dj]) then Fo E ops l (Kz o i lg [dj]::lg) (Ky o A) K else none
     |_=>none) else none))
   else none
def H3a (E:En) (ops:List Oper) (A:Ab) (K:Ab→Option R):Option R:=Fo E ops (List.range ops.length) [] A K
def first:Code→Nat
 |.region id _ _=>id
 |.seq a _=>first a
 |.block _ c=>first c
 |.loop c=>first c
 |.scope c=>first c
 |.cond _ a _=>first a
 |_=>0
def L5 (vs:List (Nat×Ty)) (p:Nat):Bool:=vs.any (λ x=>Nat.beq x.1 p&&(match x.2 with | .ow _ _=>true|_=>false))
def Jha:Ty→Bool
 |.ow _ _=>true
 |_=>false
def Eva (A:Ab) (vs:List (Nat×Ty)) (l:Nat) (t:Ty):Option t.den:=
 match (get A l).2 with
 |.one (.al p v)=>bif L5 vs p then none else mkW t [Hh (Gp A (.al p v))]
 |.one (.own e r xs)=>bif Jha t then mkW t [.own e r xs] else bif L5 vs l then none else mkW t [.fz e r xs]
 |.one x=>mkW t [x]
 |_=>none
def Ewa:Nat→Ty→List (Nat×Ty)
 |l,.pr t u=>Ewa l t++Ewa (l+t.sz) u
 |l,t=>[(l,t)]
def Q3:List (Nat×Ty)→List (Nat×Ty)
 |[]=>[]
 |v::l=>Ewa v.1 v.2++Q3 l
def Jia (A:Ab) (all:List (Nat×Ty)):Nat→(t:Ty)→Option t.den
 |l,.pr t u=>match Jia A all l t with
  |some x=>(match Jia A all (l+t.sz) u with
   |some y=>some (x,y)
   |none=>none)
  |none=>none
 |l,.i k=>Eva A all l (.i k)
 |l,.b=>Eva A all l .b
 |l,.s=>Eva A all l .s
 |l,.sl e r=>Eva A all l (.sl e r)
 |l,.ow e r=>Eva A all l (.ow e r)
def Exa (A:Ab) (all:List (Nat×Ty)):(vs:List (Nat×Ty))→Option (Den (vs.map Prod.snd))
 |[]=>some ()
 |[v]=>Jia A all v.1 v.2
 |v::w::l=>match Jia A all v.1 v.2 with
  |some x=>(match Exa A all (w::l) with
   |some y=>some (x,y)
   |none=>none)
  |none=>none
def Tm:List (Nat×Nat)→List (Nat×Nat)→Bool
 |[],[]=>true
 |a::l,b::m=>Nat.beq a.1 b.1&&Nat.beq a.2 0&&Tm l m
 |_,_=>false
def Era (A:Ab):List (Nat×Lf)→Bool
 |[]=>true
 |(l,.bp b v0 off)::cs=>(match get A l with
  |(_,.one (.bp b' v off'))=>Nat.beq v0 0&&Nat.beq b b'&&Nat.beq off off'&&(match get A (H b) with
   |(n,.one (.hd _))=>Nat.beq n v
   |_=>false)
  |_=>false)&&Era A cs
 |(l,.hd m)::cs=>(match get A l with
  |(_,.one (.hd m'))=>Nat.beq m m'
  |_=>false)&&Era A cs
 |(l,.fn F bs)::cs=>(match get A l with
  |(_,.one (.fn F' bs'))=>Nat.beq F F'&&Tm bs bs'&&Hc A bs'
  |_=>false)&&Era A cs
 |_=>false
def Hta (v:R9) (A:Ab):Option v.den:=bif Era A v.cs then Exa A (Q3 v.vs) v.vs else none
def Bca:Nat→(t:Ty)→t.den→Ab
 |l,.pr t u,x=>Bca l t x.1++Bca (l+t.sz) u x.2
 |l,.i k,x=>[(l,0,.one (.sc (.int k x)))]
 |l,.b,x=>[(l,0,.one (.sc (.bool x)))]
 |l,.s,x=>[(l,0,.one (.sc (.string x)))]
 |l,.sl e r,x=>[(l,0,.one (.fz e r x))]
 |l,.ow e r,x=>[(l,0,.one (.own e r x))]
def Rg:(vs:List (Nat×Ty))→Den (vs.map Prod.snd)→Ab
 |[],_=>[]
 |[v],x=>Bca v.1 v.2 x
 |v::w::l,x=>Bca v.1 v.2 x.1++Rg (w::l) x.2
def Mr (v:R9) (x:v.den):Ab:=Rg v.vs x++v.cs.map λ c=>(c.1,0,.one c.2)
def Hua (K:Ex→Ab→Option R):(l:List (Ex×R9))→Eta l→Option R
 |[],x=>nomatch x
 |[a],x=>K a.1 (Mr a.2 x)
 |a::b::l,x=>Sum.elim (λ y=>K a.1 (Mr a.2 y)) (λ z=>Hua K (b::l) z) x
def exB:Ex→Ex→Bool
 |.normal,.normal=>true
 |.exit i,.exit j=>Nat.beq i j
 |.ret,.ret=>true
 |_,_=>false
def Y7 (e:Ex) (A:Ab):(l:List (Ex×R9))→Option (Eta l)
 |[]=>none
 |[a]=>bif exB e a.1 then Hta a.2 A else none
 |a::b::l=>bif exB e a.1 then (match Hta a.2 A with|some x=>some (.inl x)|none=>none) else (match Y7 e A (b::l) with|some x=>some (.inr x)|none=>none)
def L9a (E:En) (A:Ab) (c:Operand) (v:Bool):Ab:=match c with
 |.tmp t=>bif E.rf then up A ⟨t,true,.one (.sc (.bool v))⟩ else A
 |_=>A
def Ho (E:En):Code→Ab→(Ex→Ab→Option R)→Option R
 |.skip,A,K=>K .normal A
 |.region id ops draw,A,K=>Id E (E.gh id) A λ A=>bif draw then H3a E ops.toList A (K .normal) else Na E ops.toList (List.range ops.size) A (K .normal)
 |.seq a b,A,K=>Ho E a A λ e A'=>match e with
  |.normal=>Ho E b A' K
  |e=>K e A'
 |.cond c x y,A,K=>match opT E 0 A c with
  |some (.one (.sc (.bool b)))=>bif b then Ho E x (L9a E A c true) K else Ho E y (L9a E A c false) K
  |_=>none
 |.block id c,A,K=>Ho E c A λ e A'=>match e with
  |.exit i=>bif Nat.beq i id then K .normal A' else K (.exit i) A'
  |e=>K e A'
 |.loop c,A,K=>match E.lp (first c) with
  |some L=>Id E (E.gh (1000001+first c)) A λ A=>(match Hta L.ins A with
   |some x=>(L.run x).bind λ r=>Hua K L.alts r
   |none=>none)
  |none=>none
 |.exit id,A,K=>K (.exit id) A
 |.ret,A,K=>K .ret A
 |_,_,_=>none
def Gd (l:Nat):Code→Code
 |.seq a b=>match Gd l a with
  |.skip=>Gd l b
  |c=>c
 |.cond _ a b=>match Gd l a with
  |.skip=>Gd l b
  |c=>c
 |.block _ c=>Gd l c
 |.loop c=>bif Nat.beq (first c) l then c else Gd l c
 |_ => .skip
def Bda (E:En) (L:Lp) (c:Code) (x:L.ins.den):Option (Eta L.alts):=
 Ho E c (Mr L.ins x) λ e A=>match e with
  |.normal=>Id E (E.gh (1000001+first c)) A λ A=>(match Hta L.ins A with
   |some y=>L.run y
   |none=>none)
  |e=>Id E (E.gh (1000001+first c)) A λ A=>Y7 e A L.alts
def Jsa:List Lf→Lf
 |[x]=>x
 |_ => .dead
def bid (nv i:Nat):Nat:=bif Nat.blt i nv then i else 1500+(i - nv)
def vwL (B:Nat):Nat→List Lf→List Lf
 |_,[]=>[]
 |j,.own _ _ _::l => .al (C B j) 0::vwL B (j+1) l
 |j,x::l=>x::vwL B (j+1) l
def Rh (B:Nat):Nat→List Lf→Ab
 |_,[]=>[]
 |j,x::l=>(C B j,0,.one x)::Rh B (j+1) l
def Gb (nv:Nat):Nat→List Par→List (List Lf)→Ab
 |i,.vw _ h::ps,l::ls=>(i,0,.agg (vwL (bid nv h) 0 l))::Gb nv (i+1) ps ls
 |i,.val ag _::ps,l::ls=>(i,0,(bif ag then .agg l else .one (Jsa l)))::Gb nv (i+1) ps ls
 |i,.ptr t _::ps,l::ls=>(i,0,.one (.bp i 0 0))::(H i,0,.one (.hd t.sz))::(ups [] (B2 i 0 l)++Gb nv (i+1) ps ls)
 |i,.hid t _::ps,l::ls=>(H (bid nv i),0,.one (.hd t.sz))::(Rh (bid nv i) 0 l++Gb nv (i+1) ps ls)
 |i,.rd t::ps,l::ls=>(match mkW t l with
  |some x=>(i,0,.one (.fp t x 0))::Gb nv (i+1) ps ls
  |none=>Gb nv (i+1) ps ls)
 |i,.fn F m::ps,_::ls=>(i,0,.one (.fn F ((List.range m).map λ j=>(bid nv (nv+j),0))))::Gb nv (i+1) ps ls
 |_,_,_=>[]
def Lea (nv:Nat) (ps:List Par) (x:Den (ps.map Par.ty)):Ab:=Gb nv 0 ps (Bj _ x)
def Tn (np:Nat) (A:Ab) (k:RK) (t:Ty) (x:Operand) (s:Sv):Option (List Lf×List Up):=match k with
 |.ptr=>(match s with
  |.one (.bp b v 0)=>(match get A (H b) with
   |(n,.one (.hd m))=>bif Nat.beq n v&&(Nat.ble np b&&Nat.blt b 1000)&&Fu t&&Nat.beq m t.sz&&Nat.blt m 999&&A3 ((cellsOf A b 0 m).map (Fy A)) then some ((cellsOf A b 0 m).map (Fy A),Fv A (cellsOf A b 0 m)++[⟨H b,false,.one .dead⟩]) else none
   |_=>none)
  |_=>none)
 |k=>bif Fz (Mm k) s then Lx A x s t else none
def Tp (A:Ab) (t:Ty):Sv→Option (List Lf×List Up)
 |.one (.bp b v 0)=>Ke A b v t t
 |_=>none
def Nb (E:En):Ab→List (RK×Ty)→List ResultVar→Option (List (List Lf)×List Up)
 |_,[],[]=>some ([],[])
 |A,(k,t)::ks,.tmp x::rs=>bif Nat.blt x E.nt then (match Tn E.np A k t (.tmp x) (get A x).2 with
  |some (l,u)=>(match Nb E (ups A u) ks rs with
   |some (ls,us)=>some (l::ls,u++us)
   |none=>none)
  |none=>none) else none
 |A,(.agg,t)::ks,.cell x T::rs=>bif Nat.blt x E.nt&&(match E.ti T with|some ti=>ti.ag&&Nat.beq ti.ty.sz t.sz|none=>false) then (match Tp A t (get A x).2 with
  |some (l,u)=>(match Nb E (ups A u) ks rs with
   |some (ls,us)=>some (l::ls,u++us)
   |none=>none)
  |none=>none) else none
 |_,_,_=>none
def Hva (A:Ab) (b:Nat) (t':Ty):Option (List Lf×List Up):=Ke A b (get A (H b)).1 t' t'
def Eya (nv:Nat):Ab→Nat→List Par→Option (List (List Lf))
 |_,_,[]=>some []
 |A,i,.ptr _ t'::ps=>(match Hva A (bid nv i) t' with
  |some (l,us)=>(match Eya nv (ups A us) (i+1) ps with
   |some ls=>some (l::ls)
   |none=>none)
  |none=>none)
 |A,i,.hid _ t'::ps=>(match Hva A (bid nv i) t' with
  |some (l,us)=>(match Eya nv (ups A us) (i+1) ps with
   |some ls=>some (l::ls)
   |none=>none)
  |none=>none)
 |A,i,_::ps=>Eya nv A (i+1) ps
def H4a (E:En) (c:Code) (rv:List ResultVar) (en:Ent) (x:Den (en.ps.map Par.ty)):Option (Den (en.rs.map Prod.snd++Gu en.ps)):=
 Ho E c (Lea en.nv en.ps x) λ e A=>match e with
  |.exit _=>none
  |_=>Id E (E.gh 1000000) A λ A=>match Nb E A en.rs rv with
   |some (ls,us)=>(match Eya en.nv (ups A us) 0 en.ps with
    |some bs=>Lv (en.rs.map Prod.snd++Gu en.ps) (ls++bs)
    |none=>none)
   |none=>none
end

end Go.Proofs.Ytlfoljnopndpeaa.Vf
