import Derived.Test.YtmhhjceoinoekaaGreatMab
import Derived.Test.YtmhhjceoinoekaaGreatMaj
import Derived.Test.YtmhhjceoinoekaaGreatProg
import Derived.KernelRfl
set_option linter.all false
namespace Go.Proofs.YtmhhjceoinoekaaGreat.Vf
open Go
open List (length getD)
open Int (toNat)
open Go.IntKind (wrap)
open BitVec (ofInt)

section
open Go.Proofs
@[reducible] def t0:Ty := .sl 9 .s
@[reducible] def t1:Ty := .sl 4 .b
@[reducible] def t2:Ty := .ow 9 .s
@[reducible] def t3:Ty := .ow 4 .b
@[reducible] def t4:Ty := .sl 5 (.i .u8)
@[reducible] def t5:Ty := .ow 5 (.i .u8)
@[reducible] def t6:Ty := .sl 3 (.i .i64)
@[reducible] def t7:Ty := .ow 3 (.i .i64)
@[reducible] def t8:Ty := .pr .s (.i .u64)
@[reducible] def t9:Ty := .pr (.i .i64) (.i .i64)
@[reducible] def t10:Ty := .sl 127 t6
@[reducible] def t11:Ty := .pr .s t4
@[reducible] def t12:Ty := .pr .s t5
@[reducible] def t13:Ty := .sl 93 t11
@[reducible] def t14:Ty := .ow 93 t11
@[reducible] def t15:Ty := .ow 93 t12
@[reducible] def t16:Ty := .pr (.i .i64) t9
@[reducible] def t17:Ty := .pr (.i .i64) t10
@[reducible] def t18:Ty := .pr (.i .i64) (.ow 127 t6)
@[reducible] def t19:Ty := .pr (.i .i64) (.ow 127 t7)
@[reducible] def t20:Ty := .pr t4 (.pr (.i .i64) .b)
@[reducible] def t21:Ty := .pr t4 t9
@[reducible] def t22:Ty := .sl 88 t16
@[reducible] def t23:Ty := .ow 88 t16
@[reducible] def t24:Ty := .pr (.i .i64) (.pr (.i .i64) (.pr .b (.i .u8)))
@[reducible] def t25:Ty := .pr t16 (.pr .b t4)
@[reducible] def t26:Ty := .pr t16 (.pr .b t5)
@[reducible] def t27:Ty := .pr t13 t13
@[reducible] def t28:Ty := .pr .s (.pr t16 (.pr .b (.i .i64)))
@[reducible] def t29:Ty := .pr t14 t14
@[reducible] def t30:Ty := .pr t15 t15
@[reducible] def t31:Ty := .sl 96 t28
@[reducible] def t32:Ty := .ow 96 t28
@[reducible] def t33:Ty := .pr .s (.pr t25 .b)
@[reducible] def t34:Ty := .pr (.i .i64) (.pr (.i .i64) (.pr .s (.pr t4 (.pr (.i .i64) t6))))
@[reducible] def t35:Ty := .pr (.i .i64) (.pr (.i .i64) (.pr .s (.pr t5 (.pr (.i .i64) t7))))
@[reducible] def t36:Ty := .sl 71 t33
@[reducible] def t37:Ty := .ow 71 t33
@[reducible] def t38:Ty := .pr t16 (.pr t36 t0)
@[reducible] def t39:Ty := .pr t32 t32
@[reducible] def t40:Ty := .pr t31 t32
@[reducible] def t41:Ty := .pr (.i .i64) (.pr t27 (.pr t31 t31))
@[reducible] def t42:Ty := .pr (.i .i64) (.pr t29 t39)
@[reducible] def t43:Ty := .pr (.i .i64) (.pr t27 t39)
@[reducible] def t44:Ty := .pr (.i .i64) (.pr t29 t40)
@[reducible] def t45:Ty := .pr (.i .i64) (.pr t27 t40)
@[reducible] def t46:Ty := .sl 54 t41
@[reducible] def t47:Ty := .ow 54 t41
@[reducible] def t48:Ty := .pr t47 (.pr t16 (.pr t37 t2))
@[reducible] def t49:Ty := .pr t22 (.pr t17 (.pr t46 t38))
@[reducible] def t50:Ty := .pr t23 (.pr t17 (.pr t47 (.pr t16 (.pr t37 t0))))
@[reducible] def t51:Ty := .pr t23 (.pr t17 t48)
@[reducible] def t52:Ty := .pr t23 (.pr t18 t48)
@[reducible] def t53:Ty := .pr t23 (.pr t17 (.pr t47 t38))
def tiL:List (Nat×TI):=[(2,⟨(.i .i64),false,8,[]⟩),
 (3,⟨(.i .i64),false,8,[]⟩),
 (4,⟨.b,false,1,[]⟩),
 (5,⟨(.i .u8),false,1,[]⟩),
 (6,⟨(.i .u8),false,1,[]⟩),
 (7,⟨t24,true,24,[(0,1,false),(1,1,false),(2,1,false),(3,1,false)]⟩),
 (8,⟨t24,true,24,[(0,1,false),(1,1,false),(2,1,false),(3,1,false)]⟩),
 (9,⟨.s,false,16,[]⟩),
 (10,⟨.s,false,16,[]⟩),
 (11,⟨.s,false,16,[]⟩),
 (12,⟨(.i .u64),false,8,[]⟩),
 (13,⟨t8,true,24,[(0,1,false),(1,1,false)]⟩),
 (14,⟨t8,true,24,[(0,1,false),(1,1,false)]⟩),
 (21,⟨(.i .i32),false,4,[]⟩),
 (22,⟨t4,false,24,[]⟩),
 (24,⟨t22,false,24,[]⟩),
 (25,⟨t10,false,24,[]⟩),
 (26,⟨t17,true,32,[(0,1,false),(1,1,false)]⟩),
 (27,⟨t17,true,32,[(0,1,false),(1,1,false)]⟩),
 (28,⟨t46,false,24,[]⟩),
 (29,⟨t16,true,24,[(0,1,false),(1,1,false),(2,1,false)]⟩),
 (30,⟨t16,true,24,[(0,1,false),(1,1,false),(2,1,false)]⟩),
 (31,⟨t36,false,24,[]⟩),
 (32,⟨t0,false,24,[]⟩),
 (33,⟨t49,true,152,[(0,1,false),(1,2,true),(3,1,false),(4,3,true),(7,1,false),(8,1,false)]⟩),
 (34,⟨t49,true,152,[(0,1,false),(1,2,true),(3,1,false),(4,3,true),(7,1,false),(8,1,false)]⟩),
 (35,⟨t6,false,24,[]⟩),
 (36,⟨t34,true,88,[(0,1,false),(1,1,false),(2,1,false),(3,1,false),(4,1,false),(5,1,false)]⟩),
 (37,⟨t34,true,88,[(0,1,false),(1,1,false),(2,1,false),(3,1,false),(4,1,false),(5,1,false)]⟩),
 (44,⟨(.sl 37 t34),false,24,[]⟩),
 (49,⟨t13,false,24,[]⟩),
 (50,⟨t27,true,48,[(0,1,false),(1,1,false)]⟩),
 (51,⟨t27,true,48,[(0,1,false),(1,1,false)]⟩),
 (52,⟨t31,false,24,[]⟩),
 (53,⟨t41,true,104,[(0,1,false),(1,2,true),(3,1,false),(4,1,false)]⟩),
 (54,⟨t41,true,104,[(0,1,false),(1,2,true),(3,1,false),(4,1,false)]⟩),
 (61,⟨t25,true,56,[(0,3,true),(3,1,false),(4,1,false)]⟩),
 (62,⟨t25,true,56,[(0,3,true),(3,1,false),(4,1,false)]⟩),
 (70,⟨t33,true,80,[(0,1,false),(1,5,true),(6,1,false)]⟩),
 (71,⟨t33,true,80,[(0,1,false),(1,5,true),(6,1,false)]⟩),
 (87,⟨t16,true,24,[(0,1,false),(1,1,false),(2,1,false)]⟩),
 (88,⟨t16,true,24,[(0,1,false),(1,1,false),(2,1,false)]⟩),
 (92,⟨t11,true,40,[(0,1,false),(1,1,false)]⟩),
 (93,⟨t11,true,40,[(0,1,false),(1,1,false)]⟩),
 (95,⟨t28,true,56,[(0,1,false),(1,3,true),(4,1,false),(5,1,false)]⟩),
 (96,⟨t28,true,56,[(0,1,false),(1,3,true),(4,1,false),(5,1,false)]⟩),
 (115,⟨t21,true,40,[(0,1,false),(1,1,false),(2,1,false)]⟩),
 (116,⟨t21,true,40,[(0,1,false),(1,1,false),(2,1,false)]⟩),
 (126,⟨t6,true,24,[(0,1,false)]⟩),
 (127,⟨t6,true,24,[(0,1,false)]⟩),
 (168,⟨(.i .u64),false,8,[]⟩),
 (173,⟨t1,false,24,[]⟩),
 (190,⟨t20,true,40,[(0,1,false),(1,1,false),(2,1,false)]⟩),
 (191,⟨t20,true,40,[(0,1,false),(1,1,false),(2,1,false)]⟩),
 (240,⟨(.i .u32),false,4,[]⟩),
 (246,⟨(.i .u8),false,1,[]⟩),
 (247,⟨(.i .u8),false,1,[]⟩),
 (250,⟨(.i .i32),false,4,[]⟩),
 (251,⟨(.i .i32),false,4,[]⟩)]
def ti:TypeId→Option TI:=lk tiL
def Dsb:List Nat:=[29,30,87,88,95,96]
def eqs:TypeId→Bool:=λ T=>Dsb.contains T
def sK:Bza Tryz.prog ti eqs∧∀ T,W8 Tryz.prog ti T=true:=G9b (P:=Tryz.prog) (ti:=ti) (eqs:=eqs) (keys:=tiL.map Prod.fst) (Dsb:=Dsb) A7b (by kernel_rfl) (by kernel_rfl) rfl (by kernel_rfl)
def sO:Bza Tryz.prog ti eqs:=sK.1
def H2b:∀ T t,ti T=some t→TOk Tryz.prog T t:=sO.tok
def H3b:∀ T,W8 Tryz.prog ti T=true:=sK.2
abbrev CK:=R3 Tryz.prog
abbrev LL:=LK Tryz.prog
abbrev AC:=Cdb Tryz.prog
def mS {f:FuncId} {fn:Func} (D:Fd) (k:Nat) {en:Ent} (ids:List Nat) (hf:Tryz.prog.funcs[f]? = some fn) (hc:AC (D.cs k)) (hi:Ceb Tryz.prog fn D ids) (h:(G8b fn D en,No (bo fn),ids.map λ l=>first (Mv l (bo fn)))=(true,ids.map λ l=>Mv l (bo fn),ids):=by kernel_rfl) (hr:∀ x,Rja (D.n ti eqs k) (bo fn) fn.results.toList en x=en.run x:=by intro x;kernel_rfl):CK f en:=mkS sO ids hf hc hi (congrArg Prod.fst h) (congrArg Prod.snd h) hr
def mL {fn:Func} {D:Fd} {l:Nat} {p:LF} (ids:List Nat) (hc:∀ k,AC (D.cs k)) (hi:Ceb Tryz.prog fn D ids) (h:(Nat.beq D.nt fn.ntmps,No (Mv l (bo fn)),ids.map λ l=>first (Mv l (bo fn)))=(true,ids.map λ l=>Mv l (bo fn),ids):=by kernel_rfl) (h0:∀ x,p.f 0 x=none:=by intro _;rfl) (hs:Gwb ti eqs fn D l p:=by intro k x;kernel_rfl):LL fn D l p:=mkL sO ids (congrArg Prod.fst h) hc hi (congrArg Prod.snd h) h0 hs
def P4.e (k:Nat):Ent:=⟨1,[(.val false t4)],[(.one,.b)],λ x=>P4 x⟩
def P4.d:Fd := { nt:=6,nv:=1,nm:=[0,1],res:=[2] }
def P4.s (k:Nat):CK 9 (P4.e k):=mS P4.d k [] Tryz.func9 trivial trivial
def M5.e (k:Nat):Ent:=⟨1,[(.val false t4)],[(.ptr,t21)],λ x=>M5 k x⟩
def J9.p:LF:=⟨⟨[],[(0,t4),(3,(.i .i64)),(4,(.i .i64))]⟩,[((.exit 0),⟨[],[(0,t4),(3,(.i .i64))]⟩)],λ k x=>J9 k x.1 x.2.1 x.2.2⟩
def M5.d:Fd := { nt:=32,nv:=1,nm:=[0,1,3,4],res:=[2],ls:=[(3,J9.p)] }
def J9.s:LL Tryz.f34 M5.d 3 J9.p:=mL [] (λ _=>trivial) trivial
def M5.s (k:Nat):CK 34 (M5.e k):=mS M5.d k [3] Tryz.func34 trivial ⟨J9.s,trivial⟩
def Gn.e (k:Nat):Ent:=⟨1,[(.ptr t21 t21)],[(.one,(.i .i64))],λ x=>Gn x⟩
def Gn.d:Fd := { nt:=58,nv:=1,nm:=[0,1,3],res:=[2] }
def Gn.s (k:Nat):CK 85 (Gn.e k):=mS Gn.d k [] Tryz.func85 trivial trivial
def A3.e (k:Nat):Ent:=⟨2,[(.ptr t21 t21),(.val false (.i .i64))],[(.one,(.i .i64))],λ x=>A3 x.1 x.2⟩
def A3.d:Fd := { nt:=31,nv:=2,nm:=[0,1,2,3,5,6,7],res:=[4],cs:=λ k=>[(85,Gn.e k)] }
def A3.s (k:Nat):CK 37 (A3.e k):=mS A3.d k [] Tryz.func37 ⟨Gn.s k,trivial⟩ trivial
def Aa.e (k:Nat):Ent:=⟨2,[(.ptr t21 t21),(.val false t6)],[(.one,(.i .i64))],λ x=>Aa x.1 x.2⟩
def Aa.d:Fd := { nt:=12,nv:=2,nm:=[0,1,2,3],res:=[4],cs:=λ k=>[(37,A3.e k)] }
def Aa.s (k:Nat):CK 39 (Aa.e k):=mS Aa.d k [] Tryz.func39 ⟨A3.s k,trivial⟩ trivial
def L7.e (k:Nat):Ent:=⟨2,[(.ptr t21 t21),(.val false t0)],[(.one,.s)],λ x=>L7 x.1 x.2⟩
def L7.d:Fd := { nt:=12,nv:=2,nm:=[0,1,2,3],res:=[4],cs:=λ k=>[(37,A3.e k)] }
def L7.s (k:Nat):CK 115 (L7.e k):=mS L7.d k [] Tryz.func115 ⟨A3.s k,trivial⟩ trivial
def Bj.e (k:Nat):Ent:=⟨1,[(.ptr t21 t21)],[(.one,.s)],λ x=>Bj x⟩
def Bj.d:Fd := { nt:=6,nv:=1,nm:=[0,1],res:=[2],cs:=λ k=>[(115,L7.e k)] }
def Bj.s (k:Nat):CK 86 (Bj.e k):=mS Bj.d k [] Tryz.func86 ⟨L7.s k,trivial⟩ trivial
def Du.e (k:Nat):Ent:=⟨1,[(.ptr t21 t21)],[(.one,t7)],λ x=>Du k x⟩
def Gp.p:LF:=⟨⟨[(0,(.bp 0 0 0)),(1999,(.hd 3))],[(3,t7),(4,(.i .i64)),(1000,t21)]⟩,[((.exit 0),⟨[(1999,(.hd 3))],[(3,t7),(1000,t21)]⟩)],λ k x=>Gp k x.1 x.2.1 x.2.2⟩
def Du.d:Fd := { nt:=17,nv:=1,nm:=[0,1,3,4],res:=[2],cs:=λ k=>[(39,Aa.e k)],ls:=[(3,Gp.p)],rf:=true }
def Du.a (k:Nat):AC (Du.d.cs k):=⟨Aa.s k,trivial⟩
def Gp.s:LL Tryz.f87 Du.d 3 Gp.p:=mL [] Du.a trivial
def Du.s (k:Nat):CK 87 (Du.e k):=mS Du.d k [3] Tryz.func87 (Du.a k) ⟨Gp.s,trivial⟩
def Gr.e (k:Nat):Ent:=⟨2,[(.ptr t21 t21),(.val false (.i .i64))],[(.one,t5)],λ x=>Gr k x.1 x.2⟩
def Gq.p:LF:=⟨⟨[(0,(.bp 0 0 0)),(1999,(.hd 3))],[(1,(.i .i64)),(5,t5),(6,(.i .i64)),(1000,t4),(1001,(.i .i64)),(1002,(.i .i64))]⟩,[((.exit 0),⟨[(1999,(.hd 3))],[(5,t5),(1000,t4),(1001,(.i .i64)),(1002,(.i .i64))]⟩)],λ k x=>Gq k x.1 x.2.1 x.2.2.1 x.2.2.2.1 x.2.2.2.2.1 x.2.2.2.2.2⟩
def Gr.d:Fd := { nt:=20,nv:=2,nm:=[0,1,2,3,5,6],res:=[4],cs:=λ k=>[(85,Gn.e k)],ls:=[(3,Gq.p)] }
def Gr.a (k:Nat):AC (Gr.d.cs k):=⟨Gn.s k,trivial⟩
def Gq.s:LL Tryz.f150 Gr.d 3 Gq.p:=mL [] Gr.a trivial
def Gr.s (k:Nat):CK 150 (Gr.e k):=mS Gr.d k [3] Tryz.func150 (Gr.a k) ⟨Gq.s,trivial⟩
def Di.e (k:Nat):Ent:=⟨1,[(.ptr t21 t21)],[(.one,t5)],λ x=>Di k x⟩
def Di.d:Fd := { nt:=8,nv:=1,nm:=[0,1],res:=[2],cs:=λ k=>[(39,Aa.e k),(150,Gr.e k)] }
def Di.s (k:Nat):CK 88 (Di.e k):=mS Di.d k [] Tryz.func88 ⟨Aa.s k,Gr.s k,trivial⟩ trivial
def A9.e (k:Nat):Ent:=⟨3,[(.val false (.i .i64)),(.val false (.i .i64)),(.val false (.i .i64))],[(.one,.b)],λ x=>A9 x.1 x.2.1 x.2.2⟩
def A9.d:Fd := { nt:=15,nv:=3,nm:=[0,1,2,3,4,5],res:=[6] }
def A9.s (k:Nat):CK 97 (A9.e k):=mS A9.d k [] Tryz.func97 trivial trivial
def Cn.e (k:Nat):Ent:=⟨1,[(.val true t16)],[(.one,.b)],λ x=>Cn x⟩
def Cn.d:Fd := { nt:=16,nv:=1,nm:=[0,1],res:=[2],cs:=λ k=>[(97,A9.e k)] }
def Cn.s (k:Nat):CK 77 (Cn.e k):=mS Cn.d k [] Tryz.func77 ⟨A9.s k,trivial⟩ trivial
def Ce.e (k:Nat):Ent:=⟨1,[(.val true t25)],[(.one,.b)],λ x=>Ce x⟩
def Ce.d:Fd := { nt:=23,nv:=1,nm:=[0,1],res:=[2],cs:=λ k=>[(77,Cn.e k)] }
def Ce.s (k:Nat):CK 78 (Ce.e k):=mS Ce.d k [] Tryz.func78 ⟨Cn.s k,trivial⟩ trivial
def Em.e (k:Nat):Ent:=⟨2,[(.val false t4),(.val false (.i .i64))],[(.one,(.i .i64)),(.one,(.i .i64)),(.one,.b)],λ x=>Em k x.1 x.2⟩
def Fz.p:LF:=⟨⟨[],[(0,t4),(1,(.i .i64)),(7,(.i .i64)),(8,(.i .i64))]⟩,[(.ret,⟨[],[(4,(.i .i64)),(5,(.i .i64)),(6,.b)]⟩),((.exit 0),⟨[],[]⟩)],λ k x=>Fz k x.1 x.2.1 x.2.2.1 x.2.2.2⟩
def Em.d:Fd := { nt:=64,nv:=2,nm:=[0,1,2,3,7,8,9],res:=[4,5,6],ls:=[(3,Fz.p)] }
def Fz.s:LL Tryz.f200 Em.d 3 Fz.p:=mL [] (λ _=>trivial) trivial
def Em.s (k:Nat):CK 200 (Em.e k):=mS Em.d k [3] Tryz.func200 trivial ⟨Fz.s,trivial⟩
def Gt.e (k:Nat):Ent:=⟨2,[(.val false t4),(.val false (.i .i64))],[(.agg,t16),(.one,(.i .i64)),(.one,.b)],λ x=>Gt k x.1 x.2⟩
def Gt.d:Fd := { nt:=49,nv:=2,nm:=[0,1,2,3,7,8,9,10,11,12,13,14,15],res:=[5,6],cs:=λ k=>[(200,Em.e k)] }
def Gt.s (k:Nat):CK 199 (Gt.e k):=mS Gt.d k [] Tryz.func199 ⟨Em.s k,trivial⟩ trivial
def Kj.e (k:Nat):Ent:=⟨2,[(.val false t4),(.val false (.i .i64))],[(.one,.s),(.one,(.i .i64)),(.one,.b)],λ x=>Kj k x.1 x.2⟩
def Kj.d:Fd := { nt:=37,nv:=2,nm:=[0,1,2,3,7,8,9],res:=[4,5,6],cs:=λ k=>[(200,Em.e k)] }
def Kj.s (k:Nat):CK 201 (Kj.e k):=mS Kj.d k [] Tryz.func201 ⟨Em.s k,trivial⟩ trivial
def Eo.e (k:Nat):Ent:=⟨2,[(.val false t4),(.val false (.i .i64))],[(.one,t5)],λ x=>Eo k x.1 x.2⟩
def Ea.p:LF:=⟨⟨[],[(1,(.i .i64)),(5,t5)]⟩,[((.exit 0),⟨[],[(1,(.i .i64)),(5,t5)]⟩)],λ k x=>Ea k x.1 x.2⟩
def Eo.d:Fd := { nt:=29,nv:=2,nm:=[0,1,2,3,5],res:=[4],ls:=[(6,Ea.p)] }
def Ea.s:LL Tryz.f241 Eo.d 6 Ea.p:=mL [] (λ _=>trivial) trivial
def Eo.s (k:Nat):CK 241 (Eo.e k):=mS Eo.d k [6] Tryz.func241 trivial ⟨Ea.s,trivial⟩
def Kk.e (k:Nat):Ent:=⟨2,[(.val false t4),(.val false .s)],[(.one,t5)],λ x=>Kk k x.1 x.2⟩
def Kk.d:Fd := { nt:=11,nv:=2,nm:=[0,1,2,3],res:=[4],cs:=λ k=>[(241,Eo.e k)] }
def Kk.s (k:Nat):CK 240 (Kk.e k):=mS Kk.d k [] Tryz.func240 ⟨Eo.s k,trivial⟩ trivial
def Kl.e (k:Nat):Ent:=⟨2,[(.val false t4),(.val true t16)],[(.one,t5)],λ x=>Kl k x.1 x.2⟩
def Kl.d:Fd := { nt:=15,nv:=2,nm:=[0,1,2,3],res:=[4],cs:=λ k=>[(241,Eo.e k)] }
def Kl.s (k:Nat):CK 242 (Kl.e k):=mS Kl.d k [] Tryz.func242 ⟨Eo.s k,trivial⟩ trivial
def Mc.e (k:Nat):Ent:=⟨1,[(.val false .b)],[(.one,(.i .i64))],λ x=>Mc x⟩
def Mc.d:Fd := { nt:=4,nv:=1,nm:=[0,1],res:=[2] }
def Mc.s (k:Nat):CK 243 (Mc.e k):=mS Mc.d k [] Tryz.func243 trivial trivial
def My.e (k:Nat):Ent:=⟨1,[(.val false t4)],[(.one,(.i .i64))],λ x=>My k x⟩
def Ix.p:LF:=⟨⟨[],[(0,t4),(3,(.i .i64)),(4,(.i .i64)),(5,(.i .i64))]⟩,[((.exit 2),⟨[],[(0,t4),(3,(.i .i64)),(4,(.i .i64))]⟩)],λ k x=>Ix k x.1 x.2.1 x.2.2.1 x.2.2.2⟩
def Ja.p:LF:=⟨⟨[],[(0,t4),(3,(.i .i64)),(4,(.i .i64))]⟩,[((.exit 0),⟨[],[(3,(.i .i64))]⟩)],λ k x=>Ja k x.1 x.2.1 x.2.2⟩
def My.d:Fd := { nt:=34,nv:=1,nm:=[0,1,3,4,5,6],res:=[2],ls:=[(7,Ix.p),(3,Ja.p)] }
def Ix.s:LL Tryz.f244 My.d 7 Ix.p:=mL [] (λ _=>trivial) trivial
def Ja.s:LL Tryz.f244 My.d 3 Ja.p:=mL [7] (λ _=>trivial) ⟨Ix.s,trivial⟩
def My.s (k:Nat):CK 244 (My.e k):=mS My.d k [3] Tryz.func244 trivial ⟨Ja.s,trivial⟩
def Bw.e (k:Nat):Ent:=⟨1,[(.val true t25)],[(.one,t5)],λ x=>Bw k x⟩
def Bw.d:Fd := { nt:=37,nv:=1,nm:=[0,1,3,4],res:=[2],cs:=λ k=>[(78,Ce.e k),(240,Kk.e k),(241,Eo.e k),(242,Kl.e k),(243,Mc.e k),(244,My.e k)] }
def Bw.s (k:Nat):CK 202 (Bw.e k):=mS Bw.d k [] Tryz.func202 ⟨Ce.s k,Kk.s k,Eo.s k,Kl.s k,Mc.s k,My.s k,trivial⟩ trivial
def Hs.e (k:Nat):Ent:=⟨1,[(.val false t4)],[(.agg,t26),(.one,.b)],λ x=>Hs k x⟩
def Hs.d:Fd := { nt:=76,nv:=1,nm:=[0,1,4,5,6,7,8,9,10,11,12,13],res:=[3],cs:=λ k=>[(78,Ce.e k),(199,Gt.e k),(200,Em.e k),(201,Kj.e k),(202,Bw.e k)],mv:=[75] }
def Hs.s (k:Nat):CK 151 (Hs.e k):=mS Hs.d k [] Tryz.func151 ⟨Ce.s k,Gt.s k,Em.s k,Kj.s k,Bw.s k,trivial⟩ trivial
def Iy.e (k:Nat):Ent:=⟨2,[(.val false t0),(.val false .s)],[(.one,.b)],λ x=>Iy k x.1 x.2⟩
def Hz.p:LF:=⟨⟨[],[(0,t0),(1,.s),(5,(.i .i64))]⟩,[(.ret,⟨[],[(4,.b)]⟩),((.exit 0),⟨[],[]⟩)],λ k x=>Hz k x.1 x.2.1 x.2.2⟩
def Iy.d:Fd := { nt:=18,nv:=2,nm:=[0,1,2,3,5],res:=[4],ls:=[(2,Hz.p)],rf:=true }
def Hz.s:LL Tryz.f152 Iy.d 2 Hz.p:=mL [] (λ _=>trivial) trivial
def Iy.s (k:Nat):CK 152 (Iy.e k):=mS Iy.d k [2] Tryz.func152 trivial ⟨Hz.s,trivial⟩
def Ec.e (k:Nat):Ent:=⟨2,[(.val false t13),(.val false .s)],[(.one,(.i .i64))],λ x=>Ec k x.1 x.2⟩
def Km.p:LF:=⟨⟨[],[(0,t13),(1,.s),(5,(.i .i64))]⟩,[(.ret,⟨[],[(4,(.i .i64))]⟩),((.exit 0),⟨[],[]⟩)],λ k x=>Km k x.1 x.2.1 x.2.2⟩
def Ec.d:Fd := { nt:=20,nv:=2,nm:=[0,1,2,3,5],res:=[4],ls:=[(2,Km.p)] }
def Km.s:LL Tryz.f153 Ec.d 2 Km.p:=mL [] (λ _=>trivial) trivial
def Ec.s (k:Nat):CK 153 (Ec.e k):=mS Ec.d k [2] Tryz.func153 trivial ⟨Km.s,trivial⟩
def Gd.e (k:Nat):Ent:=⟨1,[(.val true t27)],[(.one,t2)],λ x=>Gd k x⟩
def Ko.p:LF:=⟨⟨[(1,(.bp 1 0 0)),(2999,(.hd 2))],[(3,t2),(4,(.i .i64)),(7,(.i .i64)),(2000,t27)]⟩,[((.exit 2),⟨[(1,(.bp 1 0 0)),(2999,(.hd 2))],[(3,t2),(4,(.i .i64)),(7,(.i .i64)),(2000,t27)]⟩)],λ k x=>Ko k x.1 x.2.1 x.2.2.1 x.2.2.2⟩
def Ht.p:LF:=⟨⟨[(1,(.bp 1 0 0)),(2999,(.hd 2))],[(3,t2),(4,(.i .i64)),(2000,t27)]⟩,[((.exit 0),⟨[],[(3,t2)]⟩)],λ k x=>Ht k x.1 x.2.1 x.2.2⟩
def Gd.d:Fd := { nt:=98,nv:=1,nm:=[0,1,3,4,5,6,7],res:=[2],cs:=λ k=>[(151,Hs.e k),(152,Iy.e k),(153,Ec.e k)],ls:=[(9,Ko.p),(3,Ht.p)],rf:=true }
def Gd.a (k:Nat):AC (Gd.d.cs k):=⟨Hs.s k,Iy.s k,Ec.s k,trivial⟩
def Ko.s:LL Tryz.f89 Gd.d 9 Ko.p:=mL [] Gd.a trivial
def Ht.s:LL Tryz.f89 Gd.d 3 Ht.p:=mL [9] Gd.a ⟨Ko.s,trivial⟩
def Gd.s (k:Nat):CK 89 (Gd.e k):=mS Gd.d k [3] Tryz.func89 (Gd.a k) ⟨Ht.s,trivial⟩
def Ar.e (k:Nat):Ent:=⟨1,[(.val false .s)],[(.one,.b)],λ x=>Ar k x⟩
def Eb.p:LF:=⟨⟨[],[(0,.s),(3,(.i .i64))]⟩,[(.ret,⟨[],[(2,.b)]⟩),((.exit 0),⟨[],[(0,.s)]⟩)],λ k x=>Eb k x.1 x.2⟩
def Ar.d:Fd := { nt:=38,nv:=1,nm:=[0,1,3,4],res:=[2],cs:=λ k=>[(97,A9.e k)],ls:=[(2,Eb.p)] }
def Ar.a (k:Nat):AC (Ar.d.cs k):=⟨A9.s k,trivial⟩
def Eb.s:LL Tryz.f62 Ar.d 2 Eb.p:=mL [] Ar.a trivial
def Ar.s (k:Nat):CK 62 (Ar.e k):=mS Ar.d k [2] Tryz.func62 (Ar.a k) ⟨Eb.s,trivial⟩
def I0.e (k:Nat):Ent:=⟨3,[(.val true t16),(.val false (.i .i64)),(.val false (.i .i64))],[(.agg,t16)],λ x=>I0 x.1 x.2.1 x.2.2⟩
def I0.d:Fd := { nt:=27,nv:=3,nm:=[0,1,2,3,4,5,7],res:=[],cs:=λ k=>[(77,Cn.e k)],rf:=true }
def I0.s (k:Nat):CK 130 (I0.e k):=mS I0.d k [] Tryz.func130 ⟨Cn.s k,trivial⟩ trivial
def C2.e (k:Nat):Ent:=⟨1,[(.val true t25)],[(.agg,t26)],λ x=>C2 x⟩
def C2.d:Fd := { nt:=9,nv:=1,nm:=[0,1],res:=[],mv:=[8],rf:=true }
def C2.s (k:Nat):CK 96 (C2.e k):=mS C2.d k [] Tryz.func96 trivial trivial
def Bm.e (k:Nat):Ent:=⟨2,[(.val true t49),(.val false t6)],[(.one,t7)],λ x=>Bm k x.1 x.2⟩
def Cr.p:LF:=⟨⟨[(2,(.bp 2 0 0)),(3999,(.hd 9))],[(1,t6),(5,t7),(6,(.i .i64)),(7,(.i .i64)),(3000,t49)]⟩,[((.exit 2),⟨[(2,(.bp 2 0 0)),(3999,(.hd 9))],[(1,t6),(5,t7),(6,(.i .i64)),(3000,t49)]⟩)],λ k x=>Cr k x.1 x.2.1 x.2.2.1 x.2.2.2.1 x.2.2.2.2⟩
def Ep.p:LF:=⟨⟨[(2,(.bp 2 0 0)),(3999,(.hd 9))],[(1,t6),(5,t7),(6,(.i .i64)),(3000,t49)]⟩,[((.exit 0),⟨[],[(5,t7)]⟩)],λ k x=>Ep k x.1 x.2.1 x.2.2.1 x.2.2.2⟩
def Bm.d:Fd := { nt:=38,nv:=2,nm:=[0,1,2,3,5,6,7],res:=[4],ls:=[(6,Cr.p),(3,Ep.p)],rf:=true }
def Cr.s:LL Tryz.f176 Bm.d 6 Cr.p:=mL [] (λ _=>trivial) trivial
def Ep.s:LL Tryz.f176 Bm.d 3 Ep.p:=mL [6] (λ _=>trivial) ⟨Cr.s,trivial⟩
def Bm.s (k:Nat):CK 176 (Bm.e k):=mS Bm.d k [3] Tryz.func176 trivial ⟨Ep.s,trivial⟩
def N3.e (k:Nat):Ent:=⟨1,[(.val false .s)],[(.one,(.i .i64))],λ x=>N3 k x⟩
def Kq.p:LF:=⟨⟨[],[(0,.s),(3,(.i .i64)),(4,(.i .i64))]⟩,[((.exit 0),⟨[],[(3,(.i .i64))]⟩)],λ k x=>Kq k x.1 x.2.1 x.2.2⟩
def N3.d:Fd := { nt:=20,nv:=1,nm:=[0,1,3,4],res:=[2],ls:=[(3,Kq.p)],rf:=true }
def Kq.s:LL Tryz.f259 N3.d 3 Kq.p:=mL [] (λ _=>trivial) trivial
def N3.s (k:Nat):CK 259 (N3.e k):=mS N3.d k [3] Tryz.func259 trivial ⟨Kq.s,trivial⟩
def Md.e (k:Nat):Ent:=⟨2,[(.val false .s),(.val false (.i .i64))],[(.one,(.i .i64))],λ x=>Md k x.1 x.2⟩
def Md.d:Fd := { nt:=11,nv:=2,nm:=[0,1,2,3],res:=[4],cs:=λ k=>[(259,N3.e k)],rf:=true }
def Md.s (k:Nat):CK 225 (Md.e k):=mS Md.d k [] Tryz.func225 ⟨N3.s k,trivial⟩ trivial
def Bn.e (k:Nat):Ent:=⟨2,[(.val true t17),(.val false .s)],[(.one,t7)],λ x=>Bn k x.1 x.2⟩
def Bn.d:Fd := { nt:=22,nv:=2,nm:=[0,1,2,3],res:=[4],cs:=λ k=>[(225,Md.e k)],rf:=true }
def Bn.s (k:Nat):CK 177 (Bn.e k):=mS Bn.d k [] Tryz.func177 ⟨Md.s k,trivial⟩ trivial
def Da.e (k:Nat):Ent:=⟨2,[(.val false t6),(.val false (.i .i64))],[(.one,.b)],λ x=>Da k x.1 x.2⟩
def Jb.p:LF:=⟨⟨[],[(0,t6),(1,(.i .i64)),(5,(.i .i64))]⟩,[(.ret,⟨[],[(4,.b)]⟩),((.exit 0),⟨[],[]⟩)],λ k x=>Jb k x.1 x.2.1 x.2.2⟩
def Da.d:Fd := { nt:=18,nv:=2,nm:=[0,1,2,3,5],res:=[4],ls:=[(2,Jb.p)],rf:=true }
def Jb.s:LL Tryz.f190 Da.d 2 Jb.p:=mL [] (λ _=>trivial) trivial
def Da.s (k:Nat):CK 190 (Da.e k):=mS Da.d k [2] Tryz.func190 trivial ⟨Jb.s,trivial⟩
def Fb.e (k:Nat):Ent:=⟨2,[(.val false t22),(.val false (.i .i64))],[(.agg,t16),(.one,.b)],λ x=>Fb k x.1 x.2⟩
def Jc.p:LF:=⟨⟨[(4,(.bp 4 0 0)),(5999,(.hd 3))],[(0,t22),(1,(.i .i64)),(6,(.i .i64)),(5000,t16)]⟩,[(.ret,⟨[(4,(.bp 4 0 0)),(5999,(.hd 3))],[(5,.b),(5000,t16)]⟩),((.exit 0),⟨[(4,(.bp 4 0 0)),(5999,(.hd 3))],[(5000,t16)]⟩)],λ k x=>Jc k x.1 x.2.1 x.2.2.1 x.2.2.2⟩
def Fb.d:Fd := { nt:=25,nv:=2,nm:=[0,1,2,3,6],res:=[5],ls:=[(2,Jc.p)],rf:=true }
def Jc.s:LL Tryz.f139 Fb.d 2 Jc.p:=mL [] (λ _=>trivial) trivial
def Fb.s (k:Nat):CK 139 (Fb.e k):=mS Fb.d k [2] Tryz.func139 trivial ⟨Jc.s,trivial⟩
def Dv.e (k:Nat):Ent:=⟨2,[(.val false t6),(.val false t22)],[(.one,t7)],λ x=>Dv k x.1 x.2⟩
def Er.p:LF:=⟨⟨[],[(0,t6),(1,t22),(5,t7),(6,(.i .i64))]⟩,[((.exit 0),⟨[],[(5,t7)]⟩)],λ k x=>Er k x.1 x.2.1 x.2.2.1 x.2.2.2⟩
def Dv.d:Fd := { nt:=39,nv:=2,nm:=[0,1,2,3,5,6,7,8],res:=[4],cs:=λ k=>[(139,Fb.e k),(190,Da.e k)],ls:=[(3,Er.p)],rf:=true }
def Dv.a (k:Nat):AC (Dv.d.cs k):=⟨Fb.s k,Da.s k,trivial⟩
def Er.s:LL Tryz.f226 Dv.d 3 Er.p:=mL [] Dv.a trivial
def Dv.s (k:Nat):CK 226 (Dv.e k):=mS Dv.d k [3] Tryz.func226 (Dv.a k) ⟨Er.s,trivial⟩
def D5.e (k:Nat):Ent:=⟨3,[(.val true t17),(.val false t22),(.val false .s)],[(.one,t7)],λ x=>D5 k x.1 x.2.1 x.2.2⟩
def Ct.p:LF:=⟨⟨[],[(1,t22),(7,t7),(8,t7),(9,t7),(10,(.i .i64)),(11,(.i .i64))]⟩,[((.exit 2),⟨[],[(1,t22),(7,t7),(8,t7),(9,t7),(10,(.i .i64))]⟩)],λ k x=>Ct k x.1 x.2.1 x.2.2.1 x.2.2.2.1 x.2.2.2.2.1 x.2.2.2.2.2⟩
def Fk.p:LF:=⟨⟨[],[(1,t22),(7,t7),(8,t7),(9,t7),(10,(.i .i64))]⟩,[((.exit 0),⟨[],[(9,t7)]⟩)],λ k x=>Fk k x.1 x.2.1 x.2.2.1 x.2.2.2.1 x.2.2.2.2⟩
def D5.d:Fd := { nt:=58,nv:=3,nm:=[0,1,2,3,4,5,7,8,9,10,11],res:=[6],cs:=λ k=>[(177,Bn.e k),(190,Da.e k),(226,Dv.e k)],ls:=[(8,Ct.p),(5,Fk.p)],rf:=true }
def D5.a (k:Nat):AC (D5.d.cs k):=⟨Bn.s k,Da.s k,Dv.s k,trivial⟩
def Ct.s:LL Tryz.f178 D5.d 8 Ct.p:=mL [] D5.a trivial
def Fk.s:LL Tryz.f178 D5.d 5 Fk.p:=mL [8] D5.a ⟨Ct.s,trivial⟩
def D5.s (k:Nat):CK 178 (D5.e k):=mS D5.d k [5] Tryz.func178 (D5.a k) ⟨Fk.s,trivial⟩
def Fl.e (k:Nat):Ent:=⟨2,[(.val true t49),(.val false .s)],[(.one,t7)],λ x=>Fl k x.1 x.2⟩
def Fl.d:Fd := { nt:=20,nv:=2,nm:=[0,1,2,3],res:=[4],cs:=λ k=>[(176,Bm.e k),(177,Bn.e k),(178,D5.e k)],rf:=true }
def Fl.s (k:Nat):CK 118 (Fl.e k):=mS Fl.d k [] Tryz.func118 ⟨Bm.s k,Bn.s k,D5.s k,trivial⟩ trivial
def Ck.e (k:Nat):Ent:=⟨2,[(.val false t6),(.val false (.i .i64))],[(.one,(.i .i64))],λ x=>Ck x.1 x.2⟩
def Ck.d:Fd := { nt:=21,nv:=2,nm:=[0,1,2,3],res:=[4],cs:=λ k=>[(97,A9.e k)],rf:=true }
def Ck.s (k:Nat):CK 119 (Ck.e k):=mS Ck.d k [] Tryz.func119 ⟨A9.s k,trivial⟩ trivial
def Ge.e (k:Nat):Ent:=⟨2,[(.val true t27),(.val false .s)],[(.one,t5),(.one,.b)],λ x=>Ge k x.1 x.2⟩
def Ge.d:Fd := { nt:=22,nv:=2,nm:=[0,1,2,3,6],res:=[4,5],cs:=λ k=>[(153,Ec.e k)] }
def Ge.s (k:Nat):CK 179 (Ge.e k):=mS Ge.d k [] Tryz.func179 ⟨Ec.s k,trivial⟩ trivial
def J2.e (k:Nat):Ent:=⟨2,[(.val true t27),(.val false .s)],[(.agg,t26),(.one,(.i .i64))],λ x=>J2 k x.1 x.2⟩
def J2.d:Fd := { nt:=28,nv:=2,nm:=[0,1,2,3,6,7,8,9],res:=[5],cs:=λ k=>[(151,Hs.e k),(179,Ge.e k)],mv:=[27] }
def J2.s (k:Nat):CK 120 (J2.e k):=mS J2.d k [] Tryz.func120 ⟨Hs.s k,Ge.s k,trivial⟩ trivial
def Co.e (k:Nat):Ent:=⟨2,[(.val true t16),(.val true t16)],[(.one,.b)],λ x=>Co x.1 x.2⟩
def Co.d:Fd := { nt:=32,nv:=2,nm:=[0,1,2,3],res:=[4] }
def Co.s (k:Nat):CK 79 (Co.e k):=mS Co.d k [] Tryz.func79 trivial trivial
def Mj.e (k:Nat):Ent:=⟨2,[(.val true t25),(.val true t25)],[(.one,.b)],λ x=>Mj x.1 x.2⟩
def Mj.d:Fd := { nt:=10,nv:=2,nm:=[0,1,2,3],res:=[4],cs:=λ k=>[(79,Co.e k)] }
def Mj.s (k:Nat):CK 121 (Mj.e k):=mS Mj.d k [] Tryz.func121 ⟨Co.s k,trivial⟩ trivial
def Bs.e (k:Nat):Ent:=⟨1,[(.val false t13)],[(.one,t14)],λ x=>Bs k x⟩
def Cu.p:LF:=⟨⟨[],[(0,t13),(3,t14),(4,(.i .i64))]⟩,[((.exit 0),⟨[],[(3,t14)]⟩)],λ k x=>Cu k x.1 x.2.1 x.2.2⟩
def Bs.d:Fd := { nt:=29,nv:=1,nm:=[0,1,3,4],res:=[2],ls:=[(3,Cu.p)] }
def Cu.s:LL Tryz.f207 Bs.d 3 Cu.p:=mL [] (λ _=>trivial) trivial
def Bs.s (k:Nat):CK 207 (Bs.e k):=mS Bs.d k [3] Tryz.func207 trivial ⟨Cu.s,trivial⟩
def Hl.e (k:Nat):Ent:=⟨1,[(.val false t13)],[(.one,t15)],λ x=>Hl k x⟩
def Ju.p:LF:=⟨⟨[],[(0,t13),(3,t15),(4,(.i .i64))]⟩,[((.exit 0),⟨[],[(3,t15)]⟩)],λ k x=>Ju k x.1 x.2.1 x.2.2⟩
def Hl.d:Fd := { nt:=29,nv:=1,nm:=[0,1,3,4],res:=[2],ls:=[(3,Ju.p)],hint:=[(5,t12),(26,t12),(27,t12)] }
def Ju.s:LL Tryz.f207 Hl.d 3 Ju.p:=mL [] (λ _=>trivial) trivial
def Hl.s (k:Nat):CK 207 (Hl.e k):=mS Hl.d k [3] Tryz.func207 trivial ⟨Ju.s,trivial⟩
def A7.e (k:Nat):Ent:=⟨1,[(.val true t27)],[(.agg,t29)],λ x=>A7 k x⟩
def A7.d:Fd := { nt:=10,nv:=1,nm:=[0,1],res:=[],cs:=λ k=>[(207,Bs.e k)] }
def A7.s (k:Nat):CK 159 (A7.e k):=mS A7.d k [] Tryz.func159 ⟨Bs.s k,trivial⟩ trivial
def Li.e (k:Nat):Ent:=⟨1,[(.val true t27)],[(.agg,t30)],λ x=>Li k x⟩
def Li.d:Fd := { nt:=10,nv:=1,nm:=[0,1],res:=[],cs:=λ k=>[(207,Hl.e k)] }
def Li.s (k:Nat):CK 159 (Li.e k):=mS Li.d k [] Tryz.func159 ⟨Hl.s k,trivial⟩ trivial
def Gu.e (k:Nat):Ent:=⟨1,[(.val false t13)],[(.one,.b)],λ x=>Gu k x⟩
def Hb.p:LF:=⟨⟨[],[(0,t13),(3,(.i .i64))]⟩,[(.ret,⟨[],[(2,.b)]⟩),((.exit 0),⟨[],[(0,t13)]⟩)],λ k x=>Hb k x.1 x.2⟩
def Gu.d:Fd := { nt:=47,nv:=1,nm:=[0,1,3],res:=[2],cs:=λ k=>[(62,Ar.e k)],ls:=[(2,Hb.p)] }
def Gu.a (k:Nat):AC (Gu.d.cs k):=⟨Ar.s k,trivial⟩
def Hb.s:LL Tryz.f234 Gu.d 2 Hb.p:=mL [] Gu.a trivial
def Gu.s (k:Nat):CK 234 (Gu.e k):=mS Gu.d k [2] Tryz.func234 (Gu.a k) ⟨Hb.s,trivial⟩
def Bz.e (k:Nat):Ent:=⟨1,[(.val true t27)],[(.one,.b)],λ x=>Bz k x⟩
def Bz.d:Fd := { nt:=11,nv:=1,nm:=[0,1],res:=[2],cs:=λ k=>[(234,Gu.e k)] }
def Bz.s (k:Nat):CK 192 (Bz.e k):=mS Bz.d k [] Tryz.func192 ⟨Gu.s k,trivial⟩ trivial
def K6.e (k:Nat):Ent:=⟨2,[(.val false t13),(.val false .s)],[(.one,t14)],λ x=>K6 k x.1 x.2⟩
def Ir.p:LF:=⟨⟨[],[(0,t13),(1,.s),(5,t14),(6,(.i .i64))]⟩,[((.exit 0),⟨[],[(5,t14)]⟩)],λ k x=>Ir k x.1 x.2.1 x.2.2.1 x.2.2.2⟩
def K6.d:Fd := { nt:=29,nv:=2,nm:=[0,1,2,3,5,6],res:=[4],ls:=[(3,Ir.p)] }
def Ir.s:LL Tryz.f250 K6.d 3 Ir.p:=mL [] (λ _=>trivial) trivial
def K6.s (k:Nat):CK 250 (K6.e k):=mS K6.d k [3] Tryz.func250 trivial ⟨Ir.s,trivial⟩
def Fe.e (k:Nat):Ent:=⟨3,[(.val true t27),(.val true t29),(.val false .s)],[(.agg,t29),(.one,.b)],λ x=>Fe k x.1 x.2.1 x.2.2⟩
def Fe.d:Fd := { nt:=24,nv:=3,nm:=[0,1,2,3,4,5],res:=[7],cs:=λ k=>[(62,Ar.e k),(159,A7.e k),(192,Bz.e k)],mv:=[23] }
def Fe.s (k:Nat):CK 251 (Fe.e k):=mS Fe.d k [] Tryz.func251 ⟨Ar.s k,A7.s k,Bz.s k,trivial⟩ trivial
def Gk.e (k:Nat):Ent:=⟨3,[(.val false t13),(.val false .s),(.val false t4)],[(.one,t14)],λ x=>Gk k x.1 x.2.1 x.2.2⟩
def D6.p:LF:=⟨⟨[(9,(.bp 9 0 0)),(10999,(.hd 2))],[(0,t13),(1,.s),(7,t14),(8,.b),(10,(.i .i64)),(10000,.s),(10001,t4)]⟩,[((.exit 0),⟨[(9,(.bp 9 0 0)),(10999,(.hd 2))],[(7,t14),(8,.b),(10000,.s),(10001,t4)]⟩)],λ k x=>D6 k x.1 x.2.1 x.2.2.1 x.2.2.2.1 x.2.2.2.2.1 x.2.2.2.2.2.1 x.2.2.2.2.2.2⟩
def Gk.d:Fd := { nt:=59,nv:=3,nm:=[0,1,2,3,4,5,7,8,9,10],res:=[6],ls:=[(5,D6.p)] }
def D6.s:LL Tryz.f252 Gk.d 5 D6.p:=mL [] (λ _=>trivial) trivial
def Gk.s (k:Nat):CK 252 (Gk.e k):=mS Gk.d k [5] Tryz.func252 trivial ⟨D6.s,trivial⟩
def Ap.e (k:Nat):Ent:=⟨2,[(.val true t27),(.val false .s)],[(.agg,t29),(.one,.b)],λ x=>Ap k x.1 x.2⟩
def Ap.d:Fd := { nt:=35,nv:=2,nm:=[0,1,2,3,6,7,8],res:=[5],cs:=λ k=>[(159,A7.e k),(179,Ge.e k),(250,K6.e k),(251,Fe.e k),(252,Gk.e k)] }
def Ap.s (k:Nat):CK 210 (Ap.e k):=mS Ap.d k [] Tryz.func210 ⟨A7.s k,Ge.s k,K6.s k,Fe.s k,Gk.s k,trivial⟩ trivial
def Bo.e (k:Nat):Ent:=⟨3,[(.val true t27),(.val false .s),(.val false t4)],[(.agg,t29),(.one,.b)],λ x=>Bo k x.1 x.2.1 x.2.2⟩
def Bo.d:Fd := { nt:=23,nv:=3,nm:=[0,1,2,3,4,5,8],res:=[7],cs:=λ k=>[(159,A7.e k),(251,Fe.e k),(252,Gk.e k)] }
def Bo.s (k:Nat):CK 249 (Bo.e k):=mS Bo.d k [] Tryz.func249 ⟨A7.s k,Fe.s k,Gk.s k,trivial⟩ trivial
def Ld.e (k:Nat):Ent:=⟨4,[(.val true t27),(.val false .s),(.val true t25),(.val false .b)],[(.agg,t29),(.one,(.i .i64))],λ x=>Ld k x.1 x.2.1 x.2.2.1 x.2.2.2⟩
def Ld.d:Fd := { nt:=82,nv:=4,nm:=[0,1,2,3,4,5,6,7,10,11,12,13,14,15],res:=[9],cs:=λ k=>[(62,Ar.e k),(78,Ce.e k),(120,J2.e k),(121,Mj.e k),(159,A7.e k),(192,Bz.e k),(202,Bw.e k),(210,Ap.e k),(249,Bo.e k)],mv:=[58,81] }
def Ld.s (k:Nat):CK 208 (Ld.e k):=mS Ld.d k [] Tryz.func208 ⟨Ar.s k,Ce.s k,J2.s k,Mj.s k,A7.s k,Bz.s k,Bw.s k,Ap.s k,Bo.s k,trivial⟩ trivial
def Jv.e (k:Nat):Ent:=⟨2,[(.val false .s),(.val true t25)],[(.agg,t28)],λ x=>Jv x.1 x.2⟩
def Jv.d:Fd := { nt:=14,nv:=2,nm:=[0,1,2,3],res:=[] }
def Jv.s (k:Nat):CK 230 (Jv.e k):=mS Jv.d k [] Tryz.func230 trivial trivial
def Lr.e (k:Nat):Ent:=⟨4,[(.ptr t41 t41),(.val false .s),(.val true t25),(.val false .b)],[(.one,(.i .i64))],λ x=>Lr k x.1 x.2.1 x.2.2.1 x.2.2.2⟩
def Lr.d:Fd := { nt:=52,nv:=4,nm:=[0,1,2,3,4,5,6,7,9,10],res:=[8],cs:=λ k=>[(208,Ld.e k),(230,Jv.e k)] }
def Lr.s (k:Nat):CK 184 (Lr.e k):=mS Lr.d k [] Tryz.func184 ⟨Ld.s k,Jv.s k,trivial⟩ trivial
def Jd.e (k:Nat):Ent:=⟨4,[(.ptr t42 t43),(.val false .s),(.val true t25),(.val false .b)],[(.one,(.i .i64))],λ x=>Jd k x.1 x.2.1 x.2.2.1 x.2.2.2⟩
def Jd.d:Fd := { nt:=52,nv:=4,nm:=[0,1,2,3,4,5,6,7,9,10],res:=[8],cs:=λ k=>[(208,Ld.e k),(230,Jv.e k)] }
def Jd.s (k:Nat):CK 184 (Jd.e k):=mS Jd.d k [] Tryz.func184 ⟨Ld.s k,Jv.s k,trivial⟩ trivial
def Ls.e (k:Nat):Ent:=⟨1,[(.val false (.i .i64))],[(.one,(.i .i64))],λ x=>Ls x⟩
def Ls.d:Fd := { nt:=6,nv:=1,nm:=[0,1],res:=[2],rf:=true }
def Ls.s (k:Nat):CK 185 (Ls.e k):=mS Ls.d k [] Tryz.func185 trivial trivial
def Ch.e (k:Nat):Ent:=⟨4,[(.ptr t50 t50),(.val false .s),(.val true t25),(.val false t6)],[(.one,(.i .i64))],λ x=>Ch k x.1 x.2.1 x.2.2.1 x.2.2.2⟩
def Bd.p:LF:=⟨⟨[(0,(.bp 0 0 0)),(6,(.bp 6 0 0)),(1999,(.hd 9)),(7999,(.hd 5))],[(1,.s),(3,t6),(9,t7),(10,(.i .i64)),(11,(.i .i64)),(12,(.i .i64)),(1000,t50),(7000,t25)]⟩,[((.exit 0),⟨[(0,(.bp 0 0 0)),(6,(.bp 6 0 0)),(1999,(.hd 9)),(7999,(.hd 5))],[(1,.s),(11,(.i .i64)),(1000,t50),(7000,t25)]⟩)],λ k x=>Bd k x.1 x.2.1 x.2.2.1 x.2.2.2.1 x.2.2.2.2.1 x.2.2.2.2.2.1 x.2.2.2.2.2.2.1 x.2.2.2.2.2.2.2⟩
def Ch.d:Fd := { nt:=92,nv:=4,nm:=[0,1,2,3,4,5,6,7,9,10,11,12,13,14,15],res:=[8],cs:=λ k=>[(96,C2.e k),(118,Fl.e k),(119,Ck.e k),(184,Lr.e k),(185,Ls.e k)],ls:=[(5,Bd.p)],gh:=[(1000006,[.cl 1003])],opn:=[51],rf:=true }
def Ch.a (k:Nat):AC (Ch.d.cs k):=⟨C2.s k,Fl.s k,Ck.s k,Lr.s k,Ls.s k,trivial⟩
def Bd.s:LL Tryz.f131 Ch.d 5 Bd.p:=mL [] Ch.a trivial
def Ch.s (k:Nat):CK 131 (Ch.e k):=mS Ch.d k [5] Tryz.func131 (Ch.a k) ⟨Bd.s,trivial⟩
def It.e (k:Nat):Ent:=⟨5,[(.ptr t50 t50),(.val false .s),(.val true t25),(.val false (.i .i64)),(.val false t6)],[(.one,(.i .i64))],λ x=>It k x.1 x.2.1 x.2.2.1 x.2.2.2.1 x.2.2.2.2⟩
def It.d:Fd := { nt:=57,nv:=5,nm:=[0,1,2,3,4,5,6,7,8,9],res:=[10],cs:=λ k=>[(62,Ar.e k),(97,A9.e k),(130,I0.e k),(131,Ch.e k)],rf:=true }
def It.s (k:Nat):CK 71 (It.e k):=mS It.d k [] Tryz.func71 ⟨Ar.s k,A9.s k,I0.s k,Ch.s k,trivial⟩ trivial
def Bt.e (k:Nat):Ent:=⟨2,[(.val true t27),(.val false .s)],[(.agg,t29),(.one,.b)],λ x=>Bt k x.1 x.2⟩
def Bt.d:Fd := { nt:=26,nv:=2,nm:=[0,1,2,3,6],res:=[5],cs:=λ k=>[(153,Ec.e k),(159,A7.e k),(250,K6.e k),(251,Fe.e k)],mv:=[14] }
def Bt.s (k:Nat):CK 209 (Bt.e k):=mS Bt.d k [] Tryz.func209 ⟨Ec.s k,A7.s k,K6.s k,Fe.s k,trivial⟩ trivial
def De.e (k:Nat):Ent:=⟨4,[(.ptr t50 t50),(.val false (.i .i64)),(.val false .s),(.val false t6)],[(.one,.b)],λ x=>De k x.1 x.2.1 x.2.2.1 x.2.2.2⟩
def C0.p:LF:=⟨⟨[(0,(.bp 0 0 0)),(9,(.bp 9 0 0)),(1999,(.hd 9)),(10999,(.hd 5))],[(1,(.i .i64)),(2,.s),(3,t6),(11,t7),(12,.b),(13,.b),(14,(.i .i64)),(1000,t50),(10000,t25)]⟩,[((.exit 0),⟨[(0,(.bp 0 0 0)),(1999,(.hd 9))],[(1,(.i .i64)),(2,.s),(12,.b),(13,.b),(1000,t50)]⟩)],λ k x=>C0 k x.1 x.2.1 x.2.2.1 x.2.2.2.1 x.2.2.2.2.1 x.2.2.2.2.2.1 x.2.2.2.2.2.2.1 x.2.2.2.2.2.2.2.1 x.2.2.2.2.2.2.2.2⟩
def De.d:Fd := { nt:=125,nv:=4,nm:=[0,1,2,3,4,5,6,7,9,10,11,12,13,14,15,16,17,18],res:=[8],cs:=λ k=>[(119,Ck.e k),(120,J2.e k),(176,Bm.e k),(177,Bn.e k),(208,Ld.e k),(209,Bt.e k),(210,Ap.e k)],ls:=[(8,C0.p)],rf:=true }
def De.a (k:Nat):AC (De.d.cs k):=⟨Ck.s k,J2.s k,Bm.s k,Bn.s k,Ld.s k,Bt.s k,Ap.s k,trivial⟩
def C0.s:LL Tryz.f160 De.d 8 C0.p:=mL [] De.a trivial
def De.s (k:Nat):CK 160 (De.e k):=mS De.d k [8] Tryz.func160 (De.a k) ⟨C0.s,trivial⟩
def Hu.e (k:Nat):Ent:=⟨1,[(.val true t49)],[(.one,t7)],λ x=>Hu k x⟩
def Hu.d:Fd := { nt:=8,nv:=1,nm:=[0,1],res:=[2],cs:=λ k=>[(176,Bm.e k),(177,Bn.e k)],rf:=true }
def Hu.s (k:Nat):CK 253 (Hu.e k):=mS Hu.d k [] Tryz.func253 ⟨Bm.s k,Bn.s k,trivial⟩ trivial
def Kr.e (k:Nat):Ent:=⟨2,[(.val true t28),(.val true t28)],[(.one,.b)],λ x=>Kr x.1 x.2⟩
def Kr.d:Fd := { nt:=29,nv:=2,nm:=[0,1,2,3],res:=[4],cs:=λ k=>[(79,Co.e k)] }
def Kr.s (k:Nat):CK 263 (Kr.e k):=mS Kr.d k [] Tryz.func263 ⟨Co.s k,trivial⟩ trivial
def C4.e (k:Nat):Ent:=⟨2,[(.val false t31),(.val true t28)],[(.one,t32)],λ x=>C4 k x.1 x.2⟩
def Es.p:LF:=⟨⟨[(3,(.bp 3 0 0)),(4999,(.hd 6))],[(5,t32),(7,(.i .i64)),(4000,.s),(4001,(.i .i64)),(4002,(.i .i64)),(4003,(.i .i64)),(4004,.b),(4005,(.i .i64))]⟩,[((.exit 2),⟨[(3,(.bp 3 0 0)),(4999,(.hd 6))],[(5,t32),(7,(.i .i64)),(4000,.s),(4001,(.i .i64)),(4002,(.i .i64)),(4003,(.i .i64)),(4004,.b),(4005,(.i .i64))]⟩)],λ k x=>Es k x.1 x.2.1 x.2.2.1 x.2.2.2.1 x.2.2.2.2.1 x.2.2.2.2.2.1 x.2.2.2.2.2.2.1 x.2.2.2.2.2.2.2⟩
def Fm.p:LF:=⟨⟨[(3,(.bp 3 0 0)),(4999,(.hd 6))],[(5,t32),(6,(.i .i64)),(4000,.s),(4001,(.i .i64)),(4002,(.i .i64)),(4003,(.i .i64)),(4004,.b),(4005,(.i .i64))]⟩,[(.ret,⟨[],[(4,t32)]⟩),((.exit 0),⟨[(3,(.bp 3 0 0)),(4999,(.hd 6))],[(5,t32),(4000,.s),(4001,(.i .i64)),(4002,(.i .i64)),(4003,(.i .i64)),(4004,.b),(4005,(.i .i64))]⟩)],λ k x=>Fm k x.1 x.2.1 x.2.2.1 x.2.2.2.1 x.2.2.2.2.1 x.2.2.2.2.2.1 x.2.2.2.2.2.2.1 x.2.2.2.2.2.2.2⟩
def C4.d:Fd := { nt:=70,nv:=2,nm:=[0,1,2,3,5,6,7],res:=[4],cs:=λ k=>[(263,Kr.e k)],ls:=[(11,Es.p),(3,Fm.p)] }
def C4.a (k:Nat):AC (C4.d.cs k):=⟨Kr.s k,trivial⟩
def Es.s:LL Tryz.f260 C4.d 11 Es.p:=mL [] C4.a trivial
def Fm.s:LL Tryz.f260 C4.d 3 Fm.p:=mL [] C4.a trivial
def C4.s (k:Nat):CK 260 (C4.e k):=mS C4.d k [3,11] Tryz.func260 (C4.a k) ⟨Fm.s,Es.s,trivial⟩
def Cd.e (k:Nat):Ent:=⟨2,[(.val false t31),(.val false t31)],[(.one,t32)],λ x=>Cd k x.1 x.2⟩
def Et.p:LF:=⟨⟨[],[(1,t31),(5,t32),(6,(.i .i64))]⟩,[((.exit 0),⟨[],[(5,t32)]⟩)],λ k x=>Et k x.1 x.2.1 x.2.2⟩
def Cd.d:Fd := { nt:=23,nv:=2,nm:=[0,1,2,3,5,6],res:=[4],cs:=λ k=>[(260,C4.e k)],ls:=[(3,Et.p)] }
def Cd.a (k:Nat):AC (Cd.d.cs k):=⟨C4.s k,trivial⟩
def Et.s:LL Tryz.f262 Cd.d 3 Et.p:=mL [] Cd.a trivial
def Cd.s (k:Nat):CK 262 (Cd.e k):=mS Cd.d k [3] Tryz.func262 (Cd.a k) ⟨Et.s,trivial⟩
def J3.e (k:Nat):Ent:=⟨2,[(.ptr t41 t41),(.val false t31)],[(.one,.b)],λ x=>J3 k x.1 x.2⟩
def J3.d:Fd := { nt:=19,nv:=2,nm:=[0,1,2,3,5],res:=[4],cs:=λ k=>[(262,Cd.e k)] }
def J3.s (k:Nat):CK 254 (J3.e k):=mS J3.d k [] Tryz.func254 ⟨Cd.s k,trivial⟩ trivial
def I1.e (k:Nat):Ent:=⟨2,[(.ptr t42 t44),(.val false t31)],[(.one,.b)],λ x=>I1 k x.1 x.2⟩
def I1.d:Fd := { nt:=19,nv:=2,nm:=[0,1,2,3,5],res:=[4],cs:=λ k=>[(262,Cd.e k)] }
def I1.s (k:Nat):CK 254 (I1.e k):=mS I1.d k [] Tryz.func254 ⟨Cd.s k,trivial⟩ trivial
def C5.e (k:Nat):Ent:=⟨5,[(.ptr t50 t50),(.val false (.i .i64)),(.val false t31),(.val false .b),(.val false t6)],[(.one,.b)],λ x=>C5 k x.1 x.2.1 x.2.2.1 x.2.2.2.1 x.2.2.2.2⟩
def Ao.p:LF:=⟨⟨[(0,(.bp 0 0 0)),(1999,(.hd 9))],[(1,(.i .i64)),(2,t31),(3,.b),(4,t6),(11,t7),(12,.b),(13,(.i .i64)),(1000,t50)]⟩,[((.exit 0),⟨[(1999,(.hd 9))],[(12,.b),(1000,t50)]⟩)],λ k x=>Ao k x.1 x.2.1 x.2.2.1 x.2.2.2.1 x.2.2.2.2.1 x.2.2.2.2.2.1 x.2.2.2.2.2.2.1 x.2.2.2.2.2.2.2⟩
def C5.d:Fd := { nt:=53,nv:=5,nm:=[0,1,2,3,4,5,6,7,8,9,11,12,13],res:=[10],cs:=λ k=>[(119,Ck.e k),(253,Hu.e k),(254,J3.e k)],ls:=[(4,Ao.p)],gh:=[(1000005,[.cl 1003])],opn:=[47],rf:=true }
def C5.a (k:Nat):AC (C5.d.cs k):=⟨Ck.s k,Hu.s k,J3.s k,trivial⟩
def Ao.s:LL Tryz.f211 C5.d 4 Ao.p:=mL [] C5.a trivial
def C5.s (k:Nat):CK 211 (C5.e k):=mS C5.d k [4] Tryz.func211 (C5.a k) ⟨Ao.s,trivial⟩
def Kf.e (k:Nat):Ent:=⟨2,[(.val true t49),(.val false (.i .i64))],[(.one,.b)],λ x=>Kf k x.1 x.2⟩
def Kf.d:Fd := { nt:=9,nv:=2,nm:=[0,1,2,3],res:=[4],cs:=λ k=>[(190,Da.e k),(253,Hu.e k)],rf:=true }
def Kf.s (k:Nat):CK 212 (Kf.e k):=mS Kf.d k [] Tryz.func212 ⟨Da.s k,Hu.s k,trivial⟩ trivial
def I2.e (k:Nat):Ent:=⟨3,[(.ptr t50 t50),(.val false (.i .i64)),(.val false t6)],[(.one,.b)],λ x=>I2 k x.1 x.2.1 x.2.2⟩
def I2.d:Fd := { nt:=47,nv:=3,nm:=[0,1,2,3,4,5,7],res:=[6],cs:=λ k=>[(211,C5.e k),(212,Kf.e k)],rf:=true }
def I2.s (k:Nat):CK 161 (I2.e k):=mS I2.d k [] Tryz.func161 ⟨C5.s k,Kf.s k,trivial⟩ trivial
def I3.e (k:Nat):Ent:=⟨3,[(.ptr t50 t50),(.val false (.i .i64)),(.val false t6)],[(.one,.b)],λ x=>I3 k x.1 x.2.1 x.2.2⟩
def I3.d:Fd := { nt:=36,nv:=3,nm:=[0,1,2,3,4,5,7],res:=[6],cs:=λ k=>[(211,C5.e k)],rf:=true }
def I3.s (k:Nat):CK 162 (I3.e k):=mS I3.d k [] Tryz.func162 ⟨C5.s k,trivial⟩ trivial
def Jw.e (k:Nat):Ent:=⟨1,[(.val true t27)],[(.agg,t29),(.one,(.i .i64))],λ x=>Jw k x⟩
def Iu.p:LF:=⟨⟨[(1,(.bp 1 0 0)),(2,(.bp 2 0 0)),(4,(.bp 4 0 0)),(2999,(.hd 2)),(3999,(.hd 2)),(5999,(.hd 2))],[(5,(.i .i64)),(6,(.i .i64)),(2000,t27),(3000,t29),(5000,t29)]⟩,[((.exit 0),⟨[(2,(.bp 2 0 0)),(4,(.bp 4 0 0)),(3999,(.hd 2)),(5999,(.hd 2))],[(5,(.i .i64)),(3000,t29),(5000,t29)]⟩)],λ k x=>Iu k x.1 x.2.1 x.2.2.1 x.2.2.2.1 x.2.2.2.2⟩
def Jw.d:Fd := { nt:=53,nv:=1,nm:=[0,1,4,5,6,7,8,9],res:=[3],cs:=λ k=>[(120,J2.e k),(159,A7.e k),(192,Bz.e k),(209,Bt.e k),(210,Ap.e k)],ls:=[(4,Iu.p)],mv:=[51],rf:=true }
def Jw.a (k:Nat):AC (Jw.d.cs k):=⟨J2.s k,A7.s k,Bz.s k,Bt.s k,Ap.s k,trivial⟩
def Iu.s:LL Tryz.f163 Jw.d 4 Iu.p:=mL [] Jw.a trivial
def Jw.s (k:Nat):CK 163 (Jw.e k):=mS Jw.d k [4] Tryz.func163 (Jw.a k) ⟨Iu.s,trivial⟩
def Db.e (k:Nat):Ent:=⟨2,[(.val false t13),(.val false t13)],[(.one,t2)],λ x=>Db k x.1 x.2⟩
def Fn.p:LF:=⟨⟨[],[(5,t14),(8,t2),(9,(.i .i64))]⟩,[((.exit 4),⟨[],[(8,t2)]⟩)],λ k x=>Fn k x.1 x.2.1 x.2.2⟩
def Gv.p:LF:=⟨⟨[],[(1,t13),(5,t14),(7,(.i .i64))]⟩,[((.exit 2),⟨[],[(5,t14)]⟩)],λ k x=>Gv k x.1 x.2.1 x.2.2⟩
def Gw.p:LF:=⟨⟨[],[(0,t13),(1,t13),(5,t14),(6,(.i .i64))]⟩,[((.exit 0),⟨[],[(1,t13),(5,t14)]⟩)],λ k x=>Gw k x.1 x.2.1 x.2.2.1 x.2.2.2⟩
def Db.d:Fd := { nt:=55,nv:=2,nm:=[0,1,2,3,5,6,7,8,9],res:=[4],cs:=λ k=>[(252,Gk.e k)],ls:=[(12,Fn.p),(7,Gv.p),(3,Gw.p)],rf:=true }
def Db.a (k:Nat):AC (Db.d.cs k):=⟨Gk.s k,trivial⟩
def Fn.s:LL Tryz.f213 Db.d 12 Fn.p:=mL [] Db.a trivial
def Gv.s:LL Tryz.f213 Db.d 7 Gv.p:=mL [] Db.a trivial
def Gw.s:LL Tryz.f213 Db.d 3 Gw.p:=mL [] Db.a trivial
def Db.s (k:Nat):CK 213 (Db.e k):=mS Db.d k [3,7,12] Tryz.func213 (Db.a k) ⟨Gw.s,Gv.s,Fn.s,trivial⟩
def Ef.e (k:Nat):Ent:=⟨2,[(.val true t27),(.val false t1)],[(.agg,t29)],λ x=>Ef k x.1 x.2⟩
def B1.p:LF:=⟨⟨[(2,(.bp 2 0 0)),(4,(.bp 4 0 0)),(3999,(.hd 2)),(5999,(.hd 2))],[(1,t1),(5,t2),(6,t14),(7,(.i .i64)),(3000,t27),(5000,t29)]⟩,[((.exit 0),⟨[(2,(.bp 2 0 0)),(4,(.bp 4 0 0)),(3999,(.hd 2)),(5999,(.hd 2))],[(6,t14),(3000,t27),(5000,t29)]⟩)],λ k x=>B1 k x.1 x.2.1 x.2.2.1 x.2.2.2.1 x.2.2.2.2.1 x.2.2.2.2.2⟩
def Ef.d:Fd := { nt:=66,nv:=2,nm:=[0,1,2,3,5,6,7,8,9],res:=[],cs:=λ k=>[(153,Ec.e k),(159,A7.e k),(192,Bz.e k),(207,Bs.e k),(213,Db.e k)],ls:=[(6,B1.p)],rf:=true }
def Ef.a (k:Nat):AC (Ef.d.cs k):=⟨Ec.s k,A7.s k,Bz.s k,Bs.s k,Db.s k,trivial⟩
def B1.s:LL Tryz.f164 Ef.d 6 B1.p:=mL [] Ef.a trivial
def Ef.s (k:Nat):CK 164 (Ef.e k):=mS Ef.d k [6] Tryz.func164 (Ef.a k) ⟨B1.s,trivial⟩
def Bx.e (k:Nat):Ent:=⟨1,[(.val true t41)],[(.agg,t42)],λ x=>Bx k x⟩
def Bx.d:Fd := { nt:=17,nv:=1,nm:=[0,1],res:=[],cs:=λ k=>[(159,A7.e k)] }
def Bx.s (k:Nat):CK 95 (Bx.e k):=mS Bx.d k [] Tryz.func95 ⟨A7.s k,trivial⟩ trivial
def Je.e (k:Nat):Ent:=⟨1,[(.val true t28)],[(.one,.b)],λ x=>Je k x⟩
def Je.d:Fd := { nt:=26,nv:=1,nm:=[0,1],res:=[2],cs:=λ k=>[(62,Ar.e k),(77,Cn.e k),(97,A9.e k)] }
def Je.s (k:Nat):CK 191 (Je.e k):=mS Je.d k [] Tryz.func191 ⟨Ar.s k,Cn.s k,A9.s k,trivial⟩ trivial
def Ff.e (k:Nat):Ent:=⟨1,[(.val false t31)],[(.one,.b)],λ x=>Ff k x⟩
def Hc.p:LF:=⟨⟨[],[(0,t31),(3,(.i .i64))]⟩,[(.ret,⟨[],[(2,.b)]⟩),((.exit 0),⟨[],[(0,t31)]⟩)],λ k x=>Hc k x.1 x.2⟩
def Ff.d:Fd := { nt:=37,nv:=1,nm:=[0,1,3],res:=[2],cs:=λ k=>[(191,Je.e k)],ls:=[(2,Hc.p)] }
def Ff.a (k:Nat):AC (Ff.d.cs k):=⟨Je.s k,trivial⟩
def Hc.s:LL Tryz.f193 Ff.d 2 Hc.p:=mL [] Ff.a trivial
def Ff.s (k:Nat):CK 193 (Ff.e k):=mS Ff.d k [2] Tryz.func193 (Ff.a k) ⟨Hc.s,trivial⟩
def Cf.e (k:Nat):Ent:=⟨1,[(.val true t41)],[(.one,.b)],λ x=>Cf k x⟩
def I4.p:LF:=⟨⟨[(1,(.bp 1 0 0)),(2999,(.hd 5))],[(3,(.i .i64)),(2000,(.i .i64)),(2001,t13),(2002,t13),(2003,t31),(2004,t31)]⟩,[(.ret,⟨[],[(2,.b)]⟩),((.exit 0),⟨[(1,(.bp 1 0 0)),(2999,(.hd 5))],[(2000,(.i .i64)),(2001,t13),(2002,t13),(2003,t31),(2004,t31)]⟩)],λ k x=>I4 k x.1 x.2.1 x.2.2.1 x.2.2.2.1 x.2.2.2.2.1 x.2.2.2.2.2⟩
def Cf.d:Fd := { nt:=37,nv:=1,nm:=[0,1,3],res:=[2],cs:=λ k=>[(97,A9.e k),(191,Je.e k),(192,Bz.e k),(193,Ff.e k)],ls:=[(2,I4.p)] }
def Cf.a (k:Nat):AC (Cf.d.cs k):=⟨A9.s k,Je.s k,Bz.s k,Ff.s k,trivial⟩
def I4.s:LL Tryz.f140 Cf.d 2 I4.p:=mL [] Cf.a trivial
def Cf.s (k:Nat):CK 140 (Cf.e k):=mS Cf.d k [2] Tryz.func140 (Cf.a k) ⟨I4.s,trivial⟩
def Lt.e (k:Nat):Ent:=⟨3,[(.val true t27),(.val false .s),(.val false (.i .i64))],[(.agg,t30),(.one,.b)],λ x=>Lt k x.1 x.2.1 x.2.2⟩
def Lt.d:Fd := { nt:=97,nv:=3,nm:=[0,1,2,3,4,5,8,9,10,11],res:=[7],cs:=λ k=>[(97,A9.e k),(153,Ec.e k),(159,Li.e k),(192,Bz.e k)],mv:=[39,96] }
def Lt.s (k:Nat):CK 214 (Lt.e k):=mS Lt.d k [] Tryz.func214 ⟨A9.s k,Ec.s k,Li.s k,Bz.s k,trivial⟩ trivial
def G3.e (k:Nat):Ent:=⟨3,[(.val true t41),(.val false .s),(.val false (.i .i64))],[(.agg,t43),(.one,.b)],λ x=>G3 k x.1 x.2.1 x.2.2⟩
def G3.d:Fd := { nt:=44,nv:=3,nm:=[0,1,2,3,4,5,8,9,10,11,12],res:=[7],cs:=λ k=>[(95,Bx.e k),(120,J2.e k),(140,Cf.e k),(214,Lt.e k)],mv:=[29,40,43] }
def G3.s (k:Nat):CK 165 (G3.e k):=mS G3.d k [] Tryz.func165 ⟨Bx.s k,J2.s k,Cf.s k,Lt.s k,trivial⟩ trivial
def Eg.e (k:Nat):Ent:=⟨2,[(.val false t0),(.val false .s)],[(.one,t0)],λ x=>Eg k x.1 x.2⟩
def Fo.p:LF:=⟨⟨[],[(1,.s),(5,t2),(6,(.i .i64))]⟩,[((.exit 0),⟨[],[(1,.s),(5,t2),(6,(.i .i64))]⟩)],λ k x=>Fo k x.1 x.2.1 x.2.2⟩
def Eg.d:Fd := { nt:=46,nv:=2,nm:=[0,1,2,3,5,6],res:=[4],cs:=λ k=>[(152,Iy.e k)],ls:=[(5,Fo.p)],rf:=true }
def Eg.a (k:Nat):AC (Eg.d.cs k):=⟨Iy.s k,trivial⟩
def Fo.s:LL Tryz.f166 Eg.d 5 Fo.p:=mL [] Eg.a trivial
def Eg.s (k:Nat):CK 166 (Eg.e k):=mS Eg.d k [5] Tryz.func166 (Eg.a k) ⟨Fo.s,trivial⟩
def B8.e (k:Nat):Ent:=⟨2,[(.ptr t50 t50),(.val true t34)],[(.one,.b)],λ x=>B8 k x.1 x.2⟩
def Dw.p:LF:=⟨⟨[(0,(.bp 0 0 0)),(3,(.bp 3 0 0)),(1999,(.hd 9)),(4999,(.hd 6))],[(5,t3),(6,(.i .i64)),(1000,t50),(4000,t34)]⟩,[((.exit 1),⟨[(0,(.bp 0 0 0)),(3,(.bp 3 0 0)),(1999,(.hd 9)),(4999,(.hd 6))],[(5,t3),(1000,t50),(4000,t34)]⟩)],λ k x=>Dw k x.1 x.2.1 x.2.2.1 x.2.2.2⟩
def B8.d:Fd := { nt:=134,nv:=2,nm:=[0,1,2,3,5,6,7,8],res:=[4],cs:=λ k=>[(160,De.e k),(161,I2.e k),(162,I3.e k),(163,Jw.e k),(164,Ef.e k),(165,G3.e k),(166,Eg.e k)],ls:=[(14,Dw.p)],rf:=true }
def B8.a (k:Nat):AC (B8.d.cs k):=⟨De.s k,I2.s k,I3.s k,Jw.s k,Ef.s k,G3.s k,Eg.s k,trivial⟩
def Dw.s:LL Tryz.f98 B8.d 14 Dw.p:=mL [] B8.a trivial
def B8.s (k:Nat):CK 98 (B8.e k):=mS B8.d k [14] Tryz.func98 (B8.a k) ⟨Dw.s,trivial⟩
def K7.e (k:Nat):Ent:=⟨1,[(.val true t17)],[(.agg,t18)],λ x=>K7 k x⟩
def Hd.p:LF:=⟨⟨[(1,(.bp 1 0 0)),(2,(.bp 2 0 0)),(3,(.bp 3 0 0)),(2999,(.hd 2)),(3999,(.hd 2)),(4999,(.hd 2))],[(4,(.i .i64)),(2000,t17),(3000,t18),(4000,t18)]⟩,[((.exit 0),⟨[(2,(.bp 2 0 0)),(3,(.bp 3 0 0)),(3999,(.hd 2)),(4999,(.hd 2))],[(3000,t18),(4000,t18)]⟩)],λ k x=>Hd k x.1 x.2.1 x.2.2.1 x.2.2.2⟩
def K7.d:Fd := { nt:=30,nv:=1,nm:=[0,1,3,4],res:=[],ls:=[(3,Hd.p)],mv:=[29],rf:=true }
def Hd.s:LL Tryz.f94 K7.d 3 Hd.p:=mL [] (λ _=>trivial) trivial
def K7.s (k:Nat):CK 94 (K7.e k):=mS K7.d k [3] Tryz.func94 trivial ⟨Hd.s,trivial⟩
def Kg.e (k:Nat):Ent:=⟨1,[(.val true t17)],[(.agg,t19)],λ x=>Kg k x⟩
def M6.p:LF:=⟨⟨[(1,(.bp 1 0 0)),(2,(.bp 2 0 0)),(3,(.bp 3 0 0)),(2999,(.hd 2)),(3999,(.hd 2)),(4999,(.hd 2))],[(4,(.i .i64)),(2000,t17),(3000,t18),(4000,t19)]⟩,[((.exit 0),⟨[(2,(.bp 2 0 0)),(3,(.bp 3 0 0)),(3999,(.hd 2)),(4999,(.hd 2))],[(3000,t18),(4000,t19)]⟩)],λ k x=>M6 k x.1 x.2.1 x.2.2.1 x.2.2.2⟩
def Kg.d:Fd := { nt:=30,nv:=1,nm:=[0,1,3,4],res:=[],ls:=[(3,M6.p)],hint:=[(26,t7),(27,t7)],mv:=[29],rf:=true }
def M6.s:LL Tryz.f94 Kg.d 3 M6.p:=mL [] (λ _=>trivial) trivial
def Kg.s (k:Nat):CK 94 (Kg.e k):=mS Kg.d k [3] Tryz.func94 trivial ⟨M6.s,trivial⟩
def Cg.e (k:Nat):Ent:=⟨1,[(.val false t22)],[(.one,.b)],λ x=>Cg k x⟩
def He.p:LF:=⟨⟨[],[(0,t22),(3,(.i .i64))]⟩,[(.ret,⟨[],[(2,.b)]⟩),((.exit 0),⟨[],[(0,t22)]⟩)],λ k x=>He k x.1 x.2⟩
def Cg.d:Fd := { nt:=49,nv:=1,nm:=[0,1,3,4],res:=[2],cs:=λ k=>[(97,A9.e k)],ls:=[(2,He.p)],rf:=true }
def Cg.a (k:Nat):AC (Cg.d.cs k):=⟨A9.s k,trivial⟩
def He.s:LL Tryz.f137 Cg.d 2 He.p:=mL [] Cg.a trivial
def Cg.s (k:Nat):CK 137 (Cg.e k):=mS Cg.d k [2] Tryz.func137 (Cg.a k) ⟨He.s,trivial⟩
def Fg.e (k:Nat):Ent:=⟨2,[(.val true t6),(.val false (.i .i64))],[(.one,.b)],λ x=>Fg k x.1 x.2⟩
def I5.p:LF:=⟨⟨[(2,(.bp 2 0 0)),(3999,(.hd 1))],[(1,(.i .i64)),(5,(.i .i64)),(3000,t6)]⟩,[(.ret,⟨[],[(4,.b)]⟩),((.exit 0),⟨[(2,(.bp 2 0 0)),(3999,(.hd 1))],[(1,(.i .i64)),(3000,t6)]⟩)],λ k x=>I5 k x.1 x.2.1 x.2.2⟩
def Fg.d:Fd := { nt:=28,nv:=2,nm:=[0,1,2,3,5],res:=[4],cs:=λ k=>[(190,Da.e k)],ls:=[(2,I5.p)],rf:=true }
def Fg.a (k:Nat):AC (Fg.d.cs k):=⟨Da.s k,trivial⟩
def I5.s:LL Tryz.f138 Fg.d 2 I5.p:=mL [] Fg.a trivial
def Fg.s (k:Nat):CK 138 (Fg.e k):=mS Fg.d k [2] Tryz.func138 (Fg.a k) ⟨I5.s,trivial⟩
def Le.e (k:Nat):Ent:=⟨2,[(.val true t17),(.val false t22)],[(.one,.b)],λ x=>Le k x.1 x.2⟩
def Ks.p:LF:=⟨⟨[(2,(.bp 2 0 0)),(3999,(.hd 2))],[(5,(.i .i64)),(3000,t17)]⟩,[(.ret,⟨[],[(4,.b)]⟩),((.exit 0),⟨[],[]⟩)],λ k x=>Ks k x.1 x.2⟩
def Le.d:Fd := { nt:=45,nv:=2,nm:=[0,1,2,3,5],res:=[4],cs:=λ k=>[(97,A9.e k),(137,Cg.e k),(138,Fg.e k)],ls:=[(4,Ks.p)],rf:=true }
def Le.a (k:Nat):AC (Le.d.cs k):=⟨A9.s k,Cg.s k,Fg.s k,trivial⟩
def Ks.s:LL Tryz.f215 Le.d 4 Ks.p:=mL [] Le.a trivial
def Le.s (k:Nat):CK 215 (Le.e k):=mS Le.d k [4] Tryz.func215 (Le.a k) ⟨Ks.s,trivial⟩
def Hp.e (k:Nat):Ent:=⟨2,[(.val true t6),(.val false t22)],[(.one,(.i .i64))],λ x=>Hp k x.1 x.2⟩
def I6.p:LF:=⟨⟨[(2,(.bp 2 0 0)),(3999,(.hd 1))],[(1,t22),(5,(.i .i64)),(3000,t6)]⟩,[(.ret,⟨[],[(4,(.i .i64))]⟩),((.exit 0),⟨[],[]⟩)],λ k x=>I6 k x.1 x.2.1 x.2.2⟩
def Hp.d:Fd := { nt:=28,nv:=2,nm:=[0,1,2,3,5,6,7],res:=[4],cs:=λ k=>[(139,Fb.e k)],ls:=[(2,I6.p)],rf:=true }
def Hp.a (k:Nat):AC (Hp.d.cs k):=⟨Fb.s k,trivial⟩
def I6.s:LL Tryz.f216 Hp.d 2 I6.p:=mL [] Hp.a trivial
def Hp.s (k:Nat):CK 216 (Hp.e k):=mS Hp.d k [2] Tryz.func216 (Hp.a k) ⟨I6.s,trivial⟩
def Dj.e (k:Nat):Ent:=⟨2,[(.val true t17),(.val false (.i .i64))],[(.one,(.i .i64))],λ x=>Dj k x.1 x.2⟩
def Hf.p:LF:=⟨⟨[(2,(.bp 2 0 0)),(3999,(.hd 2))],[(1,(.i .i64)),(5,(.i .i64)),(6,(.i .i64)),(7,(.i .i64)),(3000,t17)]⟩,[((.exit 2),⟨[(2,(.bp 2 0 0)),(3999,(.hd 2))],[(1,(.i .i64)),(5,(.i .i64)),(6,(.i .i64)),(3000,t17)]⟩)],λ k x=>Hf k x.1 x.2.1 x.2.2.1 x.2.2.2.1 x.2.2.2.2⟩
def I7.p:LF:=⟨⟨[(2,(.bp 2 0 0)),(3999,(.hd 2))],[(1,(.i .i64)),(5,(.i .i64)),(6,(.i .i64)),(3000,t17)]⟩,[((.exit 0),⟨[],[(5,(.i .i64))]⟩)],λ k x=>I7 k x.1 x.2.1 x.2.2.1 x.2.2.2⟩
def Dj.d:Fd := { nt:=40,nv:=2,nm:=[0,1,2,3,5,6,7],res:=[4],ls:=[(6,Hf.p),(3,I7.p)],rf:=true }
def Hf.s:LL Tryz.f255 Dj.d 6 Hf.p:=mL [] (λ _=>trivial) trivial
def I7.s:LL Tryz.f255 Dj.d 3 I7.p:=mL [6] (λ _=>trivial) ⟨Hf.s,trivial⟩
def Dj.s (k:Nat):CK 255 (Dj.e k):=mS Dj.d k [3] Tryz.func255 trivial ⟨I7.s,trivial⟩
def J4.e (k:Nat):Ent:=⟨3,[(.val true t17),(.val true t6),(.val false t22)],[(.one,(.i .i64))],λ x=>J4 k x.1 x.2.1 x.2.2⟩
def C7.p:LF:=⟨⟨[(3,(.bp 3 0 0)),(4,(.bp 4 0 0)),(4999,(.hd 2)),(5999,(.hd 1))],[(2,t22),(7,t7),(8,(.i .i64)),(9,.b),(10,(.i .i64)),(4000,t17),(5000,t6)]⟩,[((.exit 0),⟨[],[(2,t22),(8,(.i .i64))]⟩)],λ k x=>C7 k x.1 x.2.1 x.2.2.1 x.2.2.2.1 x.2.2.2.2.1 x.2.2.2.2.2.1 x.2.2.2.2.2.2⟩
def J4.d:Fd := { nt:=88,nv:=3,nm:=[0,1,2,3,4,5,7,8,9,10,11,12],res:=[6],cs:=λ k=>[(137,Cg.e k),(190,Da.e k),(226,Dv.e k),(255,Dj.e k)],ls:=[(5,C7.p)],rf:=true }
def J4.a (k:Nat):AC (J4.d.cs k):=⟨Cg.s k,Da.s k,Dv.s k,Dj.s k,trivial⟩
def C7.s:LL Tryz.f217 J4.d 5 C7.p:=mL [] J4.a trivial
def J4.s (k:Nat):CK 217 (J4.e k):=mS J4.d k [5] Tryz.func217 (J4.a k) ⟨C7.s,trivial⟩
def G4.e (k:Nat):Ent:=⟨4,[(.val true t17),(.val true t6),(.val false t22),(.val false (.i .i64))],[(.one,(.i .i64))],λ x=>G4 k x.1 x.2.1 x.2.2.1 x.2.2.2⟩
def Cw.p:LF:=⟨⟨[(4,(.bp 4 0 0)),(5,(.bp 5 0 0)),(9,(.bp 9 0 0)),(5999,(.hd 2)),(6999,(.hd 1)),(10999,(.hd 3))],[(2,t22),(3,(.i .i64)),(10,.b),(11,(.i .i64)),(5000,t17),(6000,t6),(10000,t16)]⟩,[(.ret,⟨[],[(8,(.i .i64))]⟩),((.exit 0),⟨[],[]⟩)],λ k x=>Cw k x.1 x.2.1 x.2.2.1 x.2.2.2.1 x.2.2.2.2.1 x.2.2.2.2.2.1 x.2.2.2.2.2.2⟩
def G4.d:Fd := { nt:=60,nv:=4,nm:=[0,1,2,3,4,5,6,7,9,10,11,12,13],res:=[8],cs:=λ k=>[(139,Fb.e k),(255,Dj.e k)],ls:=[(3,Cw.p)],rf:=true }
def G4.a (k:Nat):AC (G4.d.cs k):=⟨Fb.s k,Dj.s k,trivial⟩
def Cw.s:LL Tryz.f218 G4.d 3 Cw.p:=mL [] G4.a trivial
def G4.s (k:Nat):CK 218 (G4.e k):=mS G4.d k [3] Tryz.func218 (G4.a k) ⟨Cw.s,trivial⟩
def Df.e (k:Nat):Ent:=⟨2,[(.val true t17),(.val false t22)],[(.agg,t19),(.one,(.i .i64))],λ x=>Df k x.1 x.2⟩
def Be.p:LF:=⟨⟨[(4,(.bp 4 0 0)),(6,(.bp 6 0 0)),(5999,(.hd 2)),(7999,(.hd 2))],[(1,t22),(7,(.i .i64)),(8,(.i .i64)),(5000,t18),(7000,t19)]⟩,[((.exit 0),⟨[(4,(.bp 4 0 0)),(6,(.bp 6 0 0)),(5999,(.hd 2)),(7999,(.hd 2))],[(7,(.i .i64)),(5000,t18),(7000,t19)]⟩)],λ k x=>Be k x.1 x.2.1 x.2.2.1 x.2.2.2.1 x.2.2.2.2⟩
def Df.d:Fd := { nt:=82,nv:=2,nm:=[0,1,2,3,6,7,8,9,10,11,12],res:=[5],cs:=λ k=>[(94,Kg.e k),(215,Le.e k),(216,Hp.e k),(217,J4.e k),(218,G4.e k)],ls:=[(6,Be.p)],mv:=[19,80],rf:=true }
def Df.a (k:Nat):AC (Df.d.cs k):=⟨Kg.s k,Le.s k,Hp.s k,J4.s k,G4.s k,trivial⟩
def Be.s:LL Tryz.f167 Df.d 6 Be.p:=mL [] Df.a trivial
def Df.s (k:Nat):CK 167 (Df.e k):=mS Df.d k [6] Tryz.func167 (Df.a k) ⟨Be.s,trivial⟩
def I8.e (k:Nat):Ent:=⟨3,[(.ptr t50 t50),(.val false (.i .i64)),(.val false (.i .i64))],[(.one,.b)],λ x=>I8 k x.1 x.2.1 x.2.2⟩
def I8.d:Fd := { nt:=49,nv:=3,nm:=[0,1,2,3,4,5,7,8],res:=[6],cs:=λ k=>[(97,A9.e k),(167,Df.e k)],rf:=true }
def I8.s (k:Nat):CK 99 (I8.e k):=mS I8.d k [] Tryz.func99 ⟨A9.s k,Df.s k,trivial⟩ trivial
def Gx.e (k:Nat):Ent:=⟨2,[(.ptr t50 t50),(.val true t34)],[(.one,.b)],λ x=>Gx k x.1 x.2⟩
def Gx.d:Fd := { nt:=76,nv:=2,nm:=[0,1,2,3,5,6],res:=[4],cs:=λ k=>[(71,It.e k),(97,A9.e k),(98,B8.e k),(99,I8.e k)],rf:=true }
def Gx.s (k:Nat):CK 43 (Gx.e k):=mS Gx.d k [] Tryz.func43 ⟨It.s k,A9.s k,B8.s k,I8.s k,trivial⟩ trivial
def Hq.e (k:Nat):Ent:=⟨1,[(.ptr t21 t21)],[(.one,t23)],λ x=>Hq k x⟩
def I9.p:LF:=⟨⟨[(0,(.bp 0 0 0)),(1999,(.hd 3))],[(3,t23),(4,(.i .i64)),(5,(.i .i64)),(6,(.i .i64)),(1000,t21)]⟩,[((.exit 0),⟨[(1999,(.hd 3))],[(3,t23),(1000,t21)]⟩)],λ k x=>I9 k x.1 x.2.1 x.2.2.1 x.2.2.2.1 x.2.2.2.2⟩
def Hq.d:Fd := { nt:=35,nv:=1,nm:=[0,1,3,4,5,6],res:=[2],cs:=λ k=>[(37,A3.e k),(39,Aa.e k)],ls:=[(5,I9.p)],rf:=true }
def Hq.a (k:Nat):AC (Hq.d.cs k):=⟨A3.s k,Aa.s k,trivial⟩
def I9.s:LL Tryz.f107 Hq.d 5 I9.p:=mL [] Hq.a trivial
def Hq.s (k:Nat):CK 107 (Hq.e k):=mS Hq.d k [5] Tryz.func107 (Hq.a k) ⟨I9.s,trivial⟩
def Hx.e (k:Nat):Ent:=⟨3,[(.val false t22),(.val false (.i .i64)),(.val false (.i .i64))],[(.agg,t19),(.one,.b)],λ x=>Hx k x.1 x.2.1 x.2.2⟩
def Jf.p:LF:=⟨⟨[(6,(.bp 6 0 0)),(8,(.bp 8 0 0)),(7999,(.hd 2)),(9999,(.hd 2))],[(0,t22),(1,(.i .i64)),(2,(.i .i64)),(9,(.i .i64)),(10,(.i .i64)),(7000,t18),(9000,t19)]⟩,[((.exit 2),⟨[(6,(.bp 6 0 0)),(8,(.bp 8 0 0)),(7999,(.hd 2)),(9999,(.hd 2))],[(0,t22),(1,(.i .i64)),(2,(.i .i64)),(9,(.i .i64)),(7000,t18),(9000,t19)]⟩)],λ k x=>Jf k x.1 x.2.1 x.2.2.1 x.2.2.2.1 x.2.2.2.2.1 x.2.2.2.2.2.1 x.2.2.2.2.2.2⟩
def Jg.p:LF:=⟨⟨[(6,(.bp 6 0 0)),(8,(.bp 8 0 0)),(7999,(.hd 2)),(9999,(.hd 2))],[(0,t22),(1,(.i .i64)),(2,(.i .i64)),(9,(.i .i64)),(7000,t18),(9000,t19)]⟩,[((.exit 0),⟨[(6,(.bp 6 0 0)),(8,(.bp 8 0 0)),(7999,(.hd 2)),(9999,(.hd 2))],[(7000,t18),(9000,t19)]⟩)],λ k x=>Jg k x.1 x.2.1 x.2.2.1 x.2.2.2.1 x.2.2.2.2.1 x.2.2.2.2.2⟩
def Hx.d:Fd := { nt:=73,nv:=3,nm:=[0,1,2,3,4,5,8,9,10,11],res:=[7],cs:=λ k=>[(97,A9.e k),(137,Cg.e k),(217,J4.e k)],ls:=[(9,Jf.p),(5,Jg.p)],hint:=[(42,t7),(43,t7)],mv:=[72],gh:=[(12,[.od 54 3001]),(1000010,[.cl 9001])],rf:=true }
def Hx.a (k:Nat):AC (Hx.d.cs k):=⟨A9.s k,Cg.s k,J4.s k,trivial⟩
def Jf.s:LL Tryz.f169 Hx.d 9 Jf.p:=mL [] Hx.a trivial
def Jg.s:LL Tryz.f169 Hx.d 5 Jg.p:=mL [9] Hx.a ⟨Jf.s,trivial⟩
def Hx.s (k:Nat):CK 169 (Hx.e k):=mS Hx.d k [5] Tryz.func169 (Hx.a k) ⟨Jg.s,trivial⟩
def Hv.e (k:Nat):Ent:=⟨1,[(.val false (.i .i64))],[(.agg,t42)],λ x=>Hv x⟩
def Hv.d:Fd := { nt:=9,nv:=1,nm:=[0,1],res:=[],cs:=λ k=>[(97,A9.e k)] }
def Hv.s (k:Nat):CK 170 (Hv.e k):=mS Hv.d k [] Tryz.func170 ⟨A9.s k,trivial⟩ trivial
def D7.e (k:Nat):Ent:=⟨3,[(.val false t22),(.val false (.i .i64)),(.val false (.i .i64))],[(.agg,t51)],λ x=>D7 k x.1 x.2.1 x.2.2⟩
def Fp.p:LF:=⟨⟨[(6,(.bp 6 0 0)),(9,(.bp 9 0 0)),(7999,(.hd 9)),(10999,(.hd 9))],[(0,t22),(10,(.i .i64)),(7000,t52),(10000,t51)]⟩,[((.exit 0),⟨[(6,(.bp 6 0 0)),(9,(.bp 9 0 0)),(7999,(.hd 9)),(10999,(.hd 9))],[(7000,t52),(10000,t51)]⟩)],λ k x=>Fp k x.1 x.2.1 x.2.2.1 x.2.2.2⟩
def D7.d:Fd := { nt:=44,nv:=3,nm:=[0,1,2,3,4,5,7,8,9,10],res:=[],cs:=λ k=>[(169,Hx.e k),(170,Hv.e k)],ls:=[(6,Fp.p)],mv:=[43],rf:=true }
def D7.a (k:Nat):AC (D7.d.cs k):=⟨Hx.s k,Hv.s k,trivial⟩
def Fp.s:LL Tryz.f108 D7.d 6 Fp.p:=mL [] D7.a trivial
def D7.s (k:Nat):CK 108 (D7.e k):=mS D7.d k [6] Tryz.func108 (D7.a k) ⟨Fp.s,trivial⟩
def Lu.e (k:Nat):Ent:=⟨1,[(.ptr t21 t21)],[(.agg,t51)],λ x=>Lu k x⟩
def Lu.d:Fd := { nt:=22,nv:=1,nm:=[0,1,3,4],res:=[],cs:=λ k=>[(39,Aa.e k),(107,Hq.e k),(108,D7.e k)],rf:=true }
def Lu.s (k:Nat):CK 49 (Lu.e k):=mS Lu.d k [] Tryz.func49 ⟨Aa.s k,Hq.s k,D7.s k,trivial⟩ trivial
def Dm.e (k:Nat):Ent:=⟨2,[(.ptr t21 t21),(.vw t50 2),(.hid t50 t50)],[(.agg,t35)],λ x=>Dm k x.1 x.2.1 x.2.2⟩
def Dm.d:Fd := { nt:=99,nv:=2,nm:=[0,1,2,3,5,6],res:=[],cs:=λ k=>[(37,A3.e k),(39,Aa.e k),(86,Bj.e k),(87,Du.e k),(88,Di.e k),(89,Gd.e k)],mv:=[1,98],rf:=true }
def Dm.s (k:Nat):CK 38 (Dm.e k):=mS Dm.d k [] Tryz.func38 ⟨A3.s k,Aa.s k,Bj.s k,Du.s k,Di.s k,Gd.s k,trivial⟩ trivial
def G5.e (k:Nat):Ent:=⟨2,[(.ptr t21 t21),(.val false (.i .i64))],[(.agg,t50)],λ x=>G5 k x.1 x.2⟩
def Gy.p:LF:=⟨⟨[(0,(.bp 0 0 0)),(4,(.bp 4 0 0)),(5,(.bp 5 0 0)),(1999,(.hd 3)),(5999,(.hd 9)),(6999,(.hd 9))],[(6,(.i .i64)),(1000,t21),(5000,t52),(6000,t50)]⟩,[((.exit 0),⟨[(4,(.bp 4 0 0)),(5,(.bp 5 0 0)),(5999,(.hd 9)),(6999,(.hd 9)),(1999,(.hd 3))],[(5000,t52),(6000,t50),(1000,t21)]⟩)],λ k x=>Gy k x.1 x.2.1 x.2.2.1 x.2.2.2⟩
def G5.d:Fd := { nt:=21,nv:=2,nm:=[0,1,2,3,5,6],res:=[],cs:=λ k=>[(37,A3.e k),(38,Dm.e k),(43,Gx.e k),(49,Lu.e k)],ls:=[(3,Gy.p)],mv:=[20],rf:=true }
def G5.a (k:Nat):AC (G5.d.cs k):=⟨A3.s k,Dm.s k,Gx.s k,Lu.s k,trivial⟩
def Gy.s:LL Tryz.f55 G5.d 3 Gy.p:=mL [] G5.a trivial
def G5.s (k:Nat):CK 55 (G5.e k):=mS G5.d k [3] Tryz.func55 (G5.a k) ⟨Gy.s,trivial⟩
def Cy.e (k:Nat):Ent:=⟨2,[(.ptr t21 t21),(.val false (.i .i64))],[(.one,.b)],λ x=>Cy x.1 x.2⟩
def Cy.d:Fd := { nt:=9,nv:=2,nm:=[0,1,2,3],res:=[4],cs:=λ k=>[(37,A3.e k)] }
def Cy.s (k:Nat):CK 83 (Cy.e k):=mS Cy.d k [] Tryz.func83 ⟨A3.s k,trivial⟩ trivial
def C8.e (k:Nat):Ent:=⟨1,[(.val true t49)],[(.agg,t52)],λ x=>C8 k x⟩
def Gz.p:LF:=⟨⟨[(1,(.bp 1 0 0)),(2,(.bp 2 0 0)),(3,(.bp 3 0 0)),(2999,(.hd 9)),(3999,(.hd 9)),(4999,(.hd 9))],[(5,(.i .i64)),(2000,t49),(3000,t52),(4000,t52)]⟩,[((.exit 2),⟨[(2,(.bp 2 0 0)),(3,(.bp 3 0 0)),(3999,(.hd 9)),(4999,(.hd 9))],[(3000,t52),(4000,t52)]⟩)],λ k x=>Gz k x.1 x.2.1 x.2.2.1 x.2.2.2⟩
def H0.p:LF:=⟨⟨[(1,(.bp 1 0 0)),(2,(.bp 2 0 0)),(3,(.bp 3 0 0)),(2999,(.hd 9)),(3999,(.hd 9)),(4999,(.hd 9))],[(4,(.i .i64)),(2000,t49),(3000,t52),(4000,t52)]⟩,[((.exit 0),⟨[(1,(.bp 1 0 0)),(2,(.bp 2 0 0)),(3,(.bp 3 0 0)),(2999,(.hd 9)),(3999,(.hd 9)),(4999,(.hd 9))],[(2000,t49),(3000,t52),(4000,t52)]⟩)],λ k x=>H0 k x.1 x.2.1 x.2.2.1 x.2.2.2⟩
def C8.d:Fd := { nt:=62,nv:=1,nm:=[0,1,3,4,5,6],res:=[],cs:=λ k=>[(94,K7.e k),(95,Bx.e k),(96,C2.e k)],ls:=[(7,Gz.p),(3,H0.p)],mv:=[61],rf:=true }
def C8.a (k:Nat):AC (C8.d.cs k):=⟨K7.s k,Bx.s k,C2.s k,trivial⟩
def Gz.s:LL Tryz.f42 C8.d 7 Gz.p:=mL [] C8.a trivial
def H0.s:LL Tryz.f42 C8.d 3 H0.p:=mL [] C8.a trivial
def C8.s (k:Nat):CK 42 (C8.e k):=mS C8.d k [3,7] Tryz.func42 (C8.a k) ⟨H0.s,Gz.s,trivial⟩
def G0.e (k:Nat):Ent:=⟨1,[(.ptr t21 t21)],[(.one,.s)],λ x=>G0 x⟩
def G0.d:Fd := { nt:=10,nv:=1,nm:=[0,1],res:=[2],cs:=λ k=>[(83,Cy.e k),(86,Bj.e k),(115,L7.e k)] }
def G0.s (k:Nat):CK 56 (G0.e k):=mS G0.d k [] Tryz.func56 ⟨Cy.s k,Bj.s k,L7.s k,trivial⟩ trivial
def Jh.e (k:Nat):Ent:=⟨1,[(.ptr t21 t21)],[(.agg,t16)],λ x=>Jh x⟩
def Jh.d:Fd := { nt:=11,nv:=1,nm:=[0,1],res:=[],cs:=λ k=>[(37,A3.e k),(39,Aa.e k)] }
def Jh.s (k:Nat):CK 197 (Jh.e k):=mS Jh.d k [] Tryz.func197 ⟨A3.s k,Aa.s k,trivial⟩ trivial
def Cz.e (k:Nat):Ent:=⟨1,[(.ptr t21 t21)],[(.agg,t26)],λ x=>Cz k x⟩
def Cz.d:Fd := { nt:=16,nv:=1,nm:=[0,1,3],res:=[],cs:=λ k=>[(83,Cy.e k),(88,Di.e k),(197,Jh.e k)],mv:=[15] }
def Cz.s (k:Nat):CK 198 (Cz.e k):=mS Cz.d k [] Tryz.func198 ⟨Cy.s k,Di.s k,Jh.s k,trivial⟩ trivial
def Kt.e (k:Nat):Ent:=⟨4,[(.val true t41),(.val false .s),(.val true t25),(.val false .b)],[(.agg,t43),(.one,(.i .i64))],λ x=>Kt k x.1 x.2.1 x.2.2.1 x.2.2.2⟩
def Kt.d:Fd := { nt:=34,nv:=4,nm:=[0,1,2,3,4,5,6,7,10,11],res:=[9],cs:=λ k=>[(62,Ar.e k),(78,Ce.e k),(95,Bx.e k),(140,Cf.e k),(184,Jd.e k)],mv:=[27,32] }
def Kt.s (k:Nat):CK 235 (Kt.e k):=mS Kt.d k [] Tryz.func235 ⟨Ar.s k,Ce.s k,Bx.s k,Cf.s k,Jd.s k,trivial⟩ trivial
def Ji.e (k:Nat):Ent:=⟨2,[(.val true t41),(.val false t31)],[(.agg,t44),(.one,.b)],λ x=>Ji k x.1 x.2⟩
def Ji.d:Fd := { nt:=25,nv:=2,nm:=[0,1,2,3,6],res:=[5],cs:=λ k=>[(95,Bx.e k),(140,Cf.e k),(193,Ff.e k),(254,I1.e k)],mv:=[24] }
def Ji.s (k:Nat):CK 236 (Ji.e k):=mS Ji.d k [] Tryz.func236 ⟨Bx.s k,Cf.s k,Ff.s k,I1.s k,trivial⟩ trivial
def Jj.e (k:Nat):Ent:=⟨1,[(.ptr t21 t21)],[(.agg,t28)],λ x=>Jj k x⟩
def Jj.d:Fd := { nt:=8,nv:=1,nm:=[0,1],res:=[],cs:=λ k=>[(86,Bj.e k),(198,Cz.e k),(230,Jv.e k)] }
def Jj.s (k:Nat):CK 239 (Jj.e k):=mS Jj.d k [] Tryz.func239 ⟨Bj.s k,Cz.s k,Jv.s k,trivial⟩ trivial
def Dx.e (k:Nat):Ent:=⟨1,[(.ptr t21 t21)],[(.one,t32)],λ x=>Dx k x⟩
def H1.p:LF:=⟨⟨[(0,(.bp 0 0 0)),(1999,(.hd 3))],[(3,t32),(4,(.i .i64)),(1000,t4),(1001,(.i .i64)),(1002,(.i .i64))]⟩,[((.exit 0),⟨[(1999,(.hd 3))],[(3,t32),(1000,t4),(1001,(.i .i64)),(1002,(.i .i64))]⟩)],λ k x=>H1 k x.1 x.2.1 x.2.2.1 x.2.2.2.1 x.2.2.2.2⟩
def Dx.d:Fd := { nt:=17,nv:=1,nm:=[0,1,3,4],res:=[2],cs:=λ k=>[(37,A3.e k),(239,Jj.e k),(260,C4.e k)],ls:=[(3,H1.p)] }
def Dx.a (k:Nat):AC (Dx.d.cs k):=⟨A3.s k,Jj.s k,C4.s k,trivial⟩
def H1.s:LL Tryz.f237 Dx.d 3 H1.p:=mL [] Dx.a trivial
def Dx.s (k:Nat):CK 237 (Dx.e k):=mS Dx.d k [3] Tryz.func237 (Dx.a k) ⟨H1.s,trivial⟩
def G6.e (k:Nat):Ent:=⟨1,[(.ptr t21 t21)],[(.agg,t45)],λ x=>G6 k x⟩
def H2.p:LF:=⟨⟨[(0,(.bp 0 0 0)),(2,(.bp 2 0 0)),(3,(.bp 3 0 0)),(1999,(.hd 3)),(3999,(.hd 5)),(4999,(.hd 5))],[(4,(.i .i64)),(1000,t4),(1001,(.i .i64)),(1002,(.i .i64)),(3000,(.i .i64)),(3001,t14),(3002,t14),(3003,t32),(3004,t32),(4000,(.i .i64)),(4001,t13),(4002,t13),(4003,t32),(4004,t32)]⟩,[((.exit 0),⟨[(0,(.bp 0 0 0)),(2,(.bp 2 0 0)),(3,(.bp 3 0 0)),(1999,(.hd 3)),(3999,(.hd 5)),(4999,(.hd 5))],[(1000,t4),(1001,(.i .i64)),(1002,(.i .i64)),(3000,(.i .i64)),(3001,t14),(3002,t14),(3003,t32),(3004,t32),(4000,(.i .i64)),(4001,t13),(4002,t13),(4003,t32),(4004,t32)]⟩)],λ k x=>H2 k x.1 x.2.1 x.2.2.1 x.2.2.2.1 x.2.2.2.2.1 x.2.2.2.2.2.1 x.2.2.2.2.2.2.1 x.2.2.2.2.2.2.2.1 x.2.2.2.2.2.2.2.2.1 x.2.2.2.2.2.2.2.2.2.1 x.2.2.2.2.2.2.2.2.2.2.1 x.2.2.2.2.2.2.2.2.2.2.2.1 x.2.2.2.2.2.2.2.2.2.2.2.2.1 x.2.2.2.2.2.2.2.2.2.2.2.2.2⟩
def G6.d:Fd := { nt:=47,nv:=1,nm:=[0,1,3,4],res:=[],cs:=λ k=>[(37,A3.e k),(83,Cy.e k),(86,Bj.e k),(165,G3.e k),(170,Hv.e k),(198,Cz.e k),(235,Kt.e k),(236,Ji.e k),(237,Dx.e k)],ls:=[(3,H2.p)],mv:=[46] }
def G6.a (k:Nat):AC (G6.d.cs k):=⟨A3.s k,Cy.s k,Bj.s k,G3.s k,Hv.s k,Cz.s k,Kt.s k,Ji.s k,Dx.s k,trivial⟩
def H2.s:LL Tryz.f194 G6.d 3 H2.p:=mL [] G6.a trivial
def G6.s (k:Nat):CK 194 (G6.e k):=mS G6.d k [3] Tryz.func194 (G6.a k) ⟨H2.s,trivial⟩
def G9.e (k:Nat):Ent:=⟨1,[(.ptr t21 t21)],[(.agg,t29)],λ x=>G9 k x⟩
def B9.p:LF:=⟨⟨[(0,(.bp 0 0 0)),(2,(.bp 2 0 0)),(3,(.bp 3 0 0)),(1999,(.hd 3)),(3999,(.hd 2)),(4999,(.hd 2))],[(4,(.i .i64)),(1000,t4),(1001,(.i .i64)),(1002,(.i .i64)),(3000,t14),(3001,t14),(4000,t14),(4001,t14)]⟩,[((.exit 0),⟨[(2,(.bp 2 0 0)),(3,(.bp 3 0 0)),(3999,(.hd 2)),(4999,(.hd 2)),(1999,(.hd 3))],[(3000,t14),(3001,t14),(4000,t14),(4001,t14),(1000,t4),(1001,(.i .i64)),(1002,(.i .i64))]⟩)],λ k x=>B9 k x.1 x.2.1 x.2.2.1 x.2.2.2.1 x.2.2.2.2.1 x.2.2.2.2.2.1 x.2.2.2.2.2.2.1 x.2.2.2.2.2.2.2⟩
def G9.d:Fd := { nt:=44,nv:=1,nm:=[0,1,3,4,5],res:=[],cs:=λ k=>[(37,A3.e k),(86,Bj.e k),(198,Cz.e k),(202,Bw.e k),(209,Bt.e k),(210,Ap.e k),(249,Bo.e k)],ls:=[(3,B9.p)],mv:=[43] }
def G9.a (k:Nat):AC (G9.d.cs k):=⟨A3.s k,Bj.s k,Cz.s k,Bw.s k,Bt.s k,Ap.s k,Bo.s k,trivial⟩
def B9.s:LL Tryz.f238 G9.d 3 B9.p:=mL [] G9.a trivial
def G9.s (k:Nat):CK 238 (G9.e k):=mS G9.d k [3] Tryz.func238 (G9.a k) ⟨B9.s,trivial⟩
def L8.e (k:Nat):Ent:=⟨1,[(.ptr t21 t21)],[(.agg,t29)],λ x=>L8 k x⟩
def L8.d:Fd := { nt:=33,nv:=1,nm:=[0,1,3],res:=[],cs:=λ k=>[(37,A3.e k),(56,G0.e k),(238,G9.e k)],mv:=[32] }
def L8.s (k:Nat):CK 195 (L8.e k):=mS L8.d k [] Tryz.func195 ⟨A3.s k,G0.s k,G9.s k,trivial⟩ trivial
def Lv.e (k:Nat):Ent:=⟨1,[(.ptr t21 t21)],[(.one,t32)],λ x=>Lv k x⟩
def Lv.d:Fd := { nt:=27,nv:=1,nm:=[0,1,3],res:=[2],cs:=λ k=>[(37,A3.e k),(39,Aa.e k),(237,Dx.e k),(239,Jj.e k)] }
def Lv.s (k:Nat):CK 196 (Lv.e k):=mS Lv.d k [] Tryz.func196 ⟨A3.s k,Aa.s k,Dx.s k,Jj.s k,trivial⟩ trivial
def H4.e (k:Nat):Ent:=⟨1,[(.ptr t21 t21)],[(.agg,t45)],λ x=>H4 k x⟩
def H3.p:LF:=⟨⟨[(0,(.bp 0 0 0)),(2,(.bp 2 0 0)),(3,(.bp 3 0 0)),(1999,(.hd 3)),(3999,(.hd 5)),(4999,(.hd 5))],[(1000,t4),(1001,(.i .i64)),(1002,(.i .i64)),(3000,(.i .i64)),(3001,t14),(3002,t14),(3003,t32),(3004,t32),(4000,(.i .i64)),(4001,t13),(4002,t13),(4003,t31),(4004,t32)]⟩,[((.exit 1),⟨[(2,(.bp 2 0 0)),(3,(.bp 3 0 0)),(3999,(.hd 5)),(4999,(.hd 5)),(1999,(.hd 3))],[(3000,(.i .i64)),(3001,t14),(3002,t14),(3003,t32),(3004,t32),(4000,(.i .i64)),(4001,t13),(4002,t13),(4003,t31),(4004,t32),(1000,t4),(1001,(.i .i64)),(1002,(.i .i64))]⟩)],λ k x=>H3 k x.1 x.2.1 x.2.2.1 x.2.2.2.1 x.2.2.2.2.1 x.2.2.2.2.2.1 x.2.2.2.2.2.2.1 x.2.2.2.2.2.2.2.1 x.2.2.2.2.2.2.2.2.1 x.2.2.2.2.2.2.2.2.2.1 x.2.2.2.2.2.2.2.2.2.2.1 x.2.2.2.2.2.2.2.2.2.2.2.1 x.2.2.2.2.2.2.2.2.2.2.2.2⟩
def H4.d:Fd := { nt:=50,nv:=1,nm:=[0,1,3],res:=[],cs:=λ k=>[(37,A3.e k),(39,Aa.e k),(56,G0.e k),(194,G6.e k),(195,L8.e k),(196,Lv.e k)],ls:=[(12,H3.p)],mv:=[49] }
def H4.a (k:Nat):AC (H4.d.cs k):=⟨A3.s k,Aa.s k,G0.s k,G6.s k,L8.s k,Lv.s k,trivial⟩
def H3.s:LL Tryz.f147 H4.d 12 H3.p:=mL [] H4.a trivial
def H4.s (k:Nat):CK 147 (H4.e k):=mS H4.d k [12] Tryz.func147 (H4.a k) ⟨H3.s,trivial⟩
def K8.e (k:Nat):Ent:=⟨1,[(.ptr t21 t21)],[(.agg,t16)],λ x=>K8 x⟩
def K8.d:Fd := { nt:=27,nv:=1,nm:=[0,1,3],res:=[],cs:=λ k=>[(37,A3.e k),(39,Aa.e k),(197,Jh.e k)] }
def K8.s (k:Nat):CK 148 (K8.e k):=mS K8.d k [] Tryz.func148 ⟨A3.s k,Aa.s k,Jh.s k,trivial⟩ trivial
def M7.e (k:Nat):Ent:=⟨1,[(.ptr t21 t21)],[(.agg,t26)],λ x=>M7 k x⟩
def M7.d:Fd := { nt:=27,nv:=1,nm:=[0,1,3],res:=[],cs:=λ k=>[(37,A3.e k),(148,K8.e k),(198,Cz.e k)],mv:=[26] }
def M7.s (k:Nat):CK 149 (M7.e k):=mS M7.d k [] Tryz.func149 ⟨A3.s k,K8.s k,Cz.s k,trivial⟩ trivial
def H5.e (k:Nat):Ent:=⟨2,[(.ptr t21 t21),(.vw t50 2),(.hid t50 t49)],[(.agg,(.pr t23 (.pr t18 (.pr t47 (.pr t16 (.pr t36 t2))))))],λ x=>H5 k x.1 x.2.1 x.2.2⟩
def H5.d:Fd := { nt:=100,nv:=2,nm:=[0,1,2,3,5],res:=[],cs:=λ k=>[(37,A3.e k),(39,Aa.e k),(42,C8.e k),(56,G0.e k),(147,H4.e k),(148,K8.e k),(149,M7.e k)],mv:=[1,99],rf:=true }
def H5.s (k:Nat):CK 84 (H5.e k):=mS H5.d k [] Tryz.func84 ⟨A3.s k,Aa.s k,C8.s k,G0.s k,H4.s k,K8.s k,M7.s k,trivial⟩ trivial
def Lw.e (k:Nat):Ent:=⟨2,[(.ptr t21 t21),(.val false (.i .i64))],[(.agg,t53)],λ x=>Lw k x.1 x.2⟩
def Lw.d:Fd := { nt:=15,nv:=2,nm:=[0,1,2,3,5],res:=[],cs:=λ k=>[(55,G5.e k),(83,Cy.e k),(84,H5.e k)],mv:=[14],rf:=true }
def Lw.s (k:Nat):CK 35 (Lw.e k):=mS Lw.d k [] Tryz.func35 ⟨G5.s k,Cy.s k,H5.s k,trivial⟩ trivial
def Lx.e (k:Nat):Ent:=⟨2,[(.val false t4),(.val false (.i .i64))],[(.one,(.i .i64))],λ x=>Lx x.1 x.2⟩
def Lx.d:Fd := { nt:=15,nv:=2,nm:=[0,1,2,3,5],res:=[4],rf:=true }
def Lx.s (k:Nat):CK 36 (Lx.e k):=mS Lx.d k [] Tryz.func36 trivial trivial
def Gf.e (k:Nat):Ent:=⟨2,[(.ptr t21 t21),(.vw t53 2),(.hid t53 t53)],[(.agg,t35)],λ x=>Gf k x.1 x.2.1 x.2.2⟩
def Gf.d:Fd := { nt:=99,nv:=2,nm:=[0,1,2,3,5,6],res:=[],cs:=λ k=>[(37,A3.e k),(39,Aa.e k),(86,Bj.e k),(87,Du.e k),(88,Di.e k),(89,Gd.e k)],mv:=[1,98],rf:=true }
def Gf.s (k:Nat):CK 38 (Gf.e k):=mS Gf.d k [] Tryz.func38 ⟨A3.s k,Aa.s k,Bj.s k,Du.s k,Di.s k,Gd.s k,trivial⟩ trivial
def Ly.e (k:Nat):Ent:=⟨1,[(.val false t4)],[(.agg,t53),(.agg,t35)],λ x=>Ly k x⟩
def Ly.d:Fd := { nt:=44,nv:=1,nm:=[0,1,4,5,6],res:=[],cs:=λ k=>[(34,M5.e k),(35,Lw.e k),(36,Lx.e k),(37,A3.e k),(38,Gf.e k),(39,Aa.e k)],mv:=[42,43],rf:=true }
def Ly.s (k:Nat):CK 10 (Ly.e k):=mS Ly.d k [] Tryz.func10 ⟨M5.s k,Lw.s k,Lx.s k,A3.s k,Gf.s k,Aa.s k,trivial⟩ trivial
def Cs.e (k:Nat):Ent:=⟨3,[(.val false (.i .i64)),(.val false (.i .i64)),(.val false (.i .i64))],[(.one,.b)],λ x=>Cs x.1 x.2.1 x.2.2⟩
def Cs.d:Fd := { nt:=15,nv:=3,nm:=[0,1,2,3,4,5],res:=[6] }
def Cs.s (k:Nat):CK 74 (Cs.e k):=mS Cs.d k [] Tryz.func74 trivial trivial
def Dk.e (k:Nat):Ent:=⟨1,[(.val false t22)],[(.one,.b)],λ x=>Dk k x⟩
def Hg.p:LF:=⟨⟨[],[(0,t22),(5,t22),(6,(.i .i64)),(7,(.i .i64))]⟩,[(.ret,⟨[],[(2,.b)]⟩),((.exit 0),⟨[],[(0,t22)]⟩)],λ k x=>Hg k x.1 x.2.1 x.2.2.1 x.2.2.2⟩
def Dk.d:Fd := { nt:=47,nv:=1,nm:=[0,1,3,4],res:=[2],cs:=λ k=>[(74,Cs.e k)],ls:=[(2,Hg.p)],rf:=true }
def Dk.a (k:Nat):AC (Dk.d.cs k):=⟨Cs.s k,trivial⟩
def Hg.s:LL Tryz.f100 Dk.d 2 Hg.p:=mL [] Dk.a trivial
def Dk.s (k:Nat):CK 100 (Dk.e k):=mS Dk.d k [2] Tryz.func100 (Dk.a k) ⟨Hg.s,trivial⟩
def C9.e (k:Nat):Ent:=⟨2,[(.val false t6),(.val false (.i .i64))],[(.one,.b)],λ x=>C9 k x.1 x.2⟩
def Ia.p:LF:=⟨⟨[],[(1,(.i .i64)),(7,t6),(8,(.i .i64)),(9,(.i .i64))]⟩,[(.ret,⟨[],[(4,.b)]⟩),((.exit 0),⟨[],[]⟩)],λ k x=>Ia k x.1 x.2.1 x.2.2.1 x.2.2.2⟩
def C9.d:Fd := { nt:=17,nv:=2,nm:=[0,1,2,3,5,6],res:=[4],ls:=[(2,Ia.p)],rf:=true }
def Ia.s:LL Tryz.f145 C9.d 2 Ia.p:=mL [] (λ _=>trivial) trivial
def C9.s (k:Nat):CK 145 (C9.e k):=mS C9.d k [2] Tryz.func145 trivial ⟨Ia.s,trivial⟩
def Hm.e (k:Nat):Ent:=⟨1,[(.val false t6)],[(.one,.b)],λ x=>Hm k x⟩
def Jk.p:LF:=⟨⟨[],[(0,t6),(5,t6),(6,(.i .i64)),(7,(.i .i64))]⟩,[(.ret,⟨[],[(2,.b)]⟩),((.exit 0),⟨[],[]⟩)],λ k x=>Jk k x.1 x.2.1 x.2.2.1 x.2.2.2⟩
def Hm.d:Fd := { nt:=18,nv:=1,nm:=[0,1,3,4],res:=[2],cs:=λ k=>[(145,C9.e k)],ls:=[(2,Jk.p)],rf:=true }
def Hm.a (k:Nat):AC (Hm.d.cs k):=⟨C9.s k,trivial⟩
def Jk.s:LL Tryz.f101 Hm.d 2 Jk.p:=mL [] Hm.a trivial
def Hm.s (k:Nat):CK 101 (Hm.e k):=mS Hm.d k [2] Tryz.func101 (Hm.a k) ⟨Jk.s,trivial⟩
def Fc.e (k:Nat):Ent:=⟨2,[(.val false t22),(.val false (.i .i64))],[(.agg,t16),(.one,.b)],λ x=>Fc k x.1 x.2⟩
def Jl.p:LF:=⟨⟨[(4,(.bp 4 0 0)),(5999,(.hd 3))],[(1,(.i .i64)),(8,t22),(9,(.i .i64)),(10,(.i .i64)),(5000,t16)]⟩,[(.ret,⟨[(4,(.bp 4 0 0)),(5999,(.hd 3))],[(5,.b),(5000,t16)]⟩),((.exit 0),⟨[(4,(.bp 4 0 0)),(5999,(.hd 3))],[(5000,t16)]⟩)],λ k x=>Jl k x.1 x.2.1 x.2.2.1 x.2.2.2.1 x.2.2.2.2⟩
def Fc.d:Fd := { nt:=21,nv:=2,nm:=[0,1,2,3,6,7],res:=[5],ls:=[(2,Jl.p)],rf:=true }
def Jl.s:LL Tryz.f102 Fc.d 2 Jl.p:=mL [] (λ _=>trivial) trivial
def Fc.s (k:Nat):CK 102 (Fc.e k):=mS Fc.d k [2] Tryz.func102 trivial ⟨Jl.s,trivial⟩
def Ga.e (k:Nat):Ent:=⟨2,[(.val true t17),(.val false t22)],[(.one,.b)],λ x=>Ga k x.1 x.2⟩
def Ib.p:LF:=⟨⟨[(2,(.bp 2 0 0)),(3999,(.hd 2))],[(1,t22),(28,t10),(29,(.i .i64)),(30,(.i .i64)),(47,t6),(48,(.i .i64)),(49,(.i .i64)),(3000,t17)]⟩,[(.ret,⟨[],[(4,.b)]⟩),((.exit 2),⟨[(2,(.bp 2 0 0)),(3999,(.hd 2))],[(1,t22),(28,t10),(29,(.i .i64)),(30,(.i .i64)),(3000,t17)]⟩)],λ k x=>Ib k x.1 x.2.1 x.2.2.1 x.2.2.2.1 x.2.2.2.2.1 x.2.2.2.2.2.1 x.2.2.2.2.2.2.1 x.2.2.2.2.2.2.2⟩
def Ic.p:LF:=⟨⟨[(2,(.bp 2 0 0)),(3999,(.hd 2))],[(1,t22),(28,t10),(29,(.i .i64)),(30,(.i .i64)),(3000,t17)]⟩,[(.ret,⟨[],[(4,.b)]⟩),((.exit 0),⟨[],[]⟩)],λ k x=>Ic k x.1 x.2.1 x.2.2.1 x.2.2.2.1 x.2.2.2.2⟩
def Ga.d:Fd := { nt:=63,nv:=2,nm:=[0,1,2,3,5,6,7,8,9,10],res:=[4],cs:=λ k=>[(74,Cs.e k),(100,Dk.e k),(101,Hm.e k),(102,Fc.e k)],ls:=[(9,Ib.p),(4,Ic.p)],rf:=true }
def Ga.a (k:Nat):AC (Ga.d.cs k):=⟨Cs.s k,Dk.s k,Hm.s k,Fc.s k,trivial⟩
def Ib.s:LL Tryz.f44 Ga.d 9 Ib.p:=mL [] Ga.a trivial
def Ic.s:LL Tryz.f44 Ga.d 4 Ic.p:=mL [9] Ga.a ⟨Ib.s,trivial⟩
def Ga.s (k:Nat):CK 44 (Ga.e k):=mS Ga.d k [4] Tryz.func44 (Ga.a k) ⟨Ic.s,trivial⟩
def Cp.e (k:Nat):Ent:=⟨1,[(.val true t16)],[(.one,.b)],λ x=>Cp x⟩
def Cp.d:Fd := { nt:=16,nv:=1,nm:=[0,1],res:=[2],cs:=λ k=>[(74,Cs.e k)] }
def Cp.s (k:Nat):CK 45 (Cp.e k):=mS Cp.d k [] Tryz.func45 ⟨Cs.s k,trivial⟩ trivial
def Bp.e (k:Nat):Ent:=⟨2,[(.val true t16),(.val true t16)],[(.one,.b)],λ x=>Bp x.1 x.2⟩
def Bp.d:Fd := { nt:=32,nv:=2,nm:=[0,1,2,3],res:=[4] }
def Bp.s (k:Nat):CK 14 (Bp.e k):=mS Bp.d k [] Tryz.func14 trivial trivial
def Aj.e (k:Nat):Ent:=⟨1,[(.val false .s)],[(.one,.b)],λ x=>Aj k x⟩
def Au.p:LF:=⟨⟨[],[(0,.s),(3,(.i .i64))]⟩,[(.ret,⟨[],[(2,.b)]⟩),((.exit 0),⟨[],[(0,.s)]⟩)],λ k x=>Au k x.1 x.2⟩
def Aj.d:Fd := { nt:=45,nv:=1,nm:=[0,1,3,4],res:=[2],cs:=λ k=>[(74,Cs.e k)],ls:=[(2,Au.p)] }
def Aj.a (k:Nat):AC (Aj.d.cs k):=⟨Cs.s k,trivial⟩
def Au.s:LL Tryz.f48 Aj.d 2 Au.p:=mL [] Aj.a trivial
def Aj.s (k:Nat):CK 48 (Aj.e k):=mS Aj.d k [2] Tryz.func48 (Aj.a k) ⟨Au.s,trivial⟩
def Eu.e (k:Nat):Ent:=⟨1,[(.val true t25)],[(.one,.b)],λ x=>Eu x⟩
def Eu.d:Fd := { nt:=23,nv:=1,nm:=[0,1],res:=[2],cs:=λ k=>[(45,Cp.e k)] }
def Eu.s (k:Nat):CK 103 (Eu.e k):=mS Eu.d k [] Tryz.func103 ⟨Cp.s k,trivial⟩ trivial
def Eh.e (k:Nat):Ent:=⟨1,[(.val true t49)],[(.one,.b)],λ x=>Eh k x⟩
def Fq.p:LF:=⟨⟨[(1,(.bp 1 0 0)),(2999,(.hd 9))],[(6,t36),(7,(.i .i64)),(8,(.i .i64)),(2000,t49)]⟩,[(.ret,⟨[],[(2,.b)]⟩),((.exit 0),⟨[(1,(.bp 1 0 0)),(2999,(.hd 9))],[(2000,t49)]⟩)],λ k x=>Fq k x.1 x.2.1 x.2.2.1 x.2.2.2⟩
def Eh.d:Fd := { nt:=35,nv:=1,nm:=[0,1,3,4],res:=[2],cs:=λ k=>[(14,Bp.e k),(48,Aj.e k),(103,Eu.e k)],ls:=[(2,Fq.p)],rf:=true }
def Eh.a (k:Nat):AC (Eh.d.cs k):=⟨Bp.s k,Aj.s k,Eu.s k,trivial⟩
def Fq.s:LL Tryz.f46 Eh.d 2 Fq.p:=mL [] Eh.a trivial
def Eh.s (k:Nat):CK 46 (Eh.e k):=mS Eh.d k [2] Tryz.func46 (Eh.a k) ⟨Fq.s,trivial⟩
def L9.e (k:Nat):Ent:=⟨1,[(.val true t28)],[(.one,.b)],λ x=>L9 k x⟩
def L9.d:Fd := { nt:=26,nv:=1,nm:=[0,1],res:=[2],cs:=λ k=>[(45,Cp.e k),(48,Aj.e k),(74,Cs.e k)] }
def L9.s (k:Nat):CK 104 (L9.e k):=mS L9.d k [] Tryz.func104 ⟨Cp.s k,Aj.s k,Cs.s k,trivial⟩ trivial
def F8.e (k:Nat):Ent:=⟨1,[(.val false t13)],[(.one,.b)],λ x=>F8 k x⟩
def Fs.p:LF:=⟨⟨[],[(0,t13),(5,t13),(6,(.i .i64)),(7,(.i .i64))]⟩,[(.ret,⟨[],[(2,.b)]⟩),((.exit 0),⟨[],[(0,t13)]⟩)],λ k x=>Fs k x.1 x.2.1 x.2.2.1 x.2.2.2⟩
def F8.d:Fd := { nt:=41,nv:=1,nm:=[0,1,3,4],res:=[2],cs:=λ k=>[(48,Aj.e k)],ls:=[(2,Fs.p)] }
def F8.a (k:Nat):AC (F8.d.cs k):=⟨Aj.s k,trivial⟩
def Fs.s:LL Tryz.f168 F8.d 2 Fs.p:=mL [] F8.a trivial
def F8.s (k:Nat):CK 168 (F8.e k):=mS F8.d k [2] Tryz.func168 (F8.a k) ⟨Fs.s,trivial⟩
def B0.e (k:Nat):Ent:=⟨1,[(.val true t27)],[(.one,.b)],λ x=>B0 k x⟩
def B0.d:Fd := { nt:=11,nv:=1,nm:=[0,1],res:=[2],cs:=λ k=>[(168,F8.e k)] }
def B0.s (k:Nat):CK 105 (B0.e k):=mS B0.d k [] Tryz.func105 ⟨F8.s k,trivial⟩ trivial
def Fh.e (k:Nat):Ent:=⟨1,[(.val false t31)],[(.one,.b)],λ x=>Fh k x⟩
def Hh.p:LF:=⟨⟨[],[(0,t31),(5,t31),(6,(.i .i64)),(7,(.i .i64))]⟩,[(.ret,⟨[],[(2,.b)]⟩),((.exit 0),⟨[],[(0,t31)]⟩)],λ k x=>Hh k x.1 x.2.1 x.2.2.1 x.2.2.2⟩
def Fh.d:Fd := { nt:=34,nv:=1,nm:=[0,1,3,4],res:=[2],cs:=λ k=>[(104,L9.e k)],ls:=[(2,Hh.p)] }
def Fh.a (k:Nat):AC (Fh.d.cs k):=⟨L9.s k,trivial⟩
def Hh.s:LL Tryz.f106 Fh.d 2 Hh.p:=mL [] Fh.a trivial
def Fh.s (k:Nat):CK 106 (Fh.e k):=mS Fh.d k [2] Tryz.func106 (Fh.a k) ⟨Hh.s,trivial⟩
def Bl.e (k:Nat):Ent:=⟨1,[(.val true t41)],[(.one,.b)],λ x=>Bl k x⟩
def Id.p:LF:=⟨⟨[(1,(.bp 1 0 0)),(2999,(.hd 5))],[(6,t31),(7,(.i .i64)),(8,(.i .i64)),(2000,(.i .i64)),(2001,t13),(2002,t13),(2003,t31),(2004,t31)]⟩,[(.ret,⟨[],[(2,.b)]⟩),((.exit 0),⟨[(1,(.bp 1 0 0)),(2999,(.hd 5))],[(2000,(.i .i64)),(2001,t13),(2002,t13),(2003,t31),(2004,t31)]⟩)],λ k x=>Id k x.1 x.2.1 x.2.2.1 x.2.2.2.1 x.2.2.2.2.1 x.2.2.2.2.2.1 x.2.2.2.2.2.2.1 x.2.2.2.2.2.2.2⟩
def Bl.d:Fd := { nt:=35,nv:=1,nm:=[0,1,3,4],res:=[2],cs:=λ k=>[(74,Cs.e k),(104,L9.e k),(105,B0.e k),(106,Fh.e k)],ls:=[(2,Id.p)] }
def Bl.a (k:Nat):AC (Bl.d.cs k):=⟨Cs.s k,L9.s k,B0.s k,Fh.s k,trivial⟩
def Id.s:LL Tryz.f47 Bl.d 2 Id.p:=mL [] Bl.a trivial
def Bl.s (k:Nat):CK 47 (Bl.e k):=mS Bl.d k [2] Tryz.func47 (Bl.a k) ⟨Id.s,trivial⟩
def Cq.e (k:Nat):Ent:=⟨1,[(.val true t49)],[(.one,.b)],λ x=>Cq k x⟩
def Dn.p:LF:=⟨⟨[(1,(.bp 1 0 0)),(2999,(.hd 9))],[(57,t0),(58,(.i .i64)),(59,(.i .i64)),(2000,t49)]⟩,[(.ret,⟨[],[(2,.b)]⟩),((.exit 2),⟨[],[]⟩)],λ k x=>Dn k x.1 x.2.1 x.2.2.1 x.2.2.2⟩
def Ft.p:LF:=⟨⟨[(1,(.bp 1 0 0)),(2999,(.hd 9))],[(34,t46),(35,(.i .i64)),(36,(.i .i64)),(2000,t49)]⟩,[(.ret,⟨[],[(2,.b)]⟩),((.exit 0),⟨[(1,(.bp 1 0 0)),(2999,(.hd 9))],[(2000,t49)]⟩)],λ k x=>Ft k x.1 x.2.1 x.2.2.1 x.2.2.2⟩
def Cq.d:Fd := { nt:=82,nv:=1,nm:=[0,1,3,4,5,6],res:=[2],cs:=λ k=>[(44,Ga.e k),(45,Cp.e k),(46,Eh.e k),(47,Bl.e k),(48,Aj.e k)],ls:=[(10,Dn.p),(4,Ft.p)],rf:=true }
def Cq.a (k:Nat):AC (Cq.d.cs k):=⟨Ga.s k,Cp.s k,Eh.s k,Bl.s k,Aj.s k,trivial⟩
def Dn.s:LL Tryz.f13 Cq.d 10 Dn.p:=mL [] Cq.a trivial
def Ft.s:LL Tryz.f13 Cq.d 4 Ft.p:=mL [] Cq.a trivial
def Cq.s (k:Nat):CK 13 (Cq.e k):=mS Cq.d k [4,10] Tryz.func13 (Cq.a k) ⟨Ft.s,Dn.s,trivial⟩
def Cl.e (k:Nat):Ent:=⟨1,[(.val false t6)],[(.one,t7)],λ x=>Cl x⟩
def Cl.d:Fd := { nt:=5,nv:=1,nm:=[0,1],res:=[2],rf:=true }
def Cl.s (k:Nat):CK 154 (Cl.e k):=mS Cl.d k [] Tryz.func154 trivial trivial
def Dy.e (k:Nat):Ent:=⟨1,[(.val true t17)],[(.agg,t18)],λ x=>Dy k x⟩
def El.p:LF:=⟨⟨[(2,(.bp 2 0 0)),(3,(.bp 3 0 0)),(3999,(.hd 2)),(4999,(.hd 2))],[(10,t10),(11,(.i .i64)),(12,(.i .i64)),(3000,t18),(4000,t18)]⟩,[((.exit 0),⟨[(2,(.bp 2 0 0)),(3,(.bp 3 0 0)),(3999,(.hd 2)),(4999,(.hd 2))],[(3000,t18),(4000,t18)]⟩)],λ k x=>El k x.1 x.2.1 x.2.2.1 x.2.2.2.1 x.2.2.2.2⟩
def Dy.d:Fd := { nt:=27,nv:=1,nm:=[0,1,3,4,5],res:=[],cs:=λ k=>[(154,Cl.e k)],ls:=[(3,El.p)],mv:=[26],rf:=true }
def Dy.a (k:Nat):AC (Dy.d.cs k):=⟨Cl.s k,trivial⟩
def El.s:LL Tryz.f90 Dy.d 3 El.p:=mL [] Dy.a trivial
def Dy.s (k:Nat):CK 90 (Dy.e k):=mS Dy.d k [3] Tryz.func90 (Dy.a k) ⟨El.s,trivial⟩
def Dz.e (k:Nat):Ent:=⟨1,[(.val true t17)],[(.agg,t19)],λ x=>Dz k x⟩
def La.p:LF:=⟨⟨[(2,(.bp 2 0 0)),(3,(.bp 3 0 0)),(3999,(.hd 2)),(4999,(.hd 2))],[(10,t10),(11,(.i .i64)),(12,(.i .i64)),(3000,t18),(4000,t19)]⟩,[((.exit 0),⟨[(2,(.bp 2 0 0)),(3,(.bp 3 0 0)),(3999,(.hd 2)),(4999,(.hd 2))],[(3000,t18),(4000,t19)]⟩)],λ k x=>La k x.1 x.2.1 x.2.2.1 x.2.2.2.1 x.2.2.2.2⟩
def Dz.d:Fd := { nt:=27,nv:=1,nm:=[0,1,3,4,5],res:=[],cs:=λ k=>[(154,Cl.e k)],ls:=[(3,La.p)],hint:=[(22,t7),(23,t7)],mv:=[26],rf:=true }
def Dz.a (k:Nat):AC (Dz.d.cs k):=⟨Cl.s k,trivial⟩
def La.s:LL Tryz.f90 Dz.d 3 La.p:=mL [] Dz.a trivial
def Dz.s (k:Nat):CK 90 (Dz.e k):=mS Dz.d k [3] Tryz.func90 (Dz.a k) ⟨La.s,trivial⟩
def Aq.e (k:Nat):Ent:=⟨1,[(.val false t31)],[(.one,t32)],λ x=>Aq x⟩
def Aq.d:Fd := { nt:=5,nv:=1,nm:=[0,1],res:=[2] }
def Aq.s (k:Nat):CK 111 (Aq.e k):=mS Aq.d k [] Tryz.func111 trivial trivial
def Al.e (k:Nat):Ent:=⟨1,[(.val false t4)],[(.one,t5)],λ x=>Al x⟩
def Al.d:Fd := { nt:=5,nv:=1,nm:=[0,1],res:=[2] }
def Al.s (k:Nat):CK 70 (Al.e k):=mS Al.d k [] Tryz.func70 trivial trivial
def Ba.e (k:Nat):Ent:=⟨1,[(.val false t13)],[(.one,t14)],λ x=>Ba k x⟩
def Dp.p:LF:=⟨⟨[],[(3,t14),(6,t13),(7,(.i .i64)),(8,(.i .i64))]⟩,[((.exit 0),⟨[],[(3,t14)]⟩)],λ k x=>Dp k x.1 x.2.1 x.2.2.1 x.2.2.2⟩
def Ba.d:Fd := { nt:=23,nv:=1,nm:=[0,1,3,4,5],res:=[2],cs:=λ k=>[(70,Al.e k)],ls:=[(3,Dp.p)] }
def Ba.a (k:Nat):AC (Ba.d.cs k):=⟨Al.s k,trivial⟩
def Dp.s:LL Tryz.f203 Ba.d 3 Dp.p:=mL [] Ba.a trivial
def Ba.s (k:Nat):CK 203 (Ba.e k):=mS Ba.d k [3] Tryz.func203 (Ba.a k) ⟨Dp.s,trivial⟩
def Dq.e (k:Nat):Ent:=⟨1,[(.val false t13)],[(.one,t15)],λ x=>Dq k x⟩
def Ka.p:LF:=⟨⟨[],[(3,t15),(6,t13),(7,(.i .i64)),(8,(.i .i64))]⟩,[((.exit 0),⟨[],[(3,t15)]⟩)],λ k x=>Ka k x.1 x.2.1 x.2.2.1 x.2.2.2⟩
def Dq.d:Fd := { nt:=23,nv:=1,nm:=[0,1,3,4,5],res:=[2],cs:=λ k=>[(70,Al.e k)],ls:=[(3,Ka.p)],hint:=[(19,t12),(20,t12)] }
def Dq.a (k:Nat):AC (Dq.d.cs k):=⟨Al.s k,trivial⟩
def Ka.s:LL Tryz.f203 Dq.d 3 Ka.p:=mL [] Dq.a trivial
def Dq.s (k:Nat):CK 203 (Dq.e k):=mS Dq.d k [3] Tryz.func203 (Dq.a k) ⟨Ka.s,trivial⟩
def A5.e (k:Nat):Ent:=⟨1,[(.val true t27)],[(.agg,t29)],λ x=>A5 k x⟩
def A5.d:Fd := { nt:=10,nv:=1,nm:=[0,1],res:=[],cs:=λ k=>[(203,Ba.e k)] }
def A5.s (k:Nat):CK 155 (A5.e k):=mS A5.d k [] Tryz.func155 ⟨Ba.s k,trivial⟩ trivial
def Jm.e (k:Nat):Ent:=⟨1,[(.val true t27)],[(.agg,t30)],λ x=>Jm k x⟩
def Jm.d:Fd := { nt:=10,nv:=1,nm:=[0,1],res:=[],cs:=λ k=>[(203,Dq.e k)] }
def Jm.s (k:Nat):CK 155 (Jm.e k):=mS Jm.d k [] Tryz.func155 ⟨Dq.s k,trivial⟩ trivial
def Av.e (k:Nat):Ent:=⟨1,[(.val true t41)],[(.agg,t42)],λ x=>Av k x⟩
def Av.d:Fd := { nt:=15,nv:=1,nm:=[0,1],res:=[],cs:=λ k=>[(111,Aq.e k),(155,A5.e k)] }
def Av.s (k:Nat):CK 91 (Av.e k):=mS Av.d k [] Tryz.func91 ⟨Aq.s k,A5.s k,trivial⟩ trivial
def Gg.e (k:Nat):Ent:=⟨1,[(.val true t25)],[(.agg,t26)],λ x=>Gg x⟩
def Gg.d:Fd := { nt:=8,nv:=1,nm:=[0,1],res:=[],cs:=λ k=>[(70,Al.e k)],mv:=[7],rf:=true }
def Gg.s (k:Nat):CK 92 (Gg.e k):=mS Gg.d k [] Tryz.func92 ⟨Al.s k,trivial⟩ trivial
def Bq.e (k:Nat):Ent:=⟨1,[(.val true t49)],[(.agg,t52)],λ x=>Bq k x⟩
def Ev.p:LF:=⟨⟨[(2,(.bp 2 0 0)),(3,(.bp 3 0 0)),(3999,(.hd 9)),(4999,(.hd 9))],[(36,t36),(37,(.i .i64)),(38,(.i .i64)),(3000,t52),(4000,t52)]⟩,[((.exit 2),⟨[(2,(.bp 2 0 0)),(3,(.bp 3 0 0)),(3999,(.hd 9)),(4999,(.hd 9))],[(3000,t52),(4000,t52)]⟩)],λ k x=>Ev k x.1 x.2.1 x.2.2.1 x.2.2.2.1 x.2.2.2.2⟩
def Ew.p:LF:=⟨⟨[(1,(.bp 1 0 0)),(2,(.bp 2 0 0)),(3,(.bp 3 0 0)),(2999,(.hd 9)),(3999,(.hd 9)),(4999,(.hd 9))],[(21,t46),(22,(.i .i64)),(23,(.i .i64)),(2000,t49),(3000,t52),(4000,t52)]⟩,[((.exit 0),⟨[(1,(.bp 1 0 0)),(2,(.bp 2 0 0)),(3,(.bp 3 0 0)),(2999,(.hd 9)),(3999,(.hd 9)),(4999,(.hd 9))],[(2000,t49),(3000,t52),(4000,t52)]⟩)],λ k x=>Ew k x.1 x.2.1 x.2.2.1 x.2.2.2.1 x.2.2.2.2.1 x.2.2.2.2.2⟩
def Bq.d:Fd := { nt:=54,nv:=1,nm:=[0,1,3,4,5,6,7],res:=[],cs:=λ k=>[(90,Dy.e k),(91,Av.e k),(92,Gg.e k)],ls:=[(8,Ev.p),(3,Ew.p)],mv:=[53],rf:=true }
def Bq.a (k:Nat):AC (Bq.d.cs k):=⟨Dy.s k,Av.s k,Gg.s k,trivial⟩
def Ev.s:LL Tryz.f40 Bq.d 8 Ev.p:=mL [] Bq.a trivial
def Ew.s:LL Tryz.f40 Bq.d 3 Ew.p:=mL [] Bq.a trivial
def Bq.s (k:Nat):CK 40 (Bq.e k):=mS Bq.d k [3,8] Tryz.func40 (Bq.a k) ⟨Ew.s,Ev.s,trivial⟩
def F9.e (k:Nat):Ent:=⟨2,[(.val false t6),(.val false (.i .i64))],[(.one,(.i .i64))],λ x=>F9 x.1 x.2⟩
def F9.d:Fd := { nt:=20,nv:=2,nm:=[0,1,2,3],res:=[4],cs:=λ k=>[(74,Cs.e k)],rf:=true }
def F9.s (k:Nat):CK 66 (F9.e k):=mS F9.d k [] Tryz.func66 ⟨Cs.s k,trivial⟩ trivial
def E3.e (k:Nat):Ent:=⟨2,[(.val true t49),(.val false t6)],[(.one,t7)],λ x=>E3 k x.1 x.2⟩
def Ey.p:LF:=⟨⟨[(2,(.bp 2 0 0)),(3999,(.hd 9))],[(5,t7),(7,(.i .i64)),(10,t6),(11,(.i .i64)),(12,(.i .i64)),(17,t46),(18,(.i .i64)),(19,(.i .i64)),(3000,t49)]⟩,[((.exit 2),⟨[(2,(.bp 2 0 0)),(3999,(.hd 9))],[(5,t7),(10,t6),(11,(.i .i64)),(12,(.i .i64)),(3000,t49)]⟩)],λ k x=>Ey k x.1 x.2.1 x.2.2.1 x.2.2.2.1 x.2.2.2.2.1 x.2.2.2.2.2.1 x.2.2.2.2.2.2.1 x.2.2.2.2.2.2.2.1 x.2.2.2.2.2.2.2.2⟩
def H6.p:LF:=⟨⟨[(2,(.bp 2 0 0)),(3999,(.hd 9))],[(5,t7),(10,t6),(11,(.i .i64)),(12,(.i .i64)),(3000,t49)]⟩,[((.exit 0),⟨[],[(5,t7)]⟩)],λ k x=>H6 k x.1 x.2.1 x.2.2.1 x.2.2.2.1 x.2.2.2.2⟩
def E3.d:Fd := { nt:=35,nv:=2,nm:=[0,1,2,3,5,6,7,8,9],res:=[4],ls:=[(6,Ey.p),(3,H6.p)],rf:=true }
def Ey.s:LL Tryz.f122 E3.d 6 Ey.p:=mL [] (λ _=>trivial) trivial
def H6.s:LL Tryz.f122 E3.d 3 H6.p:=mL [6] (λ _=>trivial) ⟨Ey.s,trivial⟩
def E3.s (k:Nat):CK 122 (E3.e k):=mS E3.d k [3] Tryz.func122 trivial ⟨H6.s,trivial⟩
def N4.e (k:Nat):Ent:=⟨1,[(.val false .s)],[(.one,(.i .i64))],λ x=>N4 k x⟩
def Ku.p:LF:=⟨⟨[],[(0,.s),(3,(.i .u32)),(4,(.i .i64))]⟩,[((.exit 0),⟨[],[(3,(.i .u32))]⟩)],λ k x=>Ku k x.1 x.2.1 x.2.2⟩
def N4.d:Fd := { nt:=20,nv:=1,nm:=[0,1,3,4],res:=[2],ls:=[(3,Ku.p)],rf:=true }
def Ku.s:LL Tryz.f227 N4.d 3 Ku.p:=mL [] (λ _=>trivial) trivial
def N4.s (k:Nat):CK 227 (N4.e k):=mS N4.d k [3] Tryz.func227 trivial ⟨Ku.s,trivial⟩
def Me.e (k:Nat):Ent:=⟨2,[(.val false .s),(.val false (.i .i64))],[(.one,(.i .i64))],λ x=>Me k x.1 x.2⟩
def Me.d:Fd := { nt:=11,nv:=2,nm:=[0,1,2,3],res:=[4],cs:=λ k=>[(227,N4.e k)],rf:=true }
def Me.s (k:Nat):CK 180 (Me.e k):=mS Me.d k [] Tryz.func180 ⟨N4.s k,trivial⟩ trivial
def Br.e (k:Nat):Ent:=⟨2,[(.val true t17),(.val false .s)],[(.one,t7)],λ x=>Br k x.1 x.2⟩
def Br.d:Fd := { nt:=20,nv:=2,nm:=[0,1,2,3],res:=[4],cs:=λ k=>[(154,Cl.e k),(180,Me.e k)],rf:=true }
def Br.s (k:Nat):CK 123 (Br.e k):=mS Br.d k [] Tryz.func123 ⟨Cl.s k,Me.s k,trivial⟩ trivial
def E4.e (k:Nat):Ent:=⟨2,[(.val false t6),(.val false t22)],[(.one,t7)],λ x=>E4 k x.1 x.2⟩
def Ez.p:LF:=⟨⟨[],[(1,t22),(5,t7),(10,t6),(11,(.i .i64)),(12,(.i .i64))]⟩,[((.exit 0),⟨[],[(5,t7)]⟩)],λ k x=>Ez k x.1 x.2.1 x.2.2.1 x.2.2.2.1 x.2.2.2.2⟩
def E4.d:Fd := { nt:=37,nv:=2,nm:=[0,1,2,3,5,6,7,8,9],res:=[4],cs:=λ k=>[(102,Fc.e k),(145,C9.e k)],ls:=[(3,Ez.p)],rf:=true }
def E4.a (k:Nat):AC (E4.d.cs k):=⟨Fc.s k,C9.s k,trivial⟩
def Ez.s:LL Tryz.f224 E4.d 3 Ez.p:=mL [] E4.a trivial
def E4.s (k:Nat):CK 224 (E4.e k):=mS E4.d k [3] Tryz.func224 (E4.a k) ⟨Ez.s,trivial⟩
def Ei.e (k:Nat):Ent:=⟨3,[(.val true t17),(.val false t22),(.val false .s)],[(.one,t7)],λ x=>Ei k x.1 x.2.1 x.2.2⟩
def Dr.p:LF:=⟨⟨[],[(7,t7),(8,t7),(9,t7),(10,t7),(19,t22),(20,(.i .i64)),(21,(.i .i64))]⟩,[((.exit 0),⟨[],[(9,t7),(10,t7)]⟩)],λ k x=>Dr k x.1 x.2.1 x.2.2.1 x.2.2.2.1 x.2.2.2.2.1 x.2.2.2.2.2.1 x.2.2.2.2.2.2⟩
def Ei.d:Fd := { nt:=49,nv:=3,nm:=[0,1,2,3,4,5,7,8,9,10,11,12],res:=[6],cs:=λ k=>[(123,Br.e k),(145,C9.e k),(224,E4.e k)],ls:=[(5,Dr.p)],rf:=true }
def Ei.a (k:Nat):AC (Ei.d.cs k):=⟨Br.s k,C9.s k,E4.s k,trivial⟩
def Dr.s:LL Tryz.f175 Ei.d 5 Dr.p:=mL [] Ei.a trivial
def Ei.s (k:Nat):CK 175 (Ei.e k):=mS Ei.d k [5] Tryz.func175 (Ei.a k) ⟨Dr.s,trivial⟩
def D0.e (k:Nat):Ent:=⟨2,[(.ptr t50 t50),(.val false .s)],[(.one,t7)],λ x=>D0 k x.1 x.2⟩
def D0.d:Fd := { nt:=26,nv:=2,nm:=[0,1,2,3],res:=[4],cs:=λ k=>[(122,E3.e k),(123,Br.e k),(175,Ei.e k)],rf:=true }
def D0.s (k:Nat):CK 116 (D0.e k):=mS D0.d k [] Tryz.func116 ⟨E3.s k,Br.s k,Ei.s k,trivial⟩ trivial
def Ie.e (k:Nat):Ent:=⟨3,[(.val true t16),(.val false (.i .i64)),(.val false (.i .i64))],[(.agg,t16)],λ x=>Ie x.1 x.2.1 x.2.2⟩
def Ie.d:Fd := { nt:=27,nv:=3,nm:=[0,1,2,3,4,5,7],res:=[],cs:=λ k=>[(45,Cp.e k)],rf:=true }
def Ie.s (k:Nat):CK 126 (Ie.e k):=mS Ie.d k [] Tryz.func126 ⟨Cp.s k,trivial⟩ trivial
def N5.e (k:Nat):Ent:=⟨2,[(.val false .s),(.val true t25)],[(.agg,t28)],λ x=>N5 x.1 x.2⟩
def N5.d:Fd := { nt:=14,nv:=2,nm:=[0,1,2,3],res:=[],rf:=true }
def N5.s (k:Nat):CK 112 (N5.e k):=mS N5.d k [] Tryz.func112 trivial trivial
def Ml.e (k:Nat):Ent:=⟨2,[(.val true t25),(.val true t25)],[(.one,.b)],λ x=>Ml x.1 x.2⟩
def Ml.d:Fd := { nt:=10,nv:=2,nm:=[0,1,2,3],res:=[4],cs:=λ k=>[(14,Bp.e k)] }
def Ml.s (k:Nat):CK 61 (Ml.e k):=mS Ml.d k [] Tryz.func61 ⟨Bp.s k,trivial⟩ trivial
def Iz.e (k:Nat):Ent:=⟨2,[(.val false t4),(.val false (.i .i64))],[(.one,(.i .i64)),(.one,(.i .i64)),(.one,.b)],λ x=>Iz k x.1 x.2⟩
def Hi.p:LF:=⟨⟨[],[(0,t4),(1,(.i .i64)),(7,(.i .i64)),(8,(.i .i64))]⟩,[(.ret,⟨[],[(4,(.i .i64)),(5,(.i .i64)),(6,.b)]⟩),((.exit 0),⟨[],[]⟩)],λ k x=>Hi k x.1 x.2.1 x.2.2.1 x.2.2.2⟩
def Iz.d:Fd := { nt:=57,nv:=2,nm:=[0,1,2,3,7,8,9],res:=[4,5,6],ls:=[(3,Hi.p)] }
def Hi.s:LL Tryz.f256 Iz.d 3 Hi.p:=mL [] (λ _=>trivial) trivial
def Iz.s (k:Nat):CK 256 (Iz.e k):=mS Iz.d k [3] Tryz.func256 trivial ⟨Hi.s,trivial⟩
def E5.e (k:Nat):Ent:=⟨1,[(.ptr t20 t20)],[(.one,(.i .i64))],λ x=>E5 k x⟩
def E5.d:Fd := { nt:=35,nv:=1,nm:=[0,1,3,4,5],res:=[2],cs:=λ k=>[(256,Iz.e k)] }
def E5.s (k:Nat):CK 219 (E5.e k):=mS E5.d k [] Tryz.func219 ⟨Iz.s k,trivial⟩ trivial
def F3.e (k:Nat):Ent:=⟨1,[(.ptr t20 t20)],[(.agg,t16),(.one,.b)],λ x=>F3 k x⟩
def F3.d:Fd := { nt:=31,nv:=1,nm:=[0,1,4,5],res:=[3],cs:=λ k=>[(219,E5.e k)] }
def F3.s (k:Nat):CK 171 (F3.e k):=mS F3.d k [] Tryz.func171 ⟨E5.s k,trivial⟩ trivial
def Kw.e (k:Nat):Ent:=⟨2,[(.val false t4),(.val false (.i .i64))],[(.one,.s),(.one,(.i .i64)),(.one,.b)],λ x=>Kw k x.1 x.2⟩
def Kw.d:Fd := { nt:=37,nv:=2,nm:=[0,1,2,3,7,8,9],res:=[4,5,6],cs:=λ k=>[(256,Iz.e k)] }
def Kw.s (k:Nat):CK 220 (Kw.e k):=mS Kw.d k [] Tryz.func220 ⟨Iz.s k,trivial⟩ trivial
def Ds.e (k:Nat):Ent:=⟨1,[(.ptr t20 t20)],[(.one,.s)],λ x=>Ds k x⟩
def Ds.d:Fd := { nt:=35,nv:=1,nm:=[0,1,3,4,5],res:=[2],cs:=λ k=>[(220,Kw.e k)] }
def Ds.s (k:Nat):CK 172 (Ds.e k):=mS Ds.d k [] Tryz.func172 ⟨Kw.s k,trivial⟩ trivial
def Gb.e (k:Nat):Ent:=⟨2,[(.val false t5),(.val false (.i .i64))],[(.one,t5)],λ x=>Gb k x.1 x.2⟩
def Ig.p:LF:=⟨⟨[],[(0,t5),(1,(.i .i64))]⟩,[((.exit 0),⟨[],[(0,t5),(1,(.i .i64))]⟩)],λ k x=>Ig k x.1 x.2⟩
def Gb.d:Fd := { nt:=24,nv:=2,nm:=[0,1,2,3],res:=[4],ls:=[(2,Ig.p)] }
def Ig.s:LL Tryz.f257 Gb.d 2 Ig.p:=mL [] (λ _=>trivial) trivial
def Gb.s (k:Nat):CK 257 (Gb.e k):=mS Gb.d k [2] Tryz.func257 trivial ⟨Ig.s,trivial⟩
def Kx.e (k:Nat):Ent:=⟨2,[(.val false t5),(.val false .s)],[(.one,t5)],λ x=>Kx k x.1 x.2⟩
def Kx.d:Fd := { nt:=11,nv:=2,nm:=[0,1,2,3],res:=[4],cs:=λ k=>[(257,Gb.e k)] }
def Kx.s (k:Nat):CK 221 (Kx.e k):=mS Kx.d k [] Tryz.func221 ⟨Gb.s k,trivial⟩ trivial
def P5.e (k:Nat):Ent:=⟨1,[(.val false .b)],[(.one,(.i .i64))],λ x=>P5 x⟩
def P5.d:Fd := { nt:=4,nv:=1,nm:=[0,1],res:=[2] }
def P5.s (k:Nat):CK 258 (P5.e k):=mS P5.d k [] Tryz.func258 trivial trivial
def Jn.e (k:Nat):Ent:=⟨3,[(.val false t5),(.val true t16),(.val false .b)],[(.one,t5)],λ x=>Jn k x.1 x.2.1 x.2.2⟩
def Jn.d:Fd := { nt:=20,nv:=3,nm:=[0,1,2,3,4,5],res:=[6],cs:=λ k=>[(257,Gb.e k),(258,P5.e k)] }
def Jn.s (k:Nat):CK 222 (Jn.e k):=mS Jn.d k [] Tryz.func222 ⟨Gb.s k,P5.s k,trivial⟩ trivial
def Nl.e (k:Nat):Ent:=⟨1,[(.val false t4)],[(.one,(.i .i64))],λ x=>Nl k x⟩
def Lb.p:LF:=⟨⟨[],[(3,(.i .u32)),(7,t4),(8,(.i .i64)),(9,(.i .i64)),(17,(.i .i64))]⟩,[((.exit 2),⟨[],[(3,(.i .u32)),(7,t4),(8,(.i .i64)),(9,(.i .i64))]⟩)],λ k x=>Lb k x.1 x.2.1 x.2.2.1 x.2.2.2.1 x.2.2.2.2⟩
def Lz.p:LF:=⟨⟨[],[(3,(.i .u32)),(7,t4),(8,(.i .i64)),(9,(.i .i64))]⟩,[((.exit 0),⟨[],[(3,(.i .u32))]⟩)],λ k x=>Lz k x.1 x.2.1 x.2.2.1 x.2.2.2⟩
def Nl.d:Fd := { nt:=32,nv:=1,nm:=[0,1,3,4,5,6],res:=[2],ls:=[(7,Lb.p),(3,Lz.p)] }
def Lb.s:LL Tryz.f223 Nl.d 7 Lb.p:=mL [] (λ _=>trivial) trivial
def Lz.s:LL Tryz.f223 Nl.d 3 Lz.p:=mL [7] (λ _=>trivial) ⟨Lb.s,trivial⟩
def Nl.s (k:Nat):CK 223 (Nl.e k):=mS Nl.d k [3] Tryz.func223 trivial ⟨Lz.s,trivial⟩
def G7.e (k:Nat):Ent:=⟨1,[(.val true t25)],[(.one,t5)],λ x=>G7 k x⟩
def G7.d:Fd := { nt:=33,nv:=1,nm:=[0,1,3,4],res:=[2],cs:=λ k=>[(103,Eu.e k),(221,Kx.e k),(222,Jn.e k),(223,Nl.e k)] }
def G7.s (k:Nat):CK 173 (G7.e k):=mS G7.d k [] Tryz.func173 ⟨Eu.s k,Kx.s k,Jn.s k,Nl.s k,trivial⟩ trivial
def Fa.e (k:Nat):Ent:=⟨1,[(.val false t4)],[(.agg,t25),(.one,.b)],λ x=>Fa k x⟩
def Fa.d:Fd := { nt:=41,nv:=1,nm:=[0,1,4,5,6],res:=[3],cs:=λ k=>[(171,F3.e k),(172,Ds.e k),(173,G7.e k)] }
def Fa.s (k:Nat):CK 109 (Fa.e k):=mS Fa.d k [] Tryz.func109 ⟨F3.s k,Ds.s k,G7.s k,trivial⟩ trivial
def J0.e (k:Nat):Ent:=⟨2,[(.val false t13),(.val false .s)],[(.one,(.i .i64))],λ x=>J0 k x.1 x.2⟩
def Mm.p:LF:=⟨⟨[],[(1,.s),(7,t13),(8,(.i .i64)),(9,(.i .i64))]⟩,[(.ret,⟨[],[(4,(.i .i64))]⟩),((.exit 0),⟨[],[]⟩)],λ k x=>Mm k x.1 x.2.1 x.2.2.1 x.2.2.2⟩
def J0.d:Fd := { nt:=20,nv:=2,nm:=[0,1,2,3,5,6],res:=[4],ls:=[(2,Mm.p)] }
def Mm.s:LL Tryz.f174 J0.d 2 Mm.p:=mL [] (λ _=>trivial) trivial
def J0.s (k:Nat):CK 174 (J0.e k):=mS J0.d k [2] Tryz.func174 trivial ⟨Mm.s,trivial⟩
def Gi.e (k:Nat):Ent:=⟨2,[(.val true t27),(.val false .s)],[(.one,t5),(.one,.b)],λ x=>Gi k x.1 x.2⟩
def Gi.d:Fd := { nt:=20,nv:=2,nm:=[0,1,2,3,6],res:=[4,5],cs:=λ k=>[(70,Al.e k),(174,J0.e k)] }
def Gi.s (k:Nat):CK 117 (Gi.e k):=mS Gi.d k [] Tryz.func117 ⟨Al.s k,J0.s k,trivial⟩ trivial
def Ih.e (k:Nat):Ent:=⟨2,[(.val false t13),(.val false .s)],[(.one,t13)],λ x=>Ih k x.1 x.2⟩
def Ih.d:Fd := { nt:=21,nv:=2,nm:=[0,1,2,3,5],res:=[4],cs:=λ k=>[(174,J0.e k)] }
def Ih.s (k:Nat):CK 231 (Ih.e k):=mS Ih.d k [] Tryz.func231 ⟨J0.s k,trivial⟩ trivial
def Mz.e (k:Nat):Ent:=⟨2,[(.val false t13),(.val true t11)],[(.one,t14)],λ x=>Mz k x.1 x.2⟩
def M0.p:LF:=⟨⟨[(3,(.bp 3 0 0)),(4999,(.hd 2))],[(0,t13),(5,(.i .i64)),(4000,.s),(4001,t4)]⟩,[((.exit 0),⟨[(3,(.bp 3 0 0)),(4999,(.hd 2))],[(0,t13),(5,(.i .i64)),(4000,.s),(4001,t4)]⟩)],λ k x=>M0 k x.1 x.2.1 x.2.2.1 x.2.2.2⟩
def Mz.d:Fd := { nt:=33,nv:=2,nm:=[0,1,2,3,5],res:=[4],ls:=[(2,M0.p)] }
def M0.s:LL Tryz.f232 Mz.d 2 M0.p:=mL [] (λ _=>trivial) trivial
def Mz.s (k:Nat):CK 232 (Mz.e k):=mS Mz.d k [2] Tryz.func232 trivial ⟨M0.s,trivial⟩
def Cm.e (k:Nat):Ent:=⟨2,[(.val true t27),(.val false .s)],[(.agg,(.pr t14 t13)),(.one,.b)],λ x=>Cm k x.1 x.2⟩
def Cm.d:Fd := { nt:=50,nv:=2,nm:=[0,1,2,3,6,7],res:=[5],cs:=λ k=>[(48,Aj.e k),(70,Al.e k),(105,B0.e k),(155,A5.e k),(174,J0.e k),(231,Ih.e k),(232,Mz.e k)],mv:=[18,49] }
def Cm.s (k:Nat):CK 188 (Cm.e k):=mS Cm.d k [] Tryz.func188 ⟨Aj.s k,Al.s k,B0.s k,A5.s k,J0.s k,Ih.s k,Mz.s k,trivial⟩ trivial
def F7.e (k:Nat):Ent:=⟨3,[(.val true t27),(.val false .s),(.val false t4)],[(.agg,t29),(.one,.b)],λ x=>F7 k x.1 x.2.1 x.2.2⟩
def F7.d:Fd := { nt:=42,nv:=3,nm:=[0,1,2,3,4,5,8],res:=[7],cs:=λ k=>[(48,Aj.e k),(70,Al.e k),(105,B0.e k),(155,A5.e k),(231,Ih.e k),(232,Mz.e k)],mv:=[24,41] }
def F7.s (k:Nat):CK 229 (F7.e k):=mS F7.d k [] Tryz.func229 ⟨Aj.s k,Al.s k,B0.s k,A5.s k,Ih.s k,Mz.s k,trivial⟩ trivial
def M8.e (k:Nat):Ent:=⟨4,[(.val true t27),(.val false .s),(.val true t25),(.val false .b)],[(.agg,t27),(.one,(.i .i64))],λ x=>M8 k x.1 x.2.1 x.2.2.1 x.2.2.2⟩
def M8.d:Fd := { nt:=82,nv:=4,nm:=[0,1,2,3,4,5,6,7,10,11,12,13,14,15,16,17,18,19],res:=[9],cs:=λ k=>[(48,Aj.e k),(61,Ml.e k),(103,Eu.e k),(105,B0.e k),(109,Fa.e k),(117,Gi.e k),(155,A5.e k),(173,G7.e k),(188,Cm.e k),(229,F7.e k)],mv:=[80] }
def M8.s (k:Nat):CK 183 (M8.e k):=mS M8.d k [] Tryz.func183 ⟨Aj.s k,Ml.s k,Eu.s k,B0.s k,Fa.s k,Gi.s k,A5.s k,G7.s k,Cm.s k,F7.s k,trivial⟩ trivial
def Ky.e (k:Nat):Ent:=⟨4,[(.val true t41),(.val false .s),(.val true t25),(.val false .b)],[(.agg,t43),(.one,(.i .i64))],λ x=>Ky k x.1 x.2.1 x.2.2.1 x.2.2.2⟩
def Ky.d:Fd := { nt:=62,nv:=4,nm:=[0,1,2,3,4,5,6,7,10,11,12],res:=[9],cs:=λ k=>[(47,Bl.e k),(48,Aj.e k),(91,Av.e k),(103,Eu.e k),(112,N5.e k),(183,M8.e k)],mv:=[29,35,60],rf:=true }
def Ky.s (k:Nat):CK 128 (Ky.e k):=mS Ky.d k [] Tryz.func128 ⟨Bl.s k,Aj.s k,Av.s k,Eu.s k,N5.s k,M8.s k,trivial⟩ trivial
def E6.e (k:Nat):Ent:=⟨5,[(.ptr t41 t41),(.val false (.i .i64)),(.ptr .s .s),(.ptr t25 t25),(.ptr (.i .i64) (.i .i64))],[],λ x=>E6 k x.1 x.2.1 x.2.2.1 x.2.2.2.1 x.2.2.2.2⟩
def E6.d:Fd := { nt:=35,nv:=5,nm:=[0,1,5,6,7,8],res:=[],cs:=λ k=>[(128,Ky.e k)],rf:=true }
def E6.s (k:Nat):CK 127 (E6.e k):=mS E6.d k [] Tryz.func127 ⟨Ky.s k,trivial⟩ trivial
def M1.e (k:Nat):Ent:=⟨1,[(.val false (.i .i64))],[(.one,(.i .i64))],λ x=>M1 x⟩
def M1.d:Fd := { nt:=6,nv:=1,nm:=[0,1],res:=[2],rf:=true }
def M1.s (k:Nat):CK 129 (M1.e k):=mS M1.d k [] Tryz.func129 trivial trivial
def Ac.e (k:Nat):Ent:=⟨4,[(.ptr t50 t50),(.val false .s),(.val false t6),(.fn 127 3),(.hid .s .s),(.hid t25 t25),(.hid (.i .i64) (.i .i64))],[],λ x=>Ac k x.1 x.2.1 x.2.2.1 x.2.2.2.1 x.2.2.2.2.1 x.2.2.2.2.2.1 x.2.2.2.2.2.2⟩
def Ae.p:LF:=⟨⟨[(0,(.bp 0 0 0)),(3,(.fn 127 [(1500,0),(1501,0),(1502,0)])),(1999,(.hd 9)),(1501999,(.hd 1)),(1502999,(.hd 5)),(1503999,(.hd 1))],[(2,t6),(8,(.i .i64)),(14,t7),(15,(.i .i64)),(16,(.i .i64)),(1000,t50),(1501000,.s),(1502000,t25),(1503000,(.i .i64))]⟩,[((.exit 0),⟨[(1999,(.hd 9)),(1501999,(.hd 1)),(1502999,(.hd 5)),(1503999,(.hd 1))],[(1000,t50),(1501000,.s),(1502000,t25),(1503000,(.i .i64))]⟩)],λ k x=>Ae k x.1 x.2.1 x.2.2.1 x.2.2.2.1 x.2.2.2.2.1 x.2.2.2.2.2.1 x.2.2.2.2.2.2.1 x.2.2.2.2.2.2.2.1 x.2.2.2.2.2.2.2.2⟩
def Ac.d:Fd := { nt:=47,nv:=4,nm:=[0,1,2,3,4,5,6,7,8,9,10,11],res:=[],cs:=λ k=>[(66,F9.e k),(116,D0.e k),(127,E6.e k)],ls:=[(2,Ae.p)],gh:=[(1000003,[.cl 1003])],opn:=[41],rf:=true }
def Ac.a (k:Nat):AC (Ac.d.cs k):=⟨F9.s k,D0.s k,E6.s k,trivial⟩
def Ae.s:LL Tryz.f58 Ac.d 2 Ae.p:=mL [] Ac.a trivial
def Ac.s (k:Nat):CK 58 (Ac.e k):=mS Ac.d k [2] Tryz.func58 (Ac.a k) ⟨Ae.s,trivial⟩
def Cv.e (k:Nat):Ent:=⟨5,[(.ptr t50 t50),(.val false .s),(.val true t25),(.val false (.i .i64)),(.val false t6)],[(.one,(.i .i64))],λ x=>Cv k x.1 x.2.1 x.2.2.1 x.2.2.2.1 x.2.2.2.2⟩
def Cv.d:Fd := { nt:=82,nv:=5,nm:=[0,1,2,3,4,5,6,7,8,9,11,12,13],res:=[10],cs:=λ k=>[(48,Aj.e k),(58,Ac.e k),(74,Cs.e k),(92,Gg.e k),(126,Ie.e k),(129,M1.e k)],rf:=true }
def Cv.s (k:Nat):CK 69 (Cv.e k):=mS Cv.d k [] Tryz.func69 ⟨Aj.s k,Ac.s k,Cs.s k,Gg.s k,Ie.s k,M1.s k,trivial⟩ trivial
def Jx.e (k:Nat):Ent:=⟨1,[(.val true t27)],[(.agg,t27),(.one,(.i .i64))],λ x=>Jx k x⟩
def Iv.p:LF:=⟨⟨[(2,(.bp 2 0 0)),(4,(.bp 4 0 0)),(3999,(.hd 2)),(5999,(.hd 2))],[(5,(.i .i64)),(17,t13),(18,(.i .i64)),(19,(.i .i64)),(3000,t29),(5000,t27)]⟩,[((.exit 0),⟨[(2,(.bp 2 0 0)),(4,(.bp 4 0 0)),(3999,(.hd 2)),(5999,(.hd 2))],[(5,(.i .i64)),(3000,t29),(5000,t27)]⟩)],λ k x=>Iv k x.1 x.2.1 x.2.2.1 x.2.2.2.1 x.2.2.2.2.1 x.2.2.2.2.2⟩
def Jx.d:Fd := { nt:=48,nv:=1,nm:=[0,1,4,5,6,7,8,9],res:=[3],cs:=λ k=>[(105,B0.e k),(109,Fa.e k),(155,A5.e k),(231,Ih.e k)],ls:=[(6,Iv.p)],mv:=[15],rf:=true }
def Jx.a (k:Nat):AC (Jx.d.cs k):=⟨B0.s k,Fa.s k,A5.s k,Ih.s k,trivial⟩
def Iv.s:LL Tryz.f186 Jx.d 6 Iv.p:=mL [] Jx.a trivial
def Jx.s (k:Nat):CK 186 (Jx.e k):=mS Jx.d k [6] Tryz.func186 (Jx.a k) ⟨Iv.s,trivial⟩
def Ii.e (k:Nat):Ent:=⟨1,[(.val true t41)],[(.agg,t43),(.one,(.i .i64))],λ x=>Ii k x⟩
def Ii.d:Fd := { nt:=19,nv:=1,nm:=[0,1,4,5,6],res:=[3],cs:=λ k=>[(91,Av.e k),(186,Jx.e k)],mv:=[17],rf:=true }
def Ii.s (k:Nat):CK 133 (Ii.e k):=mS Ii.d k [] Tryz.func133 ⟨Av.s k,Jx.s k,trivial⟩ trivial
def M9.e (k:Nat):Ent:=⟨2,[(.val true t27),(.val false .s)],[(.agg,t25),(.one,(.i .i64))],λ x=>M9 k x.1 x.2⟩
def M9.d:Fd := { nt:=28,nv:=2,nm:=[0,1,2,3,6,7,8,9],res:=[5],cs:=λ k=>[(109,Fa.e k),(117,Gi.e k)] }
def M9.s (k:Nat):CK 60 (M9.e k):=mS M9.d k [] Tryz.func60 ⟨Fa.s k,Gi.s k,trivial⟩ trivial
def Fu.e (k:Nat):Ent:=⟨2,[(.val true t27),(.val false .s)],[(.agg,(.pr t13 t14)),(.one,.b)],λ x=>Fu k x.1 x.2⟩
def Fu.d:Fd := { nt:=26,nv:=2,nm:=[0,1,2,3,6],res:=[5],cs:=λ k=>[(105,B0.e k),(155,A5.e k),(174,J0.e k),(231,Ih.e k)],mv:=[19,25] }
def Fu.s (k:Nat):CK 187 (Fu.e k):=mS Fu.d k [] Tryz.func187 ⟨B0.s k,A5.s k,J0.s k,Ih.s k,trivial⟩ trivial
def Am.e (k:Nat):Ent:=⟨4,[(.ptr t50 t50),(.val false (.i .i64)),(.val false .s),(.val false t6)],[(.one,.b)],λ x=>Am k x.1 x.2.1 x.2.2.1 x.2.2.2⟩
def Af.p:LF:=⟨⟨[(0,(.bp 0 0 0)),(9,(.bp 9 0 0)),(1999,(.hd 9)),(10999,(.hd 5))],[(1,(.i .i64)),(2,.s),(3,t6),(11,.b),(12,.b),(43,t7),(44,(.i .i64)),(45,(.i .i64)),(1000,t50),(10000,t25)]⟩,[((.exit 0),⟨[(0,(.bp 0 0 0)),(1999,(.hd 9))],[(1,(.i .i64)),(2,.s),(11,.b),(12,.b),(1000,t50)]⟩)],λ k x=>Af k x.1 x.2.1 x.2.2.1 x.2.2.2.1 x.2.2.2.2.1 x.2.2.2.2.2.1 x.2.2.2.2.2.2.1 x.2.2.2.2.2.2.2.1 x.2.2.2.2.2.2.2.2.1 x.2.2.2.2.2.2.2.2.2⟩
def Am.d:Fd := { nt:=120,nv:=4,nm:=[0,1,2,3,4,5,6,7,9,10,11,12,13,14,15,16,17,18],res:=[8],cs:=λ k=>[(60,M9.e k),(66,F9.e k),(122,E3.e k),(123,Br.e k),(183,M8.e k),(187,Fu.e k),(188,Cm.e k)],ls:=[(6,Af.p)],rf:=true }
def Am.a (k:Nat):AC (Am.d.cs k):=⟨M9.s k,F9.s k,E3.s k,Br.s k,M8.s k,Fu.s k,Cm.s k,trivial⟩
def Af.s:LL Tryz.f134 Am.d 6 Af.p:=mL [] Am.a trivial
def Am.s (k:Nat):CK 134 (Am.e k):=mS Am.d k [6] Tryz.func134 (Am.a k) ⟨Af.s,trivial⟩
def Hw.e (k:Nat):Ent:=⟨1,[(.val true t49)],[(.one,t7)],λ x=>Hw k x⟩
def Hw.d:Fd := { nt:=8,nv:=1,nm:=[0,1],res:=[2],cs:=λ k=>[(122,E3.e k),(123,Br.e k)],rf:=true }
def Hw.s (k:Nat):CK 65 (Hw.e k):=mS Hw.d k [] Tryz.func65 ⟨E3.s k,Br.s k,trivial⟩ trivial
def Jo.e (k:Nat):Ent:=⟨2,[(.val true t28),(.val true t28)],[(.one,.b)],λ x=>Jo x.1 x.2⟩
def Jo.d:Fd := { nt:=29,nv:=2,nm:=[0,1,2,3],res:=[4],cs:=λ k=>[(14,Bp.e k)] }
def Jo.s (k:Nat):CK 181 (Jo.e k):=mS Jo.d k [] Tryz.func181 ⟨Bp.s k,trivial⟩ trivial
def D8.e (k:Nat):Ent:=⟨2,[(.val false t31),(.val true t28)],[(.one,t32)],λ x=>D8 k x.1 x.2⟩
def F4.p:LF:=⟨⟨[(3,(.bp 3 0 0)),(4999,(.hd 6))],[(0,t31),(8,(.i .i64)),(4000,.s),(4001,(.i .i64)),(4002,(.i .i64)),(4003,(.i .i64)),(4004,.b),(4005,(.i .i64))]⟩,[((.exit 2),⟨[(3,(.bp 3 0 0)),(4999,(.hd 6))],[(0,t31),(8,(.i .i64)),(4000,.s),(4001,(.i .i64)),(4002,(.i .i64)),(4003,(.i .i64)),(4004,.b),(4005,(.i .i64))]⟩)],λ k x=>F4 k x.1 x.2.1 x.2.2.1 x.2.2.2.1 x.2.2.2.2.1 x.2.2.2.2.2.1 x.2.2.2.2.2.2.1 x.2.2.2.2.2.2.2⟩
def Fv.p:LF:=⟨⟨[(3,(.bp 3 0 0)),(4999,(.hd 6))],[(0,t31),(5,t32),(11,t31),(12,(.i .i64)),(13,(.i .i64)),(4000,.s),(4001,(.i .i64)),(4002,(.i .i64)),(4003,(.i .i64)),(4004,.b),(4005,(.i .i64))]⟩,[(.ret,⟨[],[(4,t32)]⟩),((.exit 0),⟨[(3,(.bp 3 0 0)),(4999,(.hd 6))],[(0,t31),(4000,.s),(4001,(.i .i64)),(4002,(.i .i64)),(4003,(.i .i64)),(4004,.b),(4005,(.i .i64))]⟩)],λ k x=>Fv k x.1 x.2.1 x.2.2.1 x.2.2.2.1 x.2.2.2.2.1 x.2.2.2.2.2.1 x.2.2.2.2.2.2.1 x.2.2.2.2.2.2.2.1 x.2.2.2.2.2.2.2.2.1 x.2.2.2.2.2.2.2.2.2.1 x.2.2.2.2.2.2.2.2.2.2⟩
def D8.d:Fd := { nt:=60,nv:=2,nm:=[0,1,2,3,5,6,7,8],res:=[4],cs:=λ k=>[(111,Aq.e k),(181,Jo.e k)],ls:=[(11,F4.p),(3,Fv.p)] }
def D8.a (k:Nat):AC (D8.d.cs k):=⟨Aq.s k,Jo.s k,trivial⟩
def F4.s:LL Tryz.f124 D8.d 11 F4.p:=mL [] D8.a trivial
def Fv.s:LL Tryz.f124 D8.d 3 Fv.p:=mL [] D8.a trivial
def D8.s (k:Nat):CK 124 (D8.e k):=mS D8.d k [3,11] Tryz.func124 (D8.a k) ⟨Fv.s,F4.s,trivial⟩
def Dg.e (k:Nat):Ent:=⟨2,[(.val false t31),(.val false t31)],[(.one,t32)],λ x=>Dg k x.1 x.2⟩
def F5.p:LF:=⟨⟨[],[(5,t32),(10,t31),(11,(.i .i64)),(12,(.i .i64))]⟩,[((.exit 0),⟨[],[(5,t32)]⟩)],λ k x=>F5 k x.1 x.2.1 x.2.2.1 x.2.2.2⟩
def Dg.d:Fd := { nt:=21,nv:=2,nm:=[0,1,2,3,5,6,7],res:=[4],cs:=λ k=>[(111,Aq.e k),(124,D8.e k)],ls:=[(3,F5.p)] }
def Dg.a (k:Nat):AC (Dg.d.cs k):=⟨Aq.s k,D8.s k,trivial⟩
def F5.s:LL Tryz.f67 Dg.d 3 F5.p:=mL [] Dg.a trivial
def Dg.s (k:Nat):CK 67 (Dg.e k):=mS Dg.d k [3] Tryz.func67 (Dg.a k) ⟨F5.s,trivial⟩
def Jp.e (k:Nat):Ent:=⟨2,[(.val true t41),(.val false t31)],[(.agg,t42),(.one,.b)],λ x=>Jp k x.1 x.2⟩
def Jp.d:Fd := { nt:=30,nv:=2,nm:=[0,1,2,3,6],res:=[5],cs:=λ k=>[(47,Bl.e k),(67,Dg.e k),(91,Av.e k),(106,Fh.e k)],mv:=[17,29] }
def Jp.s (k:Nat):CK 233 (Jp.e k):=mS Jp.d k [] Tryz.func233 ⟨Bl.s k,Dg.s k,Av.s k,Fh.s k,trivial⟩ trivial
def Aw.e (k:Nat):Ent:=⟨4,[(.ptr t50 t50),(.val false t31),(.val false t6),(.val false (.i .i64))],[(.one,.b)],λ x=>Aw k x.1 x.2.1 x.2.2.1 x.2.2.2⟩
def B6.p:LF:=⟨⟨[(0,(.bp 0 0 0)),(1999,(.hd 9))],[(1,t31),(2,t6),(3,(.i .i64)),(9,.b),(17,t7),(18,(.i .i64)),(19,(.i .i64)),(1000,t50)]⟩,[((.exit 0),⟨[(1999,(.hd 9))],[(9,.b),(1000,t50)]⟩)],λ k x=>B6 k x.1 x.2.1 x.2.2.1 x.2.2.2.1 x.2.2.2.2.1 x.2.2.2.2.2.1 x.2.2.2.2.2.2.1 x.2.2.2.2.2.2.2⟩
def Aw.d:Fd := { nt:=56,nv:=4,nm:=[0,1,2,3,4,5,6,7,9,10,11,12,13],res:=[8],cs:=λ k=>[(65,Hw.e k),(66,F9.e k),(233,Jp.e k)],ls:=[(3,B6.p)],rf:=true }
def Aw.a (k:Nat):AC (Aw.d.cs k):=⟨Hw.s k,F9.s k,Jp.s k,trivial⟩
def B6.s:LL Tryz.f189 Aw.d 3 B6.p:=mL [] Aw.a trivial
def Aw.s (k:Nat):CK 189 (Aw.e k):=mS Aw.d k [3] Tryz.func189 (Aw.a k) ⟨B6.s,trivial⟩
def Ci.e (k:Nat):Ent:=⟨3,[(.ptr t50 t50),(.val false (.i .i64)),(.val false t6)],[(.one,.b)],λ x=>Ci k x.1 x.2.1 x.2.2⟩
def Ci.d:Fd := { nt:=47,nv:=3,nm:=[0,1,2,3,4,5],res:=[6],cs:=λ k=>[(111,Aq.e k),(189,Aw.e k)],rf:=true }
def Ci.s (k:Nat):CK 135 (Ci.e k):=mS Ci.d k [] Tryz.func135 ⟨Aq.s k,Aw.s k,trivial⟩ trivial
def Ca.e (k:Nat):Ent:=⟨3,[(.ptr t50 t50),(.val false (.i .i64)),(.val false t6)],[(.one,.b)],λ x=>Ca k x.1 x.2.1 x.2.2⟩
def Ca.d:Fd := { nt:=43,nv:=3,nm:=[0,1,2,3,4,5,7,8],res:=[6],cs:=λ k=>[(65,Hw.e k),(111,Aq.e k),(145,C9.e k),(189,Aw.e k)],rf:=true }
def Ca.s (k:Nat):CK 136 (Ca.e k):=mS Ca.d k [] Tryz.func136 ⟨Hw.s k,Aq.s k,C9.s k,Aw.s k,trivial⟩ trivial
def Fi.e (k:Nat):Ent:=⟨2,[(.val false t0),(.val false .s)],[(.one,t0)],λ x=>Fi k x.1 x.2⟩
def Fw.p:LF:=⟨⟨[],[(0,t0),(1,.s),(5,(.i .i64))]⟩,[((.exit 0),⟨[],[(0,t0),(1,.s),(5,(.i .i64))]⟩)],λ k x=>Fw k x.1 x.2.1 x.2.2⟩
def Fi.d:Fd := { nt:=44,nv:=2,nm:=[0,1,2,3,5],res:=[4],ls:=[(2,Fw.p)] }
def Fw.s:LL Tryz.f141 Fi.d 2 Fw.p:=mL [] (λ _=>trivial) trivial
def Fi.s (k:Nat):CK 141 (Fi.e k):=mS Fi.d k [2] Tryz.func141 trivial ⟨Fw.s,trivial⟩
def D9.e (k:Nat):Ent:=⟨2,[(.val true t27),(.val false t1)],[(.agg,t29)],λ x=>D9 k x.1 x.2⟩
def Ax.p:LF:=⟨⟨[(2,(.bp 2 0 0)),(4,(.bp 4 0 0)),(3999,(.hd 2)),(5999,(.hd 2))],[(1,t1),(8,t14),(34,t0),(35,(.i .i64)),(36,(.i .i64)),(3000,t13),(3001,t13),(5000,t14),(5001,t14)]⟩,[((.exit 2),⟨[(2,(.bp 2 0 0)),(4,(.bp 4 0 0)),(3999,(.hd 2)),(5999,(.hd 2))],[(8,t14),(3000,t13),(3001,t13),(5000,t14),(5001,t14)]⟩)],λ k x=>Ax k x.1 x.2.1 x.2.2.1 x.2.2.2.1 x.2.2.2.2.1 x.2.2.2.2.2.1 x.2.2.2.2.2.2.1 x.2.2.2.2.2.2.2.1 x.2.2.2.2.2.2.2.2⟩
def Fx.p:LF:=⟨⟨[(2,(.bp 2 0 0)),(4,(.bp 4 0 0)),(3999,(.hd 2)),(5999,(.hd 2))],[(1,t1),(5,t0),(23,t14),(24,(.i .i64)),(25,(.i .i64)),(3000,t13),(3001,t13),(5000,t14),(5001,t14)]⟩,[((.exit 0),⟨[(2,(.bp 2 0 0)),(4,(.bp 4 0 0)),(3999,(.hd 2)),(5999,(.hd 2))],[(1,t1),(5,t0),(3000,t13),(3001,t13),(5000,t14),(5001,t14)]⟩)],λ k x=>Fx k x.1 x.2.1 x.2.2.1 x.2.2.2.1 x.2.2.2.2.1 x.2.2.2.2.2.1 x.2.2.2.2.2.2.1 x.2.2.2.2.2.2.2.1 x.2.2.2.2.2.2.2.2⟩
def D9.d:Fd := { nt:=78,nv:=2,nm:=[0,1,2,3,5,6,7,8,9,10,11,12],res:=[],cs:=λ k=>[(105,B0.e k),(141,Fi.e k),(155,A5.e k),(174,J0.e k),(203,Ba.e k)],ls:=[(11,Ax.p),(5,Fx.p)] }
def D9.a (k:Nat):AC (D9.d.cs k):=⟨B0.s k,Fi.s k,A5.s k,J0.s k,Ba.s k,trivial⟩
def Ax.s:LL Tryz.f204 D9.d 11 Ax.p:=mL [] D9.a trivial
def Fx.s:LL Tryz.f204 D9.d 5 Fx.p:=mL [] D9.a trivial
def D9.s (k:Nat):CK 204 (D9.e k):=mS D9.d k [5,11] Tryz.func204 (D9.a k) ⟨Fx.s,Ax.s,trivial⟩
def Ij.e (k:Nat):Ent:=⟨2,[(.val true t41),(.val false t1)],[(.agg,t42)],λ x=>Ij k x.1 x.2⟩
def Ij.d:Fd := { nt:=16,nv:=2,nm:=[0,1,2,3,5],res:=[],cs:=λ k=>[(47,Bl.e k),(91,Av.e k),(204,D9.e k)],mv:=[15],rf:=true }
def Ij.s (k:Nat):CK 156 (Ij.e k):=mS Ij.d k [] Tryz.func156 ⟨Bl.s k,Av.s k,D9.s k,trivial⟩ trivial
def M2.e (k:Nat):Ent:=⟨3,[(.val true t27),(.val false .s),(.val false (.i .i64))],[(.agg,t30),(.one,.b)],λ x=>M2 k x.1 x.2.1 x.2.2⟩
def M2.d:Fd := { nt:=95,nv:=3,nm:=[0,1,2,3,4,5,8,9,10,11],res:=[7],cs:=λ k=>[(105,B0.e k),(155,Jm.e k),(174,J0.e k)],mv:=[45,94],rf:=true }
def M2.s (k:Nat):CK 205 (M2.e k):=mS M2.d k [] Tryz.func205 ⟨B0.s k,Jm.s k,J0.s k,trivial⟩ trivial
def Kz.e (k:Nat):Ent:=⟨3,[(.val true t41),(.val false .s),(.val false (.i .i64))],[(.agg,t43),(.one,.b)],λ x=>Kz k x.1 x.2.1 x.2.2⟩
def Kz.d:Fd := { nt:=42,nv:=3,nm:=[0,1,2,3,4,5,8,9,10,11,12],res:=[7],cs:=λ k=>[(47,Bl.e k),(60,M9.e k),(91,Av.e k),(205,M2.e k)],mv:=[29,40],rf:=true }
def Kz.s (k:Nat):CK 157 (Kz.e k):=mS Kz.d k [] Tryz.func157 ⟨Bl.s k,M9.s k,Av.s k,M2.s k,trivial⟩ trivial
def G8.e (k:Nat):Ent:=⟨2,[(.val true t17),(.val false t22)],[(.one,.b)],λ x=>G8 k x.1 x.2⟩
def H7.p:LF:=⟨⟨[(2,(.bp 2 0 0)),(3999,(.hd 2))],[(31,t10),(32,(.i .i64)),(33,(.i .i64)),(3000,t17)]⟩,[(.ret,⟨[],[(4,.b)]⟩),((.exit 0),⟨[],[]⟩)],λ k x=>H7 k x.1 x.2.1 x.2.2.1 x.2.2.2⟩
def G8.d:Fd := { nt:=50,nv:=2,nm:=[0,1,2,3,5,6],res:=[4],cs:=λ k=>[(74,Cs.e k),(100,Dk.e k),(101,Hm.e k)],ls:=[(4,H7.p)],rf:=true }
def G8.a (k:Nat):AC (G8.d.cs k):=⟨Cs.s k,Dk.s k,Hm.s k,trivial⟩
def H7.s:LL Tryz.f245 G8.d 4 H7.p:=mL [] G8.a trivial
def G8.s (k:Nat):CK 245 (G8.e k):=mS G8.d k [4] Tryz.func245 (G8.a k) ⟨H7.s,trivial⟩
def Lh.e (k:Nat):Ent:=⟨2,[(.val true t6),(.val false t22)],[(.one,(.i .i64))],λ x=>Lh k x.1 x.2⟩
def L5.p:LF:=⟨⟨[],[(1,t22),(10,t6),(11,(.i .i64)),(12,(.i .i64))]⟩,[(.ret,⟨[],[(4,(.i .i64))]⟩),((.exit 0),⟨[],[]⟩)],λ k x=>L5 k x.1 x.2.1 x.2.2.1 x.2.2.2⟩
def Lh.d:Fd := { nt:=27,nv:=2,nm:=[0,1,2,3,5,6,7,8],res:=[4],cs:=λ k=>[(102,Fc.e k)],ls:=[(2,L5.p)],rf:=true }
def Lh.a (k:Nat):AC (Lh.d.cs k):=⟨Fc.s k,trivial⟩
def L5.s:LL Tryz.f246 Lh.d 2 L5.p:=mL [] Lh.a trivial
def Lh.s (k:Nat):CK 246 (Lh.e k):=mS Lh.d k [2] Tryz.func246 (Lh.a k) ⟨L5.s,trivial⟩
def H8.e (k:Nat):Ent:=⟨2,[(.val true t17),(.val false (.i .i64))],[(.one,(.i .i64))],λ x=>H8 k x.1 x.2⟩
def Hj.p:LF:=⟨⟨[],[(1,(.i .i64)),(5,(.i .i64)),(11,t10),(12,(.i .i64)),(13,(.i .i64)),(18,t6),(19,(.i .i64)),(20,(.i .i64))]⟩,[((.exit 2),⟨[],[(1,(.i .i64)),(5,(.i .i64)),(11,t10),(12,(.i .i64)),(13,(.i .i64))]⟩)],λ k x=>Hj k x.1 x.2.1 x.2.2.1 x.2.2.2.1 x.2.2.2.2.1 x.2.2.2.2.2.1 x.2.2.2.2.2.2.1 x.2.2.2.2.2.2.2⟩
def Ik.p:LF:=⟨⟨[],[(1,(.i .i64)),(5,(.i .i64)),(11,t10),(12,(.i .i64)),(13,(.i .i64))]⟩,[((.exit 0),⟨[],[(5,(.i .i64))]⟩)],λ k x=>Ik k x.1 x.2.1 x.2.2.1 x.2.2.2.1 x.2.2.2.2⟩
def H8.d:Fd := { nt:=32,nv:=2,nm:=[0,1,2,3,5,6,7,8,9],res:=[4],ls:=[(6,Hj.p),(3,Ik.p)],rf:=true }
def Hj.s:LL Tryz.f261 H8.d 6 Hj.p:=mL [] (λ _=>trivial) trivial
def Ik.s:LL Tryz.f261 H8.d 3 Ik.p:=mL [6] (λ _=>trivial) ⟨Hj.s,trivial⟩
def H8.s (k:Nat):CK 261 (H8.e k):=mS H8.d k [3] Tryz.func261 trivial ⟨Ik.s,trivial⟩
def Jq.e (k:Nat):Ent:=⟨3,[(.val true t17),(.val true t6),(.val false t22)],[(.one,(.i .i64))],λ x=>Jq k x.1 x.2.1 x.2.2⟩
def Cb.p:LF:=⟨⟨[(3,(.bp 3 0 0)),(4,(.bp 4 0 0)),(8,(.bp 8 0 0)),(4999,(.hd 2)),(5999,(.hd 1)),(9999,(.hd 3))],[(7,t7),(9,(.i .i64)),(10,.b),(23,t22),(24,(.i .i64)),(25,(.i .i64)),(4000,t17),(5000,t6),(9000,t16)]⟩,[((.exit 0),⟨[(8,(.bp 8 0 0)),(9999,(.hd 3))],[(9000,t16)]⟩)],λ k x=>Cb k x.1 x.2.1 x.2.2.1 x.2.2.2.1 x.2.2.2.2.1 x.2.2.2.2.2.1 x.2.2.2.2.2.2.1 x.2.2.2.2.2.2.2.1 x.2.2.2.2.2.2.2.2⟩
def Jq.d:Fd := { nt:=76,nv:=3,nm:=[0,1,2,3,4,5,7,8,9,10,11,12,13,14],res:=[6],cs:=λ k=>[(100,Dk.e k),(145,C9.e k),(224,E4.e k),(261,H8.e k)],ls:=[(6,Cb.p)],rf:=true }
def Jq.a (k:Nat):AC (Jq.d.cs k):=⟨Dk.s k,C9.s k,E4.s k,H8.s k,trivial⟩
def Cb.s:LL Tryz.f247 Jq.d 6 Cb.p:=mL [] Jq.a trivial
def Jq.s (k:Nat):CK 247 (Jq.e k):=mS Jq.d k [6] Tryz.func247 (Jq.a k) ⟨Cb.s,trivial⟩
def Jy.e (k:Nat):Ent:=⟨3,[(.val true t17),(.val true t6),(.val false t22)],[(.one,(.i .i64)),(.one,(.i .i64))],λ x=>Jy k x.1 x.2.1 x.2.2⟩
def Hn.p:LF:=⟨⟨[(3,(.bp 3 0 0)),(9,(.bp 9 0 0)),(4999,(.hd 2)),(10999,(.hd 3))],[(2,t22),(8,(.i .i64)),(10,.b),(26,t6),(27,(.i .i64)),(28,(.i .i64)),(4000,t17),(10000,t16)]⟩,[(.ret,⟨[],[(6,(.i .i64)),(7,(.i .i64))]⟩),((.exit 0),⟨[],[]⟩)],λ k x=>Hn k x.1 x.2.1 x.2.2.1 x.2.2.2.1 x.2.2.2.2.1 x.2.2.2.2.2.1 x.2.2.2.2.2.2.1 x.2.2.2.2.2.2.2⟩
def Jy.d:Fd := { nt:=60,nv:=3,nm:=[0,1,2,3,4,5,8,9,10,11,12,13,14],res:=[6,7],cs:=λ k=>[(102,Fc.e k),(247,Jq.e k),(261,H8.e k)],ls:=[(4,Hn.p)],rf:=true }
def Jy.a (k:Nat):AC (Jy.d.cs k):=⟨Fc.s k,Jq.s k,H8.s k,trivial⟩
def Hn.s:LL Tryz.f248 Jy.d 4 Hn.p:=mL [] Jy.a trivial
def Jy.s (k:Nat):CK 248 (Jy.e k):=mS Jy.d k [4] Tryz.func248 (Jy.a k) ⟨Hn.s,trivial⟩
def Dh.e (k:Nat):Ent:=⟨2,[(.val true t17),(.val false t22)],[(.agg,t19),(.one,(.i .i64))],λ x=>Dh k x.1 x.2⟩
def Bf.p:LF:=⟨⟨[(4,(.bp 4 0 0)),(6,(.bp 6 0 0)),(5999,(.hd 2)),(7999,(.hd 2))],[(1,t22),(7,(.i .i64)),(22,(.i .i64)),(23,(.i .i64)),(5000,t18),(7000,t19)]⟩,[((.exit 0),⟨[(4,(.bp 4 0 0)),(6,(.bp 6 0 0)),(5999,(.hd 2)),(7999,(.hd 2))],[(7,(.i .i64)),(5000,t18),(7000,t19)]⟩)],λ k x=>Bf k x.1 x.2.1 x.2.2.1 x.2.2.2.1 x.2.2.2.2.1 x.2.2.2.2.2⟩
def Dh.d:Fd := { nt:=75,nv:=2,nm:=[0,1,2,3,6,7,8,9,10,11,12],res:=[5],cs:=λ k=>[(90,Dz.e k),(154,Cl.e k),(245,G8.e k),(246,Lh.e k),(247,Jq.e k),(248,Jy.e k)],ls:=[(6,Bf.p)],mv:=[19,73],rf:=true }
def Dh.a (k:Nat):AC (Dh.d.cs k):=⟨Dz.s k,Cl.s k,G8.s k,Lh.s k,Jq.s k,Jy.s k,trivial⟩
def Bf.s:LL Tryz.f206 Dh.d 6 Bf.p:=mL [] Dh.a trivial
def Dh.s (k:Nat):CK 206 (Dh.e k):=mS Dh.d k [6] Tryz.func206 (Dh.a k) ⟨Bf.s,trivial⟩
def E7.e (k:Nat):Ent:=⟨3,[(.ptr t50 t50),(.val false (.i .i64)),(.val false (.i .i64))],[(.one,.b)],λ x=>E7 k x.1 x.2.1 x.2.2⟩
def E7.d:Fd := { nt:=33,nv:=3,nm:=[0,1,2,3,4,5],res:=[6],cs:=λ k=>[(74,Cs.e k),(206,Dh.e k)],rf:=true }
def E7.s (k:Nat):CK 158 (E7.e k):=mS E7.d k [] Tryz.func158 ⟨Cs.s k,Dh.s k,trivial⟩ trivial
def B7.e (k:Nat):Ent:=⟨2,[(.ptr t50 t50),(.val true t34)],[(.one,.b)],λ x=>B7 k x.1 x.2⟩
def Bu.p:LF:=⟨⟨[(0,(.bp 0 0 0)),(1999,(.hd 9))],[(5,(.i .i64)),(6,t3),(69,t6),(70,(.i .i64)),(71,(.i .i64)),(1000,t50)]⟩,[((.exit 1),⟨[(0,(.bp 0 0 0)),(1999,(.hd 9))],[(5,(.i .i64)),(6,t3),(1000,t50)]⟩)],λ k x=>Bu k x.1 x.2.1 x.2.2.1 x.2.2.2.1 x.2.2.2.2.1 x.2.2.2.2.2⟩
def B7.d:Fd := { nt:=139,nv:=2,nm:=[0,1,2,3,5,6,7,8,9,10],res:=[4],cs:=λ k=>[(74,Cs.e k),(133,Ii.e k),(134,Am.e k),(135,Ci.e k),(136,Ca.e k),(141,Fi.e k),(156,Ij.e k),(157,Kz.e k),(158,E7.e k)],ls:=[(17,Bu.p)],rf:=true }
def B7.a (k:Nat):AC (B7.d.cs k):=⟨Cs.s k,Ii.s k,Am.s k,Ci.s k,Ca.s k,Fi.s k,Ij.s k,Kz.s k,E7.s k,trivial⟩
def Bu.s:LL Tryz.f93 B7.d 17 Bu.p:=mL [] B7.a trivial
def B7.s (k:Nat):CK 93 (B7.e k):=mS B7.d k [17] Tryz.func93 (B7.a k) ⟨Bu.s,trivial⟩
def H9.e (k:Nat):Ent:=⟨2,[(.ptr t50 t50),(.val true t34)],[(.one,.b)],λ x=>H9 k x.1 x.2⟩
def H9.d:Fd := { nt:=42,nv:=2,nm:=[0,1,2,3,5],res:=[4],cs:=λ k=>[(69,Cv.e k),(70,Al.e k),(93,B7.e k)],rf:=true }
def H9.s (k:Nat):CK 41 (H9.e k):=mS H9.d k [] Tryz.func41 ⟨Cv.s k,Al.s k,B7.s k,trivial⟩ trivial
def Pr.e (k:Nat):Ent:=⟨2,[(.val true t49),(.val true t34)],[(.agg,t50),(.one,.b)],λ x=>Pr k x.1 x.2⟩
def Pr.d:Fd := { nt:=20,nv:=2,nm:=[0,1,2,3,6],res:=[5],cs:=λ k=>[(13,Cq.e k),(40,Bq.e k),(41,H9.e k)],mv:=[19],rf:=true }
def Pr.s (k:Nat):CK 11 (Pr.e k):=mS Pr.d k [] Tryz.func11 ⟨Cq.s k,Bq.s k,H9.s k,trivial⟩ trivial
def Gc.e (k:Nat):Ent:=⟨2,[(.val true t17),(.val false t22)],[(.one,.b)],λ x=>Gc k x.1 x.2⟩
def Il.p:LF:=⟨⟨[(2,(.bp 2 0 0)),(3999,(.hd 2))],[(1,t22),(5,(.i .i64)),(6,(.i .i64)),(3000,t17)]⟩,[(.ret,⟨[],[(4,.b)]⟩),((.exit 2),⟨[(2,(.bp 2 0 0)),(3999,(.hd 2))],[(1,t22),(5,(.i .i64)),(3000,t17)]⟩)],λ k x=>Il k x.1 x.2.1 x.2.2.1 x.2.2.2⟩
def Im.p:LF:=⟨⟨[(2,(.bp 2 0 0)),(3999,(.hd 2))],[(1,t22),(5,(.i .i64)),(3000,t17)]⟩,[(.ret,⟨[],[(4,.b)]⟩),((.exit 0),⟨[],[]⟩)],λ k x=>Im k x.1 x.2.1 x.2.2⟩
def Gc.d:Fd := { nt:=68,nv:=2,nm:=[0,1,2,3,5,6,7,8],res:=[4],cs:=λ k=>[(97,A9.e k),(137,Cg.e k),(138,Fg.e k),(139,Fb.e k)],ls:=[(9,Il.p),(4,Im.p)],rf:=true }
def Gc.a (k:Nat):AC (Gc.d.cs k):=⟨A9.s k,Cg.s k,Fg.s k,Fb.s k,trivial⟩
def Il.s:LL Tryz.f75 Gc.d 9 Il.p:=mL [] Gc.a trivial
def Im.s:LL Tryz.f75 Gc.d 4 Im.p:=mL [9] Gc.a ⟨Il.s,trivial⟩
def Gc.s (k:Nat):CK 75 (Gc.e k):=mS Gc.d k [4] Tryz.func75 (Gc.a k) ⟨Im.s,trivial⟩
def Ej.e (k:Nat):Ent:=⟨1,[(.val true t49)],[(.one,.b)],λ x=>Ej k x⟩
def Fy.p:LF:=⟨⟨[(1,(.bp 1 0 0)),(2999,(.hd 9))],[(3,(.i .i64)),(2000,t49)]⟩,[(.ret,⟨[],[(2,.b)]⟩),((.exit 0),⟨[],[]⟩)],λ k x=>Fy k x.1 x.2⟩
def Ej.d:Fd := { nt:=40,nv:=1,nm:=[0,1,3],res:=[2],cs:=λ k=>[(140,Cf.e k)],ls:=[(4,Fy.p)],rf:=true }
def Ej.a (k:Nat):AC (Ej.d.cs k):=⟨Cf.s k,trivial⟩
def Fy.s:LL Tryz.f76 Ej.d 4 Fy.p:=mL [] Ej.a trivial
def Ej.s (k:Nat):CK 76 (Ej.e k):=mS Ej.d k [4] Tryz.func76 (Ej.a k) ⟨Fy.s,trivial⟩
def Ed.e (k:Nat):Ent:=⟨1,[(.val true t49)],[(.one,.b)],λ x=>Ed k x⟩
def Dt.p:LF:=⟨⟨[(1,(.bp 1 0 0)),(2999,(.hd 9))],[(5,(.i .i64)),(2000,t49)]⟩,[(.ret,⟨[],[(2,.b)]⟩),((.exit 2),⟨[],[]⟩)],λ k x=>Dt k x.1 x.2⟩
def Ha.p:LF:=⟨⟨[(1,(.bp 1 0 0)),(2999,(.hd 9))],[(3,(.i .i64)),(2000,t49)]⟩,[(.ret,⟨[],[(2,.b)]⟩),((.exit 0),⟨[(1,(.bp 1 0 0)),(2999,(.hd 9))],[(2000,t49)]⟩)],λ k x=>Ha k x.1 x.2⟩
def Ed.d:Fd := { nt:=91,nv:=1,nm:=[0,1,3,4,5],res:=[2],cs:=λ k=>[(62,Ar.e k),(75,Gc.e k),(76,Ej.e k),(77,Cn.e k),(78,Ce.e k),(79,Co.e k)],ls:=[(10,Dt.p),(4,Ha.p)],rf:=true }
def Ed.a (k:Nat):AC (Ed.d.cs k):=⟨Ar.s k,Gc.s k,Ej.s k,Cn.s k,Ce.s k,Co.s k,trivial⟩
def Dt.s:LL Tryz.f32 Ed.d 10 Dt.p:=mL [] Ed.a trivial
def Ha.s:LL Tryz.f32 Ed.d 4 Ha.p:=mL [] Ed.a trivial
def Ed.s (k:Nat):CK 32 (Ed.e k):=mS Ed.d k [4,10] Tryz.func32 (Ed.a k) ⟨Ha.s,Dt.s,trivial⟩
def Ps.e (k:Nat):Ent:=⟨2,[(.val true t49),(.val true t34)],[(.agg,t50),(.one,.b)],λ x=>Ps k x.1 x.2⟩
def Ps.d:Fd := { nt:=20,nv:=2,nm:=[0,1,2,3,6],res:=[5],cs:=λ k=>[(32,Ed.e k),(42,C8.e k),(43,Gx.e k)],mv:=[19],rf:=true }
def Ps.s (k:Nat):CK 12 (Ps.e k):=mS Ps.d k [] Tryz.func12 ⟨Ed.s k,C8.s k,Gx.s k,trivial⟩ trivial
def Mf.e (k:Nat):Ent:=⟨1,[(.val false t4)],[(.one,.b)],λ x=>Mf k x⟩
def Mf.d:Fd := { nt:=84,nv:=1,nm:=[0,1,3,4,5,6,7,8],res:=[2],cs:=λ k=>[(9,P4.e k),(10,Ly.e k),(11,Pr.e k),(12,Ps.e k),(13,Cq.e k),(14,Bp.e k)],sh:=true,rf:=true }
def Mf.s (k:Nat):CK 3 (Mf.e k):=mS Mf.d k [] Tryz.func3 ⟨P4.s k,Ly.s k,Pr.s k,Ps.s k,Cq.s k,Bp.s k,trivial⟩ trivial
end

end Go.Proofs.YtmhhjceoinoekaaGreat.Vf
