import Derived.Test.YtmhhjceoinoekaaGreatMab
import Derived.Test.YtmhhjceoinoekaaGreatMaj
import Derived.Test.YtmhhjceoinoekaaGreatProg
import Derived.KernelRfl
set_option linter.unusedVariables false
set_option linter.unusedSimpArgs false
namespace Go.Proofs.YtmhhjceoinoekaaGreat.Vf
open Go

section
open Go.Proofs
@[reducible] def t0:Ty := .sl 9 .s
@[reducible] def t1:Ty := .sl 4 .b
@[reducible] def t2:Ty := .ow 9 .s
@[reducible] def t3:Ty := .ow 4 .b
@[reducible] def t4:Ty := .sl 5 (.i .u8)
@[reducible] def t5:Ty := .ow 5 (.i .u8)
@[reducible] def t6:Ty := .sl 3 (.i .i64)
@[reducible] def t7:Ty := .ow 3 (.i .i64)
@[reducible] def t8:Ty := .pr .s (.i .u64)
@[reducible] def t9:Ty := .pr (.i .i64) (.i .i64)
@[reducible] def t10:Ty := .sl 127 t6
@[reducible] def t11:Ty := .pr .s t4
@[reducible] def t12:Ty := .pr .s t5
@[reducible] def t13:Ty := .sl 93 t11
@[reducible] def t14:Ty := .ow 93 t11
@[reducible] def t15:Ty := .ow 93 t12
@[reducible] def t16:Ty := .pr (.i .i64) t9
@[reducible] def t17:Ty := .pr (.i .i64) t10
@[reducible] def t18:Ty := .pr (.i .i64) (.ow 127 t6)
@[reducible] def t19:Ty := .pr (.i .i64) (.ow 127 t7)
@[reducible] def t20:Ty := .pr t4 (.pr (.i .i64) .b)
@[reducible] def t21:Ty := .pr t4 t9
@[reducible] def t22:Ty := .sl 88 t16
@[reducible] def t23:Ty := .ow 88 t16
@[reducible] def t24:Ty := .pr (.i .i64) (.pr (.i .i64) (.pr .b (.i .u8)))
@[reducible] def t25:Ty := .pr t16 (.pr .b t4)
@[reducible] def t26:Ty := .pr t16 (.pr .b t5)
@[reducible] def t27:Ty := .pr t13 t13
@[reducible] def t28:Ty := .pr .s (.pr t16 (.pr .b (.i .i64)))
@[reducible] def t29:Ty := .pr t14 t14
@[reducible] def t30:Ty := .pr t15 t15
@[reducible] def t31:Ty := .sl 96 t28
@[reducible] def t32:Ty := .ow 96 t28
@[reducible] def t33:Ty := .pr .s (.pr t25 .b)
@[reducible] def t34:Ty := .pr (.i .i64) (.pr (.i .i64) (.pr .s (.pr t4 (.pr (.i .i64) t6))))
@[reducible] def t35:Ty := .sl 71 t33
@[reducible] def t36:Ty := .ow 71 t33
@[reducible] def t37:Ty := .pr t32 t32
@[reducible] def t38:Ty := .pr (.i .i64) (.pr t27 (.pr t31 t31))
@[reducible] def t39:Ty := .pr (.i .i64) (.pr t29 t37)
@[reducible] def t40:Ty := .pr (.i .i64) (.pr t27 t37)
@[reducible] def t41:Ty := .sl 54 t38
@[reducible] def t42:Ty := .ow 54 t38
@[reducible] def t43:Ty := .pr t42 (.pr t16 (.pr t36 t2))
@[reducible] def t44:Ty := .pr t22 (.pr t17 (.pr t41 (.pr t16 (.pr t35 t0))))
@[reducible] def t45:Ty := .pr t23 (.pr t17 (.pr t42 (.pr t16 (.pr t36 t0))))
@[reducible] def t46:Ty := .pr t23 (.pr t17 t43)
@[reducible] def t47:Ty := .pr t23 (.pr t18 t43)
def tiL:List (Nat×TI):=[(2,⟨(.i .i64),false,8,[]⟩),
 (3,⟨(.i .i64),false,8,[]⟩),
 (4,⟨.b,false,1,[]⟩),
 (5,⟨(.i .u8),false,1,[]⟩),
 (6,⟨(.i .u8),false,1,[]⟩),
 (7,⟨t24,true,24,[(0,1,false),(1,1,false),(2,1,false),(3,1,false)]⟩),
 (8,⟨t24,true,24,[(0,1,false),(1,1,false),(2,1,false),(3,1,false)]⟩),
 (9,⟨.s,false,16,[]⟩),
 (10,⟨.s,false,16,[]⟩),
 (11,⟨.s,false,16,[]⟩),
 (12,⟨(.i .u64),false,8,[]⟩),
 (13,⟨t8,true,24,[(0,1,false),(1,1,false)]⟩),
 (14,⟨t8,true,24,[(0,1,false),(1,1,false)]⟩),
 (21,⟨(.i .i32),false,4,[]⟩),
 (22,⟨t4,false,24,[]⟩),
 (24,⟨t22,false,24,[]⟩),
 (25,⟨t10,false,24,[]⟩),
 (26,⟨t17,true,32,[(0,1,false),(1,1,false)]⟩),
 (27,⟨t17,true,32,[(0,1,false),(1,1,false)]⟩),
 (28,⟨t41,false,24,[]⟩),
 (29,⟨t16,true,24,[(0,1,false),(1,1,false),(2,1,false)]⟩),
 (30,⟨t16,true,24,[(0,1,false),(1,1,false),(2,1,false)]⟩),
 (31,⟨t35,false,24,[]⟩),
 (32,⟨t0,false,24,[]⟩),
 (33,⟨t44,true,152,[(0,1,false),(1,2,true),(3,1,false),(4,3,true),(7,1,false),(8,1,false)]⟩),
 (34,⟨t44,true,152,[(0,1,false),(1,2,true),(3,1,false),(4,3,true),(7,1,false),(8,1,false)]⟩),
 (35,⟨t6,false,24,[]⟩),
 (36,⟨t34,true,88,[(0,1,false),(1,1,false),(2,1,false),(3,1,false),(4,1,false),(5,1,false)]⟩),
 (37,⟨t34,true,88,[(0,1,false),(1,1,false),(2,1,false),(3,1,false),(4,1,false),(5,1,false)]⟩),
 (44,⟨(.sl 37 t34),false,24,[]⟩),
 (49,⟨t13,false,24,[]⟩),
 (50,⟨t27,true,48,[(0,1,false),(1,1,false)]⟩),
 (51,⟨t27,true,48,[(0,1,false),(1,1,false)]⟩),
 (52,⟨t31,false,24,[]⟩),
 (53,⟨t38,true,104,[(0,1,false),(1,2,true),(3,1,false),(4,1,false)]⟩),
 (54,⟨t38,true,104,[(0,1,false),(1,2,true),(3,1,false),(4,1,false)]⟩),
 (61,⟨t25,true,56,[(0,3,true),(3,1,false),(4,1,false)]⟩),
 (62,⟨t25,true,56,[(0,3,true),(3,1,false),(4,1,false)]⟩),
 (70,⟨t33,true,80,[(0,1,false),(1,5,true),(6,1,false)]⟩),
 (71,⟨t33,true,80,[(0,1,false),(1,5,true),(6,1,false)]⟩),
 (87,⟨t16,true,24,[(0,1,false),(1,1,false),(2,1,false)]⟩),
 (88,⟨t16,true,24,[(0,1,false),(1,1,false),(2,1,false)]⟩),
 (92,⟨t11,true,40,[(0,1,false),(1,1,false)]⟩),
 (93,⟨t11,true,40,[(0,1,false),(1,1,false)]⟩),
 (95,⟨t28,true,56,[(0,1,false),(1,3,true),(4,1,false),(5,1,false)]⟩),
 (96,⟨t28,true,56,[(0,1,false),(1,3,true),(4,1,false),(5,1,false)]⟩),
 (115,⟨t21,true,40,[(0,1,false),(1,1,false),(2,1,false)]⟩),
 (116,⟨t21,true,40,[(0,1,false),(1,1,false),(2,1,false)]⟩),
 (126,⟨t6,true,24,[(0,1,false)]⟩),
 (127,⟨t6,true,24,[(0,1,false)]⟩),
 (168,⟨(.i .u64),false,8,[]⟩),
 (173,⟨t1,false,24,[]⟩),
 (190,⟨t20,true,40,[(0,1,false),(1,1,false),(2,1,false)]⟩),
 (191,⟨t20,true,40,[(0,1,false),(1,1,false),(2,1,false)]⟩),
 (240,⟨(.i .u32),false,4,[]⟩),
 (246,⟨(.i .u8),false,1,[]⟩),
 (247,⟨(.i .u8),false,1,[]⟩),
 (250,⟨(.i .i32),false,4,[]⟩),
 (251,⟨(.i .i32),false,4,[]⟩)]
def ti:TypeId→Option TI:=lk tiL
def B9b:List Nat:=[29,30,87,88,95,96]
def eqs:TypeId→Bool:=λ T=>B9b.contains T
theorem sK:A5a Tryz.prog ti eqs∧∀ T,Tu Tryz.prog ti T=true:=Dwb (P:=Tryz.prog) (ti:=ti) (eqs:=eqs) (keys:=tiL.map Prod.fst) (B9b:=B9b) Xoa (by kernel_rfl) (by kernel_rfl) rfl (by kernel_rfl)
theorem sO:A5a Tryz.prog ti eqs:=sK.1
theorem Esb:∀ T t,ti T=some t→TOk Tryz.prog T t:=sO.tok
theorem Etb:∀ T,Tu Tryz.prog ti T=true:=sK.2
abbrev CK:=Pm Tryz.prog
abbrev LL:=LK Tryz.prog
abbrev AC:=Zqa Tryz.prog
theorem mS {f:FuncId} {fn:Func} (D:Fd) (k:Nat) {en:Ent} (ids:List Nat) (hf:Tryz.prog.funcs[f]? = some fn) (hc:AC (D.cs k)) (hi:Zra Tryz.prog fn D ids) (h:(Dvb fn D en,Mg (bo fn),ids.map λ l=>first (Lm l (bo fn)))=(true,ids.map λ l=>Lm l (bo fn),ids):=by kernel_rfl) (hr:∀ x,P1a (D.n ti eqs k) (bo fn) fn.results.toList en x=en.run x:=by intro x; kernel_rfl):CK f en:=mkS sO ids hf hc hi (congrArg Prod.fst h) (congrArg Prod.snd h) hr
theorem mL {fn:Func} {D:Fd} {l:Nat} {p:LF} (ids:List Nat) (hc:∀ k,AC (D.cs k)) (hi:Zra Tryz.prog fn D ids) (h:(Nat.beq D.nt fn.ntmps,Mg (Lm l (bo fn)),ids.map λ l=>first (Lm l (bo fn)))=(true,ids.map λ l=>Lm l (bo fn),ids):=by kernel_rfl) (h0:∀ x,p.f 0 x=none:=by intro _; rfl) (hs:Ejb ti eqs fn D l p:=by intro k x; kernel_rfl):LL fn D l p:=mkL sO ids (congrArg Prod.fst h) hc hi (congrArg Prod.snd h) h0 hs
def Nm.e (k:Nat):Ent:=⟨1,[(.val false t4)],[(.one,.b)],λ x=>Nm x⟩
def Nm.d:Fd := { nt:=6,nv:=1,nm:=[0,1],res:=[2] }
theorem Nm.s (k:Nat):CK 9 (Nm.e k):=mS Nm.d k [] Tryz.func9 trivial trivial
def El.e (k:Nat):Ent:=⟨3,[(.val false (.i .i64)),(.val false (.i .i64)),(.val false (.i .i64))],[(.one,.b)],λ x=>El x.1 x.2.1 x.2.2⟩
def El.d:Fd := { nt:=15,nv:=3,nm:=[0,1,2,3,4,5],res:=[6] }
theorem El.s (k:Nat):CK 74 (El.e k):=mS El.d k [] Tryz.func74 trivial trivial
def Gr.e (k:Nat):Ent:=⟨1,[(.val false t22)],[(.one,.b)],λ x=>Gr k x⟩
def Gb.p:LF:=⟨⟨[],[(0,t22),(5,t22),(6,(.i .i64)),(7,(.i .i64))]⟩,[(.ret,⟨[],[(2,.b)]⟩),((.exit 0),⟨[],[(0,t22)]⟩)],λ k x=>Gb k x.1 x.2.1 x.2.2.1 x.2.2.2⟩
def Gr.d:Fd := { nt:=47,nv:=1,nm:=[0,1,3,4],res:=[2],cs:=λ k=>[(74,El.e k)],ls:=[(2,Gb.p)],rf:=true }
theorem Gr.a (k:Nat):AC (Gr.d.cs k):=⟨El.s k,trivial⟩
theorem Gb.s:LL Tryz.f100 Gr.d 2 Gb.p:=mL [] Gr.a trivial
theorem Gr.s (k:Nat):CK 100 (Gr.e k):=mS Gr.d k [2] Tryz.func100 (Gr.a k) ⟨Gb.s,trivial⟩
def Ef.e (k:Nat):Ent:=⟨2,[(.val false t6),(.val false (.i .i64))],[(.one,.b)],λ x=>Ef k x.1 x.2⟩
def H5.p:LF:=⟨⟨[],[(1,(.i .i64)),(7,t6),(8,(.i .i64)),(9,(.i .i64))]⟩,[(.ret,⟨[],[(4,.b)]⟩),((.exit 0),⟨[],[]⟩)],λ k x=>H5 k x.1 x.2.1 x.2.2.1 x.2.2.2⟩
def Ef.d:Fd := { nt:=17,nv:=2,nm:=[0,1,2,3,5,6],res:=[4],ls:=[(2,H5.p)],rf:=true }
theorem H5.s:LL Tryz.f145 Ef.d 2 H5.p:=mL [] (λ _=>trivial) trivial
theorem Ef.s (k:Nat):CK 145 (Ef.e k):=mS Ef.d k [2] Tryz.func145 trivial ⟨H5.s,trivial⟩
def Im.e (k:Nat):Ent:=⟨1,[(.val false t6)],[(.one,.b)],λ x=>Im k x⟩
def I9.p:LF:=⟨⟨[],[(0,t6),(5,t6),(6,(.i .i64)),(7,(.i .i64))]⟩,[(.ret,⟨[],[(2,.b)]⟩),((.exit 0),⟨[],[]⟩)],λ k x=>I9 k x.1 x.2.1 x.2.2.1 x.2.2.2⟩
def Im.d:Fd := { nt:=18,nv:=1,nm:=[0,1,3,4],res:=[2],cs:=λ k=>[(145,Ef.e k)],ls:=[(2,I9.p)],rf:=true }
theorem Im.a (k:Nat):AC (Im.d.cs k):=⟨Ef.s k,trivial⟩
theorem I9.s:LL Tryz.f101 Im.d 2 I9.p:=mL [] Im.a trivial
theorem Im.s (k:Nat):CK 101 (Im.e k):=mS Im.d k [2] Tryz.func101 (Im.a k) ⟨I9.s,trivial⟩
def Iz.e (k:Nat):Ent:=⟨2,[(.val false t22),(.val false (.i .i64))],[(.agg,t16),(.one,.b)],λ x=>Iz k x.1 x.2⟩
def Ia.p:LF:=⟨⟨[(4,(.bp 4 0 0)),(5999,(.hd 3))],[(1,(.i .i64)),(8,t22),(9,(.i .i64)),(10,(.i .i64)),(5000,t16)]⟩,[(.ret,⟨[(4,(.bp 4 0 0)),(5999,(.hd 3))],[(5,.b),(5000,t16)]⟩),((.exit 0),⟨[(4,(.bp 4 0 0)),(5999,(.hd 3))],[(5000,t16)]⟩)],λ k x=>Ia k x.1 x.2.1 x.2.2.1 x.2.2.2.1 x.2.2.2.2⟩
def Iz.d:Fd := { nt:=21,nv:=2,nm:=[0,1,2,3,6,7],res:=[5],ls:=[(2,Ia.p)],rf:=true }
theorem Ia.s:LL Tryz.f102 Iz.d 2 Ia.p:=mL [] (λ _=>trivial) trivial
theorem Iz.s (k:Nat):CK 102 (Iz.e k):=mS Iz.d k [2] Tryz.func102 trivial ⟨Ia.s,trivial⟩
def Fe.e (k:Nat):Ent:=⟨2,[(.val true t17),(.val false t22)],[(.one,.b)],λ x=>Fe k x.1 x.2⟩
def H6.p:LF:=⟨⟨[(2,(.bp 2 0 0)),(3999,(.hd 2))],[(1,t22),(28,t10),(29,(.i .i64)),(30,(.i .i64)),(47,t6),(48,(.i .i64)),(49,(.i .i64)),(3000,t17)]⟩,[(.ret,⟨[],[(4,.b)]⟩),((.exit 2),⟨[(2,(.bp 2 0 0)),(3999,(.hd 2))],[(1,t22),(28,t10),(29,(.i .i64)),(30,(.i .i64)),(3000,t17)]⟩)],λ k x=>H6 k x.1 x.2.1 x.2.2.1 x.2.2.2.1 x.2.2.2.2.1 x.2.2.2.2.2.1 x.2.2.2.2.2.2.1 x.2.2.2.2.2.2.2⟩
def H7.p:LF:=⟨⟨[(2,(.bp 2 0 0)),(3999,(.hd 2))],[(1,t22),(28,t10),(29,(.i .i64)),(30,(.i .i64)),(3000,t17)]⟩,[(.ret,⟨[],[(4,.b)]⟩),((.exit 0),⟨[],[]⟩)],λ k x=>H7 k x.1 x.2.1 x.2.2.1 x.2.2.2.1 x.2.2.2.2⟩
def Fe.d:Fd := { nt:=63,nv:=2,nm:=[0,1,2,3,5,6,7,8,9,10],res:=[4],cs:=λ k=>[(74,El.e k),(100,Gr.e k),(101,Im.e k),(102,Iz.e k)],ls:=[(9,H6.p),(4,H7.p)],rf:=true }
theorem Fe.a (k:Nat):AC (Fe.d.cs k):=⟨El.s k,Gr.s k,Im.s k,Iz.s k,trivial⟩
theorem H6.s:LL Tryz.f44 Fe.d 9 H6.p:=mL [] Fe.a trivial
theorem H7.s:LL Tryz.f44 Fe.d 4 H7.p:=mL [9] Fe.a ⟨H6.s,trivial⟩
theorem Fe.s (k:Nat):CK 44 (Fe.e k):=mS Fe.d k [4] Tryz.func44 (Fe.a k) ⟨H7.s,trivial⟩
def Bw.e (k:Nat):Ent:=⟨1,[(.val true t16)],[(.one,.b)],λ x=>Bw x⟩
def Bw.d:Fd := { nt:=16,nv:=1,nm:=[0,1],res:=[2],cs:=λ k=>[(74,El.e k)] }
theorem Bw.s (k:Nat):CK 45 (Bw.e k):=mS Bw.d k [] Tryz.func45 ⟨El.s k,trivial⟩ trivial
def Ao.e (k:Nat):Ent:=⟨2,[(.val true t16),(.val true t16)],[(.one,.b)],λ x=>Ao x.1 x.2⟩
def Ao.d:Fd := { nt:=32,nv:=2,nm:=[0,1,2,3],res:=[4] }
theorem Ao.s (k:Nat):CK 14 (Ao.e k):=mS Ao.d k [] Tryz.func14 trivial trivial
def Af.e (k:Nat):Ent:=⟨1,[(.val false .s)],[(.one,.b)],λ x=>Af k x⟩
def Am.p:LF:=⟨⟨[],[(0,.s),(3,(.i .i64))]⟩,[(.ret,⟨[],[(2,.b)]⟩),((.exit 0),⟨[],[(0,.s)]⟩)],λ k x=>Am k x.1 x.2⟩
def Af.d:Fd := { nt:=45,nv:=1,nm:=[0,1,3,4],res:=[2],cs:=λ k=>[(74,El.e k)],ls:=[(2,Am.p)] }
theorem Af.a (k:Nat):AC (Af.d.cs k):=⟨El.s k,trivial⟩
theorem Am.s:LL Tryz.f48 Af.d 2 Am.p:=mL [] Af.a trivial
theorem Af.s (k:Nat):CK 48 (Af.e k):=mS Af.d k [2] Tryz.func48 (Af.a k) ⟨Am.s,trivial⟩
def Di.e (k:Nat):Ent:=⟨1,[(.val true t25)],[(.one,.b)],λ x=>Di x⟩
def Di.d:Fd := { nt:=23,nv:=1,nm:=[0,1],res:=[2],cs:=λ k=>[(45,Bw.e k)] }
theorem Di.s (k:Nat):CK 103 (Di.e k):=mS Di.d k [] Tryz.func103 ⟨Bw.s k,trivial⟩ trivial
def D9.e (k:Nat):Ent:=⟨1,[(.val true t44)],[(.one,.b)],λ x=>D9 k x⟩
def Em.p:LF:=⟨⟨[(1,(.bp 1 0 0)),(2999,(.hd 9))],[(6,t35),(7,(.i .i64)),(8,(.i .i64)),(2000,t44)]⟩,[(.ret,⟨[],[(2,.b)]⟩),((.exit 0),⟨[(1,(.bp 1 0 0)),(2999,(.hd 9))],[(2000,t44)]⟩)],λ k x=>Em k x.1 x.2.1 x.2.2.1 x.2.2.2⟩
def D9.d:Fd := { nt:=35,nv:=1,nm:=[0,1,3,4],res:=[2],cs:=λ k=>[(14,Ao.e k),(48,Af.e k),(103,Di.e k)],ls:=[(2,Em.p)],rf:=true }
theorem D9.a (k:Nat):AC (D9.d.cs k):=⟨Ao.s k,Af.s k,Di.s k,trivial⟩
theorem Em.s:LL Tryz.f46 D9.d 2 Em.p:=mL [] D9.a trivial
theorem D9.s (k:Nat):CK 46 (D9.e k):=mS D9.d k [2] Tryz.func46 (D9.a k) ⟨Em.s,trivial⟩
def Jn.e (k:Nat):Ent:=⟨1,[(.val true t28)],[(.one,.b)],λ x=>Jn k x⟩
def Jn.d:Fd := { nt:=26,nv:=1,nm:=[0,1],res:=[2],cs:=λ k=>[(45,Bw.e k),(48,Af.e k),(74,El.e k)] }
theorem Jn.s (k:Nat):CK 104 (Jn.e k):=mS Jn.d k [] Tryz.func104 ⟨Bw.s k,Af.s k,El.s k,trivial⟩ trivial
def E8.e (k:Nat):Ent:=⟨1,[(.val false t13)],[(.one,.b)],λ x=>E8 k x⟩
def Eo.p:LF:=⟨⟨[],[(0,t13),(5,t13),(6,(.i .i64)),(7,(.i .i64))]⟩,[(.ret,⟨[],[(2,.b)]⟩),((.exit 0),⟨[],[(0,t13)]⟩)],λ k x=>Eo k x.1 x.2.1 x.2.2.1 x.2.2.2⟩
def E8.d:Fd := { nt:=41,nv:=1,nm:=[0,1,3,4],res:=[2],cs:=λ k=>[(48,Af.e k)],ls:=[(2,Eo.p)] }
theorem E8.a (k:Nat):AC (E8.d.cs k):=⟨Af.s k,trivial⟩
theorem Eo.s:LL Tryz.f168 E8.d 2 Eo.p:=mL [] E8.a trivial
theorem E8.s (k:Nat):CK 168 (E8.e k):=mS E8.d k [2] Tryz.func168 (E8.a k) ⟨Eo.s,trivial⟩
def Dj.e (k:Nat):Ent:=⟨1,[(.val true t27)],[(.one,.b)],λ x=>Dj k x⟩
def Dj.d:Fd := { nt:=11,nv:=1,nm:=[0,1],res:=[2],cs:=λ k=>[(168,E8.e k)] }
theorem Dj.s (k:Nat):CK 105 (Dj.e k):=mS Dj.d k [] Tryz.func105 ⟨E8.s k,trivial⟩ trivial
def Gt.e (k:Nat):Ent:=⟨1,[(.val false t31)],[(.one,.b)],λ x=>Gt k x⟩
def Gc.p:LF:=⟨⟨[],[(0,t31),(5,t31),(6,(.i .i64)),(7,(.i .i64))]⟩,[(.ret,⟨[],[(2,.b)]⟩),((.exit 0),⟨[],[(0,t31)]⟩)],λ k x=>Gc k x.1 x.2.1 x.2.2.1 x.2.2.2⟩
def Gt.d:Fd := { nt:=34,nv:=1,nm:=[0,1,3,4],res:=[2],cs:=λ k=>[(104,Jn.e k)],ls:=[(2,Gc.p)] }
theorem Gt.a (k:Nat):AC (Gt.d.cs k):=⟨Jn.s k,trivial⟩
theorem Gc.s:LL Tryz.f106 Gt.d 2 Gc.p:=mL [] Gt.a trivial
theorem Gt.s (k:Nat):CK 106 (Gt.e k):=mS Gt.d k [2] Tryz.func106 (Gt.a k) ⟨Gc.s,trivial⟩
def Eg.e (k:Nat):Ent:=⟨1,[(.val true t38)],[(.one,.b)],λ x=>Eg k x⟩
def H8.p:LF:=⟨⟨[(1,(.bp 1 0 0)),(2999,(.hd 5))],[(6,t31),(7,(.i .i64)),(8,(.i .i64)),(2000,(.i .i64)),(2001,t13),(2002,t13),(2003,t31),(2004,t31)]⟩,[(.ret,⟨[],[(2,.b)]⟩),((.exit 0),⟨[(1,(.bp 1 0 0)),(2999,(.hd 5))],[(2000,(.i .i64)),(2001,t13),(2002,t13),(2003,t31),(2004,t31)]⟩)],λ k x=>H8 k x.1 x.2.1 x.2.2.1 x.2.2.2.1 x.2.2.2.2.1 x.2.2.2.2.2.1 x.2.2.2.2.2.2.1 x.2.2.2.2.2.2.2⟩
def Eg.d:Fd := { nt:=35,nv:=1,nm:=[0,1,3,4],res:=[2],cs:=λ k=>[(74,El.e k),(104,Jn.e k),(105,Dj.e k),(106,Gt.e k)],ls:=[(2,H8.p)] }
theorem Eg.a (k:Nat):AC (Eg.d.cs k):=⟨El.s k,Jn.s k,Dj.s k,Gt.s k,trivial⟩
theorem H8.s:LL Tryz.f47 Eg.d 2 H8.p:=mL [] Eg.a trivial
theorem Eg.s (k:Nat):CK 47 (Eg.e k):=mS Eg.d k [2] Tryz.func47 (Eg.a k) ⟨H8.s,trivial⟩
def B0.e (k:Nat):Ent:=⟨1,[(.val true t44)],[(.one,.b)],λ x=>B0 k x⟩
def Cl.p:LF:=⟨⟨[(1,(.bp 1 0 0)),(2999,(.hd 9))],[(57,t0),(58,(.i .i64)),(59,(.i .i64)),(2000,t44)]⟩,[(.ret,⟨[],[(2,.b)]⟩),((.exit 2),⟨[],[]⟩)],λ k x=>Cl k x.1 x.2.1 x.2.2.1 x.2.2.2⟩
def Ep.p:LF:=⟨⟨[(1,(.bp 1 0 0)),(2999,(.hd 9))],[(34,t41),(35,(.i .i64)),(36,(.i .i64)),(2000,t44)]⟩,[(.ret,⟨[],[(2,.b)]⟩),((.exit 0),⟨[(1,(.bp 1 0 0)),(2999,(.hd 9))],[(2000,t44)]⟩)],λ k x=>Ep k x.1 x.2.1 x.2.2.1 x.2.2.2⟩
def B0.d:Fd := { nt:=82,nv:=1,nm:=[0,1,3,4,5,6],res:=[2],cs:=λ k=>[(44,Fe.e k),(45,Bw.e k),(46,D9.e k),(47,Eg.e k),(48,Af.e k)],ls:=[(10,Cl.p),(4,Ep.p)],rf:=true }
theorem B0.a (k:Nat):AC (B0.d.cs k):=⟨Fe.s k,Bw.s k,D9.s k,Eg.s k,Af.s k,trivial⟩
theorem Cl.s:LL Tryz.f13 B0.d 10 Cl.p:=mL [] B0.a trivial
theorem Ep.s:LL Tryz.f13 B0.d 4 Ep.p:=mL [] B0.a trivial
theorem B0.s (k:Nat):CK 13 (B0.e k):=mS B0.d k [4,10] Tryz.func13 (B0.a k) ⟨Ep.s,Cl.s,trivial⟩
def Hy.e (k:Nat):Ent:=⟨2,[(.val false t4),(.val false (.i .i64))],[(.one,(.i .i64)),(.one,(.i .i64)),(.one,.b)],λ x=>Hy k x.1 x.2⟩
def Gd.p:LF:=⟨⟨[],[(0,t4),(1,(.i .i64)),(7,(.i .i64)),(8,(.i .i64))]⟩,[(.ret,⟨[],[(4,(.i .i64)),(5,(.i .i64)),(6,.b)]⟩),((.exit 0),⟨[],[]⟩)],λ k x=>Gd k x.1 x.2.1 x.2.2.1 x.2.2.2⟩
def Hy.d:Fd := { nt:=57,nv:=2,nm:=[0,1,2,3,7,8,9],res:=[4,5,6],ls:=[(3,Gd.p)] }
theorem Gd.s:LL Tryz.f256 Hy.d 3 Gd.p:=mL [] (λ _=>trivial) trivial
theorem Hy.s (k:Nat):CK 256 (Hy.e k):=mS Hy.d k [3] Tryz.func256 trivial ⟨Gd.s,trivial⟩
def Cq.e (k:Nat):Ent:=⟨1,[(.ptr t20 t20)],[(.one,(.i .i64))],λ x=>Cq k x⟩
def Cq.d:Fd := { nt:=35,nv:=1,nm:=[0,1,3,4,5],res:=[2],cs:=λ k=>[(256,Hy.e k)] }
theorem Cq.s (k:Nat):CK 219 (Cq.e k):=mS Cq.d k [] Tryz.func219 ⟨Hy.s k,trivial⟩ trivial
def Dk.e (k:Nat):Ent:=⟨1,[(.ptr t20 t20)],[(.agg,t16),(.one,.b)],λ x=>Dk k x⟩
def Dk.d:Fd := { nt:=31,nv:=1,nm:=[0,1,4,5],res:=[3],cs:=λ k=>[(219,Cq.e k)] }
theorem Dk.s (k:Nat):CK 171 (Dk.e k):=mS Dk.d k [] Tryz.func171 ⟨Cq.s k,trivial⟩ trivial
def J7.e (k:Nat):Ent:=⟨2,[(.val false t4),(.val false (.i .i64))],[(.one,.s),(.one,(.i .i64)),(.one,.b)],λ x=>J7 k x.1 x.2⟩
def J7.d:Fd := { nt:=37,nv:=2,nm:=[0,1,2,3,7,8,9],res:=[4,5,6],cs:=λ k=>[(256,Hy.e k)] }
theorem J7.s (k:Nat):CK 220 (J7.e k):=mS J7.d k [] Tryz.func220 ⟨Hy.s k,trivial⟩ trivial
def Cm.e (k:Nat):Ent:=⟨1,[(.ptr t20 t20)],[(.one,.s)],λ x=>Cm k x⟩
def Cm.d:Fd := { nt:=35,nv:=1,nm:=[0,1,3,4,5],res:=[2],cs:=λ k=>[(220,J7.e k)] }
theorem Cm.s (k:Nat):CK 172 (Cm.e k):=mS Cm.d k [] Tryz.func172 ⟨J7.s k,trivial⟩ trivial
def Ff.e (k:Nat):Ent:=⟨2,[(.val false t5),(.val false (.i .i64))],[(.one,t5)],λ x=>Ff k x.1 x.2⟩
def H9.p:LF:=⟨⟨[],[(0,t5),(1,(.i .i64))]⟩,[((.exit 0),⟨[],[(0,t5),(1,(.i .i64))]⟩)],λ k x=>H9 k x.1 x.2⟩
def Ff.d:Fd := { nt:=24,nv:=2,nm:=[0,1,2,3],res:=[4],ls:=[(2,H9.p)] }
theorem H9.s:LL Tryz.f257 Ff.d 2 H9.p:=mL [] (λ _=>trivial) trivial
theorem Ff.s (k:Nat):CK 257 (Ff.e k):=mS Ff.d k [2] Tryz.func257 trivial ⟨H9.s,trivial⟩
def J8.e (k:Nat):Ent:=⟨2,[(.val false t5),(.val false .s)],[(.one,t5)],λ x=>J8 k x.1 x.2⟩
def J8.d:Fd := { nt:=11,nv:=2,nm:=[0,1,2,3],res:=[4],cs:=λ k=>[(257,Ff.e k)] }
theorem J8.s (k:Nat):CK 221 (J8.e k):=mS J8.d k [] Tryz.func221 ⟨Ff.s k,trivial⟩ trivial
def Nn.e (k:Nat):Ent:=⟨1,[(.val false .b)],[(.one,(.i .i64))],λ x=>Nn x⟩
def Nn.d:Fd := { nt:=4,nv:=1,nm:=[0,1],res:=[2] }
theorem Nn.s (k:Nat):CK 258 (Nn.e k):=mS Nn.d k [] Tryz.func258 trivial trivial
def Ib.e (k:Nat):Ent:=⟨3,[(.val false t5),(.val true t16),(.val false .b)],[(.one,t5)],λ x=>Ib k x.1 x.2.1 x.2.2⟩
def Ib.d:Fd := { nt:=20,nv:=3,nm:=[0,1,2,3,4,5],res:=[6],cs:=λ k=>[(257,Ff.e k),(258,Nn.e k)] }
theorem Ib.s (k:Nat):CK 222 (Ib.e k):=mS Ib.d k [] Tryz.func222 ⟨Ff.s k,Nn.s k,trivial⟩ trivial
def Mb.e (k:Nat):Ent:=⟨1,[(.val false t4)],[(.one,(.i .i64))],λ x=>Mb k x⟩
def Jr.p:LF:=⟨⟨[],[(3,(.i .u32)),(7,t4),(8,(.i .i64)),(9,(.i .i64)),(17,(.i .i64))]⟩,[((.exit 2),⟨[],[(3,(.i .u32)),(7,t4),(8,(.i .i64)),(9,(.i .i64))]⟩)],λ k x=>Jr k x.1 x.2.1 x.2.2.1 x.2.2.2.1 x.2.2.2.2⟩
def K6.p:LF:=⟨⟨[],[(3,(.i .u32)),(7,t4),(8,(.i .i64)),(9,(.i .i64))]⟩,[((.exit 0),⟨[],[(3,(.i .u32))]⟩)],λ k x=>K6 k x.1 x.2.1 x.2.2.1 x.2.2.2⟩
def Mb.d:Fd := { nt:=32,nv:=1,nm:=[0,1,3,4,5,6],res:=[2],ls:=[(7,Jr.p),(3,K6.p)] }
theorem Jr.s:LL Tryz.f223 Mb.d 7 Jr.p:=mL [] (λ _=>trivial) trivial
theorem K6.s:LL Tryz.f223 Mb.d 3 K6.p:=mL [7] (λ _=>trivial) ⟨Jr.s,trivial⟩
theorem Mb.s (k:Nat):CK 223 (Mb.e k):=mS Mb.d k [3] Tryz.func223 trivial ⟨K6.s,trivial⟩
def F7.e (k:Nat):Ent:=⟨1,[(.val true t25)],[(.one,t5)],λ x=>F7 k x⟩
def F7.d:Fd := { nt:=33,nv:=1,nm:=[0,1,3,4],res:=[2],cs:=λ k=>[(103,Di.e k),(221,J8.e k),(222,Ib.e k),(223,Mb.e k)] }
theorem F7.s (k:Nat):CK 173 (F7.e k):=mS F7.d k [] Tryz.func173 ⟨Di.s k,J8.s k,Ib.s k,Mb.s k,trivial⟩ trivial
def Cc.e (k:Nat):Ent:=⟨1,[(.val false t4)],[(.agg,t25),(.one,.b)],λ x=>Cc k x⟩
def Cc.d:Fd := { nt:=41,nv:=1,nm:=[0,1,4,5,6],res:=[3],cs:=λ k=>[(171,Dk.e k),(172,Cm.e k),(173,F7.e k)] }
theorem Cc.s (k:Nat):CK 109 (Cc.e k):=mS Cc.d k [] Tryz.func109 ⟨Dk.s k,Cm.s k,F7.s k,trivial⟩ trivial
def Ic.e (k:Nat):Ent:=⟨2,[(.val true t25),(.val true t25)],[(.one,.b)],λ x=>Ic x.1 x.2⟩
def Ic.d:Fd := { nt:=26,nv:=2,nm:=[0,1,2,3],res:=[4],rf:=true }
theorem Ic.s (k:Nat):CK 144 (Ic.e k):=mS Ic.d k [] Tryz.func144 trivial trivial
def Cg.e (k:Nat):Ent:=⟨3,[(.val true t44),(.val false .s),(.val true t25)],[(.one,.b)],λ x=>Cg k x.1 x.2.1 x.2.2⟩
def Cn.p:LF:=⟨⟨[(5,(.bp 5 0 0)),(6999,(.hd 5))],[(1,.s),(10,t35),(11,(.i .i64)),(12,(.i .i64)),(6000,t25)]⟩,[(.ret,⟨[],[(6,.b)]⟩),((.exit 0),⟨[],[]⟩)],λ k x=>Cn k x.1 x.2.1 x.2.2.1 x.2.2.2.1 x.2.2.2.2⟩
def Cg.d:Fd := { nt:=27,nv:=3,nm:=[0,1,2,3,4,5,7,8],res:=[6],cs:=λ k=>[(144,Ic.e k)],ls:=[(2,Cn.p)],rf:=true }
theorem Cg.a (k:Nat):AC (Cg.d.cs k):=⟨Ic.s k,trivial⟩
theorem Cn.s:LL Tryz.f110 Cg.d 2 Cn.p:=mL [] Cg.a trivial
theorem Cg.s (k:Nat):CK 110 (Cg.e k):=mS Cg.d k [2] Tryz.func110 (Cg.a k) ⟨Cn.s,trivial⟩
def D5.e (k:Nat):Ent:=⟨1,[(.val true t44)],[(.one,.b)],λ x=>D5 k x⟩
def Er.p:LF:=⟨⟨[(1,(.bp 1 0 0)),(2999,(.hd 9))],[(10,t41),(11,(.i .i64)),(12,(.i .i64)),(23,t14),(24,(.i .i64)),(25,(.i .i64)),(2000,t44)]⟩,[(.ret,⟨[],[(2,.b)]⟩),((.exit 2),⟨[(1,(.bp 1 0 0)),(2999,(.hd 9))],[(10,t41),(11,(.i .i64)),(12,(.i .i64)),(2000,t44)]⟩)],λ k x=>Er k x.1 x.2.1 x.2.2.1 x.2.2.2.1 x.2.2.2.2.1 x.2.2.2.2.2.1 x.2.2.2.2.2.2⟩
def Ft.p:LF:=⟨⟨[(1,(.bp 1 0 0)),(2999,(.hd 9))],[(10,t41),(11,(.i .i64)),(12,(.i .i64)),(2000,t44)]⟩,[(.ret,⟨[],[(2,.b)]⟩),((.exit 0),⟨[],[]⟩)],λ k x=>Ft k x.1 x.2.1 x.2.2.1 x.2.2.2⟩
def D5.d:Fd := { nt:=46,nv:=1,nm:=[0,1,3,4,5,6,7,8],res:=[2],cs:=λ k=>[(109,Cc.e k),(110,Cg.e k)],ls:=[(5,Er.p),(2,Ft.p)],rf:=true }
theorem D5.a (k:Nat):AC (D5.d.cs k):=⟨Cc.s k,Cg.s k,trivial⟩
theorem Er.s:LL Tryz.f51 D5.d 5 Er.p:=mL [] D5.a trivial
theorem Ft.s:LL Tryz.f51 D5.d 2 Ft.p:=mL [5] D5.a ⟨Er.s,trivial⟩
theorem D5.s (k:Nat):CK 51 (D5.e k):=mS D5.d k [2] Tryz.func51 (D5.a k) ⟨Ft.s,trivial⟩
def B1.e (k:Nat):Ent:=⟨1,[(.val false t31)],[(.one,t32)],λ x=>B1 x⟩
def B1.d:Fd := { nt:=5,nv:=1,nm:=[0,1],res:=[2] }
theorem B1.s (k:Nat):CK 111 (B1.e k):=mS B1.d k [] Tryz.func111 trivial trivial
def Jo.e (k:Nat):Ent:=⟨2,[(.val false .s),(.val true t25)],[(.agg,t28)],λ x=>Jo x.1 x.2⟩
def Jo.d:Fd := { nt:=14,nv:=2,nm:=[0,1,2,3],res:=[],rf:=true }
theorem Jo.s (k:Nat):CK 112 (Jo.e k):=mS Jo.d k [] Tryz.func112 trivial trivial
def Dl.e (k:Nat):Ent:=⟨1,[(.val true t44)],[(.one,.b)],λ x=>Dl k x⟩
def E4.p:LF:=⟨⟨[(1,(.bp 1 0 0)),(6,(.bp 6 0 0)),(2999,(.hd 9)),(7999,(.hd 6))],[(7,.b),(11,t41),(12,(.i .i64)),(13,(.i .i64)),(22,t32),(23,(.i .i64)),(24,(.i .i64)),(29,t35),(30,(.i .i64)),(31,(.i .i64)),(2000,t44),(7000,t28)]⟩,[((.exit 4),⟨[(1,(.bp 1 0 0)),(2999,(.hd 9))],[(7,.b),(11,t41),(12,(.i .i64)),(13,(.i .i64)),(22,t32),(23,(.i .i64)),(24,(.i .i64)),(2000,t44)]⟩)],λ k x=>E4 k x.1 x.2.1 x.2.2.1 x.2.2.2.1 x.2.2.2.2.1 x.2.2.2.2.2.1 x.2.2.2.2.2.2.1 x.2.2.2.2.2.2.2.1 x.2.2.2.2.2.2.2.2.1 x.2.2.2.2.2.2.2.2.2.1 x.2.2.2.2.2.2.2.2.2.2.1 x.2.2.2.2.2.2.2.2.2.2.2⟩
def Ha.p:LF:=⟨⟨[(1,(.bp 1 0 0)),(2999,(.hd 9))],[(11,t41),(12,(.i .i64)),(13,(.i .i64)),(22,t32),(23,(.i .i64)),(24,(.i .i64)),(2000,t44)]⟩,[(.ret,⟨[],[(2,.b)]⟩),((.exit 2),⟨[(1,(.bp 1 0 0)),(2999,(.hd 9))],[(11,t41),(12,(.i .i64)),(13,(.i .i64)),(2000,t44)]⟩)],λ k x=>Ha k x.1 x.2.1 x.2.2.1 x.2.2.2.1 x.2.2.2.2.1 x.2.2.2.2.2.1 x.2.2.2.2.2.2⟩
def Hb.p:LF:=⟨⟨[(1,(.bp 1 0 0)),(2999,(.hd 9))],[(11,t41),(12,(.i .i64)),(13,(.i .i64)),(2000,t44)]⟩,[(.ret,⟨[],[(2,.b)]⟩),((.exit 0),⟨[],[]⟩)],λ k x=>Hb k x.1 x.2.1 x.2.2.1 x.2.2.2⟩
def Dl.d:Fd := { nt:=50,nv:=1,nm:=[0,1,3,4,5,6,7,8,9],res:=[2],cs:=λ k=>[(111,B1.e k),(112,Jo.e k)],ls:=[(9,E4.p),(5,Ha.p),(2,Hb.p)],rf:=true }
theorem Dl.a (k:Nat):AC (Dl.d.cs k):=⟨B1.s k,Jo.s k,trivial⟩
theorem E4.s:LL Tryz.f52 Dl.d 9 E4.p:=mL [] Dl.a trivial
theorem Ha.s:LL Tryz.f52 Dl.d 5 Ha.p:=mL [9] Dl.a ⟨E4.s,trivial⟩
theorem Hb.s:LL Tryz.f52 Dl.d 2 Hb.p:=mL [5] Dl.a ⟨Ha.s,trivial⟩
theorem Dl.s (k:Nat):CK 52 (Dl.e k):=mS Dl.d k [2] Tryz.func52 (Dl.a k) ⟨Hb.s,trivial⟩
def It.e (k:Nat):Ent:=⟨2,[(.val false t0),(.val false .s)],[(.one,.b)],λ x=>It k x.1 x.2⟩
def Fu.p:LF:=⟨⟨[],[(1,.s),(7,t0),(8,(.i .i64)),(9,(.i .i64))]⟩,[(.ret,⟨[],[(4,.b)]⟩),((.exit 0),⟨[],[]⟩)],λ k x=>Fu k x.1 x.2.1 x.2.2.1 x.2.2.2⟩
def It.d:Fd := { nt:=17,nv:=2,nm:=[0,1,2,3,5,6],res:=[4],ls:=[(2,Fu.p)],rf:=true }
theorem Fu.s:LL Tryz.f113 It.d 2 Fu.p:=mL [] (λ _=>trivial) trivial
theorem It.s (k:Nat):CK 113 (It.e k):=mS It.d k [2] Tryz.func113 trivial ⟨Fu.s,trivial⟩
def Ky.e (k:Nat):Ent:=⟨2,[(.val false t13),(.val false .s)],[(.one,(.i .i64))],λ x=>Ky k x.1 x.2⟩
def La.p:LF:=⟨⟨[],[(1,.s),(7,t13),(8,(.i .i64)),(9,(.i .i64))]⟩,[(.ret,⟨[],[(4,(.i .i64))]⟩),((.exit 0),⟨[],[]⟩)],λ k x=>La k x.1 x.2.1 x.2.2.1 x.2.2.2⟩
def Ky.d:Fd := { nt:=20,nv:=2,nm:=[0,1,2,3,5,6],res:=[4],ls:=[(2,La.p)] }
theorem La.s:LL Tryz.f174 Ky.d 2 La.p:=mL [] (λ _=>trivial) trivial
theorem Ky.s (k:Nat):CK 174 (Ky.e k):=mS Ky.d k [2] Tryz.func174 trivial ⟨La.s,trivial⟩
def Io.e (k:Nat):Ent:=⟨3,[(.val true t44),(.val false .s),(.val true t16)],[(.one,.b)],λ x=>Io k x.1 x.2.1 x.2.2⟩
def Gk.p:LF:=⟨⟨[(5,(.bp 5 0 0)),(6999,(.hd 3))],[(1,.s),(13,t41),(14,(.i .i64)),(15,(.i .i64)),(6000,t16)]⟩,[(.ret,⟨[],[(6,.b)]⟩),((.exit 0),⟨[],[]⟩)],λ k x=>Gk k x.1 x.2.1 x.2.2.1 x.2.2.2.1 x.2.2.2.2⟩
def Io.d:Fd := { nt:=46,nv:=3,nm:=[0,1,2,3,4,5,7,8,9,10,11],res:=[6],cs:=λ k=>[(14,Ao.e k),(109,Cc.e k),(174,Ky.e k)],ls:=[(2,Gk.p)],rf:=true }
theorem Io.a (k:Nat):AC (Io.d.cs k):=⟨Ao.s k,Cc.s k,Ky.s k,trivial⟩
theorem Gk.s:LL Tryz.f114 Io.d 2 Gk.p:=mL [] Io.a trivial
theorem Io.s (k:Nat):CK 114 (Io.e k):=mS Io.d k [2] Tryz.func114 (Io.a k) ⟨Gk.s,trivial⟩
def Ju.e (k:Nat):Ent:=⟨1,[(.val true t44)],[(.one,.b)],λ x=>Ju k x⟩
def I1.p:LF:=⟨⟨[(1,(.bp 1 0 0)),(2999,(.hd 9))],[(6,t35),(7,(.i .i64)),(8,(.i .i64)),(2000,t44)]⟩,[(.ret,⟨[],[(2,.b)]⟩),((.exit 0),⟨[],[]⟩)],λ k x=>I1 k x.1 x.2.1 x.2.2.1 x.2.2.2⟩
def Ju.d:Fd := { nt:=33,nv:=1,nm:=[0,1,3,4],res:=[2],cs:=λ k=>[(113,It.e k),(114,Io.e k)],ls:=[(2,I1.p)],rf:=true }
theorem Ju.a (k:Nat):AC (Ju.d.cs k):=⟨It.s k,Io.s k,trivial⟩
theorem I1.s:LL Tryz.f53 Ju.d 2 I1.p:=mL [] Ju.a trivial
theorem Ju.s (k:Nat):CK 53 (Ju.e k):=mS Ju.d k [2] Tryz.func53 (Ju.a k) ⟨I1.s,trivial⟩
def F8.e (k:Nat):Ent:=⟨1,[(.val true t44)],[(.one,.b)],λ x=>F8 k x⟩
def Es.p:LF:=⟨⟨[(1,(.bp 1 0 0)),(2999,(.hd 9))],[(6,t35),(7,(.i .i64)),(8,(.i .i64)),(2000,t44)]⟩,[(.ret,⟨[],[(2,.b)]⟩),((.exit 0),⟨[],[]⟩)],λ k x=>Es k x.1 x.2.1 x.2.2.1 x.2.2.2⟩
def F8.d:Fd := { nt:=39,nv:=1,nm:=[0,1,3,4],res:=[2],cs:=λ k=>[(14,Ao.e k)],ls:=[(2,Es.p)],rf:=true }
theorem F8.a (k:Nat):AC (F8.d.cs k):=⟨Ao.s k,trivial⟩
theorem Es.s:LL Tryz.f54 F8.d 2 Es.p:=mL [] F8.a trivial
theorem F8.s (k:Nat):CK 54 (F8.e k):=mS F8.d k [2] Tryz.func54 (F8.a k) ⟨Es.s,trivial⟩
def M3.e (k:Nat):Ent:=⟨1,[(.val true t44)],[(.one,(.i .i64))],λ x=>M3 k x⟩
def M3.d:Fd := { nt:=23,nv:=1,nm:=[0,1],res:=[2],cs:=λ k=>[(13,B0.e k),(51,D5.e k),(52,Dl.e k),(53,Ju.e k),(54,F8.e k)],rf:=true }
theorem M3.s (k:Nat):CK 20 (M3.e k):=mS M3.d k [] Tryz.func20 ⟨B0.s k,D5.s k,Dl.s k,Ju.s k,F8.s k,trivial⟩ trivial
def Ko.e (k:Nat):Ent:=⟨1,[(.val false t4)],[(.ptr,t21)],λ x=>Ko k x⟩
def Id.p:LF:=⟨⟨[],[(0,t4),(3,(.i .i64)),(4,(.i .i64))]⟩,[((.exit 0),⟨[],[(0,t4),(3,(.i .i64))]⟩)],λ k x=>Id k x.1 x.2.1 x.2.2⟩
def Ko.d:Fd := { nt:=32,nv:=1,nm:=[0,1,3,4],res:=[2],ls:=[(3,Id.p)] }
theorem Id.s:LL Tryz.f34 Ko.d 3 Id.p:=mL [] (λ _=>trivial) trivial
theorem Ko.s (k:Nat):CK 34 (Ko.e k):=mS Ko.d k [3] Tryz.func34 trivial ⟨Id.s,trivial⟩
def K7.e (k:Nat):Ent:=⟨2,[(.val false t4),(.val false (.i .i64))],[(.one,(.i .i64))],λ x=>K7 x.1 x.2⟩
def K7.d:Fd := { nt:=15,nv:=2,nm:=[0,1,2,3,5],res:=[4],rf:=true }
theorem K7.s (k:Nat):CK 36 (K7.e k):=mS K7.d k [] Tryz.func36 trivial trivial
def Fv.e (k:Nat):Ent:=⟨1,[(.ptr t21 t21)],[(.one,(.i .i64))],λ x=>Fv x⟩
def Fv.d:Fd := { nt:=58,nv:=1,nm:=[0,1,3],res:=[2] }
theorem Fv.s (k:Nat):CK 85 (Fv.e k):=mS Fv.d k [] Tryz.func85 trivial trivial
def A9.e (k:Nat):Ent:=⟨2,[(.ptr t21 t21),(.val false (.i .i64))],[(.one,(.i .i64))],λ x=>A9 x.1 x.2⟩
def A9.d:Fd := { nt:=31,nv:=2,nm:=[0,1,2,3,5,6,7],res:=[4],cs:=λ k=>[(85,Fv.e k)] }
theorem A9.s (k:Nat):CK 37 (A9.e k):=mS A9.d k [] Tryz.func37 ⟨Fv.s k,trivial⟩ trivial
def Bu.e (k:Nat):Ent:=⟨2,[(.ptr t21 t21),(.val false t6)],[(.one,(.i .i64))],λ x=>Bu x.1 x.2⟩
def Bu.d:Fd := { nt:=12,nv:=2,nm:=[0,1,2,3],res:=[4],cs:=λ k=>[(37,A9.e k)] }
theorem Bu.s (k:Nat):CK 39 (Bu.e k):=mS Bu.d k [] Tryz.func39 ⟨A9.s k,trivial⟩ trivial
def Lb.e (k:Nat):Ent:=⟨2,[(.ptr t21 t21),(.val false t0)],[(.one,.s)],λ x=>Lb x.1 x.2⟩
def Lb.d:Fd := { nt:=12,nv:=2,nm:=[0,1,2,3],res:=[4],cs:=λ k=>[(37,A9.e k)] }
theorem Lb.s (k:Nat):CK 115 (Lb.e k):=mS Lb.d k [] Tryz.func115 ⟨A9.s k,trivial⟩ trivial
def K8.e (k:Nat):Ent:=⟨1,[(.ptr t21 t21)],[(.one,.s)],λ x=>K8 x⟩
def K8.d:Fd := { nt:=6,nv:=1,nm:=[0,1],res:=[2],cs:=λ k=>[(115,Lb.e k)] }
theorem K8.s (k:Nat):CK 86 (K8.e k):=mS K8.d k [] Tryz.func86 ⟨Lb.s k,trivial⟩ trivial
def E9.e (k:Nat):Ent:=⟨1,[(.ptr t21 t21)],[(.one,t7)],λ x=>E9 k x⟩
def Fw.p:LF:=⟨⟨[(0,(.bp 0 0 0)),(1999,(.hd 3))],[(3,t7),(4,(.i .i64)),(1000,t21)]⟩,[((.exit 0),⟨[(1999,(.hd 3))],[(3,t7),(1000,t21)]⟩)],λ k x=>Fw k x.1 x.2.1 x.2.2⟩
def E9.d:Fd := { nt:=17,nv:=1,nm:=[0,1,3,4],res:=[2],cs:=λ k=>[(39,Bu.e k)],ls:=[(3,Fw.p)],rf:=true }
theorem E9.a (k:Nat):AC (E9.d.cs k):=⟨Bu.s k,trivial⟩
theorem Fw.s:LL Tryz.f87 E9.d 3 Fw.p:=mL [] E9.a trivial
theorem E9.s (k:Nat):CK 87 (E9.e k):=mS E9.d k [3] Tryz.func87 (E9.a k) ⟨Fw.s,trivial⟩
def Fy.e (k:Nat):Ent:=⟨2,[(.ptr t21 t21),(.val false (.i .i64))],[(.one,t5)],λ x=>Fy k x.1 x.2⟩
def Fx.p:LF:=⟨⟨[(0,(.bp 0 0 0)),(1999,(.hd 3))],[(1,(.i .i64)),(5,t5),(6,(.i .i64)),(1000,t4),(1001,(.i .i64)),(1002,(.i .i64))]⟩,[((.exit 0),⟨[(1999,(.hd 3))],[(5,t5),(1000,t4),(1001,(.i .i64)),(1002,(.i .i64))]⟩)],λ k x=>Fx k x.1 x.2.1 x.2.2.1 x.2.2.2.1 x.2.2.2.2.1 x.2.2.2.2.2⟩
def Fy.d:Fd := { nt:=20,nv:=2,nm:=[0,1,2,3,5,6],res:=[4],cs:=λ k=>[(85,Fv.e k)],ls:=[(3,Fx.p)] }
theorem Fy.a (k:Nat):AC (Fy.d.cs k):=⟨Fv.s k,trivial⟩
theorem Fx.s:LL Tryz.f150 Fy.d 3 Fx.p:=mL [] Fy.a trivial
theorem Fy.s (k:Nat):CK 150 (Fy.e k):=mS Fy.d k [3] Tryz.func150 (Fy.a k) ⟨Fx.s,trivial⟩
def Fz.e (k:Nat):Ent:=⟨1,[(.ptr t21 t21)],[(.one,t5)],λ x=>Fz k x⟩
def Fz.d:Fd := { nt:=8,nv:=1,nm:=[0,1],res:=[2],cs:=λ k=>[(39,Bu.e k),(150,Fy.e k)] }
theorem Fz.s (k:Nat):CK 88 (Fz.e k):=mS Fz.d k [] Tryz.func88 ⟨Bu.s k,Fy.s k,trivial⟩ trivial
def A7.e (k:Nat):Ent:=⟨3,[(.val false (.i .i64)),(.val false (.i .i64)),(.val false (.i .i64))],[(.one,.b)],λ x=>A7 x.1 x.2.1 x.2.2⟩
def A7.d:Fd := { nt:=15,nv:=3,nm:=[0,1,2,3,4,5],res:=[6] }
theorem A7.s (k:Nat):CK 97 (A7.e k):=mS A7.d k [] Tryz.func97 trivial trivial
def Bx.e (k:Nat):Ent:=⟨1,[(.val true t16)],[(.one,.b)],λ x=>Bx x⟩
def Bx.d:Fd := { nt:=16,nv:=1,nm:=[0,1],res:=[2],cs:=λ k=>[(97,A7.e k)] }
theorem Bx.s (k:Nat):CK 77 (Bx.e k):=mS Bx.d k [] Tryz.func77 ⟨A7.s k,trivial⟩ trivial
def Dm.e (k:Nat):Ent:=⟨1,[(.val true t25)],[(.one,.b)],λ x=>Dm x⟩
def Dm.d:Fd := { nt:=23,nv:=1,nm:=[0,1],res:=[2],cs:=λ k=>[(77,Bx.e k)] }
theorem Dm.s (k:Nat):CK 78 (Dm.e k):=mS Dm.d k [] Tryz.func78 ⟨Bx.s k,trivial⟩ trivial
def Dn.e (k:Nat):Ent:=⟨2,[(.val false t4),(.val false (.i .i64))],[(.one,(.i .i64)),(.one,(.i .i64)),(.one,.b)],λ x=>Dn k x.1 x.2⟩
def F6.p:LF:=⟨⟨[],[(0,t4),(1,(.i .i64)),(7,(.i .i64)),(8,(.i .i64))]⟩,[(.ret,⟨[],[(4,(.i .i64)),(5,(.i .i64)),(6,.b)]⟩),((.exit 0),⟨[],[]⟩)],λ k x=>F6 k x.1 x.2.1 x.2.2.1 x.2.2.2⟩
def Dn.d:Fd := { nt:=64,nv:=2,nm:=[0,1,2,3,7,8,9],res:=[4,5,6],ls:=[(3,F6.p)] }
theorem F6.s:LL Tryz.f200 Dn.d 3 F6.p:=mL [] (λ _=>trivial) trivial
theorem Dn.s (k:Nat):CK 200 (Dn.e k):=mS Dn.d k [3] Tryz.func200 trivial ⟨F6.s,trivial⟩
def G0.e (k:Nat):Ent:=⟨2,[(.val false t4),(.val false (.i .i64))],[(.agg,t16),(.one,(.i .i64)),(.one,.b)],λ x=>G0 k x.1 x.2⟩
def G0.d:Fd := { nt:=49,nv:=2,nm:=[0,1,2,3,7,8,9,10,11,12,13,14,15],res:=[5,6],cs:=λ k=>[(200,Dn.e k)] }
theorem G0.s (k:Nat):CK 199 (G0.e k):=mS G0.d k [] Tryz.func199 ⟨Dn.s k,trivial⟩ trivial
def J9.e (k:Nat):Ent:=⟨2,[(.val false t4),(.val false (.i .i64))],[(.one,.s),(.one,(.i .i64)),(.one,.b)],λ x=>J9 k x.1 x.2⟩
def J9.d:Fd := { nt:=37,nv:=2,nm:=[0,1,2,3,7,8,9],res:=[4,5,6],cs:=λ k=>[(200,Dn.e k)] }
theorem J9.s (k:Nat):CK 201 (J9.e k):=mS J9.d k [] Tryz.func201 ⟨Dn.s k,trivial⟩ trivial
def Dp.e (k:Nat):Ent:=⟨2,[(.val false t4),(.val false (.i .i64))],[(.one,t5)],λ x=>Dp k x.1 x.2⟩
def Cy.p:LF:=⟨⟨[],[(1,(.i .i64)),(5,t5)]⟩,[((.exit 0),⟨[],[(1,(.i .i64)),(5,t5)]⟩)],λ k x=>Cy k x.1 x.2⟩
def Dp.d:Fd := { nt:=29,nv:=2,nm:=[0,1,2,3,5],res:=[4],ls:=[(6,Cy.p)] }
theorem Cy.s:LL Tryz.f241 Dp.d 6 Cy.p:=mL [] (λ _=>trivial) trivial
theorem Dp.s (k:Nat):CK 241 (Dp.e k):=mS Dp.d k [6] Tryz.func241 trivial ⟨Cy.s,trivial⟩
def Ja.e (k:Nat):Ent:=⟨2,[(.val false t4),(.val false .s)],[(.one,t5)],λ x=>Ja k x.1 x.2⟩
def Ja.d:Fd := { nt:=11,nv:=2,nm:=[0,1,2,3],res:=[4],cs:=λ k=>[(241,Dp.e k)] }
theorem Ja.s (k:Nat):CK 240 (Ja.e k):=mS Ja.d k [] Tryz.func240 ⟨Dp.s k,trivial⟩ trivial
def Jb.e (k:Nat):Ent:=⟨2,[(.val false t4),(.val true t16)],[(.one,t5)],λ x=>Jb k x.1 x.2⟩
def Jb.d:Fd := { nt:=15,nv:=2,nm:=[0,1,2,3],res:=[4],cs:=λ k=>[(241,Dp.e k)] }
theorem Jb.s (k:Nat):CK 242 (Jb.e k):=mS Jb.d k [] Tryz.func242 ⟨Dp.s k,trivial⟩ trivial
def Kz.e (k:Nat):Ent:=⟨1,[(.val false .b)],[(.one,(.i .i64))],λ x=>Kz x⟩
def Kz.d:Fd := { nt:=4,nv:=1,nm:=[0,1],res:=[2] }
theorem Kz.s (k:Nat):CK 243 (Kz.e k):=mS Kz.d k [] Tryz.func243 trivial trivial
def Mc.e (k:Nat):Ent:=⟨1,[(.val false t4)],[(.one,(.i .i64))],λ x=>Mc k x⟩
def Js.p:LF:=⟨⟨[],[(0,t4),(3,(.i .i64)),(4,(.i .i64)),(5,(.i .i64))]⟩,[((.exit 2),⟨[],[(0,t4),(3,(.i .i64)),(4,(.i .i64))]⟩)],λ k x=>Js k x.1 x.2.1 x.2.2.1 x.2.2.2⟩
def Ka.p:LF:=⟨⟨[],[(0,t4),(3,(.i .i64)),(4,(.i .i64))]⟩,[((.exit 0),⟨[],[(3,(.i .i64))]⟩)],λ k x=>Ka k x.1 x.2.1 x.2.2⟩
def Mc.d:Fd := { nt:=34,nv:=1,nm:=[0,1,3,4,5,6],res:=[2],ls:=[(7,Js.p),(3,Ka.p)] }
theorem Js.s:LL Tryz.f244 Mc.d 7 Js.p:=mL [] (λ _=>trivial) trivial
theorem Ka.s:LL Tryz.f244 Mc.d 3 Ka.p:=mL [7] (λ _=>trivial) ⟨Js.s,trivial⟩
theorem Mc.s (k:Nat):CK 244 (Mc.e k):=mS Mc.d k [3] Tryz.func244 trivial ⟨Ka.s,trivial⟩
def F9.e (k:Nat):Ent:=⟨1,[(.val true t25)],[(.one,t5)],λ x=>F9 k x⟩
def F9.d:Fd := { nt:=37,nv:=1,nm:=[0,1,3,4],res:=[2],cs:=λ k=>[(78,Dm.e k),(240,Ja.e k),(241,Dp.e k),(242,Jb.e k),(243,Kz.e k),(244,Mc.e k)] }
theorem F9.s (k:Nat):CK 202 (F9.e k):=mS F9.d k [] Tryz.func202 ⟨Dm.s k,Ja.s k,Dp.s k,Jb.s k,Kz.s k,Mc.s k,trivial⟩ trivial
def Gy.e (k:Nat):Ent:=⟨1,[(.val false t4)],[(.agg,t26),(.one,.b)],λ x=>Gy k x⟩
def Gy.d:Fd := { nt:=76,nv:=1,nm:=[0,1,4,5,6,7,8,9,10,11,12,13],res:=[3],cs:=λ k=>[(78,Dm.e k),(199,G0.e k),(200,Dn.e k),(201,J9.e k),(202,F9.e k)],mv:=[75] }
theorem Gy.s (k:Nat):CK 151 (Gy.e k):=mS Gy.d k [] Tryz.func151 ⟨Dm.s k,G0.s k,Dn.s k,J9.s k,F9.s k,trivial⟩ trivial
def Hz.e (k:Nat):Ent:=⟨2,[(.val false t0),(.val false .s)],[(.one,.b)],λ x=>Hz k x.1 x.2⟩
def Hc.p:LF:=⟨⟨[],[(0,t0),(1,.s),(5,(.i .i64))]⟩,[(.ret,⟨[],[(4,.b)]⟩),((.exit 0),⟨[],[]⟩)],λ k x=>Hc k x.1 x.2.1 x.2.2⟩
def Hz.d:Fd := { nt:=18,nv:=2,nm:=[0,1,2,3,5],res:=[4],ls:=[(2,Hc.p)],rf:=true }
theorem Hc.s:LL Tryz.f152 Hz.d 2 Hc.p:=mL [] (λ _=>trivial) trivial
theorem Hz.s (k:Nat):CK 152 (Hz.e k):=mS Hz.d k [2] Tryz.func152 trivial ⟨Hc.s,trivial⟩
def D0.e (k:Nat):Ent:=⟨2,[(.val false t13),(.val false .s)],[(.one,(.i .i64))],λ x=>D0 k x.1 x.2⟩
def Jc.p:LF:=⟨⟨[],[(0,t13),(1,.s),(5,(.i .i64))]⟩,[(.ret,⟨[],[(4,(.i .i64))]⟩),((.exit 0),⟨[],[]⟩)],λ k x=>Jc k x.1 x.2.1 x.2.2⟩
def D0.d:Fd := { nt:=20,nv:=2,nm:=[0,1,2,3,5],res:=[4],ls:=[(2,Jc.p)] }
theorem Jc.s:LL Tryz.f153 D0.d 2 Jc.p:=mL [] (λ _=>trivial) trivial
theorem D0.s (k:Nat):CK 153 (D0.e k):=mS D0.d k [2] Tryz.func153 trivial ⟨Jc.s,trivial⟩
def Gq.e (k:Nat):Ent:=⟨1,[(.val true t27)],[(.one,t2)],λ x=>Gq k x⟩
def Jd.p:LF:=⟨⟨[(1,(.bp 1 0 0)),(2999,(.hd 2))],[(3,t2),(4,(.i .i64)),(7,(.i .i64)),(2000,t27)]⟩,[((.exit 2),⟨[(1,(.bp 1 0 0)),(2999,(.hd 2))],[(3,t2),(4,(.i .i64)),(7,(.i .i64)),(2000,t27)]⟩)],λ k x=>Jd k x.1 x.2.1 x.2.2.1 x.2.2.2⟩
def Gz.p:LF:=⟨⟨[(1,(.bp 1 0 0)),(2999,(.hd 2))],[(3,t2),(4,(.i .i64)),(2000,t27)]⟩,[((.exit 0),⟨[],[(3,t2)]⟩)],λ k x=>Gz k x.1 x.2.1 x.2.2⟩
def Gq.d:Fd := { nt:=98,nv:=1,nm:=[0,1,3,4,5,6,7],res:=[2],cs:=λ k=>[(151,Gy.e k),(152,Hz.e k),(153,D0.e k)],ls:=[(9,Jd.p),(3,Gz.p)],rf:=true }
theorem Gq.a (k:Nat):AC (Gq.d.cs k):=⟨Gy.s k,Hz.s k,D0.s k,trivial⟩
theorem Jd.s:LL Tryz.f89 Gq.d 9 Jd.p:=mL [] Gq.a trivial
theorem Gz.s:LL Tryz.f89 Gq.d 3 Gz.p:=mL [9] Gq.a ⟨Jd.s,trivial⟩
theorem Gq.s (k:Nat):CK 89 (Gq.e k):=mS Gq.d k [3] Tryz.func89 (Gq.a k) ⟨Gz.s,trivial⟩
def Aq.e (k:Nat):Ent:=⟨1,[(.val false .s)],[(.one,.b)],λ x=>Aq k x⟩
def Cz.p:LF:=⟨⟨[],[(0,.s),(3,(.i .i64))]⟩,[(.ret,⟨[],[(2,.b)]⟩),((.exit 0),⟨[],[(0,.s)]⟩)],λ k x=>Cz k x.1 x.2⟩
def Aq.d:Fd := { nt:=38,nv:=1,nm:=[0,1,3,4],res:=[2],cs:=λ k=>[(97,A7.e k)],ls:=[(2,Cz.p)] }
theorem Aq.a (k:Nat):AC (Aq.d.cs k):=⟨A7.s k,trivial⟩
theorem Cz.s:LL Tryz.f62 Aq.d 2 Cz.p:=mL [] Aq.a trivial
theorem Aq.s (k:Nat):CK 62 (Aq.e k):=mS Aq.d k [2] Tryz.func62 (Aq.a k) ⟨Cz.s,trivial⟩
def Hd.e (k:Nat):Ent:=⟨3,[(.val true t16),(.val false (.i .i64)),(.val false (.i .i64))],[(.agg,t16)],λ x=>Hd x.1 x.2.1 x.2.2⟩
def Hd.d:Fd := { nt:=27,nv:=3,nm:=[0,1,2,3,4,5,7],res:=[],cs:=λ k=>[(77,Bx.e k)],rf:=true }
theorem Hd.s (k:Nat):CK 130 (Hd.e k):=mS Hd.d k [] Tryz.func130 ⟨Bx.s k,trivial⟩ trivial
def Bg.e (k:Nat):Ent:=⟨1,[(.val true t25)],[(.agg,t26)],λ x=>Bg x⟩
def Bg.d:Fd := { nt:=9,nv:=1,nm:=[0,1],res:=[],mv:=[8],rf:=true }
theorem Bg.s (k:Nat):CK 96 (Bg.e k):=mS Bg.d k [] Tryz.func96 trivial trivial
def B9.e (k:Nat):Ent:=⟨2,[(.val true t44),(.val false t6)],[(.one,t7)],λ x=>B9 k x.1 x.2⟩
def C1.p:LF:=⟨⟨[(2,(.bp 2 0 0)),(3999,(.hd 9))],[(1,t6),(5,t7),(6,(.i .i64)),(7,(.i .i64)),(3000,t44)]⟩,[((.exit 2),⟨[(2,(.bp 2 0 0)),(3999,(.hd 9))],[(1,t6),(5,t7),(6,(.i .i64)),(3000,t44)]⟩)],λ k x=>C1 k x.1 x.2.1 x.2.2.1 x.2.2.2.1 x.2.2.2.2⟩
def Dq.p:LF:=⟨⟨[(2,(.bp 2 0 0)),(3999,(.hd 9))],[(1,t6),(5,t7),(6,(.i .i64)),(3000,t44)]⟩,[((.exit 0),⟨[],[(5,t7)]⟩)],λ k x=>Dq k x.1 x.2.1 x.2.2.1 x.2.2.2⟩
def B9.d:Fd := { nt:=38,nv:=2,nm:=[0,1,2,3,5,6,7],res:=[4],ls:=[(6,C1.p),(3,Dq.p)],rf:=true }
theorem C1.s:LL Tryz.f176 B9.d 6 C1.p:=mL [] (λ _=>trivial) trivial
theorem Dq.s:LL Tryz.f176 B9.d 3 Dq.p:=mL [6] (λ _=>trivial) ⟨C1.s,trivial⟩
theorem B9.s (k:Nat):CK 176 (B9.e k):=mS B9.d k [3] Tryz.func176 trivial ⟨Dq.s,trivial⟩
def Lu.e (k:Nat):Ent:=⟨1,[(.val false .s)],[(.one,(.i .i64))],λ x=>Lu k x⟩
def Je.p:LF:=⟨⟨[],[(0,.s),(3,(.i .i64)),(4,(.i .i64))]⟩,[((.exit 0),⟨[],[(3,(.i .i64))]⟩)],λ k x=>Je k x.1 x.2.1 x.2.2⟩
def Lu.d:Fd := { nt:=20,nv:=1,nm:=[0,1,3,4],res:=[2],ls:=[(3,Je.p)],rf:=true }
theorem Je.s:LL Tryz.f259 Lu.d 3 Je.p:=mL [] (λ _=>trivial) trivial
theorem Lu.s (k:Nat):CK 259 (Lu.e k):=mS Lu.d k [3] Tryz.func259 trivial ⟨Je.s,trivial⟩
def L5.e (k:Nat):Ent:=⟨2,[(.val false .s),(.val false (.i .i64))],[(.one,(.i .i64))],λ x=>L5 k x.1 x.2⟩
def L5.d:Fd := { nt:=11,nv:=2,nm:=[0,1,2,3],res:=[4],cs:=λ k=>[(259,Lu.e k)],rf:=true }
theorem L5.s (k:Nat):CK 225 (L5.e k):=mS L5.d k [] Tryz.func225 ⟨Lu.s k,trivial⟩ trivial
def Ba.e (k:Nat):Ent:=⟨2,[(.val true t17),(.val false .s)],[(.one,t7)],λ x=>Ba k x.1 x.2⟩
def Ba.d:Fd := { nt:=22,nv:=2,nm:=[0,1,2,3],res:=[4],cs:=λ k=>[(225,L5.e k)],rf:=true }
theorem Ba.s (k:Nat):CK 177 (Ba.e k):=mS Ba.d k [] Tryz.func177 ⟨L5.s k,trivial⟩ trivial
def Cd.e (k:Nat):Ent:=⟨2,[(.val false t6),(.val false (.i .i64))],[(.one,.b)],λ x=>Cd k x.1 x.2⟩
def Ie.p:LF:=⟨⟨[],[(0,t6),(1,(.i .i64)),(5,(.i .i64))]⟩,[(.ret,⟨[],[(4,.b)]⟩),((.exit 0),⟨[],[]⟩)],λ k x=>Ie k x.1 x.2.1 x.2.2⟩
def Cd.d:Fd := { nt:=18,nv:=2,nm:=[0,1,2,3,5],res:=[4],ls:=[(2,Ie.p)],rf:=true }
theorem Ie.s:LL Tryz.f190 Cd.d 2 Ie.p:=mL [] (λ _=>trivial) trivial
theorem Cd.s (k:Nat):CK 190 (Cd.e k):=mS Cd.d k [2] Tryz.func190 trivial ⟨Ie.s,trivial⟩
def Ec.e (k:Nat):Ent:=⟨2,[(.val false t22),(.val false (.i .i64))],[(.agg,t16),(.one,.b)],λ x=>Ec k x.1 x.2⟩
def Ig.p:LF:=⟨⟨[(4,(.bp 4 0 0)),(5999,(.hd 3))],[(0,t22),(1,(.i .i64)),(6,(.i .i64)),(5000,t16)]⟩,[(.ret,⟨[(4,(.bp 4 0 0)),(5999,(.hd 3))],[(5,.b),(5000,t16)]⟩),((.exit 0),⟨[(4,(.bp 4 0 0)),(5999,(.hd 3))],[(5000,t16)]⟩)],λ k x=>Ig k x.1 x.2.1 x.2.2.1 x.2.2.2⟩
def Ec.d:Fd := { nt:=25,nv:=2,nm:=[0,1,2,3,6],res:=[5],ls:=[(2,Ig.p)],rf:=true }
theorem Ig.s:LL Tryz.f139 Ec.d 2 Ig.p:=mL [] (λ _=>trivial) trivial
theorem Ec.s (k:Nat):CK 139 (Ec.e k):=mS Ec.d k [2] Tryz.func139 trivial ⟨Ig.s,trivial⟩
def Cr.e (k:Nat):Ent:=⟨2,[(.val false t6),(.val false t22)],[(.one,t7)],λ x=>Cr k x.1 x.2⟩
def Dr.p:LF:=⟨⟨[],[(0,t6),(1,t22),(5,t7),(6,(.i .i64))]⟩,[((.exit 0),⟨[],[(5,t7)]⟩)],λ k x=>Dr k x.1 x.2.1 x.2.2.1 x.2.2.2⟩
def Cr.d:Fd := { nt:=39,nv:=2,nm:=[0,1,2,3,5,6,7,8],res:=[4],cs:=λ k=>[(139,Ec.e k),(190,Cd.e k)],ls:=[(3,Dr.p)],rf:=true }
theorem Cr.a (k:Nat):AC (Cr.d.cs k):=⟨Ec.s k,Cd.s k,trivial⟩
theorem Dr.s:LL Tryz.f226 Cr.d 3 Dr.p:=mL [] Cr.a trivial
theorem Cr.s (k:Nat):CK 226 (Cr.e k):=mS Cr.d k [3] Tryz.func226 (Cr.a k) ⟨Dr.s,trivial⟩
def C7.e (k:Nat):Ent:=⟨3,[(.val true t17),(.val false t22),(.val false .s)],[(.one,t7)],λ x=>C7 k x.1 x.2.1 x.2.2⟩
def C2.p:LF:=⟨⟨[],[(1,t22),(7,t7),(8,t7),(9,t7),(10,(.i .i64)),(11,(.i .i64))]⟩,[((.exit 2),⟨[],[(1,t22),(7,t7),(8,t7),(9,t7),(10,(.i .i64))]⟩)],λ k x=>C2 k x.1 x.2.1 x.2.2.1 x.2.2.2.1 x.2.2.2.2.1 x.2.2.2.2.2⟩
def Et.p:LF:=⟨⟨[],[(1,t22),(7,t7),(8,t7),(9,t7),(10,(.i .i64))]⟩,[((.exit 0),⟨[],[(9,t7)]⟩)],λ k x=>Et k x.1 x.2.1 x.2.2.1 x.2.2.2.1 x.2.2.2.2⟩
def C7.d:Fd := { nt:=58,nv:=3,nm:=[0,1,2,3,4,5,7,8,9,10,11],res:=[6],cs:=λ k=>[(177,Ba.e k),(190,Cd.e k),(226,Cr.e k)],ls:=[(8,C2.p),(5,Et.p)],rf:=true }
theorem C7.a (k:Nat):AC (C7.d.cs k):=⟨Ba.s k,Cd.s k,Cr.s k,trivial⟩
theorem C2.s:LL Tryz.f178 C7.d 8 C2.p:=mL [] C7.a trivial
theorem Et.s:LL Tryz.f178 C7.d 5 Et.p:=mL [8] C7.a ⟨C2.s,trivial⟩
theorem C7.s (k:Nat):CK 178 (C7.e k):=mS C7.d k [5] Tryz.func178 (C7.a k) ⟨Et.s,trivial⟩
def Eu.e (k:Nat):Ent:=⟨2,[(.val true t44),(.val false .s)],[(.one,t7)],λ x=>Eu k x.1 x.2⟩
def Eu.d:Fd := { nt:=20,nv:=2,nm:=[0,1,2,3],res:=[4],cs:=λ k=>[(176,B9.e k),(177,Ba.e k),(178,C7.e k)],rf:=true }
theorem Eu.s (k:Nat):CK 118 (Eu.e k):=mS Eu.d k [] Tryz.func118 ⟨B9.s k,Ba.s k,C7.s k,trivial⟩ trivial
def Bv.e (k:Nat):Ent:=⟨2,[(.val false t6),(.val false (.i .i64))],[(.one,(.i .i64))],λ x=>Bv x.1 x.2⟩
def Bv.d:Fd := { nt:=21,nv:=2,nm:=[0,1,2,3],res:=[4],cs:=λ k=>[(97,A7.e k)],rf:=true }
theorem Bv.s (k:Nat):CK 119 (Bv.e k):=mS Bv.d k [] Tryz.func119 ⟨A7.s k,trivial⟩ trivial
def Fj.e (k:Nat):Ent:=⟨2,[(.val true t27),(.val false .s)],[(.one,t5),(.one,.b)],λ x=>Fj k x.1 x.2⟩
def Fj.d:Fd := { nt:=22,nv:=2,nm:=[0,1,2,3,6],res:=[4,5],cs:=λ k=>[(153,D0.e k)] }
theorem Fj.s (k:Nat):CK 179 (Fj.e k):=mS Fj.d k [] Tryz.func179 ⟨D0.s k,trivial⟩ trivial
def I2.e (k:Nat):Ent:=⟨2,[(.val true t27),(.val false .s)],[(.agg,t26),(.one,(.i .i64))],λ x=>I2 k x.1 x.2⟩
def I2.d:Fd := { nt:=28,nv:=2,nm:=[0,1,2,3,6,7,8,9],res:=[5],cs:=λ k=>[(151,Gy.e k),(179,Fj.e k)],mv:=[27] }
theorem I2.s (k:Nat):CK 120 (I2.e k):=mS I2.d k [] Tryz.func120 ⟨Gy.s k,Fj.s k,trivial⟩ trivial
def Bz.e (k:Nat):Ent:=⟨2,[(.val true t16),(.val true t16)],[(.one,.b)],λ x=>Bz x.1 x.2⟩
def Bz.d:Fd := { nt:=32,nv:=2,nm:=[0,1,2,3],res:=[4] }
theorem Bz.s (k:Nat):CK 79 (Bz.e k):=mS Bz.d k [] Tryz.func79 trivial trivial
def Lc.e (k:Nat):Ent:=⟨2,[(.val true t25),(.val true t25)],[(.one,.b)],λ x=>Lc x.1 x.2⟩
def Lc.d:Fd := { nt:=10,nv:=2,nm:=[0,1,2,3],res:=[4],cs:=λ k=>[(79,Bz.e k)] }
theorem Lc.s (k:Nat):CK 121 (Lc.e k):=mS Lc.d k [] Tryz.func121 ⟨Bz.s k,trivial⟩ trivial
def Bc.e (k:Nat):Ent:=⟨1,[(.val false t13)],[(.one,t14)],λ x=>Bc k x⟩
def C3.p:LF:=⟨⟨[],[(0,t13),(3,t14),(4,(.i .i64))]⟩,[((.exit 0),⟨[],[(3,t14)]⟩)],λ k x=>C3 k x.1 x.2.1 x.2.2⟩
def Bc.d:Fd := { nt:=29,nv:=1,nm:=[0,1,3,4],res:=[2],ls:=[(3,C3.p)] }
theorem C3.s:LL Tryz.f207 Bc.d 3 C3.p:=mL [] (λ _=>trivial) trivial
theorem Bc.s (k:Nat):CK 207 (Bc.e k):=mS Bc.d k [3] Tryz.func207 trivial ⟨C3.s,trivial⟩
def Gl.e (k:Nat):Ent:=⟨1,[(.val false t13)],[(.one,t15)],λ x=>Gl k x⟩
def Ip.p:LF:=⟨⟨[],[(0,t13),(3,t15),(4,(.i .i64))]⟩,[((.exit 0),⟨[],[(3,t15)]⟩)],λ k x=>Ip k x.1 x.2.1 x.2.2⟩
def Gl.d:Fd := { nt:=29,nv:=1,nm:=[0,1,3,4],res:=[2],ls:=[(3,Ip.p)],hint:=[(5,t12),(26,t12),(27,t12)] }
theorem Ip.s:LL Tryz.f207 Gl.d 3 Ip.p:=mL [] (λ _=>trivial) trivial
theorem Gl.s (k:Nat):CK 207 (Gl.e k):=mS Gl.d k [3] Tryz.func207 trivial ⟨Ip.s,trivial⟩
def A5.e (k:Nat):Ent:=⟨1,[(.val true t27)],[(.agg,t29)],λ x=>A5 k x⟩
def A5.d:Fd := { nt:=10,nv:=1,nm:=[0,1],res:=[],cs:=λ k=>[(207,Bc.e k)] }
theorem A5.s (k:Nat):CK 159 (A5.e k):=mS A5.d k [] Tryz.func159 ⟨Bc.s k,trivial⟩ trivial
def Jw.e (k:Nat):Ent:=⟨1,[(.val true t27)],[(.agg,t30)],λ x=>Jw k x⟩
def Jw.d:Fd := { nt:=10,nv:=1,nm:=[0,1],res:=[],cs:=λ k=>[(207,Gl.e k)] }
theorem Jw.s (k:Nat):CK 159 (Jw.e k):=mS Jw.d k [] Tryz.func159 ⟨Gl.s k,trivial⟩ trivial
def G3.e (k:Nat):Ent:=⟨1,[(.val false t13)],[(.one,.b)],λ x=>G3 k x⟩
def Ge.p:LF:=⟨⟨[],[(0,t13),(3,(.i .i64))]⟩,[(.ret,⟨[],[(2,.b)]⟩),((.exit 0),⟨[],[(0,t13)]⟩)],λ k x=>Ge k x.1 x.2⟩
def G3.d:Fd := { nt:=47,nv:=1,nm:=[0,1,3],res:=[2],cs:=λ k=>[(62,Aq.e k)],ls:=[(2,Ge.p)] }
theorem G3.a (k:Nat):AC (G3.d.cs k):=⟨Aq.s k,trivial⟩
theorem Ge.s:LL Tryz.f234 G3.d 2 Ge.p:=mL [] G3.a trivial
theorem G3.s (k:Nat):CK 234 (G3.e k):=mS G3.d k [2] Tryz.func234 (G3.a k) ⟨Ge.s,trivial⟩
def Be.e (k:Nat):Ent:=⟨1,[(.val true t27)],[(.one,.b)],λ x=>Be k x⟩
def Be.d:Fd := { nt:=11,nv:=1,nm:=[0,1],res:=[2],cs:=λ k=>[(234,G3.e k)] }
theorem Be.s (k:Nat):CK 192 (Be.e k):=mS Be.d k [] Tryz.func192 ⟨G3.s k,trivial⟩ trivial
def J0.e (k:Nat):Ent:=⟨2,[(.val false t13),(.val false .s)],[(.one,t14)],λ x=>J0 k x.1 x.2⟩
def Hv.p:LF:=⟨⟨[],[(0,t13),(1,.s),(5,t14),(6,(.i .i64))]⟩,[((.exit 0),⟨[],[(5,t14)]⟩)],λ k x=>Hv k x.1 x.2.1 x.2.2.1 x.2.2.2⟩
def J0.d:Fd := { nt:=29,nv:=2,nm:=[0,1,2,3,5,6],res:=[4],ls:=[(3,Hv.p)] }
theorem Hv.s:LL Tryz.f250 J0.d 3 Hv.p:=mL [] (λ _=>trivial) trivial
theorem J0.s (k:Nat):CK 250 (J0.e k):=mS J0.d k [3] Tryz.func250 trivial ⟨Hv.s,trivial⟩
def Eh.e (k:Nat):Ent:=⟨3,[(.val true t27),(.val true t29),(.val false .s)],[(.agg,t29),(.one,.b)],λ x=>Eh k x.1 x.2.1 x.2.2⟩
def Eh.d:Fd := { nt:=24,nv:=3,nm:=[0,1,2,3,4,5],res:=[7],cs:=λ k=>[(62,Aq.e k),(159,A5.e k),(192,Be.e k)],mv:=[23] }
theorem Eh.s (k:Nat):CK 251 (Eh.e k):=mS Eh.d k [] Tryz.func251 ⟨Aq.s k,A5.s k,Be.s k,trivial⟩ trivial
def Fq.e (k:Nat):Ent:=⟨3,[(.val false t13),(.val false .s),(.val false t4)],[(.one,t14)],λ x=>Fq k x.1 x.2.1 x.2.2⟩
def C8.p:LF:=⟨⟨[(9,(.bp 9 0 0)),(10999,(.hd 2))],[(0,t13),(1,.s),(7,t14),(8,.b),(10,(.i .i64)),(10000,.s),(10001,t4)]⟩,[((.exit 0),⟨[(9,(.bp 9 0 0)),(10999,(.hd 2))],[(7,t14),(8,.b),(10000,.s),(10001,t4)]⟩)],λ k x=>C8 k x.1 x.2.1 x.2.2.1 x.2.2.2.1 x.2.2.2.2.1 x.2.2.2.2.2.1 x.2.2.2.2.2.2⟩
def Fq.d:Fd := { nt:=59,nv:=3,nm:=[0,1,2,3,4,5,7,8,9,10],res:=[6],ls:=[(5,C8.p)] }
theorem C8.s:LL Tryz.f252 Fq.d 5 C8.p:=mL [] (λ _=>trivial) trivial
theorem Fq.s (k:Nat):CK 252 (Fq.e k):=mS Fq.d k [5] Tryz.func252 trivial ⟨C8.s,trivial⟩
def Bb.e (k:Nat):Ent:=⟨2,[(.val true t27),(.val false .s)],[(.agg,t29),(.one,.b)],λ x=>Bb k x.1 x.2⟩
def Bb.d:Fd := { nt:=35,nv:=2,nm:=[0,1,2,3,6,7,8],res:=[5],cs:=λ k=>[(159,A5.e k),(179,Fj.e k),(250,J0.e k),(251,Eh.e k),(252,Fq.e k)] }
theorem Bb.s (k:Nat):CK 210 (Bb.e k):=mS Bb.d k [] Tryz.func210 ⟨A5.s k,Fj.s k,J0.s k,Eh.s k,Fq.s k,trivial⟩ trivial
def E5.e (k:Nat):Ent:=⟨3,[(.val true t27),(.val false .s),(.val false t4)],[(.agg,t29),(.one,.b)],λ x=>E5 k x.1 x.2.1 x.2.2⟩
def E5.d:Fd := { nt:=23,nv:=3,nm:=[0,1,2,3,4,5,8],res:=[7],cs:=λ k=>[(159,A5.e k),(251,Eh.e k),(252,Fq.e k)] }
theorem E5.s (k:Nat):CK 249 (E5.e k):=mS E5.d k [] Tryz.func249 ⟨A5.s k,Eh.s k,Fq.s k,trivial⟩ trivial
def Kt.e (k:Nat):Ent:=⟨4,[(.val true t27),(.val false .s),(.val true t25),(.val false .b)],[(.agg,t29),(.one,(.i .i64))],λ x=>Kt k x.1 x.2.1 x.2.2.1 x.2.2.2⟩
def Kt.d:Fd := { nt:=82,nv:=4,nm:=[0,1,2,3,4,5,6,7,10,11,12,13,14,15],res:=[9],cs:=λ k=>[(62,Aq.e k),(78,Dm.e k),(120,I2.e k),(121,Lc.e k),(159,A5.e k),(192,Be.e k),(202,F9.e k),(210,Bb.e k),(249,E5.e k)],mv:=[58,81] }
theorem Kt.s (k:Nat):CK 208 (Kt.e k):=mS Kt.d k [] Tryz.func208 ⟨Aq.s k,Dm.s k,I2.s k,Lc.s k,A5.s k,Be.s k,F9.s k,Bb.s k,E5.s k,trivial⟩ trivial
def Ly.e (k:Nat):Ent:=⟨2,[(.val false .s),(.val true t25)],[(.agg,t28)],λ x=>Ly x.1 x.2⟩
def Ly.d:Fd := { nt:=14,nv:=2,nm:=[0,1,2,3],res:=[] }
theorem Ly.s (k:Nat):CK 230 (Ly.e k):=mS Ly.d k [] Tryz.func230 trivial trivial
def Kd.e (k:Nat):Ent:=⟨4,[(.ptr t38 t38),(.val false .s),(.val true t25),(.val false .b)],[(.one,(.i .i64))],λ x=>Kd k x.1 x.2.1 x.2.2.1 x.2.2.2⟩
def Kd.d:Fd := { nt:=52,nv:=4,nm:=[0,1,2,3,4,5,6,7,9,10],res:=[8],cs:=λ k=>[(208,Kt.e k),(230,Ly.e k)] }
theorem Kd.s (k:Nat):CK 184 (Kd.e k):=mS Kd.d k [] Tryz.func184 ⟨Kt.s k,Ly.s k,trivial⟩ trivial
def Ke.e (k:Nat):Ent:=⟨1,[(.val false (.i .i64))],[(.one,(.i .i64))],λ x=>Ke x⟩
def Ke.d:Fd := { nt:=6,nv:=1,nm:=[0,1],res:=[2],rf:=true }
theorem Ke.s (k:Nat):CK 185 (Ke.e k):=mS Ke.d k [] Tryz.func185 trivial trivial
def Bt.e (k:Nat):Ent:=⟨4,[(.ptr t45 t45),(.val false .s),(.val true t25),(.val false t6)],[(.one,(.i .i64))],λ x=>Bt k x.1 x.2.1 x.2.2.1 x.2.2.2⟩
def B3.p:LF:=⟨⟨[(0,(.bp 0 0 0)),(6,(.bp 6 0 0)),(1999,(.hd 9)),(7999,(.hd 5))],[(1,.s),(3,t6),(9,t7),(10,(.i .i64)),(11,(.i .i64)),(12,(.i .i64)),(1000,t45),(7000,t25)]⟩,[((.exit 0),⟨[(0,(.bp 0 0 0)),(6,(.bp 6 0 0)),(1999,(.hd 9)),(7999,(.hd 5))],[(1,.s),(11,(.i .i64)),(1000,t45),(7000,t25)]⟩)],λ k x=>B3 k x.1 x.2.1 x.2.2.1 x.2.2.2.1 x.2.2.2.2.1 x.2.2.2.2.2.1 x.2.2.2.2.2.2.1 x.2.2.2.2.2.2.2⟩
def Bt.d:Fd := { nt:=92,nv:=4,nm:=[0,1,2,3,4,5,6,7,9,10,11,12,13,14,15],res:=[8],cs:=λ k=>[(96,Bg.e k),(118,Eu.e k),(119,Bv.e k),(184,Kd.e k),(185,Ke.e k)],ls:=[(5,B3.p)],gh:=[(1000006,[.cl 1003])],opn:=[51],rf:=true }
theorem Bt.a (k:Nat):AC (Bt.d.cs k):=⟨Bg.s k,Eu.s k,Bv.s k,Kd.s k,Ke.s k,trivial⟩
theorem B3.s:LL Tryz.f131 Bt.d 5 B3.p:=mL [] Bt.a trivial
theorem Bt.s (k:Nat):CK 131 (Bt.e k):=mS Bt.d k [5] Tryz.func131 (Bt.a k) ⟨B3.s,trivial⟩
def Ei.e (k:Nat):Ent:=⟨5,[(.ptr t45 t45),(.val false .s),(.val true t25),(.val false (.i .i64)),(.val false t6)],[(.one,(.i .i64))],λ x=>Ei k x.1 x.2.1 x.2.2.1 x.2.2.2.1 x.2.2.2.2⟩
def Ei.d:Fd := { nt:=57,nv:=5,nm:=[0,1,2,3,4,5,6,7,8,9],res:=[10],cs:=λ k=>[(62,Aq.e k),(97,A7.e k),(130,Hd.e k),(131,Bt.e k)],rf:=true }
theorem Ei.s (k:Nat):CK 71 (Ei.e k):=mS Ei.d k [] Tryz.func71 ⟨Aq.s k,A7.s k,Hd.s k,Bt.s k,trivial⟩ trivial
def C4.e (k:Nat):Ent:=⟨2,[(.val true t27),(.val false .s)],[(.agg,t29),(.one,.b)],λ x=>C4 k x.1 x.2⟩
def C4.d:Fd := { nt:=26,nv:=2,nm:=[0,1,2,3,6],res:=[5],cs:=λ k=>[(153,D0.e k),(159,A5.e k),(250,J0.e k),(251,Eh.e k)],mv:=[14] }
theorem C4.s (k:Nat):CK 209 (C4.e k):=mS C4.d k [] Tryz.func209 ⟨D0.s k,A5.s k,J0.s k,Eh.s k,trivial⟩ trivial
def Ch.e (k:Nat):Ent:=⟨4,[(.ptr t45 t45),(.val false (.i .i64)),(.val false .s),(.val false t6)],[(.one,.b)],λ x=>Ch k x.1 x.2.1 x.2.2.1 x.2.2.2⟩
def Bf.p:LF:=⟨⟨[(0,(.bp 0 0 0)),(9,(.bp 9 0 0)),(1999,(.hd 9)),(10999,(.hd 5))],[(1,(.i .i64)),(2,.s),(3,t6),(11,t7),(12,.b),(13,.b),(14,(.i .i64)),(1000,t45),(10000,t25)]⟩,[((.exit 0),⟨[(0,(.bp 0 0 0)),(1999,(.hd 9))],[(1,(.i .i64)),(2,.s),(12,.b),(13,.b),(1000,t45)]⟩)],λ k x=>Bf k x.1 x.2.1 x.2.2.1 x.2.2.2.1 x.2.2.2.2.1 x.2.2.2.2.2.1 x.2.2.2.2.2.2.1 x.2.2.2.2.2.2.2.1 x.2.2.2.2.2.2.2.2⟩
def Ch.d:Fd := { nt:=125,nv:=4,nm:=[0,1,2,3,4,5,6,7,9,10,11,12,13,14,15,16,17,18],res:=[8],cs:=λ k=>[(119,Bv.e k),(120,I2.e k),(176,B9.e k),(177,Ba.e k),(208,Kt.e k),(209,C4.e k),(210,Bb.e k)],ls:=[(8,Bf.p)],rf:=true }
theorem Ch.a (k:Nat):AC (Ch.d.cs k):=⟨Bv.s k,I2.s k,B9.s k,Ba.s k,Kt.s k,C4.s k,Bb.s k,trivial⟩
theorem Bf.s:LL Tryz.f160 Ch.d 8 Bf.p:=mL [] Ch.a trivial
theorem Ch.s (k:Nat):CK 160 (Ch.e k):=mS Ch.d k [8] Tryz.func160 (Ch.a k) ⟨Bf.s,trivial⟩
def H0.e (k:Nat):Ent:=⟨1,[(.val true t44)],[(.one,t7)],λ x=>H0 k x⟩
def H0.d:Fd := { nt:=8,nv:=1,nm:=[0,1],res:=[2],cs:=λ k=>[(176,B9.e k),(177,Ba.e k)],rf:=true }
theorem H0.s (k:Nat):CK 253 (H0.e k):=mS H0.d k [] Tryz.func253 ⟨B9.s k,Ba.s k,trivial⟩ trivial
def Jf.e (k:Nat):Ent:=⟨2,[(.val true t28),(.val true t28)],[(.one,.b)],λ x=>Jf x.1 x.2⟩
def Jf.d:Fd := { nt:=29,nv:=2,nm:=[0,1,2,3],res:=[4],cs:=λ k=>[(79,Bz.e k)] }
theorem Jf.s (k:Nat):CK 263 (Jf.e k):=mS Jf.d k [] Tryz.func263 ⟨Bz.s k,trivial⟩ trivial
def C9.e (k:Nat):Ent:=⟨2,[(.val false t31),(.val true t28)],[(.one,t32)],λ x=>C9 k x.1 x.2⟩
def Ds.p:LF:=⟨⟨[(3,(.bp 3 0 0)),(4999,(.hd 6))],[(5,t32),(7,(.i .i64)),(4000,.s),(4001,(.i .i64)),(4002,(.i .i64)),(4003,(.i .i64)),(4004,.b),(4005,(.i .i64))]⟩,[((.exit 2),⟨[(3,(.bp 3 0 0)),(4999,(.hd 6))],[(5,t32),(7,(.i .i64)),(4000,.s),(4001,(.i .i64)),(4002,(.i .i64)),(4003,(.i .i64)),(4004,.b),(4005,(.i .i64))]⟩)],λ k x=>Ds k x.1 x.2.1 x.2.2.1 x.2.2.2.1 x.2.2.2.2.1 x.2.2.2.2.2.1 x.2.2.2.2.2.2.1 x.2.2.2.2.2.2.2⟩
def Ev.p:LF:=⟨⟨[(3,(.bp 3 0 0)),(4999,(.hd 6))],[(5,t32),(6,(.i .i64)),(4000,.s),(4001,(.i .i64)),(4002,(.i .i64)),(4003,(.i .i64)),(4004,.b),(4005,(.i .i64))]⟩,[(.ret,⟨[],[(4,t32)]⟩),((.exit 0),⟨[(3,(.bp 3 0 0)),(4999,(.hd 6))],[(5,t32),(4000,.s),(4001,(.i .i64)),(4002,(.i .i64)),(4003,(.i .i64)),(4004,.b),(4005,(.i .i64))]⟩)],λ k x=>Ev k x.1 x.2.1 x.2.2.1 x.2.2.2.1 x.2.2.2.2.1 x.2.2.2.2.2.1 x.2.2.2.2.2.2.1 x.2.2.2.2.2.2.2⟩
def C9.d:Fd := { nt:=70,nv:=2,nm:=[0,1,2,3,5,6,7],res:=[4],cs:=λ k=>[(263,Jf.e k)],ls:=[(11,Ds.p),(3,Ev.p)] }
theorem C9.a (k:Nat):AC (C9.d.cs k):=⟨Jf.s k,trivial⟩
theorem Ds.s:LL Tryz.f260 C9.d 11 Ds.p:=mL [] C9.a trivial
theorem Ev.s:LL Tryz.f260 C9.d 3 Ev.p:=mL [] C9.a trivial
theorem C9.s (k:Nat):CK 260 (C9.e k):=mS C9.d k [3,11] Tryz.func260 (C9.a k) ⟨Ev.s,Ds.s,trivial⟩
def Ci.e (k:Nat):Ent:=⟨2,[(.val false t31),(.val false t31)],[(.one,t32)],λ x=>Ci k x.1 x.2⟩
def Dt.p:LF:=⟨⟨[],[(1,t31),(5,t32),(6,(.i .i64))]⟩,[((.exit 0),⟨[],[(5,t32)]⟩)],λ k x=>Dt k x.1 x.2.1 x.2.2⟩
def Ci.d:Fd := { nt:=23,nv:=2,nm:=[0,1,2,3,5,6],res:=[4],cs:=λ k=>[(260,C9.e k)],ls:=[(3,Dt.p)] }
theorem Ci.a (k:Nat):AC (Ci.d.cs k):=⟨C9.s k,trivial⟩
theorem Dt.s:LL Tryz.f262 Ci.d 3 Dt.p:=mL [] Ci.a trivial
theorem Ci.s (k:Nat):CK 262 (Ci.e k):=mS Ci.d k [3] Tryz.func262 (Ci.a k) ⟨Dt.s,trivial⟩
def I3.e (k:Nat):Ent:=⟨2,[(.ptr t38 t38),(.val false t31)],[(.one,.b)],λ x=>I3 k x.1 x.2⟩
def I3.d:Fd := { nt:=19,nv:=2,nm:=[0,1,2,3,5],res:=[4],cs:=λ k=>[(262,Ci.e k)] }
theorem I3.s (k:Nat):CK 254 (I3.e k):=mS I3.d k [] Tryz.func254 ⟨Ci.s k,trivial⟩ trivial
def Bi.e (k:Nat):Ent:=⟨5,[(.ptr t45 t45),(.val false (.i .i64)),(.val false t31),(.val false .b),(.val false t6)],[(.one,.b)],λ x=>Bi k x.1 x.2.1 x.2.2.1 x.2.2.2.1 x.2.2.2.2⟩
def Aj.p:LF:=⟨⟨[(0,(.bp 0 0 0)),(1999,(.hd 9))],[(1,(.i .i64)),(2,t31),(3,.b),(4,t6),(11,t7),(12,.b),(13,(.i .i64)),(1000,t45)]⟩,[((.exit 0),⟨[(1999,(.hd 9))],[(12,.b),(1000,t45)]⟩)],λ k x=>Aj k x.1 x.2.1 x.2.2.1 x.2.2.2.1 x.2.2.2.2.1 x.2.2.2.2.2.1 x.2.2.2.2.2.2.1 x.2.2.2.2.2.2.2⟩
def Bi.d:Fd := { nt:=53,nv:=5,nm:=[0,1,2,3,4,5,6,7,8,9,11,12,13],res:=[10],cs:=λ k=>[(119,Bv.e k),(253,H0.e k),(254,I3.e k)],ls:=[(4,Aj.p)],gh:=[(1000005,[.cl 1003])],opn:=[47],rf:=true }
theorem Bi.a (k:Nat):AC (Bi.d.cs k):=⟨Bv.s k,H0.s k,I3.s k,trivial⟩
theorem Aj.s:LL Tryz.f211 Bi.d 4 Aj.p:=mL [] Bi.a trivial
theorem Bi.s (k:Nat):CK 211 (Bi.e k):=mS Bi.d k [4] Tryz.func211 (Bi.a k) ⟨Aj.s,trivial⟩
def J3.e (k:Nat):Ent:=⟨2,[(.val true t44),(.val false (.i .i64))],[(.one,.b)],λ x=>J3 k x.1 x.2⟩
def J3.d:Fd := { nt:=9,nv:=2,nm:=[0,1,2,3],res:=[4],cs:=λ k=>[(190,Cd.e k),(253,H0.e k)],rf:=true }
theorem J3.s (k:Nat):CK 212 (J3.e k):=mS J3.d k [] Tryz.func212 ⟨Cd.s k,H0.s k,trivial⟩ trivial
def He.e (k:Nat):Ent:=⟨3,[(.ptr t45 t45),(.val false (.i .i64)),(.val false t6)],[(.one,.b)],λ x=>He k x.1 x.2.1 x.2.2⟩
def He.d:Fd := { nt:=47,nv:=3,nm:=[0,1,2,3,4,5,7],res:=[6],cs:=λ k=>[(211,Bi.e k),(212,J3.e k)],rf:=true }
theorem He.s (k:Nat):CK 161 (He.e k):=mS He.d k [] Tryz.func161 ⟨Bi.s k,J3.s k,trivial⟩ trivial
def Hf.e (k:Nat):Ent:=⟨3,[(.ptr t45 t45),(.val false (.i .i64)),(.val false t6)],[(.one,.b)],λ x=>Hf k x.1 x.2.1 x.2.2⟩
def Hf.d:Fd := { nt:=36,nv:=3,nm:=[0,1,2,3,4,5,7],res:=[6],cs:=λ k=>[(211,Bi.e k)],rf:=true }
theorem Hf.s (k:Nat):CK 162 (Hf.e k):=mS Hf.d k [] Tryz.func162 ⟨Bi.s k,trivial⟩ trivial
def Iq.e (k:Nat):Ent:=⟨1,[(.val true t27)],[(.agg,t29),(.one,(.i .i64))],λ x=>Iq k x⟩
def Hw.p:LF:=⟨⟨[(1,(.bp 1 0 0)),(2,(.bp 2 0 0)),(4,(.bp 4 0 0)),(2999,(.hd 2)),(3999,(.hd 2)),(5999,(.hd 2))],[(5,(.i .i64)),(6,(.i .i64)),(2000,t27),(3000,t29),(5000,t29)]⟩,[((.exit 0),⟨[(2,(.bp 2 0 0)),(4,(.bp 4 0 0)),(3999,(.hd 2)),(5999,(.hd 2))],[(5,(.i .i64)),(3000,t29),(5000,t29)]⟩)],λ k x=>Hw k x.1 x.2.1 x.2.2.1 x.2.2.2.1 x.2.2.2.2⟩
def Iq.d:Fd := { nt:=53,nv:=1,nm:=[0,1,4,5,6,7,8,9],res:=[3],cs:=λ k=>[(120,I2.e k),(159,A5.e k),(192,Be.e k),(209,C4.e k),(210,Bb.e k)],ls:=[(4,Hw.p)],mv:=[51],rf:=true }
theorem Iq.a (k:Nat):AC (Iq.d.cs k):=⟨I2.s k,A5.s k,Be.s k,C4.s k,Bb.s k,trivial⟩
theorem Hw.s:LL Tryz.f163 Iq.d 4 Hw.p:=mL [] Iq.a trivial
theorem Iq.s (k:Nat):CK 163 (Iq.e k):=mS Iq.d k [4] Tryz.func163 (Iq.a k) ⟨Hw.s,trivial⟩
def Ce.e (k:Nat):Ent:=⟨2,[(.val false t13),(.val false t13)],[(.one,t2)],λ x=>Ce k x.1 x.2⟩
def Ew.p:LF:=⟨⟨[],[(5,t14),(8,t2),(9,(.i .i64))]⟩,[((.exit 4),⟨[],[(8,t2)]⟩)],λ k x=>Ew k x.1 x.2.1 x.2.2⟩
def G4.p:LF:=⟨⟨[],[(1,t13),(5,t14),(7,(.i .i64))]⟩,[((.exit 2),⟨[],[(5,t14)]⟩)],λ k x=>G4 k x.1 x.2.1 x.2.2⟩
def G5.p:LF:=⟨⟨[],[(0,t13),(1,t13),(5,t14),(6,(.i .i64))]⟩,[((.exit 0),⟨[],[(1,t13),(5,t14)]⟩)],λ k x=>G5 k x.1 x.2.1 x.2.2.1 x.2.2.2⟩
def Ce.d:Fd := { nt:=55,nv:=2,nm:=[0,1,2,3,5,6,7,8,9],res:=[4],cs:=λ k=>[(252,Fq.e k)],ls:=[(12,Ew.p),(7,G4.p),(3,G5.p)],rf:=true }
theorem Ce.a (k:Nat):AC (Ce.d.cs k):=⟨Fq.s k,trivial⟩
theorem Ew.s:LL Tryz.f213 Ce.d 12 Ew.p:=mL [] Ce.a trivial
theorem G4.s:LL Tryz.f213 Ce.d 7 G4.p:=mL [] Ce.a trivial
theorem G5.s:LL Tryz.f213 Ce.d 3 G5.p:=mL [] Ce.a trivial
theorem Ce.s (k:Nat):CK 213 (Ce.e k):=mS Ce.d k [3,7,12] Tryz.func213 (Ce.a k) ⟨G5.s,G4.s,Ew.s,trivial⟩
def Da.e (k:Nat):Ent:=⟨2,[(.val true t27),(.val false t1)],[(.agg,t29)],λ x=>Da k x.1 x.2⟩
def As.p:LF:=⟨⟨[(2,(.bp 2 0 0)),(4,(.bp 4 0 0)),(3999,(.hd 2)),(5999,(.hd 2))],[(1,t1),(5,t2),(6,t14),(7,(.i .i64)),(3000,t27),(5000,t29)]⟩,[((.exit 0),⟨[(2,(.bp 2 0 0)),(4,(.bp 4 0 0)),(3999,(.hd 2)),(5999,(.hd 2))],[(6,t14),(3000,t27),(5000,t29)]⟩)],λ k x=>As k x.1 x.2.1 x.2.2.1 x.2.2.2.1 x.2.2.2.2.1 x.2.2.2.2.2⟩
def Da.d:Fd := { nt:=66,nv:=2,nm:=[0,1,2,3,5,6,7,8,9],res:=[],cs:=λ k=>[(153,D0.e k),(159,A5.e k),(192,Be.e k),(207,Bc.e k),(213,Ce.e k)],ls:=[(6,As.p)],rf:=true }
theorem Da.a (k:Nat):AC (Da.d.cs k):=⟨D0.s k,A5.s k,Be.s k,Bc.s k,Ce.s k,trivial⟩
theorem As.s:LL Tryz.f164 Da.d 6 As.p:=mL [] Da.a trivial
theorem Da.s (k:Nat):CK 164 (Da.e k):=mS Da.d k [6] Tryz.func164 (Da.a k) ⟨As.s,trivial⟩
def H1.e (k:Nat):Ent:=⟨1,[(.val true t38)],[(.agg,t39)],λ x=>H1 k x⟩
def H1.d:Fd := { nt:=17,nv:=1,nm:=[0,1],res:=[],cs:=λ k=>[(159,A5.e k)] }
theorem H1.s (k:Nat):CK 95 (H1.e k):=mS H1.d k [] Tryz.func95 ⟨A5.s k,trivial⟩ trivial
def Ih.e (k:Nat):Ent:=⟨1,[(.val true t28)],[(.one,.b)],λ x=>Ih k x⟩
def Ih.d:Fd := { nt:=26,nv:=1,nm:=[0,1],res:=[2],cs:=λ k=>[(62,Aq.e k),(77,Bx.e k),(97,A7.e k)] }
theorem Ih.s (k:Nat):CK 191 (Ih.e k):=mS Ih.d k [] Tryz.func191 ⟨Aq.s k,Bx.s k,A7.s k,trivial⟩ trivial
def Gu.e (k:Nat):Ent:=⟨1,[(.val false t31)],[(.one,.b)],λ x=>Gu k x⟩
def Gf.p:LF:=⟨⟨[],[(0,t31),(3,(.i .i64))]⟩,[(.ret,⟨[],[(2,.b)]⟩),((.exit 0),⟨[],[(0,t31)]⟩)],λ k x=>Gf k x.1 x.2⟩
def Gu.d:Fd := { nt:=37,nv:=1,nm:=[0,1,3],res:=[2],cs:=λ k=>[(191,Ih.e k)],ls:=[(2,Gf.p)] }
theorem Gu.a (k:Nat):AC (Gu.d.cs k):=⟨Ih.s k,trivial⟩
theorem Gf.s:LL Tryz.f193 Gu.d 2 Gf.p:=mL [] Gu.a trivial
theorem Gu.s (k:Nat):CK 193 (Gu.e k):=mS Gu.d k [2] Tryz.func193 (Gu.a k) ⟨Gf.s,trivial⟩
def Ej.e (k:Nat):Ent:=⟨1,[(.val true t38)],[(.one,.b)],λ x=>Ej k x⟩
def Hg.p:LF:=⟨⟨[(1,(.bp 1 0 0)),(2999,(.hd 5))],[(3,(.i .i64)),(2000,(.i .i64)),(2001,t13),(2002,t13),(2003,t31),(2004,t31)]⟩,[(.ret,⟨[],[(2,.b)]⟩),((.exit 0),⟨[(1,(.bp 1 0 0)),(2999,(.hd 5))],[(2000,(.i .i64)),(2001,t13),(2002,t13),(2003,t31),(2004,t31)]⟩)],λ k x=>Hg k x.1 x.2.1 x.2.2.1 x.2.2.2.1 x.2.2.2.2.1 x.2.2.2.2.2⟩
def Ej.d:Fd := { nt:=37,nv:=1,nm:=[0,1,3],res:=[2],cs:=λ k=>[(97,A7.e k),(191,Ih.e k),(192,Be.e k),(193,Gu.e k)],ls:=[(2,Hg.p)] }
theorem Ej.a (k:Nat):AC (Ej.d.cs k):=⟨A7.s k,Ih.s k,Be.s k,Gu.s k,trivial⟩
theorem Hg.s:LL Tryz.f140 Ej.d 2 Hg.p:=mL [] Ej.a trivial
theorem Ej.s (k:Nat):CK 140 (Ej.e k):=mS Ej.d k [2] Tryz.func140 (Ej.a k) ⟨Hg.s,trivial⟩
def Kf.e (k:Nat):Ent:=⟨3,[(.val true t27),(.val false .s),(.val false (.i .i64))],[(.agg,t30),(.one,.b)],λ x=>Kf k x.1 x.2.1 x.2.2⟩
def Kf.d:Fd := { nt:=97,nv:=3,nm:=[0,1,2,3,4,5,8,9,10,11],res:=[7],cs:=λ k=>[(97,A7.e k),(153,D0.e k),(159,Jw.e k),(192,Be.e k)],mv:=[39,96] }
theorem Kf.s (k:Nat):CK 214 (Kf.e k):=mS Kf.d k [] Tryz.func214 ⟨A7.s k,D0.s k,Jw.s k,Be.s k,trivial⟩ trivial
def Jg.e (k:Nat):Ent:=⟨3,[(.val true t38),(.val false .s),(.val false (.i .i64))],[(.agg,t40),(.one,.b)],λ x=>Jg k x.1 x.2.1 x.2.2⟩
def Jg.d:Fd := { nt:=44,nv:=3,nm:=[0,1,2,3,4,5,8,9,10,11,12],res:=[7],cs:=λ k=>[(95,H1.e k),(120,I2.e k),(140,Ej.e k),(214,Kf.e k)],mv:=[29,40,43] }
theorem Jg.s (k:Nat):CK 165 (Jg.e k):=mS Jg.d k [] Tryz.func165 ⟨H1.s k,I2.s k,Ej.s k,Kf.s k,trivial⟩ trivial
def Db.e (k:Nat):Ent:=⟨2,[(.val false t0),(.val false .s)],[(.one,t0)],λ x=>Db k x.1 x.2⟩
def Ey.p:LF:=⟨⟨[],[(1,.s),(5,t2),(6,(.i .i64))]⟩,[((.exit 0),⟨[],[(1,.s),(5,t2),(6,(.i .i64))]⟩)],λ k x=>Ey k x.1 x.2.1 x.2.2⟩
def Db.d:Fd := { nt:=46,nv:=2,nm:=[0,1,2,3,5,6],res:=[4],cs:=λ k=>[(152,Hz.e k)],ls:=[(5,Ey.p)],rf:=true }
theorem Db.a (k:Nat):AC (Db.d.cs k):=⟨Hz.s k,trivial⟩
theorem Ey.s:LL Tryz.f166 Db.d 5 Ey.p:=mL [] Db.a trivial
theorem Db.s (k:Nat):CK 166 (Db.e k):=mS Db.d k [5] Tryz.func166 (Db.a k) ⟨Ey.s,trivial⟩
def Ay.e (k:Nat):Ent:=⟨2,[(.ptr t45 t45),(.val true t34)],[(.one,.b)],λ x=>Ay k x.1 x.2⟩
def Cs.p:LF:=⟨⟨[(0,(.bp 0 0 0)),(3,(.bp 3 0 0)),(1999,(.hd 9)),(4999,(.hd 6))],[(5,t3),(6,(.i .i64)),(1000,t45),(4000,t34)]⟩,[((.exit 1),⟨[(0,(.bp 0 0 0)),(3,(.bp 3 0 0)),(1999,(.hd 9)),(4999,(.hd 6))],[(5,t3),(1000,t45),(4000,t34)]⟩)],λ k x=>Cs k x.1 x.2.1 x.2.2.1 x.2.2.2⟩
def Ay.d:Fd := { nt:=134,nv:=2,nm:=[0,1,2,3,5,6,7,8],res:=[4],cs:=λ k=>[(160,Ch.e k),(161,He.e k),(162,Hf.e k),(163,Iq.e k),(164,Da.e k),(165,Jg.e k),(166,Db.e k)],ls:=[(14,Cs.p)],rf:=true }
theorem Ay.a (k:Nat):AC (Ay.d.cs k):=⟨Ch.s k,He.s k,Hf.s k,Iq.s k,Da.s k,Jg.s k,Db.s k,trivial⟩
theorem Cs.s:LL Tryz.f98 Ay.d 14 Cs.p:=mL [] Ay.a trivial
theorem Ay.s (k:Nat):CK 98 (Ay.e k):=mS Ay.d k [14] Tryz.func98 (Ay.a k) ⟨Cs.s,trivial⟩
def J1.e (k:Nat):Ent:=⟨1,[(.val true t17)],[(.agg,t18)],λ x=>J1 k x⟩
def Gg.p:LF:=⟨⟨[(1,(.bp 1 0 0)),(2,(.bp 2 0 0)),(3,(.bp 3 0 0)),(2999,(.hd 2)),(3999,(.hd 2)),(4999,(.hd 2))],[(4,(.i .i64)),(2000,t17),(3000,t18),(4000,t18)]⟩,[((.exit 0),⟨[(2,(.bp 2 0 0)),(3,(.bp 3 0 0)),(3999,(.hd 2)),(4999,(.hd 2))],[(3000,t18),(4000,t18)]⟩)],λ k x=>Gg k x.1 x.2.1 x.2.2.1 x.2.2.2⟩
def J1.d:Fd := { nt:=30,nv:=1,nm:=[0,1,3,4],res:=[],ls:=[(3,Gg.p)],mv:=[29],rf:=true }
theorem Gg.s:LL Tryz.f94 J1.d 3 Gg.p:=mL [] (λ _=>trivial) trivial
theorem J1.s (k:Nat):CK 94 (J1.e k):=mS J1.d k [3] Tryz.func94 trivial ⟨Gg.s,trivial⟩
def J4.e (k:Nat):Ent:=⟨1,[(.val true t17)],[(.agg,t19)],λ x=>J4 k x⟩
def Kq.p:LF:=⟨⟨[(1,(.bp 1 0 0)),(2,(.bp 2 0 0)),(3,(.bp 3 0 0)),(2999,(.hd 2)),(3999,(.hd 2)),(4999,(.hd 2))],[(4,(.i .i64)),(2000,t17),(3000,t18),(4000,t19)]⟩,[((.exit 0),⟨[(2,(.bp 2 0 0)),(3,(.bp 3 0 0)),(3999,(.hd 2)),(4999,(.hd 2))],[(3000,t18),(4000,t19)]⟩)],λ k x=>Kq k x.1 x.2.1 x.2.2.1 x.2.2.2⟩
def J4.d:Fd := { nt:=30,nv:=1,nm:=[0,1,3,4],res:=[],ls:=[(3,Kq.p)],hint:=[(26,t7),(27,t7)],mv:=[29],rf:=true }
theorem Kq.s:LL Tryz.f94 J4.d 3 Kq.p:=mL [] (λ _=>trivial) trivial
theorem J4.s (k:Nat):CK 94 (J4.e k):=mS J4.d k [3] Tryz.func94 trivial ⟨Kq.s,trivial⟩
def Bq.e (k:Nat):Ent:=⟨1,[(.val false t22)],[(.one,.b)],λ x=>Bq k x⟩
def Gi.p:LF:=⟨⟨[],[(0,t22),(3,(.i .i64))]⟩,[(.ret,⟨[],[(2,.b)]⟩),((.exit 0),⟨[],[(0,t22)]⟩)],λ k x=>Gi k x.1 x.2⟩
def Bq.d:Fd := { nt:=49,nv:=1,nm:=[0,1,3,4],res:=[2],cs:=λ k=>[(97,A7.e k)],ls:=[(2,Gi.p)],rf:=true }
theorem Bq.a (k:Nat):AC (Bq.d.cs k):=⟨A7.s k,trivial⟩
theorem Gi.s:LL Tryz.f137 Bq.d 2 Gi.p:=mL [] Bq.a trivial
theorem Bq.s (k:Nat):CK 137 (Bq.e k):=mS Bq.d k [2] Tryz.func137 (Bq.a k) ⟨Gi.s,trivial⟩
def Ek.e (k:Nat):Ent:=⟨2,[(.val true t6),(.val false (.i .i64))],[(.one,.b)],λ x=>Ek k x.1 x.2⟩
def Hh.p:LF:=⟨⟨[(2,(.bp 2 0 0)),(3999,(.hd 1))],[(1,(.i .i64)),(5,(.i .i64)),(3000,t6)]⟩,[(.ret,⟨[],[(4,.b)]⟩),((.exit 0),⟨[(2,(.bp 2 0 0)),(3999,(.hd 1))],[(1,(.i .i64)),(3000,t6)]⟩)],λ k x=>Hh k x.1 x.2.1 x.2.2⟩
def Ek.d:Fd := { nt:=28,nv:=2,nm:=[0,1,2,3,5],res:=[4],cs:=λ k=>[(190,Cd.e k)],ls:=[(2,Hh.p)],rf:=true }
theorem Ek.a (k:Nat):AC (Ek.d.cs k):=⟨Cd.s k,trivial⟩
theorem Hh.s:LL Tryz.f138 Ek.d 2 Hh.p:=mL [] Ek.a trivial
theorem Ek.s (k:Nat):CK 138 (Ek.e k):=mS Ek.d k [2] Tryz.func138 (Ek.a k) ⟨Hh.s,trivial⟩
def Jv.e (k:Nat):Ent:=⟨2,[(.val true t17),(.val false t22)],[(.one,.b)],λ x=>Jv k x.1 x.2⟩
def Jh.p:LF:=⟨⟨[(2,(.bp 2 0 0)),(3999,(.hd 2))],[(5,(.i .i64)),(3000,t17)]⟩,[(.ret,⟨[],[(4,.b)]⟩),((.exit 0),⟨[],[]⟩)],λ k x=>Jh k x.1 x.2⟩
def Jv.d:Fd := { nt:=45,nv:=2,nm:=[0,1,2,3,5],res:=[4],cs:=λ k=>[(97,A7.e k),(137,Bq.e k),(138,Ek.e k)],ls:=[(4,Jh.p)],rf:=true }
theorem Jv.a (k:Nat):AC (Jv.d.cs k):=⟨A7.s k,Bq.s k,Ek.s k,trivial⟩
theorem Jh.s:LL Tryz.f215 Jv.d 4 Jh.p:=mL [] Jv.a trivial
theorem Jv.s (k:Nat):CK 215 (Jv.e k):=mS Jv.d k [4] Tryz.func215 (Jv.a k) ⟨Jh.s,trivial⟩
def Gv.e (k:Nat):Ent:=⟨2,[(.val true t6),(.val false t22)],[(.one,(.i .i64))],λ x=>Gv k x.1 x.2⟩
def Hi.p:LF:=⟨⟨[(2,(.bp 2 0 0)),(3999,(.hd 1))],[(1,t22),(5,(.i .i64)),(3000,t6)]⟩,[(.ret,⟨[],[(4,(.i .i64))]⟩),((.exit 0),⟨[],[]⟩)],λ k x=>Hi k x.1 x.2.1 x.2.2⟩
def Gv.d:Fd := { nt:=28,nv:=2,nm:=[0,1,2,3,5,6,7],res:=[4],cs:=λ k=>[(139,Ec.e k)],ls:=[(2,Hi.p)],rf:=true }
theorem Gv.a (k:Nat):AC (Gv.d.cs k):=⟨Ec.s k,trivial⟩
theorem Hi.s:LL Tryz.f216 Gv.d 2 Hi.p:=mL [] Gv.a trivial
theorem Gv.s (k:Nat):CK 216 (Gv.e k):=mS Gv.d k [2] Tryz.func216 (Gv.a k) ⟨Hi.s,trivial⟩
def Ck.e (k:Nat):Ent:=⟨2,[(.val true t17),(.val false (.i .i64))],[(.one,(.i .i64))],λ x=>Ck k x.1 x.2⟩
def Gj.p:LF:=⟨⟨[(2,(.bp 2 0 0)),(3999,(.hd 2))],[(1,(.i .i64)),(5,(.i .i64)),(6,(.i .i64)),(7,(.i .i64)),(3000,t17)]⟩,[((.exit 2),⟨[(2,(.bp 2 0 0)),(3999,(.hd 2))],[(1,(.i .i64)),(5,(.i .i64)),(6,(.i .i64)),(3000,t17)]⟩)],λ k x=>Gj k x.1 x.2.1 x.2.2.1 x.2.2.2.1 x.2.2.2.2⟩
def Hj.p:LF:=⟨⟨[(2,(.bp 2 0 0)),(3999,(.hd 2))],[(1,(.i .i64)),(5,(.i .i64)),(6,(.i .i64)),(3000,t17)]⟩,[((.exit 0),⟨[],[(5,(.i .i64))]⟩)],λ k x=>Hj k x.1 x.2.1 x.2.2.1 x.2.2.2⟩
def Ck.d:Fd := { nt:=40,nv:=2,nm:=[0,1,2,3,5,6,7],res:=[4],ls:=[(6,Gj.p),(3,Hj.p)],rf:=true }
theorem Gj.s:LL Tryz.f255 Ck.d 6 Gj.p:=mL [] (λ _=>trivial) trivial
theorem Hj.s:LL Tryz.f255 Ck.d 3 Hj.p:=mL [6] (λ _=>trivial) ⟨Gj.s,trivial⟩
theorem Ck.s (k:Nat):CK 255 (Ck.e k):=mS Ck.d k [3] Tryz.func255 trivial ⟨Hj.s,trivial⟩
def I4.e (k:Nat):Ent:=⟨3,[(.val true t17),(.val true t6),(.val false t22)],[(.one,(.i .i64))],λ x=>I4 k x.1 x.2.1 x.2.2⟩
def Bn.p:LF:=⟨⟨[(3,(.bp 3 0 0)),(4,(.bp 4 0 0)),(4999,(.hd 2)),(5999,(.hd 1))],[(2,t22),(7,t7),(8,(.i .i64)),(9,.b),(10,(.i .i64)),(4000,t17),(5000,t6)]⟩,[((.exit 0),⟨[],[(2,t22),(8,(.i .i64))]⟩)],λ k x=>Bn k x.1 x.2.1 x.2.2.1 x.2.2.2.1 x.2.2.2.2.1 x.2.2.2.2.2.1 x.2.2.2.2.2.2⟩
def I4.d:Fd := { nt:=88,nv:=3,nm:=[0,1,2,3,4,5,7,8,9,10,11,12],res:=[6],cs:=λ k=>[(137,Bq.e k),(190,Cd.e k),(226,Cr.e k),(255,Ck.e k)],ls:=[(5,Bn.p)],rf:=true }
theorem I4.a (k:Nat):AC (I4.d.cs k):=⟨Bq.s k,Cd.s k,Cr.s k,Ck.s k,trivial⟩
theorem Bn.s:LL Tryz.f217 I4.d 5 Bn.p:=mL [] I4.a trivial
theorem I4.s (k:Nat):CK 217 (I4.e k):=mS I4.d k [5] Tryz.func217 (I4.a k) ⟨Bn.s,trivial⟩
def Fa.e (k:Nat):Ent:=⟨4,[(.val true t17),(.val true t6),(.val false t22),(.val false (.i .i64))],[(.one,(.i .i64))],λ x=>Fa k x.1 x.2.1 x.2.2.1 x.2.2.2⟩
def C5.p:LF:=⟨⟨[(4,(.bp 4 0 0)),(5,(.bp 5 0 0)),(9,(.bp 9 0 0)),(5999,(.hd 2)),(6999,(.hd 1)),(10999,(.hd 3))],[(2,t22),(3,(.i .i64)),(10,.b),(11,(.i .i64)),(5000,t17),(6000,t6),(10000,t16)]⟩,[(.ret,⟨[],[(8,(.i .i64))]⟩),((.exit 0),⟨[],[]⟩)],λ k x=>C5 k x.1 x.2.1 x.2.2.1 x.2.2.2.1 x.2.2.2.2.1 x.2.2.2.2.2.1 x.2.2.2.2.2.2⟩
def Fa.d:Fd := { nt:=60,nv:=4,nm:=[0,1,2,3,4,5,6,7,9,10,11,12,13],res:=[8],cs:=λ k=>[(139,Ec.e k),(255,Ck.e k)],ls:=[(3,C5.p)],rf:=true }
theorem Fa.a (k:Nat):AC (Fa.d.cs k):=⟨Ec.s k,Ck.s k,trivial⟩
theorem C5.s:LL Tryz.f218 Fa.d 3 C5.p:=mL [] Fa.a trivial
theorem Fa.s (k:Nat):CK 218 (Fa.e k):=mS Fa.d k [3] Tryz.func218 (Fa.a k) ⟨C5.s,trivial⟩
def Cj.e (k:Nat):Ent:=⟨2,[(.val true t17),(.val false t22)],[(.agg,t19),(.one,(.i .i64))],λ x=>Cj k x.1 x.2⟩
def B5.p:LF:=⟨⟨[(4,(.bp 4 0 0)),(6,(.bp 6 0 0)),(5999,(.hd 2)),(7999,(.hd 2))],[(1,t22),(7,(.i .i64)),(8,(.i .i64)),(5000,t18),(7000,t19)]⟩,[((.exit 0),⟨[(4,(.bp 4 0 0)),(6,(.bp 6 0 0)),(5999,(.hd 2)),(7999,(.hd 2))],[(7,(.i .i64)),(5000,t18),(7000,t19)]⟩)],λ k x=>B5 k x.1 x.2.1 x.2.2.1 x.2.2.2.1 x.2.2.2.2⟩
def Cj.d:Fd := { nt:=82,nv:=2,nm:=[0,1,2,3,6,7,8,9,10,11,12],res:=[5],cs:=λ k=>[(94,J4.e k),(215,Jv.e k),(216,Gv.e k),(217,I4.e k),(218,Fa.e k)],ls:=[(6,B5.p)],mv:=[19,80],rf:=true }
theorem Cj.a (k:Nat):AC (Cj.d.cs k):=⟨J4.s k,Jv.s k,Gv.s k,I4.s k,Fa.s k,trivial⟩
theorem B5.s:LL Tryz.f167 Cj.d 6 B5.p:=mL [] Cj.a trivial
theorem Cj.s (k:Nat):CK 167 (Cj.e k):=mS Cj.d k [6] Tryz.func167 (Cj.a k) ⟨B5.s,trivial⟩
def Hk.e (k:Nat):Ent:=⟨3,[(.ptr t45 t45),(.val false (.i .i64)),(.val false (.i .i64))],[(.one,.b)],λ x=>Hk k x.1 x.2.1 x.2.2⟩
def Hk.d:Fd := { nt:=49,nv:=3,nm:=[0,1,2,3,4,5,7,8],res:=[6],cs:=λ k=>[(97,A7.e k),(167,Cj.e k)],rf:=true }
theorem Hk.s (k:Nat):CK 99 (Hk.e k):=mS Hk.d k [] Tryz.func99 ⟨A7.s k,Cj.s k,trivial⟩ trivial
def Iu.e (k:Nat):Ent:=⟨2,[(.ptr t45 t45),(.val true t34)],[(.one,.b)],λ x=>Iu k x.1 x.2⟩
def Iu.d:Fd := { nt:=76,nv:=2,nm:=[0,1,2,3,5,6],res:=[4],cs:=λ k=>[(71,Ei.e k),(97,A7.e k),(98,Ay.e k),(99,Hk.e k)],rf:=true }
theorem Iu.s (k:Nat):CK 43 (Iu.e k):=mS Iu.d k [] Tryz.func43 ⟨Ei.s k,A7.s k,Ay.s k,Hk.s k,trivial⟩ trivial
def Gw.e (k:Nat):Ent:=⟨1,[(.ptr t21 t21)],[(.one,t23)],λ x=>Gw k x⟩
def Hl.p:LF:=⟨⟨[(0,(.bp 0 0 0)),(1999,(.hd 3))],[(3,t23),(4,(.i .i64)),(5,(.i .i64)),(6,(.i .i64)),(1000,t21)]⟩,[((.exit 0),⟨[(1999,(.hd 3))],[(3,t23),(1000,t21)]⟩)],λ k x=>Hl k x.1 x.2.1 x.2.2.1 x.2.2.2.1 x.2.2.2.2⟩
def Gw.d:Fd := { nt:=35,nv:=1,nm:=[0,1,3,4,5,6],res:=[2],cs:=λ k=>[(37,A9.e k),(39,Bu.e k)],ls:=[(5,Hl.p)],rf:=true }
theorem Gw.a (k:Nat):AC (Gw.d.cs k):=⟨A9.s k,Bu.s k,trivial⟩
theorem Hl.s:LL Tryz.f107 Gw.d 5 Hl.p:=mL [] Gw.a trivial
theorem Gw.s (k:Nat):CK 107 (Gw.e k):=mS Gw.d k [5] Tryz.func107 (Gw.a k) ⟨Hl.s,trivial⟩
def H3.e (k:Nat):Ent:=⟨3,[(.val false t22),(.val false (.i .i64)),(.val false (.i .i64))],[(.agg,t19),(.one,.b)],λ x=>H3 k x.1 x.2.1 x.2.2⟩
def Ii.p:LF:=⟨⟨[(6,(.bp 6 0 0)),(8,(.bp 8 0 0)),(7999,(.hd 2)),(9999,(.hd 2))],[(0,t22),(1,(.i .i64)),(2,(.i .i64)),(9,(.i .i64)),(10,(.i .i64)),(7000,t18),(9000,t19)]⟩,[((.exit 2),⟨[(6,(.bp 6 0 0)),(8,(.bp 8 0 0)),(7999,(.hd 2)),(9999,(.hd 2))],[(0,t22),(1,(.i .i64)),(2,(.i .i64)),(9,(.i .i64)),(7000,t18),(9000,t19)]⟩)],λ k x=>Ii k x.1 x.2.1 x.2.2.1 x.2.2.2.1 x.2.2.2.2.1 x.2.2.2.2.2.1 x.2.2.2.2.2.2⟩
def Ij.p:LF:=⟨⟨[(6,(.bp 6 0 0)),(8,(.bp 8 0 0)),(7999,(.hd 2)),(9999,(.hd 2))],[(0,t22),(1,(.i .i64)),(2,(.i .i64)),(9,(.i .i64)),(7000,t18),(9000,t19)]⟩,[((.exit 0),⟨[(6,(.bp 6 0 0)),(8,(.bp 8 0 0)),(7999,(.hd 2)),(9999,(.hd 2))],[(7000,t18),(9000,t19)]⟩)],λ k x=>Ij k x.1 x.2.1 x.2.2.1 x.2.2.2.1 x.2.2.2.2.1 x.2.2.2.2.2⟩
def H3.d:Fd := { nt:=73,nv:=3,nm:=[0,1,2,3,4,5,8,9,10,11],res:=[7],cs:=λ k=>[(97,A7.e k),(137,Bq.e k),(217,I4.e k)],ls:=[(9,Ii.p),(5,Ij.p)],hint:=[(42,t7),(43,t7)],mv:=[72],gh:=[(12,[.od 54 3001]),(1000010,[.cl 9001])],rf:=true }
theorem H3.a (k:Nat):AC (H3.d.cs k):=⟨A7.s k,Bq.s k,I4.s k,trivial⟩
theorem Ii.s:LL Tryz.f169 H3.d 9 Ii.p:=mL [] H3.a trivial
theorem Ij.s:LL Tryz.f169 H3.d 5 Ij.p:=mL [9] H3.a ⟨Ii.s,trivial⟩
theorem H3.s (k:Nat):CK 169 (H3.e k):=mS H3.d k [5] Tryz.func169 (H3.a k) ⟨Ij.s,trivial⟩
def Ji.e (k:Nat):Ent:=⟨1,[(.val false (.i .i64))],[(.agg,t39)],λ x=>Ji x⟩
def Ji.d:Fd := { nt:=9,nv:=1,nm:=[0,1],res:=[],cs:=λ k=>[(97,A7.e k)] }
theorem Ji.s (k:Nat):CK 170 (Ji.e k):=mS Ji.d k [] Tryz.func170 ⟨A7.s k,trivial⟩ trivial
def Ca.e (k:Nat):Ent:=⟨3,[(.val false t22),(.val false (.i .i64)),(.val false (.i .i64))],[(.agg,t46)],λ x=>Ca k x.1 x.2.1 x.2.2⟩
def Ez.p:LF:=⟨⟨[(6,(.bp 6 0 0)),(9,(.bp 9 0 0)),(7999,(.hd 9)),(10999,(.hd 9))],[(0,t22),(10,(.i .i64)),(7000,t47),(10000,t46)]⟩,[((.exit 0),⟨[(6,(.bp 6 0 0)),(9,(.bp 9 0 0)),(7999,(.hd 9)),(10999,(.hd 9))],[(7000,t47),(10000,t46)]⟩)],λ k x=>Ez k x.1 x.2.1 x.2.2.1 x.2.2.2⟩
def Ca.d:Fd := { nt:=44,nv:=3,nm:=[0,1,2,3,4,5,7,8,9,10],res:=[],cs:=λ k=>[(169,H3.e k),(170,Ji.e k)],ls:=[(6,Ez.p)],mv:=[43],rf:=true }
theorem Ca.a (k:Nat):AC (Ca.d.cs k):=⟨H3.s k,Ji.s k,trivial⟩
theorem Ez.s:LL Tryz.f108 Ca.d 6 Ez.p:=mL [] Ca.a trivial
theorem Ca.s (k:Nat):CK 108 (Ca.e k):=mS Ca.d k [6] Tryz.func108 (Ca.a k) ⟨Ez.s,trivial⟩
def Kg.e (k:Nat):Ent:=⟨1,[(.ptr t21 t21)],[(.agg,t46)],λ x=>Kg k x⟩
def Kg.d:Fd := { nt:=22,nv:=1,nm:=[0,1,3,4],res:=[],cs:=λ k=>[(39,Bu.e k),(107,Gw.e k),(108,Ca.e k)],rf:=true }
theorem Kg.s (k:Nat):CK 49 (Kg.e k):=mS Kg.d k [] Tryz.func49 ⟨Bu.s k,Gw.s k,Ca.s k,trivial⟩ trivial
def Dg.e (k:Nat):Ent:=⟨2,[(.ptr t21 t21),(.vw t45 2),(.hid t45 t45)],[(.agg,(.pr (.i .i64) (.pr (.i .i64) (.pr .s (.pr t5 (.pr (.i .i64) t7))))))],λ x=>Dg k x.1 x.2.1 x.2.2⟩
def Dg.d:Fd := { nt:=99,nv:=2,nm:=[0,1,2,3,5,6],res:=[],cs:=λ k=>[(37,A9.e k),(39,Bu.e k),(86,K8.e k),(87,E9.e k),(88,Fz.e k),(89,Gq.e k)],mv:=[1,98],rf:=true }
theorem Dg.s (k:Nat):CK 38 (Dg.e k):=mS Dg.d k [] Tryz.func38 ⟨A9.s k,Bu.s k,K8.s k,E9.s k,Fz.s k,Gq.s k,trivial⟩ trivial
def Fb.e (k:Nat):Ent:=⟨2,[(.ptr t21 t21),(.val false (.i .i64))],[(.agg,t45)],λ x=>Fb k x.1 x.2⟩
def G6.p:LF:=⟨⟨[(0,(.bp 0 0 0)),(4,(.bp 4 0 0)),(5,(.bp 5 0 0)),(1999,(.hd 3)),(5999,(.hd 9)),(6999,(.hd 9))],[(6,(.i .i64)),(1000,t21),(5000,t47),(6000,t45)]⟩,[((.exit 0),⟨[(4,(.bp 4 0 0)),(5,(.bp 5 0 0)),(5999,(.hd 9)),(6999,(.hd 9)),(1999,(.hd 3))],[(5000,t47),(6000,t45),(1000,t21)]⟩)],λ k x=>G6 k x.1 x.2.1 x.2.2.1 x.2.2.2⟩
def Fb.d:Fd := { nt:=21,nv:=2,nm:=[0,1,2,3,5,6],res:=[],cs:=λ k=>[(37,A9.e k),(38,Dg.e k),(43,Iu.e k),(49,Kg.e k)],ls:=[(3,G6.p)],mv:=[20],rf:=true }
theorem Fb.a (k:Nat):AC (Fb.d.cs k):=⟨A9.s k,Dg.s k,Iu.s k,Kg.s k,trivial⟩
theorem G6.s:LL Tryz.f55 Fb.d 3 G6.p:=mL [] Fb.a trivial
theorem Fb.s (k:Nat):CK 55 (Fb.e k):=mS Fb.d k [3] Tryz.func55 (Fb.a k) ⟨G6.s,trivial⟩
def Hm.e (k:Nat):Ent:=⟨1,[(.val false t4)],[(.agg,t45)],λ x=>Hm k x⟩
def Hm.d:Fd := { nt:=11,nv:=1,nm:=[0,1,3],res:=[],cs:=λ k=>[(34,Ko.e k),(36,K7.e k),(55,Fb.e k)],rf:=true }
theorem Hm.s (k:Nat):CK 21 (Hm.e k):=mS Hm.d k [] Tryz.func21 ⟨Ko.s k,K7.s k,Fb.s k,trivial⟩ trivial
def Ea.e (k:Nat):Ent:=⟨2,[(.val false t6),(.val false (.i .i64))],[(.one,(.i .i64))],λ x=>Ea x.1 x.2⟩
def Ea.d:Fd := { nt:=20,nv:=2,nm:=[0,1,2,3],res:=[4],cs:=λ k=>[(74,El.e k)],rf:=true }
theorem Ea.s (k:Nat):CK 66 (Ea.e k):=mS Ea.d k [] Tryz.func66 ⟨El.s k,trivial⟩ trivial
def D6.e (k:Nat):Ent:=⟨2,[(.val true t44),(.val false t6)],[(.one,t7)],λ x=>D6 k x.1 x.2⟩
def Du.p:LF:=⟨⟨[(2,(.bp 2 0 0)),(3999,(.hd 9))],[(5,t7),(7,(.i .i64)),(10,t6),(11,(.i .i64)),(12,(.i .i64)),(17,t41),(18,(.i .i64)),(19,(.i .i64)),(3000,t44)]⟩,[((.exit 2),⟨[(2,(.bp 2 0 0)),(3999,(.hd 9))],[(5,t7),(10,t6),(11,(.i .i64)),(12,(.i .i64)),(3000,t44)]⟩)],λ k x=>Du k x.1 x.2.1 x.2.2.1 x.2.2.2.1 x.2.2.2.2.1 x.2.2.2.2.2.1 x.2.2.2.2.2.2.1 x.2.2.2.2.2.2.2.1 x.2.2.2.2.2.2.2.2⟩
def G7.p:LF:=⟨⟨[(2,(.bp 2 0 0)),(3999,(.hd 9))],[(5,t7),(10,t6),(11,(.i .i64)),(12,(.i .i64)),(3000,t44)]⟩,[((.exit 0),⟨[],[(5,t7)]⟩)],λ k x=>G7 k x.1 x.2.1 x.2.2.1 x.2.2.2.1 x.2.2.2.2⟩
def D6.d:Fd := { nt:=35,nv:=2,nm:=[0,1,2,3,5,6,7,8,9],res:=[4],ls:=[(6,Du.p),(3,G7.p)],rf:=true }
theorem Du.s:LL Tryz.f122 D6.d 6 Du.p:=mL [] (λ _=>trivial) trivial
theorem G7.s:LL Tryz.f122 D6.d 3 G7.p:=mL [6] (λ _=>trivial) ⟨Du.s,trivial⟩
theorem D6.s (k:Nat):CK 122 (D6.e k):=mS D6.d k [3] Tryz.func122 trivial ⟨G7.s,trivial⟩
def Fk.e (k:Nat):Ent:=⟨1,[(.val false t6)],[(.one,t7)],λ x=>Fk x⟩
def Fk.d:Fd := { nt:=5,nv:=1,nm:=[0,1],res:=[2],rf:=true }
theorem Fk.s (k:Nat):CK 154 (Fk.e k):=mS Fk.d k [] Tryz.func154 trivial trivial
def Lv.e (k:Nat):Ent:=⟨1,[(.val false .s)],[(.one,(.i .i64))],λ x=>Lv k x⟩
def Jj.p:LF:=⟨⟨[],[(0,.s),(3,(.i .u32)),(4,(.i .i64))]⟩,[((.exit 0),⟨[],[(3,(.i .u32))]⟩)],λ k x=>Jj k x.1 x.2.1 x.2.2⟩
def Lv.d:Fd := { nt:=20,nv:=1,nm:=[0,1,3,4],res:=[2],ls:=[(3,Jj.p)],rf:=true }
theorem Jj.s:LL Tryz.f227 Lv.d 3 Jj.p:=mL [] (λ _=>trivial) trivial
theorem Lv.s (k:Nat):CK 227 (Lv.e k):=mS Lv.d k [3] Tryz.func227 trivial ⟨Jj.s,trivial⟩
def L6.e (k:Nat):Ent:=⟨2,[(.val false .s),(.val false (.i .i64))],[(.one,(.i .i64))],λ x=>L6 k x.1 x.2⟩
def L6.d:Fd := { nt:=11,nv:=2,nm:=[0,1,2,3],res:=[4],cs:=λ k=>[(227,Lv.e k)],rf:=true }
theorem L6.s (k:Nat):CK 180 (L6.e k):=mS L6.d k [] Tryz.func180 ⟨Lv.s k,trivial⟩ trivial
def Bj.e (k:Nat):Ent:=⟨2,[(.val true t17),(.val false .s)],[(.one,t7)],λ x=>Bj k x.1 x.2⟩
def Bj.d:Fd := { nt:=20,nv:=2,nm:=[0,1,2,3],res:=[4],cs:=λ k=>[(154,Fk.e k),(180,L6.e k)],rf:=true }
theorem Bj.s (k:Nat):CK 123 (Bj.e k):=mS Bj.d k [] Tryz.func123 ⟨Fk.s k,L6.s k,trivial⟩ trivial
def Fc.e (k:Nat):Ent:=⟨2,[(.val false t6),(.val false t22)],[(.one,t7)],λ x=>Fc k x.1 x.2⟩
def Dv.p:LF:=⟨⟨[],[(1,t22),(5,t7),(10,t6),(11,(.i .i64)),(12,(.i .i64))]⟩,[((.exit 0),⟨[],[(5,t7)]⟩)],λ k x=>Dv k x.1 x.2.1 x.2.2.1 x.2.2.2.1 x.2.2.2.2⟩
def Fc.d:Fd := { nt:=37,nv:=2,nm:=[0,1,2,3,5,6,7,8,9],res:=[4],cs:=λ k=>[(102,Iz.e k),(145,Ef.e k)],ls:=[(3,Dv.p)],rf:=true }
theorem Fc.a (k:Nat):AC (Fc.d.cs k):=⟨Iz.s k,Ef.s k,trivial⟩
theorem Dv.s:LL Tryz.f224 Fc.d 3 Dv.p:=mL [] Fc.a trivial
theorem Fc.s (k:Nat):CK 224 (Fc.e k):=mS Fc.d k [3] Tryz.func224 (Fc.a k) ⟨Dv.s,trivial⟩
def Cb.e (k:Nat):Ent:=⟨3,[(.val true t17),(.val false t22),(.val false .s)],[(.one,t7)],λ x=>Cb k x.1 x.2.1 x.2.2⟩
def Co.p:LF:=⟨⟨[],[(7,t7),(8,t7),(9,t7),(10,t7),(19,t22),(20,(.i .i64)),(21,(.i .i64))]⟩,[((.exit 0),⟨[],[(9,t7),(10,t7)]⟩)],λ k x=>Co k x.1 x.2.1 x.2.2.1 x.2.2.2.1 x.2.2.2.2.1 x.2.2.2.2.2.1 x.2.2.2.2.2.2⟩
def Cb.d:Fd := { nt:=49,nv:=3,nm:=[0,1,2,3,4,5,7,8,9,10,11,12],res:=[6],cs:=λ k=>[(123,Bj.e k),(145,Ef.e k),(224,Fc.e k)],ls:=[(5,Co.p)],rf:=true }
theorem Cb.a (k:Nat):AC (Cb.d.cs k):=⟨Bj.s k,Ef.s k,Fc.s k,trivial⟩
theorem Co.s:LL Tryz.f175 Cb.d 5 Co.p:=mL [] Cb.a trivial
theorem Cb.s (k:Nat):CK 175 (Cb.e k):=mS Cb.d k [5] Tryz.func175 (Cb.a k) ⟨Co.s,trivial⟩
def Br.e (k:Nat):Ent:=⟨2,[(.ptr t44 t44),(.val false .s)],[(.one,t7)],λ x=>Br k x.1 x.2⟩
def Br.d:Fd := { nt:=26,nv:=2,nm:=[0,1,2,3],res:=[4],cs:=λ k=>[(122,D6.e k),(123,Bj.e k),(175,Cb.e k)],rf:=true }
theorem Br.s (k:Nat):CK 116 (Br.e k):=mS Br.d k [] Tryz.func116 ⟨D6.s k,Bj.s k,Cb.s k,trivial⟩ trivial
def Ct.e (k:Nat):Ent:=⟨2,[(.ptr t45 t45),(.val false .s)],[(.one,t7)],λ x=>Ct k x.1 x.2⟩
def Ct.d:Fd := { nt:=26,nv:=2,nm:=[0,1,2,3],res:=[4],cs:=λ k=>[(122,D6.e k),(123,Bj.e k),(175,Cb.e k)],rf:=true }
theorem Ct.s (k:Nat):CK 116 (Ct.e k):=mS Ct.d k [] Tryz.func116 ⟨D6.s k,Bj.s k,Cb.s k,trivial⟩ trivial
def Ai.e (k:Nat):Ent:=⟨1,[(.val false t4)],[(.one,t5)],λ x=>Ai x⟩
def Ai.d:Fd := { nt:=5,nv:=1,nm:=[0,1],res:=[2] }
theorem Ai.s (k:Nat):CK 70 (Ai.e k):=mS Ai.d k [] Tryz.func70 trivial trivial
def Fl.e (k:Nat):Ent:=⟨2,[(.val true t27),(.val false .s)],[(.one,t5),(.one,.b)],λ x=>Fl k x.1 x.2⟩
def Fl.d:Fd := { nt:=20,nv:=2,nm:=[0,1,2,3,6],res:=[4,5],cs:=λ k=>[(70,Ai.e k),(174,Ky.e k)] }
theorem Fl.s (k:Nat):CK 117 (Fl.e k):=mS Fl.d k [] Tryz.func117 ⟨Ai.s k,Ky.s k,trivial⟩ trivial
def M4.e (k:Nat):Ent:=⟨2,[(.val true t27),(.val false .s)],[(.agg,t25),(.one,(.i .i64))],λ x=>M4 k x.1 x.2⟩
def M4.d:Fd := { nt:=28,nv:=2,nm:=[0,1,2,3,6,7,8,9],res:=[5],cs:=λ k=>[(109,Cc.e k),(117,Fl.e k)] }
theorem M4.s (k:Nat):CK 60 (M4.e k):=mS M4.d k [] Tryz.func60 ⟨Cc.s k,Fl.s k,trivial⟩ trivial
def Jp.e (k:Nat):Ent:=⟨2,[(.val true t25),(.val true t25)],[(.one,.b)],λ x=>Jp x.1 x.2⟩
def Jp.d:Fd := { nt:=10,nv:=2,nm:=[0,1,2,3],res:=[4],cs:=λ k=>[(14,Ao.e k)] }
theorem Jp.s (k:Nat):CK 61 (Jp.e k):=mS Jp.d k [] Tryz.func61 ⟨Ao.s k,trivial⟩ trivial
def C6.e (k:Nat):Ent:=⟨6,[(.rd t38),(.val false (.i .i64)),(.ptr (.i .i64) (.i .i64)),(.ptr .s .s),(.ptr .b .b),(.ptr t25 t25)],[],λ x=>C6 k x.1 x.2.1 x.2.2.1 x.2.2.2.1 x.2.2.2.2.1 x.2.2.2.2.2⟩
def C6.d:Fd := { nt:=35,nv:=6,nm:=[0,1,6,7,8,9],res:=[],cs:=λ k=>[(60,M4.e k),(61,Jp.e k)],rf:=true }
theorem C6.s (k:Nat):CK 59 (C6.e k):=mS C6.d k [] Tryz.func59 ⟨M4.s k,Jp.s k,trivial⟩ trivial
def A8.e (k:Nat):Ent:=⟨4,[(.ptr t44 t44),(.val false .s),(.val false t6),(.fn 59 4),(.hid (.i .i64) (.i .i64)),(.hid .s .s),(.hid .b .b),(.hid t25 t25)],[],λ x=>A8 k x.1 x.2.1 x.2.2.1 x.2.2.2.1 x.2.2.2.2.1 x.2.2.2.2.2.1 x.2.2.2.2.2.2.1 x.2.2.2.2.2.2.2⟩
def Aa.p:LF:=⟨⟨[(0,(.bp 0 0 0)),(3,(.fn 59 [(1500,0),(1501,0),(1502,0),(1503,0)])),(1999,(.hd 9)),(1501999,(.hd 1)),(1502999,(.hd 1)),(1503999,(.hd 1)),(1504999,(.hd 5))],[(2,t6),(8,(.i .i64)),(14,t7),(15,(.i .i64)),(16,(.i .i64)),(1000,t44),(1501000,(.i .i64)),(1502000,.s),(1503000,.b),(1504000,t25)]⟩,[((.exit 0),⟨[(1999,(.hd 9)),(1501999,(.hd 1)),(1502999,(.hd 1)),(1503999,(.hd 1)),(1504999,(.hd 5))],[(1000,t44),(1501000,(.i .i64)),(1502000,.s),(1503000,.b),(1504000,t25)]⟩)],λ k x=>Aa k x.1 x.2.1 x.2.2.1 x.2.2.2.1 x.2.2.2.2.1 x.2.2.2.2.2.1 x.2.2.2.2.2.2.1 x.2.2.2.2.2.2.2.1 x.2.2.2.2.2.2.2.2.1 x.2.2.2.2.2.2.2.2.2⟩
def A8.d:Fd := { nt:=47,nv:=4,nm:=[0,1,2,3,4,5,6,7,8,9,10,11],res:=[],cs:=λ k=>[(59,C6.e k),(66,Ea.e k),(116,Br.e k)],ls:=[(2,Aa.p)],rf:=true }
theorem A8.a (k:Nat):AC (A8.d.cs k):=⟨C6.s k,Ea.s k,Br.s k,trivial⟩
theorem Aa.s:LL Tryz.f58 A8.d 2 Aa.p:=mL [] A8.a trivial
theorem A8.s (k:Nat):CK 58 (A8.e k):=mS A8.d k [2] Tryz.func58 (A8.a k) ⟨Aa.s,trivial⟩
def Hn.e (k:Nat):Ent:=⟨3,[(.val true t44),(.val false .s),(.val false t6)],[(.agg,t25),(.one,(.i .i64))],λ x=>Hn k x.1 x.2.1 x.2.2⟩
def Hn.d:Fd := { nt:=37,nv:=3,nm:=[0,1,2,3,4,5,8,9,10],res:=[7],cs:=λ k=>[(13,B0.e k),(48,Af.e k),(58,A8.e k)],rf:=true }
theorem Hn.s (k:Nat):CK 23 (Hn.e k):=mS Hn.d k [] Tryz.func23 ⟨B0.s k,Af.s k,A8.s k,trivial⟩ trivial
def Jk.e (k:Nat):Ent:=⟨1,[(.val true t44)],[(.one,t7)],λ x=>Jk k x⟩
def Jk.d:Fd := { nt:=8,nv:=1,nm:=[0,1],res:=[2],cs:=λ k=>[(122,D6.e k),(123,Bj.e k)],rf:=true }
theorem Jk.s (k:Nat):CK 65 (Jk.e k):=mS Jk.d k [] Tryz.func65 ⟨D6.s k,Bj.s k,trivial⟩ trivial
def Jx.e (k:Nat):Ent:=⟨2,[(.val true t28),(.val true t28)],[(.one,.b)],λ x=>Jx x.1 x.2⟩
def Jx.d:Fd := { nt:=29,nv:=2,nm:=[0,1,2,3],res:=[4],cs:=λ k=>[(14,Ao.e k)] }
theorem Jx.s (k:Nat):CK 181 (Jx.e k):=mS Jx.d k [] Tryz.func181 ⟨Ao.s k,trivial⟩ trivial
def Dc.e (k:Nat):Ent:=⟨2,[(.val false t31),(.val true t28)],[(.one,t32)],λ x=>Dc k x.1 x.2⟩
def I5.p:LF:=⟨⟨[(3,(.bp 3 0 0)),(4999,(.hd 6))],[(0,t31),(8,(.i .i64)),(4000,.s),(4001,(.i .i64)),(4002,(.i .i64)),(4003,(.i .i64)),(4004,.b),(4005,(.i .i64))]⟩,[((.exit 2),⟨[(3,(.bp 3 0 0)),(4999,(.hd 6))],[(0,t31),(8,(.i .i64)),(4000,.s),(4001,(.i .i64)),(4002,(.i .i64)),(4003,(.i .i64)),(4004,.b),(4005,(.i .i64))]⟩)],λ k x=>I5 k x.1 x.2.1 x.2.2.1 x.2.2.2.1 x.2.2.2.2.1 x.2.2.2.2.2.1 x.2.2.2.2.2.2.1 x.2.2.2.2.2.2.2⟩
def Iv.p:LF:=⟨⟨[(3,(.bp 3 0 0)),(4999,(.hd 6))],[(0,t31),(5,t32),(11,t31),(12,(.i .i64)),(13,(.i .i64)),(4000,.s),(4001,(.i .i64)),(4002,(.i .i64)),(4003,(.i .i64)),(4004,.b),(4005,(.i .i64))]⟩,[(.ret,⟨[],[(4,t32)]⟩),((.exit 0),⟨[(3,(.bp 3 0 0)),(4999,(.hd 6))],[(0,t31),(4000,.s),(4001,(.i .i64)),(4002,(.i .i64)),(4003,(.i .i64)),(4004,.b),(4005,(.i .i64))]⟩)],λ k x=>Iv k x.1 x.2.1 x.2.2.1 x.2.2.2.1 x.2.2.2.2.1 x.2.2.2.2.2.1 x.2.2.2.2.2.2.1 x.2.2.2.2.2.2.2.1 x.2.2.2.2.2.2.2.2.1 x.2.2.2.2.2.2.2.2.2.1 x.2.2.2.2.2.2.2.2.2.2⟩
def Dc.d:Fd := { nt:=60,nv:=2,nm:=[0,1,2,3,5,6,7,8],res:=[4],cs:=λ k=>[(111,B1.e k),(181,Jx.e k)],ls:=[(11,I5.p),(3,Iv.p)] }
theorem Dc.a (k:Nat):AC (Dc.d.cs k):=⟨B1.s k,Jx.s k,trivial⟩
theorem I5.s:LL Tryz.f124 Dc.d 11 I5.p:=mL [] Dc.a trivial
theorem Iv.s:LL Tryz.f124 Dc.d 3 Iv.p:=mL [] Dc.a trivial
theorem Dc.s (k:Nat):CK 124 (Dc.e k):=mS Dc.d k [3,11] Tryz.func124 (Dc.a k) ⟨Iv.s,I5.s,trivial⟩
def E6.e (k:Nat):Ent:=⟨2,[(.val false t31),(.val false t31)],[(.one,t32)],λ x=>E6 k x.1 x.2⟩
def I6.p:LF:=⟨⟨[],[(5,t32),(10,t31),(11,(.i .i64)),(12,(.i .i64))]⟩,[((.exit 0),⟨[],[(5,t32)]⟩)],λ k x=>I6 k x.1 x.2.1 x.2.2.1 x.2.2.2⟩
def E6.d:Fd := { nt:=21,nv:=2,nm:=[0,1,2,3,5,6,7],res:=[4],cs:=λ k=>[(111,B1.e k),(124,Dc.e k)],ls:=[(3,I6.p)] }
theorem E6.a (k:Nat):AC (E6.d.cs k):=⟨B1.s k,Dc.s k,trivial⟩
theorem I6.s:LL Tryz.f67 E6.d 3 I6.p:=mL [] E6.a trivial
theorem E6.s (k:Nat):CK 67 (E6.e k):=mS E6.d k [3] Tryz.func67 (E6.a k) ⟨I6.s,trivial⟩
def Cu.e (k:Nat):Ent:=⟨2,[(.val false .s),(.val false .s)],[(.one,.b)],λ x=>Cu x.1 x.2⟩
def Cu.d:Fd := { nt:=18,nv:=2,nm:=[0,1,2,3],res:=[4],rf:=true }
theorem Cu.s (k:Nat):CK 228 (Cu.e k):=mS Cu.d k [] Tryz.func228 trivial trivial
def Gn.e (k:Nat):Ent:=⟨2,[(.val false .s),(.val false .s)],[(.one,.b)],λ x=>Gn x.1 x.2⟩
def Gn.d:Fd := { nt:=8,nv:=2,nm:=[0,1,2,3],res:=[4],cs:=λ k=>[(228,Cu.e k)],rf:=true }
theorem Gn.s (k:Nat):CK 182 (Gn.e k):=mS Gn.d k [] Tryz.func182 ⟨Cu.s k,trivial⟩ trivial
def Md.e (k:Nat):Ent:=⟨2,[(.val false .s),(.val false .s)],[(.one,.b)],λ x=>Md x.1 x.2⟩
def Md.d:Fd := { nt:=8,nv:=2,nm:=[0,1,2,3],res:=[4],cs:=λ k=>[(182,Gn.e k)],rf:=true }
theorem Md.s (k:Nat):CK 125 (Md.e k):=mS Md.d k [] Tryz.func125 ⟨Gn.s k,trivial⟩ trivial
def Fm.e (k:Nat):Ent:=⟨4,[(.val false t31),(.val false .s),(.val false .s),(.val false (.i .i64))],[(.one,t2)],λ x=>Fm k x.1 x.2.1 x.2.2.1 x.2.2.2⟩
def Dh.p:LF:=⟨⟨[],[(1,.s),(2,.s),(3,(.i .i64)),(9,t2),(12,t31),(13,(.i .i64)),(14,(.i .i64))]⟩,[((.exit 0),⟨[],[(9,t2)]⟩)],λ k x=>Dh k x.1 x.2.1 x.2.2.1 x.2.2.2.1 x.2.2.2.2.1 x.2.2.2.2.2.1 x.2.2.2.2.2.2⟩
def Fm.d:Fd := { nt:=46,nv:=4,nm:=[0,1,2,3,4,5,6,7,9,10,11],res:=[8],cs:=λ k=>[(125,Md.e k)],ls:=[(3,Dh.p)],rf:=true }
theorem Fm.a (k:Nat):AC (Fm.d.cs k):=⟨Md.s k,trivial⟩
theorem Dh.s:LL Tryz.f68 Fm.d 3 Dh.p:=mL [] Fm.a trivial
theorem Fm.s (k:Nat):CK 68 (Fm.e k):=mS Fm.d k [3] Tryz.func68 (Fm.a k) ⟨Dh.s,trivial⟩
def Bh.e (k:Nat):Ent:=⟨5,[(.val true t44),(.val false .s),(.val false .s),(.val false (.i .i64)),(.val false t6)],[(.one,t2),(.one,(.i .i64))],λ x=>Bh k x.1 x.2.1 x.2.2.1 x.2.2.2.1 x.2.2.2.2⟩
def Bs.p:LF:=⟨⟨[(5,(.bp 5 0 0)),(6999,(.hd 9))],[(1,.s),(2,.s),(3,(.i .i64)),(4,t6),(12,t32),(13,(.i .i64)),(20,t7),(21,(.i .i64)),(22,(.i .i64)),(6000,t44)]⟩,[((.exit 0),⟨[],[(1,.s),(2,.s),(3,(.i .i64)),(12,t32),(13,(.i .i64))]⟩)],λ k x=>Bs k x.1 x.2.1 x.2.2.1 x.2.2.2.1 x.2.2.2.2.1 x.2.2.2.2.2.1 x.2.2.2.2.2.2.1 x.2.2.2.2.2.2.2.1 x.2.2.2.2.2.2.2.2.1 x.2.2.2.2.2.2.2.2.2⟩
def Bh.d:Fd := { nt:=49,nv:=5,nm:=[0,1,2,3,4,5,6,7,8,9,12,13,14,15],res:=[10,11],cs:=λ k=>[(13,B0.e k),(65,Jk.e k),(66,Ea.e k),(67,E6.e k),(68,Fm.e k)],ls:=[(6,Bs.p)],rf:=true }
theorem Bh.a (k:Nat):AC (Bh.d.cs k):=⟨B0.s k,Jk.s k,Ea.s k,E6.s k,Fm.s k,trivial⟩
theorem Bs.s:LL Tryz.f26 Bh.d 6 Bs.p:=mL [] Bh.a trivial
theorem Bh.s (k:Nat):CK 26 (Bh.e k):=mS Bh.d k [6] Tryz.func26 (Bh.a k) ⟨Bs.s,trivial⟩
def Dd.e (k:Nat):Ent:=⟨1,[(.val true t17)],[(.agg,t18)],λ x=>Dd k x⟩
def F3.p:LF:=⟨⟨[(2,(.bp 2 0 0)),(3,(.bp 3 0 0)),(3999,(.hd 2)),(4999,(.hd 2))],[(10,t10),(11,(.i .i64)),(12,(.i .i64)),(3000,t18),(4000,t18)]⟩,[((.exit 0),⟨[(2,(.bp 2 0 0)),(3,(.bp 3 0 0)),(3999,(.hd 2)),(4999,(.hd 2))],[(3000,t18),(4000,t18)]⟩)],λ k x=>F3 k x.1 x.2.1 x.2.2.1 x.2.2.2.1 x.2.2.2.2⟩
def Dd.d:Fd := { nt:=27,nv:=1,nm:=[0,1,3,4,5],res:=[],cs:=λ k=>[(154,Fk.e k)],ls:=[(3,F3.p)],mv:=[26],rf:=true }
theorem Dd.a (k:Nat):AC (Dd.d.cs k):=⟨Fk.s k,trivial⟩
theorem F3.s:LL Tryz.f90 Dd.d 3 F3.p:=mL [] Dd.a trivial
theorem Dd.s (k:Nat):CK 90 (Dd.e k):=mS Dd.d k [3] Tryz.func90 (Dd.a k) ⟨F3.s,trivial⟩
def C0.e (k:Nat):Ent:=⟨1,[(.val false t13)],[(.one,t14)],λ x=>C0 k x⟩
def Dw.p:LF:=⟨⟨[],[(3,t14),(6,t13),(7,(.i .i64)),(8,(.i .i64))]⟩,[((.exit 0),⟨[],[(3,t14)]⟩)],λ k x=>Dw k x.1 x.2.1 x.2.2.1 x.2.2.2⟩
def C0.d:Fd := { nt:=23,nv:=1,nm:=[0,1,3,4,5],res:=[2],cs:=λ k=>[(70,Ai.e k)],ls:=[(3,Dw.p)] }
theorem C0.a (k:Nat):AC (C0.d.cs k):=⟨Ai.s k,trivial⟩
theorem Dw.s:LL Tryz.f203 C0.d 3 Dw.p:=mL [] C0.a trivial
theorem C0.s (k:Nat):CK 203 (C0.e k):=mS C0.d k [3] Tryz.func203 (C0.a k) ⟨Dw.s,trivial⟩
def Ae.e (k:Nat):Ent:=⟨1,[(.val true t27)],[(.agg,t29)],λ x=>Ae k x⟩
def Ae.d:Fd := { nt:=10,nv:=1,nm:=[0,1],res:=[],cs:=λ k=>[(203,C0.e k)] }
theorem Ae.s (k:Nat):CK 155 (Ae.e k):=mS Ae.d k [] Tryz.func155 ⟨C0.s k,trivial⟩ trivial
def Fn.e (k:Nat):Ent:=⟨1,[(.val true t38)],[(.agg,t39)],λ x=>Fn k x⟩
def Fn.d:Fd := { nt:=15,nv:=1,nm:=[0,1],res:=[],cs:=λ k=>[(111,B1.e k),(155,Ae.e k)] }
theorem Fn.s (k:Nat):CK 91 (Fn.e k):=mS Fn.d k [] Tryz.func91 ⟨B1.s k,Ae.s k,trivial⟩ trivial
def Fo.e (k:Nat):Ent:=⟨1,[(.val true t25)],[(.agg,t26)],λ x=>Fo x⟩
def Fo.d:Fd := { nt:=8,nv:=1,nm:=[0,1],res:=[],cs:=λ k=>[(70,Ai.e k)],mv:=[7],rf:=true }
theorem Fo.s (k:Nat):CK 92 (Fo.e k):=mS Fo.d k [] Tryz.func92 ⟨Ai.s k,trivial⟩ trivial
def Bp.e (k:Nat):Ent:=⟨1,[(.val true t44)],[(.agg,t47)],λ x=>Bp k x⟩
def Dx.p:LF:=⟨⟨[(2,(.bp 2 0 0)),(3,(.bp 3 0 0)),(3999,(.hd 9)),(4999,(.hd 9))],[(36,t35),(37,(.i .i64)),(38,(.i .i64)),(3000,t47),(4000,t47)]⟩,[((.exit 2),⟨[(2,(.bp 2 0 0)),(3,(.bp 3 0 0)),(3999,(.hd 9)),(4999,(.hd 9))],[(3000,t47),(4000,t47)]⟩)],λ k x=>Dx k x.1 x.2.1 x.2.2.1 x.2.2.2.1 x.2.2.2.2⟩
def Dy.p:LF:=⟨⟨[(1,(.bp 1 0 0)),(2,(.bp 2 0 0)),(3,(.bp 3 0 0)),(2999,(.hd 9)),(3999,(.hd 9)),(4999,(.hd 9))],[(21,t41),(22,(.i .i64)),(23,(.i .i64)),(2000,t44),(3000,t47),(4000,t47)]⟩,[((.exit 0),⟨[(1,(.bp 1 0 0)),(2,(.bp 2 0 0)),(3,(.bp 3 0 0)),(2999,(.hd 9)),(3999,(.hd 9)),(4999,(.hd 9))],[(2000,t44),(3000,t47),(4000,t47)]⟩)],λ k x=>Dy k x.1 x.2.1 x.2.2.1 x.2.2.2.1 x.2.2.2.2.1 x.2.2.2.2.2⟩
def Bp.d:Fd := { nt:=54,nv:=1,nm:=[0,1,3,4,5,6,7],res:=[],cs:=λ k=>[(90,Dd.e k),(91,Fn.e k),(92,Fo.e k)],ls:=[(8,Dx.p),(3,Dy.p)],mv:=[53],rf:=true }
theorem Bp.a (k:Nat):AC (Bp.d.cs k):=⟨Dd.s k,Fn.s k,Fo.s k,trivial⟩
theorem Dx.s:LL Tryz.f40 Bp.d 8 Dx.p:=mL [] Bp.a trivial
theorem Dy.s:LL Tryz.f40 Bp.d 3 Dy.p:=mL [] Bp.a trivial
theorem Bp.s (k:Nat):CK 40 (Bp.e k):=mS Bp.d k [3,8] Tryz.func40 (Bp.a k) ⟨Dy.s,Dx.s,trivial⟩
def Ho.e (k:Nat):Ent:=⟨3,[(.val true t16),(.val false (.i .i64)),(.val false (.i .i64))],[(.agg,t16)],λ x=>Ho x.1 x.2.1 x.2.2⟩
def Ho.d:Fd := { nt:=27,nv:=3,nm:=[0,1,2,3,4,5,7],res:=[],cs:=λ k=>[(45,Bw.e k)],rf:=true }
theorem Ho.s (k:Nat):CK 126 (Ho.e k):=mS Ho.d k [] Tryz.func126 ⟨Bw.s k,trivial⟩ trivial
def Ku.e (k:Nat):Ent:=⟨2,[(.val false t13),(.val false .s)],[(.one,t13)],λ x=>Ku k x.1 x.2⟩
def Ku.d:Fd := { nt:=21,nv:=2,nm:=[0,1,2,3,5],res:=[4],cs:=λ k=>[(174,Ky.e k)] }
theorem Ku.s (k:Nat):CK 231 (Ku.e k):=mS Ku.d k [] Tryz.func231 ⟨Ky.s k,trivial⟩ trivial
def Lq.e (k:Nat):Ent:=⟨2,[(.val false t13),(.val true t11)],[(.one,t14)],λ x=>Lq k x.1 x.2⟩
def Kh.p:LF:=⟨⟨[(3,(.bp 3 0 0)),(4999,(.hd 2))],[(0,t13),(5,(.i .i64)),(4000,.s),(4001,t4)]⟩,[((.exit 0),⟨[(3,(.bp 3 0 0)),(4999,(.hd 2))],[(0,t13),(5,(.i .i64)),(4000,.s),(4001,t4)]⟩)],λ k x=>Kh k x.1 x.2.1 x.2.2.1 x.2.2.2⟩
def Lq.d:Fd := { nt:=33,nv:=2,nm:=[0,1,2,3,5],res:=[4],ls:=[(2,Kh.p)] }
theorem Kh.s:LL Tryz.f232 Lq.d 2 Kh.p:=mL [] (λ _=>trivial) trivial
theorem Lq.s (k:Nat):CK 232 (Lq.e k):=mS Lq.d k [2] Tryz.func232 trivial ⟨Kh.s,trivial⟩
def De.e (k:Nat):Ent:=⟨2,[(.val true t27),(.val false .s)],[(.agg,(.pr t14 t13)),(.one,.b)],λ x=>De k x.1 x.2⟩
def De.d:Fd := { nt:=50,nv:=2,nm:=[0,1,2,3,6,7],res:=[5],cs:=λ k=>[(48,Af.e k),(70,Ai.e k),(105,Dj.e k),(155,Ae.e k),(174,Ky.e k),(231,Ku.e k),(232,Lq.e k)],mv:=[18,49] }
theorem De.s (k:Nat):CK 188 (De.e k):=mS De.d k [] Tryz.func188 ⟨Af.s k,Ai.s k,Dj.s k,Ae.s k,Ky.s k,Ku.s k,Lq.s k,trivial⟩ trivial
def E7.e (k:Nat):Ent:=⟨3,[(.val true t27),(.val false .s),(.val false t4)],[(.agg,t29),(.one,.b)],λ x=>E7 k x.1 x.2.1 x.2.2⟩
def E7.d:Fd := { nt:=42,nv:=3,nm:=[0,1,2,3,4,5,8],res:=[7],cs:=λ k=>[(48,Af.e k),(70,Ai.e k),(105,Dj.e k),(155,Ae.e k),(231,Ku.e k),(232,Lq.e k)],mv:=[24,41] }
theorem E7.s (k:Nat):CK 229 (E7.e k):=mS E7.d k [] Tryz.func229 ⟨Af.s k,Ai.s k,Dj.s k,Ae.s k,Ku.s k,Lq.s k,trivial⟩ trivial
def M5.e (k:Nat):Ent:=⟨4,[(.val true t27),(.val false .s),(.val true t25),(.val false .b)],[(.agg,t27),(.one,(.i .i64))],λ x=>M5 k x.1 x.2.1 x.2.2.1 x.2.2.2⟩
def M5.d:Fd := { nt:=82,nv:=4,nm:=[0,1,2,3,4,5,6,7,10,11,12,13,14,15,16,17,18,19],res:=[9],cs:=λ k=>[(48,Af.e k),(61,Jp.e k),(103,Di.e k),(105,Dj.e k),(109,Cc.e k),(117,Fl.e k),(155,Ae.e k),(173,F7.e k),(188,De.e k),(229,E7.e k)],mv:=[80] }
theorem M5.s (k:Nat):CK 183 (M5.e k):=mS M5.d k [] Tryz.func183 ⟨Af.s k,Jp.s k,Di.s k,Dj.s k,Cc.s k,Fl.s k,Ae.s k,F7.s k,De.s k,E7.s k,trivial⟩ trivial
def Jl.e (k:Nat):Ent:=⟨4,[(.val true t38),(.val false .s),(.val true t25),(.val false .b)],[(.agg,t40),(.one,(.i .i64))],λ x=>Jl k x.1 x.2.1 x.2.2.1 x.2.2.2⟩
def Jl.d:Fd := { nt:=62,nv:=4,nm:=[0,1,2,3,4,5,6,7,10,11,12],res:=[9],cs:=λ k=>[(47,Eg.e k),(48,Af.e k),(91,Fn.e k),(103,Di.e k),(112,Jo.e k),(183,M5.e k)],mv:=[29,35,60],rf:=true }
theorem Jl.s (k:Nat):CK 128 (Jl.e k):=mS Jl.d k [] Tryz.func128 ⟨Eg.s k,Af.s k,Fn.s k,Di.s k,Jo.s k,M5.s k,trivial⟩ trivial
def Cv.e (k:Nat):Ent:=⟨5,[(.ptr t38 t38),(.val false (.i .i64)),(.ptr .s .s),(.ptr t25 t25),(.ptr (.i .i64) (.i .i64))],[],λ x=>Cv k x.1 x.2.1 x.2.2.1 x.2.2.2.1 x.2.2.2.2⟩
def Cv.d:Fd := { nt:=35,nv:=5,nm:=[0,1,5,6,7,8],res:=[],cs:=λ k=>[(128,Jl.e k)],rf:=true }
theorem Cv.s (k:Nat):CK 127 (Cv.e k):=mS Cv.d k [] Tryz.func127 ⟨Jl.s k,trivial⟩ trivial
def Ki.e (k:Nat):Ent:=⟨1,[(.val false (.i .i64))],[(.one,(.i .i64))],λ x=>Ki x⟩
def Ki.d:Fd := { nt:=6,nv:=1,nm:=[0,1],res:=[2],rf:=true }
theorem Ki.s (k:Nat):CK 129 (Ki.e k):=mS Ki.d k [] Tryz.func129 trivial trivial
def Ac.e (k:Nat):Ent:=⟨4,[(.ptr t45 t45),(.val false .s),(.val false t6),(.fn 127 3),(.hid .s .s),(.hid t25 t25),(.hid (.i .i64) (.i .i64))],[],λ x=>Ac k x.1 x.2.1 x.2.2.1 x.2.2.2.1 x.2.2.2.2.1 x.2.2.2.2.2.1 x.2.2.2.2.2.2⟩
def Ah.p:LF:=⟨⟨[(0,(.bp 0 0 0)),(3,(.fn 127 [(1500,0),(1501,0),(1502,0)])),(1999,(.hd 9)),(1501999,(.hd 1)),(1502999,(.hd 5)),(1503999,(.hd 1))],[(2,t6),(8,(.i .i64)),(14,t7),(15,(.i .i64)),(16,(.i .i64)),(1000,t45),(1501000,.s),(1502000,t25),(1503000,(.i .i64))]⟩,[((.exit 0),⟨[(1999,(.hd 9)),(1501999,(.hd 1)),(1502999,(.hd 5)),(1503999,(.hd 1))],[(1000,t45),(1501000,.s),(1502000,t25),(1503000,(.i .i64))]⟩)],λ k x=>Ah k x.1 x.2.1 x.2.2.1 x.2.2.2.1 x.2.2.2.2.1 x.2.2.2.2.2.1 x.2.2.2.2.2.2.1 x.2.2.2.2.2.2.2.1 x.2.2.2.2.2.2.2.2⟩
def Ac.d:Fd := { nt:=47,nv:=4,nm:=[0,1,2,3,4,5,6,7,8,9,10,11],res:=[],cs:=λ k=>[(66,Ea.e k),(116,Ct.e k),(127,Cv.e k)],ls:=[(2,Ah.p)],gh:=[(1000003,[.cl 1003])],opn:=[41],rf:=true }
theorem Ac.a (k:Nat):AC (Ac.d.cs k):=⟨Ea.s k,Ct.s k,Cv.s k,trivial⟩
theorem Ah.s:LL Tryz.f58 Ac.d 2 Ah.p:=mL [] Ac.a trivial
theorem Ac.s (k:Nat):CK 58 (Ac.e k):=mS Ac.d k [2] Tryz.func58 (Ac.a k) ⟨Ah.s,trivial⟩
def Cw.e (k:Nat):Ent:=⟨5,[(.ptr t45 t45),(.val false .s),(.val true t25),(.val false (.i .i64)),(.val false t6)],[(.one,(.i .i64))],λ x=>Cw k x.1 x.2.1 x.2.2.1 x.2.2.2.1 x.2.2.2.2⟩
def Cw.d:Fd := { nt:=82,nv:=5,nm:=[0,1,2,3,4,5,6,7,8,9,11,12,13],res:=[10],cs:=λ k=>[(48,Af.e k),(58,Ac.e k),(74,El.e k),(92,Fo.e k),(126,Ho.e k),(129,Ki.e k)],rf:=true }
theorem Cw.s (k:Nat):CK 69 (Cw.e k):=mS Cw.d k [] Tryz.func69 ⟨Af.s k,Ac.s k,El.s k,Fo.s k,Ho.s k,Ki.s k,trivial⟩ trivial
def Hp.e (k:Nat):Ent:=⟨5,[(.val true t44),(.val false .s),(.val false t4),(.val false (.i .i64)),(.val false t6)],[(.agg,t45),(.one,(.i .i64))],λ x=>Hp k x.1 x.2.1 x.2.2.1 x.2.2.2.1 x.2.2.2.2⟩
def Hp.d:Fd := { nt:=29,nv:=5,nm:=[0,1,2,3,4,5,6,7,8,9,12,13],res:=[11],cs:=λ k=>[(13,B0.e k),(40,Bp.e k),(69,Cw.e k),(70,Ai.e k)],mv:=[19,27],rf:=true }
theorem Hp.s (k:Nat):CK 27 (Hp.e k):=mS Hp.d k [] Tryz.func27 ⟨B0.s k,Bp.s k,Cw.s k,Ai.s k,trivial⟩ trivial
def Fg.e (k:Nat):Ent:=⟨2,[(.val true t17),(.val false t22)],[(.one,.b)],λ x=>Fg k x.1 x.2⟩
def Hq.p:LF:=⟨⟨[(2,(.bp 2 0 0)),(3999,(.hd 2))],[(1,t22),(5,(.i .i64)),(6,(.i .i64)),(3000,t17)]⟩,[(.ret,⟨[],[(4,.b)]⟩),((.exit 2),⟨[(2,(.bp 2 0 0)),(3999,(.hd 2))],[(1,t22),(5,(.i .i64)),(3000,t17)]⟩)],λ k x=>Hq k x.1 x.2.1 x.2.2.1 x.2.2.2⟩
def Hr.p:LF:=⟨⟨[(2,(.bp 2 0 0)),(3999,(.hd 2))],[(1,t22),(5,(.i .i64)),(3000,t17)]⟩,[(.ret,⟨[],[(4,.b)]⟩),((.exit 0),⟨[],[]⟩)],λ k x=>Hr k x.1 x.2.1 x.2.2⟩
def Fg.d:Fd := { nt:=68,nv:=2,nm:=[0,1,2,3,5,6,7,8],res:=[4],cs:=λ k=>[(97,A7.e k),(137,Bq.e k),(138,Ek.e k),(139,Ec.e k)],ls:=[(9,Hq.p),(4,Hr.p)],rf:=true }
theorem Fg.a (k:Nat):AC (Fg.d.cs k):=⟨A7.s k,Bq.s k,Ek.s k,Ec.s k,trivial⟩
theorem Hq.s:LL Tryz.f75 Fg.d 9 Hq.p:=mL [] Fg.a trivial
theorem Hr.s:LL Tryz.f75 Fg.d 4 Hr.p:=mL [9] Fg.a ⟨Hq.s,trivial⟩
theorem Fg.s (k:Nat):CK 75 (Fg.e k):=mS Fg.d k [4] Tryz.func75 (Fg.a k) ⟨Hr.s,trivial⟩
def Df.e (k:Nat):Ent:=⟨1,[(.val true t44)],[(.one,.b)],λ x=>Df k x⟩
def F4.p:LF:=⟨⟨[(1,(.bp 1 0 0)),(2999,(.hd 9))],[(3,(.i .i64)),(2000,t44)]⟩,[(.ret,⟨[],[(2,.b)]⟩),((.exit 0),⟨[],[]⟩)],λ k x=>F4 k x.1 x.2⟩
def Df.d:Fd := { nt:=40,nv:=1,nm:=[0,1,3],res:=[2],cs:=λ k=>[(140,Ej.e k)],ls:=[(4,F4.p)],rf:=true }
theorem Df.a (k:Nat):AC (Df.d.cs k):=⟨Ej.s k,trivial⟩
theorem F4.s:LL Tryz.f76 Df.d 4 F4.p:=mL [] Df.a trivial
theorem Df.s (k:Nat):CK 76 (Df.e k):=mS Df.d k [4] Tryz.func76 (Df.a k) ⟨F4.s,trivial⟩
def D7.e (k:Nat):Ent:=⟨1,[(.val true t44)],[(.one,.b)],λ x=>D7 k x⟩
def Cp.p:LF:=⟨⟨[(1,(.bp 1 0 0)),(2999,(.hd 9))],[(5,(.i .i64)),(2000,t44)]⟩,[(.ret,⟨[],[(2,.b)]⟩),((.exit 2),⟨[],[]⟩)],λ k x=>Cp k x.1 x.2⟩
def G8.p:LF:=⟨⟨[(1,(.bp 1 0 0)),(2999,(.hd 9))],[(3,(.i .i64)),(2000,t44)]⟩,[(.ret,⟨[],[(2,.b)]⟩),((.exit 0),⟨[(1,(.bp 1 0 0)),(2999,(.hd 9))],[(2000,t44)]⟩)],λ k x=>G8 k x.1 x.2⟩
def D7.d:Fd := { nt:=91,nv:=1,nm:=[0,1,3,4,5],res:=[2],cs:=λ k=>[(62,Aq.e k),(75,Fg.e k),(76,Df.e k),(77,Bx.e k),(78,Dm.e k),(79,Bz.e k)],ls:=[(10,Cp.p),(4,G8.p)],rf:=true }
theorem D7.a (k:Nat):AC (D7.d.cs k):=⟨Aq.s k,Fg.s k,Df.s k,Bx.s k,Dm.s k,Bz.s k,trivial⟩
theorem Cp.s:LL Tryz.f32 D7.d 10 Cp.p:=mL [] D7.a trivial
theorem G8.s:LL Tryz.f32 D7.d 4 G8.p:=mL [] D7.a trivial
theorem D7.s (k:Nat):CK 32 (D7.e k):=mS D7.d k [4,10] Tryz.func32 (D7.a k) ⟨G8.s,Cp.s,trivial⟩
def D8.e (k:Nat):Ent:=⟨1,[(.val true t44)],[(.agg,t47)],λ x=>D8 k x⟩
def G9.p:LF:=⟨⟨[(1,(.bp 1 0 0)),(2,(.bp 2 0 0)),(3,(.bp 3 0 0)),(2999,(.hd 9)),(3999,(.hd 9)),(4999,(.hd 9))],[(5,(.i .i64)),(2000,t44),(3000,t47),(4000,t47)]⟩,[((.exit 2),⟨[(2,(.bp 2 0 0)),(3,(.bp 3 0 0)),(3999,(.hd 9)),(4999,(.hd 9))],[(3000,t47),(4000,t47)]⟩)],λ k x=>G9 k x.1 x.2.1 x.2.2.1 x.2.2.2⟩
def Ga.p:LF:=⟨⟨[(1,(.bp 1 0 0)),(2,(.bp 2 0 0)),(3,(.bp 3 0 0)),(2999,(.hd 9)),(3999,(.hd 9)),(4999,(.hd 9))],[(4,(.i .i64)),(2000,t44),(3000,t47),(4000,t47)]⟩,[((.exit 0),⟨[(1,(.bp 1 0 0)),(2,(.bp 2 0 0)),(3,(.bp 3 0 0)),(2999,(.hd 9)),(3999,(.hd 9)),(4999,(.hd 9))],[(2000,t44),(3000,t47),(4000,t47)]⟩)],λ k x=>Ga k x.1 x.2.1 x.2.2.1 x.2.2.2⟩
def D8.d:Fd := { nt:=62,nv:=1,nm:=[0,1,3,4,5,6],res:=[],cs:=λ k=>[(94,J1.e k),(95,H1.e k),(96,Bg.e k)],ls:=[(7,G9.p),(3,Ga.p)],mv:=[61],rf:=true }
theorem D8.a (k:Nat):AC (D8.d.cs k):=⟨J1.s k,H1.s k,Bg.s k,trivial⟩
theorem G9.s:LL Tryz.f42 D8.d 7 G9.p:=mL [] D8.a trivial
theorem Ga.s:LL Tryz.f42 D8.d 3 Ga.p:=mL [] D8.a trivial
theorem D8.s (k:Nat):CK 42 (D8.e k):=mS D8.d k [3,7] Tryz.func42 (D8.a k) ⟨Ga.s,G9.s,trivial⟩
def Hs.e (k:Nat):Ent:=⟨5,[(.val true t44),(.val false .s),(.val false t4),(.val false (.i .i64)),(.val false t6)],[(.agg,t45),(.one,(.i .i64))],λ x=>Hs k x.1 x.2.1 x.2.2.1 x.2.2.2.1 x.2.2.2.2⟩
def Hs.d:Fd := { nt:=28,nv:=5,nm:=[0,1,2,3,4,5,6,7,8,9,12,13],res:=[11],cs:=λ k=>[(32,D7.e k),(42,D8.e k),(71,Ei.e k)],mv:=[26],rf:=true }
theorem Hs.s (k:Nat):CK 28 (Hs.e k):=mS Hs.d k [] Tryz.func28 ⟨D7.s k,D8.s k,Ei.s k,trivial⟩ trivial
def J5.e (k:Nat):Ent:=⟨1,[(.val false t4)],[(.one,.b)],λ x=>J5 k x⟩
def J5.d:Fd := { nt:=83,nv:=1,nm:=[0,1,3,4,5,6,7,8,9,10,11,12],res:=[2],cs:=λ k=>[(9,Nm.e k),(20,M3.e k),(21,Hm.e k),(23,Hn.e k),(26,Bh.e k),(27,Hp.e k),(28,Hs.e k)],sh:=true,rf:=true }
theorem J5.s (k:Nat):CK 6 (J5.e k):=mS J5.d k [] Tryz.func6 ⟨Nm.s k,M3.s k,Hm.s k,Hn.s k,Bh.s k,Hp.s k,Hs.s k,trivial⟩ trivial
end

end Go.Proofs.YtmhhjceoinoekaaGreat.Vf
