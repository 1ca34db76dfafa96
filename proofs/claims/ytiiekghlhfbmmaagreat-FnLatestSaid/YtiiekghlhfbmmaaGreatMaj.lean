import Derived.Test.YtiiekghlhfbmmaaGreatMai
import Derived.Laws.StructEq
import Derived.Below
set_option linter.all false
namespace Go.Proofs.YtiiekghlhfbmmaaGreat.Vf
open Go
open List (length getD)
open Int (toNat)
open Go.IntKind (wrap)
open BitVec (ofInt)
def Hjb:=@List.all_cons
def Igb:=@Bool.and_true
def Khb:=@Bool.and_assoc

section
attribute [local irreducible] C H
def eq1:Lf→Lf→Option Bool
 |.sc (.int k x),.sc (.int k' y)=>if k=k' then some (x==y) else none
 |.sc (.bool x),.sc (.bool y)=>some (x==y)
 |.sc (.string x),.sc (.string y)=>some (x==y)
 |_,_=>none
def Xfa (a a':Lf) (l l':List Lf) {b:Bool} (h:Fx (a::l) (a'::l')=some b):∃ b1 b2,eq1 a a'=some b1∧Fx l l'=some b2∧b=(b1&&b2):=by
 unfold Fx at h;split at h
 ·rename_i e _;cases e
 ·rename_i k x k' y e1 e2;cases e1;cases e2
  by_cases hk:k=k'
  ·simp only[hk,decide_true,cond_true,Vg]at h;exact⟨x==y,true,by simp only[eq1,hk,if_true],rfl,by simp[h]⟩
  ·simp[hk]at h
 ·rename_i x y e1 e2;cases e1;cases e2;simp only[Vg]at h;exact⟨_,true,rfl,rfl,by simp[h]⟩
 ·rename_i x y e1 e2;cases e1;cases e2;simp only[Vg]at h;exact⟨_,true,rfl,rfl,by simp[h]⟩
 ·rename_i k x l k' y l' _ e1 e2;cases e1;cases e2
  by_cases hk:k=k'
  ·simp only[hk,decide_true,cond_true]at h;split at h
   ·rename_i b2 hb;simp only[Vg]at h;exact⟨_,b2,by simp only[eq1,hk,if_true],hb,h.symm⟩
   ·cases h
  ·simp[hk]at h
 ·rename_i x l y l' _ e1 e2;cases e1;cases e2;split at h
  ·rename_i b2 hb;simp only[Vg]at h;exact⟨_,b2,rfl,hb,h.symm⟩
  ·cases h
 ·rename_i x l y l' _ e1 e2;cases e1;cases e2;split at h
  ·rename_i b2 hb;simp only[Vg]at h;exact⟨_,b2,rfl,hb,h.symm⟩
  ·cases h
 ·cases h
def D5a:∀ (l m l' m':List Lf) (b:Bool),l.length=l'.length→Fx (l++m) (l'++m')=some b→∃ b1 b2,Fx l l'=some b1∧Fx m m'=some b2∧b=(b1&&b2)
 |[],m,[],m',b,_,h=>⟨true,b,rfl,h,by simp⟩
 |[],_,_::_,_,_,hl,_=>by simp at hl
 |_::_,_,[],_,_,hl,_=>by simp at hl
 |a::l,m,a'::l',m',b,hl,h=>by
  obtain⟨b1,b2,h1,h2,rfl⟩:=Xfa a a' (l++m) (l'++m') h;obtain⟨b3,b4,h3,h4,rfl⟩:=D5a l m l' m' b2 (by simpa using hl) h2;refine⟨b1&&b3,b4,?_,h4,by simp[Khb]⟩
  cases a with
  |sc u=>
   cases a' with
   |sc u'=>
    cases u<;>first|(simp[eq1]at h1;done)|skip
    all_goals (cases u'<;>first|(simp[eq1]at h1;done)|skip)
    ·rename_i x y;simp only[eq1,Vg]at h1
     cases l<;>cases l'<;>first|(simp at hl;done)|skip
     ·simp only[Fx,Vg]at h3;simp only[Fx];rw[← h3,← h1,Igb]
     ·simp only[Fx,h3];rw[← h1]
    ·rename_i k x k' y;simp only[eq1]at h1
     by_cases hk:k=k'
     ·rw[if_pos hk]at h1;simp only[Vg]at h1
      cases l<;>cases l'<;>first|(simp at hl;done)|skip
      ·simp only[Fx,Vg]at h3;simp only[Fx,hk,decide_true,cond_true];rw[← h3,← h1,Igb]
      ·simp only[Fx,hk,decide_true,cond_true,h3];rw[← h1]
     ·rw[if_neg hk]at h1;cases h1
    ·rename_i x y;simp only[eq1,Vg]at h1
     cases l<;>cases l'<;>first|(simp at hl;done)|skip
     ·simp only[Fx,Vg]at h3;simp only[Fx];rw[← h3,← h1,Igb]
     ·simp only[Fx,h3];rw[← h1]
   |_=>cases u<;>simp[eq1]at h1
  |_=>simp[eq1]at h1
def eqB (P:Program) (ti:TypeId→Option TI):Nat→TypeId→Bool
 |0,_=>false
 |n+1,T=>match ti T,P.underlying T with
  |some t,some (.struct fs)=>t.ag&&!(P.stoodInHeld T)&&Wt ti fs.toList 0 t.ty&&fs.toList.all (λ f => !(f.name == "_")&&eqB P ti n f.type)
  |some ⟨.i _,false,_,_⟩,some (.int _)=>true
  |some ⟨.b,false,_,_⟩,some .bool=>true
  |some ⟨.s,false,_,_⟩,some .string=>true
  |_,_=>false
section
variable {P:Program} {ti:TypeId→Option TI} {G:Nat→Prop} {w:World}
def Epb (P:Program) (ti:TypeId→Option TI) (G:Nat→Prop) (w:World) (n:Nat):Prop:=
 ∀ T t d (X Y:t.ty.den) (us vs:List Value) (x y:Value) (b:Bool) (w':World),n≤d→eqB P ti n T=true→ti T=some t→Ob (N7 P G w) (A8 t.ty X) us→Ob (N7 P G w) (A8 t.ty Y) vs→Fx (A8 t.ty X) (A8 t.ty Y)=some b→
  (if t.ag then x = .agg us.toArray else us=[x])→(if t.ag then y = .agg vs.toArray else vs=[y])→(Op.equalIn d T x y).run P w' = .ok b w'
def Yz {T:TypeId} {t:TI} (hk:TOk P T t) {us:List Value} {off:Nat} (hl:off+t.ty.sz≤us.length) (w':World):
  ∃ u,(part T us.toArray off).run P w' = .ok u w'∧(if t.ag then u = .agg ((us.drop off).take t.ty.sz).toArray else (us.drop off).take t.ty.sz=[u]):=by
 obtain⟨d,hd,hagg⟩:=Joa hk
 cases ha:t.ag with
 |true=>
  rw[ha]at hagg;refine⟨.agg (us.toArray.extract off (off+t.ty.sz)),?_,?_⟩
  ·unfold part;simp only[Wg,Qf hd hagg,Wf,if_true,N8 (Sg hk),Ya]
  ·simp only[if_true];congr 1;apply Jyb;rw[Array.toList_extract];simp[List.extract]
 |false=>
  rw[ha]at hagg;have h1:=R8a hk ha
  have hlt:off<us.length:=by omega
  refine⟨us[off],?_,?_⟩
  ·unfold part;simp only[Wg,Qf hd hagg,Wf,Xs,if_false]
   have:us.toArray[off]? = some us[off]:=by simp[hlt]
   rw[this];rfl
  ·simp only[Xs,if_false];rw[h1,Za hlt];rfl
def H4a (htok:∀ T t,ti T=some t→TOk P T t) {n:Nat} (ih:Epb P ti G w n) {d:Nat} (hd:n≤d) {us vs:List Value} (w':World):
  ∀ (fs:List Field) (o:Nat) (ty:Ty) (X Y:ty.den) (b:Bool),Wt ti fs o ty=true→fs.all (λ f => !(f.name == "_")&&eqB P ti n f.type)=true→o+ty.sz≤us.length→o+ty.sz≤vs.length→
   Ob (N7 P G w) (A8 ty X) ((us.drop o).take ty.sz)→Ob (N7 P G w) (A8 ty Y) ((vs.drop o).take ty.sz)→
   Fx (A8 ty X) (A8 ty Y)=some b→(Op.eqFields d us.toArray vs.toArray fs).run P w' = .ok b w'
 |[],o,ty,X,Y,b,hp,_,_,_,_,_,_=>by cases ty<;>simp[Wt]at hp
 |[f],o,ty,X,Y,b,hp,ha,hl,hl',h0,h0',he=>by
  simp only[Wt,Va]at hp;simp only[Hjb,Va,Vv,beq_eq_false_iff_ne]at ha;obtain⟨⟨a1,a2⟩,_⟩:=ha;obtain⟨t,h1,h2⟩:=Rv hp.2;have ho:f.offset=o:=Vh hp.1;subst h2;subst ho;obtain⟨x,hx1,hx2⟩:=Yz (htok _ _ h1) hl w';obtain⟨y,hy1,hy2⟩:=Yz (htok _ _ h1) hl' w';have hr:=ih f.type t d X Y _ _ x y b w' hd a2 h1 h0 h0' he hx2 hy2;simp only[Op.eqFields,ne_eq,a1,not_false_eq_true,if_true,Wg,hx1,hy1,hr,Wf]
  cases b<;>rfl
 |f::g::fs,o,ty,X,Y,b,hp,ha,hl,hl',h0,h0',he=>by
  cases ty<;>first|(simp[Wt]at hp;done)|skip
  rename_i tx tyy;simp only[Wt,Va]at hp;obtain⟨⟨q0,q1⟩,hp⟩:=hp;rw[Hjb,Va]at ha;obtain⟨ha0,ha⟩:=ha;simp only[Va,Vv,beq_eq_false_iff_ne]at ha0;obtain⟨a1,a2⟩:=ha0;obtain⟨t,h1,h2⟩:=Rv q1;have ho:f.offset=o:=Vh q0;subst h2;subst ho;have hl2:f.offset+(t.ty.sz+tyy.sz)≤us.length:=hl;have hl2':f.offset+(t.ty.sz+tyy.sz)≤vs.length:=hl';have he2:Fx (A8 t.ty X.1++A8 tyy X.2) (A8 t.ty Y.1++A8 tyy Y.2)=some b:=he;have r0:Ob (N7 P G w) (A8 t.ty X.1++A8 tyy X.2) ((us.drop f.offset).take (t.ty.sz+tyy.sz)):=h0;have r0':Ob (N7 P G w) (A8 t.ty Y.1++A8 tyy Y.2) ((vs.drop f.offset).take (t.ty.sz+tyy.sz)):=h0';have k1:=r0.take t.ty.sz;have k2:=r0.drop t.ty.sz;have k1':=r0'.take t.ty.sz;have k2':=r0'.drop t.ty.sz;have c1:=Kq t.ty X.1;have c1':=Kq t.ty Y.1;rw[← c1,Iib,c1,Iab,Zu (by omega)]at k1;rw[← c1',Iib,c1',Iab,Zu (by omega)]at k1'
  have c2:∀ l:List Value,List.drop t.ty.sz (List.take (t.ty.sz+tyy.sz) l)=List.take tyy.sz (List.drop t.ty.sz l):=λ l=>by rw[Ibb];congr 1;omega
  rw[c2,Yo]at k2 k2';rw[show List.drop t.ty.sz (A8 t.ty X.1++A8 tyy X.2)=A8 tyy X.2 by rw[← c1,Zi]]at k2;rw[show List.drop t.ty.sz (A8 t.ty Y.1++A8 tyy Y.2)=A8 tyy Y.2 by rw[← c1',Zi]]at k2';obtain⟨b1,b2,e1,e2,rfl⟩:=D5a _ _ _ _ b (by rw[c1,c1']) he2;obtain⟨x,hx1,hx2⟩:=Yz (htok _ _ h1) (us:=us) (off:=f.offset) (by omega) w';obtain⟨y,hy1,hy2⟩:=Yz (htok _ _ h1) (us:=vs) (off:=f.offset) (by omega) w';have hr:=ih f.type t d X.1 Y.1 _ _ x y b1 w' hd a2 h1 k1 k1' e1 hx2 hy2;have hr2:=H4a htok ih hd w' (g::fs) (f.offset+t.ty.sz) tyy X.2 Y.2 b2 hp ha (by omega) (by omega) k2 k2' e2;rw[Op.eqFields];simp only[ne_eq,a1,not_false_eq_true,if_true,Wg,hx1,hy1,hr,Wf];cases b1
  ·rfl
  ·simpa using hr2
def Zsa (htok:∀ T t,ti T=some t→TOk P T t):∀ n,Epb P ti G w n
 |0=>by
  intro T t d X Y us vs x y b w' _ h;simp[eqB]at h
 |n+1=>by
  intro T t d X Y us vs x y b w' hd h hT hl hl' he hx hy;obtain⟨d,rfl⟩:∃ m,d=m+1:=⟨d-1,by omega⟩
  have one:∀ {us:List Value} {x:Value} {z:Lf},us=[x]→Ob (N7 P G w) [z] us→N7 P G w z x:=by
   intro us x z e h;subst e
   cases h with
   |cons a h=>exact a
  unfold eqB at h;rw[hT]at h;split at h
  ·rename_i t0 fs e1 hu;cases e1;simp only[Va,Vv]at h;obtain⟨⟨⟨h1,h2⟩,h3⟩,h4⟩:=h;rw[h1]at hx hy;simp only[if_true]at hx hy;subst hx hy
   have hfs:P.fieldsOf T=fs:=by unfold Program.fieldsOf;rw[hu]
   rw[run_equalIn_struct w' d T _ _ (by rw[hfs];exact hu) h2,hfs];have e1:=hl.len;have e2:=hl'.len;rw[Kq]at e1 e2;exact H4a htok (Zsa htok n) (by omega) w' fs.toList 0 t.ty X Y b h3 h4 (by omega) (by omega) (by rw[Wn,← e1,Yn];exact hl) (by rw[Wn,← e2,Yn];exact hl') he
  ·rename_i k by_ fo k' e1 hu;cases e1;simp only[Xs,if_false]at hx hy;have hz:=(one hx hl).1;have hz':=(one hy hl').1;subst hz hz'
   have he':(X==Y)=b:=by simpa[A8,Fx] using he
   rw[← he'];simp[Op.equalIn,run_underlying hu]
  ·rename_i by_ fo e1 hu;cases e1;simp only[Xs,if_false]at hx hy;have hz:=(one hx hl).1;have hz':=(one hy hl').1;subst hz hz'
   have he':(X==Y)=b:=by simpa[A8,Fx] using he
   rw[← he'];simp[Op.equalIn,run_underlying hu]
  ·rename_i by_ fo e1 hu;cases e1;simp only[Xs,if_false]at hx hy;have hz:=(one hx hl).1;have hz':=(one hy hl').1;subst hz hz'
   have he':(X==Y)=b:=by simpa[A8,Fx] using he
   rw[← he'];simp[Op.equalIn,run_underlying hu]
  ·cases h
end
def Eqb:∀ (t:Ty) (l l':List Lf) (x:t.den),Rf l=true→mkT t l=some (x,l')→l=A8 t x++l'∧Rf l'=true:=by
 intro t
 induction t with
 |pr p q ihp ihq=>
  intro l l' x h hm;simp only[mkT]at hm;split at hm
  ·rename_i y l1 h1;split at hm
   ·rename_i z l2 h2;cases hm;obtain⟨e1,a1⟩:=ihp _ _ _ h h1;obtain⟨e2,a2⟩:=ihq _ _ _ a1 h2;refine⟨?_,a2⟩;rw[e1,e2,← Vo];rfl
   ·cases hm
  ·cases hm
 |_=>
  intro l l' x h hm
  cases l with
  |nil=>simp[mkT]at hm
  |cons z l=>
   cases z<;>first|(simp[Rf]at h;done)|skip
   rename_i v
   cases v<;>first|(simp[mkT]at hm;done)|skip
   all_goals
    simp only[Rf]at h;simp only[mkT]at hm
    first
     |(simp only[Vg,Vy]at hm;obtain⟨rfl,rfl⟩:=hm;exact⟨rfl,h⟩)
     |(
       rename_i k k' n
       by_cases hk:k=k'
       ·subst hk;simp only[decide_true,cond_true,Vg,Vy]at hm;obtain⟨rfl,rfl⟩:=hm;exact⟨rfl,h⟩
       ·simp[hk]at hm)
def G3b {P:Program} {ti:TypeId→Option TI} (htok:∀ T t,ti T=some t→TOk P T t) {T:TypeId} (h:eqB P ti 9 T=true) (hag:(match ti T with|some t=>t.ag|none=>false)=true) (hg:P.eqGuardType P.depth T=false) (G:Nat→Prop) (w w':World) (x y:Operand) (l l':List Lf) (us vs:List Value) (b:Bool)
  (h1:Ob (N7 P G w) l us) (h2:Ob (N7 P G w) l' vs) (he:Fx l l'=some b) (ha:Rf l=true) (ha':Rf l'=true) (hk:Qb (ti T) l=true) (hk':Qb (ti T) l'=true):
  (Op.equal T (.agg us.toArray) (.agg vs.toArray)).run P w' = .ok b w'∧(eqGuard .eql T x y (.agg us.toArray) (.agg vs.toArray)).run P w' = .ok () w'∧(eqGuard .neq T x y (.agg us.toArray) (.agg vs.toArray)).run P w' = .ok () w':=by
 refine⟨?_,run_eqGuard_agg w' _ T x y _ _ hg,run_eqGuard_agg w' _ T x y _ _ hg⟩;unfold Qb at hk hk';split at hk
 ·rename_i t hT;rw[hT]at hk' hag;simp only at hk' hag
  have key:∀ {l:List Lf},Rf l=true→(mkW t.ty l).isSome=true→∃ X,l=A8 t.ty X:=by
   intro l ha hk;obtain⟨X,hX⟩:=Zd.1 hk;unfold mkW at hX;split at hX
   ·rename_i z hz;cases hX;obtain⟨e1,_⟩:=Eqb t.ty l [] _ ha hz;exact⟨_,by rw[e1,Wp]⟩
   ·cases hX
  obtain⟨X,rfl⟩:=key ha hk;obtain⟨Y,rfl⟩:=key ha' hk';exact Zsa htok 9 T t Op.maxDepth X Y us vs _ _ b w' (by decide) h hT h1 h2 he (by rw[hag];rfl) (by rw[hag];rfl)
 ·cases hk
end

section
open Go.RowKit
attribute [local irreducible] C H
def Mx:Code→List Code
 |.seq a b=>Mx a++Mx b
 |.cond _ a b=>Mx a++Mx b
 |.block _ c=>Mx c
 |.loop c=>[c]
 |_=>[]
def T1a {X:Cx} {E:En}:∀ (c:Code),(∀ d∈Mx c,∀ L,E.lp (first d)=some L→Gta X L d)→P3 X E c:=by
 intro c
 induction c with
 |seq a b iha ihb=>exact λ h=>⟨iha λ d hd=>h d (Wb _ hd),ihb λ d hd=>h d (Vs _ hd)⟩
 |cond x a b iha ihb=>exact λ h=>⟨iha λ d hd=>h d (Wb _ hd),ihb λ d hd=>h d (Vs _ hd)⟩
 |block i c ih=>exact λ h=>ih h
 |loop c ih=>exact λ h=>h c (by simp[Mx])
 |_=>exact λ h=>trivial
def Xga {X:Cx} {E:En} {c b:Code} (ids:List Nat) (h1:Mx c=ids.map λ l=>M1 l b) (h2:(ids.map λ l=>first (M1 l b))=ids) (h3:∀ l∈ids,∀ L,E.lp l=some L→Gta X L (M1 l b)):P3 X E c:=by
 refine T1a c λ d hd L hL=>?_;rw[h1]at hd;obtain⟨l,hl,rfl⟩:=Zc.1 hd
 have:first (M1 l b)=l:=by
  have key:∀ (is:List Nat),(is.map λ l=>first (M1 l b))=is→∀ l∈is,first (M1 l b)=l:=by
   intro is
   induction is with
   |nil=>intro _ l hl;simp at hl
   |cons i is ih=>
    intro e l hl;simp only[Yp,Yk]at e;rcases Vl.1 hl with rfl|hl
    ·exact e.1
    ·exact ih e.2 l hl
  exact key ids h2 l hl
 rw[this]at hL;exact h3 l hl L hL
def Erb {P:Program} {X:Cx} {E:En} {ti:TypeId→Option TI} {eqs:TypeId→Bool} (hP:X.P=P) (h1:E.nt=X.nt) (h2:E.np=X.np) (h3:E.ti=ti) (h4:E.eq=eqs) (htok:∀ T t,ti T=some t→TOk P T t)
  (heq:∀ T,eqs T=true→eqB P ti 9 T=true∧(match ti T with|some t=>t.ag|none=>false)=true∧P.eqGuardType P.depth T=false) (hc:∀ f en,E.call f=some en→Q5 P f en):Aja X E:=by
 refine⟨⟨h1,h2,λ T t h=>?_,λ T h G w w' x y l l' us vs b=>?_⟩,λ f en h=>?_⟩
 ·rw[hP];rw[h3]at h;exact htok T t h
 ·rw[hP,h3];rw[h4]at h;obtain⟨e1,e2,e3⟩:=heq T h;exact G3b htok e1 e2 e3 G w w' x y l l' us vs b
 ·rw[hP];exact hc f en h
def C2b {t:Ty} : {ts:List Ty}→t.den→Den ts→Den (t::ts)
 |[],x,_=>x
 |_::_,x,y=>(x,y)
def H5a {t:Ty} {ts:List Ty} {x:t.den} {y:Den ts}:Fu (t::ts) (C2b x y)=A8 t x::Fu ts y:=by
 cases ts<;>rfl
inductive Zta (P:Program) (w:World):(ps:List Par)→Den (ps.map Par.ty)→List Value→Prop
 |nil:Zta P w [] () []
 |cons {ag:Bool} {t:Ty} {ps:List Par} {X:t.den} {Y:Den (ps.map Par.ty)} {u:Value} {us vs:List Value} (hn:Nd t=true) (hu:if ag then u = .agg vs.toArray else vs=[u])
   (hr:t.rep P (λ k=>k<w.heap.size) w X vs) (h:Zta P w ps Y us):Zta P w (.val ag t::ps) (C2b (t:=t) (ts:=ps.map Par.ty) X Y) (u::us)
def Xha (w:World):Nat→Lab:=λ k=>if k<w.heap.size then .fz else .no
def Xia {P:Program} {w:World}:∀ {ps:List Par} {x:Den (ps.map Par.ty)} {us:List Value},Zta P w ps x us→us.length=ps.length:=by
 intro ps x us h
 induction h with
 |nil=>rfl
 |cons _ _ _ _ ih=>simp[ih]
def T2a {P:Program} {w:World} {rg:Nat→Nat×Nat} {nv:Nat} {hs:List Value}:∀ {ps:List Par} {x:Den (ps.map Par.ty)} {us:List Value} (i:Nat),Zta P w ps x us→Q4 P (bare (Xha w) w) rg nv hs i ps (Fu _ x) us:=by
 intro ps x us i h
 induction h generalizing i with
 |nil=>trivial
 |@cons ag t ps X Y u us vs hn hu hr h ih=>
  show Q4 P (bare (Xha w) w) rg nv hs i (.val ag t::ps) (Fu (t::ps.map Par.ty) (C2b X Y)) (u::us);rw[H5a];refine⟨⟨vs,hu,?_⟩,ih (i+1)⟩;have h1:=Qe (P:=P) (G:=λ k=>Xha w k = .fz) (w:=w) t X vs (Ty.rep_mono (λ k hk=>by unfold Xha;rw[if_pos hk]) (λ _ _=>rfl) t X vs hr);rw[Afa t X hn];exact Aa.ofRep (S:=bare (Xha w) w) h1 _ _
def Xja {P:Program} {f:FuncId} {en:Ent} (hs:Bfb P f en) {w:World} {us:List Value} {x:Den (en.ps.map Par.ty)} (hc:Zta P w en.ps x us) (hnv:Nat.ble en.ps.length en.nv=true) {r:Den (en.rs.map Prod.snd++Nm en.ps)} (hr:en.run x=some r)
  (hrs:en.rs=[(.one,.b)]) (hl:∃ ls,Fu _ r=[.sc (.bool true)]::ls):Calls P f us.toArray w (λ e w'=>e = .returned (.bool true)∧Below w.heap.size w w'):=by
 have htk:us.take en.nv=us:=Hsb (by rw[Xia hc];exact Vm hnv)
 have hcalls:=hs x r hr w (Xha w) (λ _=>(0,0)) us (λ k hk=>by
  unfold Xha at hk;split at hk
  ·assumption
  ·exact(hk rfl).elim) (λ k b hk=>by
  unfold Xha at hk
  split at hk<;>cases hk) (T2a 0 hc)
 rw[htk]at hcalls;refine W6 hcalls ?_;rintro e w' ⟨v,O',rfl,hF,_,hR,_⟩;obtain⟨ls,hl⟩:=hl;rw[hl]at hR;rw[hrs]at hR;obtain⟨l,ls',e1,h1⟩:=hR;cases e1;have h2:Aa P (bare O' w') (λ _ => .tm 1 []) 0 [.sc (.bool true)] [v]:=h1;have hv:v = .bool true:=h2.1.1;subst hv;exact⟨rfl,hF.os,hF.tape,hF.out,hF.size,λ k hk=>(hF.fz k hk (by unfold Xha;rw[if_pos hk])).2⟩
def Xka {H':Type} {enc:TypeId×Value→H'} {P:Program} {w:World} {base:Nat} {spare:Nat→Bool} {held:Bool} {ti:TypeId→Option TI} (htok:∀ T t,ti T=some t→TOk P T t) (hcl:∀ T,Ul P ti T=true)
  {T:TypeId} {t:TI} (hT:ti T=some t) {v:Value} {d:DataW H'} {p:List MemPlace} {b0:Nat} (hv:Value.okWide P w .any b0 T v) (h:DataW.Trod enc P w base spare held T v d p)
  {ts:List TypeId} {ds:List (DataW H')} (hw:(DataW.weightsEach P ts ds).all (· ≤ reachBytes)=true) {j:Nat} (hj:ts[j]? = some T) (hd:ds[j]? = some d):
  ∃ (X:t.ty.den) (vs:List Value),(if t.ag then v = .agg vs.toArray else vs=[v])∧t.ty.rep P (λ k=>k<w.heap.size) w X vs∧t.ty.fit ti X:=by
 obtain⟨n,hn⟩:=h
 obtain⟨X,r,f⟩:=Era htok hcl n T t _ _ hT hn (λ m hm=>by
  have:=Yt.1 hw m (DataW.weights_mem_each hj hd m hm)
  exact of_decide_eq_true this)
 refine⟨X,_,?_,r,f⟩;have hc:=hcl T;unfold Ul at hc;rw[hT]at hc;unfold Value.okWide at hv;split at hc
 ·rename_i e;cases e
 ·rename_i t0 fs e1 hu;cases e1;simp only[Va]at hc;rw[hc.1];rw[hu]at hv;obtain⟨cs,rfl,_⟩:=hv;simp[Value.cells]
 all_goals first
  |(cases hc;done)
  |(rename_i hu;rw[hu]at hv;simp only[Cell.okWide,hu]at hv;rename_i e1;cases e1;simp only[Xs,if_false];have hsz:=Ty.rep_len _ _ _ r;cases v<;>first|(simp[Value.cells];done)|(simp only[Cell.ok,hu]at hv;done)|(simp[Cell.ok,hu]at hv;done))
end

section
open Go.RowKit
attribute [local irreducible] C H
def lk {α:Type}:List (Nat×α)→Nat→Option α
 |[],_=>none
 |(i,a)::l,n=>bif Nat.beq n i then some a else lk l n
structure LF where
 ins:Fra
 alts:List (Ex×Fra)
 f:Nat→ins.den→Option (W0a alts)
@[reducible] def LF.at (p:LF) (k:Nat):Lp:=⟨p.ins,p.alts,p.f k⟩
structure Fd where
 nt:Nat
 nv:Nat
 nm:List Nat
 res:List Nat
 cs:Nat→List (FuncId×Ent):=λ _=>[]
 ls:List (Nat×LF):=[]
 hint:List (Nat×Ty):=[]
 mv:List Nat:=[]
 gh:List (Nat×List Gh):=[]
 opn:List Nat:=[]
 sh:Bool:=false
 rf:Bool:=false
def Fd.n (D:Fd) (ti:TypeId→Option TI) (eqs:TypeId→Bool) (k:Nat):En:=
 ⟨D.nt,ti,eqs,D.nm.contains,D.res.contains,lk (D.cs k),λ l=>match lk D.ls l with|some p=>some (p.at k)|none=>none,D.nv,lk D.hint,D.mv.contains,λ n=>(lk D.gh n).getD [],D.opn.contains,λ _=>D.sh,D.rf⟩
def Zua {α:Type}:∀ {l:List (Nat×α)} {n:Nat} {a:α},lk l n=some a→n∈l.map Prod.fst
 |[],_,_,h=>by cases h
 |(i,b)::l,n,a,h=>by
  unfold lk at h;cases hb:Nat.beq n i
  case true=>rw[Vh hb];simp
  rw[hb,cond_false]at h;exact Vi _ (Zua h)
def C3b (P:Program):List (FuncId×Ent)→Prop
 |[]=>True
 |c::l=>Q5 P c.1 c.2∧C3b P l
def T3a {P:Program}:∀ {l:List (FuncId×Ent)} {f:FuncId} {en:Ent},C3b P l→lk l f=some en→Q5 P f en
 |[],_,_,_,h=>by cases h
 |(i,a)::l,f,en,hc,h=>by
  unfold lk at h
  cases hb:Nat.beq f i with
  |true=>
   rw[hb,cond_true]at h;cases h;rw[Vh hb];exact hc.1
  |false=>rw[hb,cond_false]at h;exact T3a hc.2 h
@[reducible] def bo (fn:Func):Code:=fn.body.getD .skip
structure Ava (P:Program) (ti:TypeId→Option TI) (eqs:TypeId→Bool):Prop where
 tok:∀ T t,ti T=some t→TOk P T t
 eq:∀ T,eqs T=true→eqB P ti 9 T=true∧(match ti T with|some t=>t.ag|none=>false)=true∧P.eqGuardType P.depth T=false
 mix:P.follows .mixedOrders=true
def LK (P:Program) (fn:Func) (D:Fd) (l:Nat) (p:LF):Prop:=∀ X:Cx,X.P=P→X.nt=fn.ntmps→X.np=D.nv→∀ k,Gta X (p.at k) (M1 l (bo fn))
def C4b (P:Program) (fn:Func) (D:Fd):List Nat→Prop
 |[]=>True
 |l::r=>(match lk D.ls l with|some p=>LK P fn D l p|none=>True)∧C4b P fn D r
def T4a {P:Program} {fn:Func} {D:Fd} {l:Nat} {p:LF} (hp:lk D.ls l=some p):∀ {r:List Nat},C4b P fn D r→l∈r→LK P fn D l p
 |[],_,h=>by cases h
 |i::r,ha,h=>by
  rcases Vl.1 h with rfl|h
  ·have:=ha.1;rw[hp]at this;exact this
  ·exact T4a hp ha.2 h
section
variable {P:Program} {ti:TypeId→Option TI} {eqs:TypeId→Bool} {fn:Func}
def G4b (hS:Ava P ti eqs) {D:Fd} {k:Nat} (hn:Nat.beq D.nt fn.ntmps=true) (hc:C3b P (D.cs k)) {X:Cx} (hP:X.P=P) (hx:X.nt=fn.ntmps) (hp:X.np=D.nv):Aja X (D.n ti eqs k):=
 Erb hP ((Vh hn).trans hx.symm) hp.symm rfl rfl hS.tok hS.eq (λ _ _ h=>T3a hc h)
def Esb (hS:Ava P ti eqs) {D:Fd} {k:Nat} (hn:Nat.beq D.nt fn.ntmps=true) (hc:C3b P (D.cs k)) {X:Cx} (hP:X.P=P) (hx:X.nt=fn.ntmps) (hp:X.np=D.nv):Gua X (D.n ti eqs k):=
 C1b (G4b hS hn hc hP hx hp) (by rw[hP];exact hS.mix)
def Zva {D:Fd} {k:Nat} {c:Code} {ids:List Nat} (h:(Mx c,ids.map λ l=>first (M1 l (bo fn)))=(ids.map λ l=>M1 l (bo fn),ids)) (hi:C4b P fn D ids) {X:Cx} (hP:X.P=P) (hx:X.nt=fn.ntmps) (hp:X.np=D.nv):P3 X (D.n ti eqs k) c:=by
 rw[Vy]at h;refine Xga (b:=bo fn) ids h.1 h.2 λ l hl L hL=>?_;have hL':(match lk D.ls l with|some p=>some (p.at k)|none=>none)=some L:=hL
 cases hp':lk D.ls l with
 |none=>rw[hp']at hL';cases hL'
 |some p=>
  rw[hp']at hL';cases hL';exact T4a hp' hi hl X hP hx hp k
@[reducible] def Gtb (ti:TypeId→Option TI) (eqs:TypeId→Bool) (fn:Func) (D:Fd) (l:Nat) (p:LF):Prop:=∀ k x,Qxa (D.n ti eqs k) (p.at k) (M1 l (bo fn)) x=p.f (k+1) x
def mkL (hS:Ava P ti eqs) {D:Fd} {l:Nat} {p:LF} (ids:List Nat) (hn:Nat.beq D.nt fn.ntmps=true) (hc:∀ k,C3b P (D.cs k)) (hi:C4b P fn D ids) (h:(Mx (M1 l (bo fn)),ids.map λ l=>first (M1 l (bo fn)))=(ids.map λ l=>M1 l (bo fn),ids)) (h0:∀ x,p.f 0 x=none) (hs:Gtb ti eqs fn D l p):LK P fn D l p:=
 λ X hP hx hp=>Bnb (ins:=p.ins) (alts:=p.alts) (f:=p.f) (En':=D.n ti eqs) h0 hs (λ k=>G4b hS hn (hc k) hP hx hp) (λ k=>Esb hS hn (hc k) hP hx hp) (λ k=>Zva h hi hP hx hp)
def G5b (fn:Func) (D:Fd) (en:Ent):Bool:=Nat.beq D.nt fn.ntmps&&(Nat.ble fn.ntmps 1000&&(Nat.ble en.nv fn.ntmps&&(Nat.beq en.nv D.nv&&(fn.body.isSome&&(!(fn.name == "runtime.NumGoroutine")&&K3a en)))))
def mkS (hS:Ava P ti eqs) {f:FuncId} {D:Fd} {k:Nat} {en:Ent} (ids:List Nat) (hf:P.funcs[f]? = some fn) (hc:C3b P (D.cs k)) (hi:C4b P fn D ids) (hk:G5b fn D en=true) (h:(Mx (bo fn),ids.map λ l=>first (M1 l (bo fn)))=(ids.map λ l=>M1 l (bo fn),ids))
  (hr:∀ x,Qya (D.n ti eqs k) (bo fn) fn.results.toList en x=en.run x):Q5 P f en:=by
 unfold G5b at hk;simp only[Va,Vv]at hk;obtain⟨h1,h2,h3,h4,h5,h6,h7⟩:=hk;have h4:=Vh h4
 have hb:fn.body=some (bo fn):=by
  unfold bo
  cases hb:fn.body with
  |none=>rw[hb]at h5;cases h5
  |some c=>rfl
 refine⟨⟨fn,hf,h6,by rw[hb];rfl⟩,P7a hf hb (Vm h2) (Vm h3) (λ X hP hx hp=>?_) (λ X hP hx hp=>?_) (λ X hP hx hp=>?_) h7 hr⟩
 ·exact G4b hS h1 hc hP hx (hp.trans h4)
 ·exact Esb hS h1 hc hP hx (hp.trans h4)
 ·exact Zva h hi hP hx (hp.trans h4)
def G6b {keys Dlb:List Nat} (hk:∀ {T t},ti T=some t→T∈keys) (h1:(keys.all λ T=>(match ti T with|some t=>Fzb P T t|none=>true)&&Ul P ti T)=true)
  (h2:(Dlb.all λ T=>eqB P ti 9 T&&(match ti T with|some t=>t.ag|none=>false)&&!(P.eqGuardType P.depth T))=true) (he:eqs=λ T=>Dlb.contains T) (hm:P.follows .mixedOrders=true):Ava P ti eqs∧∀ T,Ul P ti T=true:=by
 refine⟨⟨λ T t h=>?_,λ T h=>?_,hm⟩,λ T=>?_⟩
 ·have h3:=Yt.1 h1 T (hk h);rw[Va,h]at h3;exact Dyb _ _ _ h3.1
 ·rw[he]at h;have h3:=Yt.1 h2 T (List.elem_iff.1 h);simp only[Va,Vv]at h3;exact⟨h3.1.1,h3.1.2,h3.2⟩
 ·cases h:ti T with
  |none=>unfold Ul;rw[h]
  |some t=>
   have h3:=Yt.1 h1 T (hk h);rw[Va]at h3;exact h3.2
end
end

end Go.Proofs.YtiiekghlhfbmmaaGreat.Vf
