import Derived.Test.YtcpligincipmhaaGreatMai
import Derived.Laws.StructEq
import Derived.Below
import Derived.Test.YtcpligincipmhaaGreatMab
import Derived.Test.YtcpligincipmhaaGreatProg
import Derived.KernelRfl
import Derived.IntWalk
set_option linter.all false
namespace Go.Proofs.YtcpligincipmhaaGreat.Vf
open Go
open List (length getD)
open Int (toNat)
open Go.IntKind (wrap)
open BitVec (ofInt)
def Zva:=@Int.tmod_eq_emod_of_nonneg
def Atb:=@List.all_cons
def B9b:=@Bool.and_true
def C3b:=@BitVec.toNat_ofInt
def Ckb:=@Option.some.inj
def Crb:=@Bool.and_assoc

section
attribute [local irreducible] C H
def eq1:Lf→Lf→Option Bool
 |.sc (.int k x),.sc (.int k' y)=>if k=k' then some (x==y) else none
 |.sc (.bool x),.sc (.bool y)=>some (x==y)
 |.sc (.string x),.sc (.string y)=>some (x==y)
 |_,_=>none
def Pxa (a a':Lf) (l l':List Lf) {b:Bool} (h:Dx (a::l) (a'::l')=some b):∃ b1 b2,eq1 a a'=some b1∧Dx l l'=some b2∧b=(b1&&b2):=by
 unfold Dx at h;split at h
 ·rename_i e _;cases e
 ·rename_i k x k' y e1 e2;cases e1;cases e2
  by_cases hk:k=k'
  ·simp only[hk,decide_true,cond_true,Vc]at h;exact⟨x==y,true,by simp only[eq1,hk,if_true],rfl,by simp[h]⟩
  ·simp[hk]at h
 ·rename_i x y e1 e2;cases e1;cases e2;simp only[Vc]at h;exact⟨_,true,rfl,rfl,by simp[h]⟩
 ·rename_i x y e1 e2;cases e1;cases e2;simp only[Vc]at h;exact⟨_,true,rfl,rfl,by simp[h]⟩
 ·rename_i k x l k' y l' _ e1 e2;cases e1;cases e2
  by_cases hk:k=k'
  ·simp only[hk,decide_true,cond_true]at h;split at h
   ·rename_i b2 hb;simp only[Vc]at h;exact⟨_,b2,by simp only[eq1,hk,if_true],hb,h.symm⟩
   ·cases h
  ·simp[hk]at h
 ·rename_i x l y l' _ e1 e2;cases e1;cases e2;split at h
  ·rename_i b2 hb;simp only[Vc]at h;exact⟨_,b2,rfl,hb,h.symm⟩
  ·cases h
 ·rename_i x l y l' _ e1 e2;cases e1;cases e2;split at h
  ·rename_i b2 hb;simp only[Vc]at h;exact⟨_,b2,rfl,hb,h.symm⟩
  ·cases h
 ·cases h
def W4:∀ (l m l' m':List Lf) (b:Bool),l.length=l'.length→Dx (l++m) (l'++m')=some b→∃ b1 b2,Dx l l'=some b1∧Dx m m'=some b2∧b=(b1&&b2)
 |[],m,[],m',b,_,h=>⟨true,b,rfl,h,by simp⟩
 |[],_,_::_,_,_,hl,_=>by simp at hl
 |_::_,_,[],_,_,hl,_=>by simp at hl
 |a::l,m,a'::l',m',b,hl,h=>by
  obtain⟨b1,b2,h1,h2,rfl⟩:=Pxa a a' (l++m) (l'++m') h;obtain⟨b3,b4,h3,h4,rfl⟩:=W4 l m l' m' b2 (by simpa using hl) h2;refine⟨b1&&b3,b4,?_,h4,by simp[Crb]⟩
  cases a with
  |sc u=>
   cases a' with
   |sc u'=>
    cases u<;>first|(simp[eq1]at h1;done)|skip
    all_goals (cases u'<;>first|(simp[eq1]at h1;done)|skip)
    ·rename_i x y;simp only[eq1,Vc]at h1
     cases l<;>cases l'<;>first|(simp at hl;done)|skip
     ·simp only[Dx,Vc]at h3;simp only[Dx];rw[← h3,← h1,B9b]
     ·simp only[Dx,h3];rw[← h1]
    ·rename_i k x k' y;simp only[eq1]at h1
     by_cases hk:k=k'
     ·rw[if_pos hk]at h1;simp only[Vc]at h1
      cases l<;>cases l'<;>first|(simp at hl;done)|skip
      ·simp only[Dx,Vc]at h3;simp only[Dx,hk,decide_true,cond_true];rw[← h3,← h1,B9b]
      ·simp only[Dx,hk,decide_true,cond_true,h3];rw[← h1]
     ·rw[if_neg hk]at h1;cases h1
    ·rename_i x y;simp only[eq1,Vc]at h1
     cases l<;>cases l'<;>first|(simp at hl;done)|skip
     ·simp only[Dx,Vc]at h3;simp only[Dx];rw[← h3,← h1,B9b]
     ·simp only[Dx,h3];rw[← h1]
   |_=>cases u<;>simp[eq1]at h1
  |_=>simp[eq1]at h1
def eqB (P:Program) (ti:TypeId→Option TI):Nat→TypeId→Bool
 |0,_=>false
 |n+1,T=>match ti T,P.underlying T with
  |some t,some (.struct fs)=>t.ag&&!(P.stoodInHeld T)&&Qn ti fs.toList 0 t.ty&&fs.toList.all (λ f => !(f.name == "_")&&eqB P ti n f.type)
  |some ⟨.i _,false,_,_⟩,some (.int _)=>true
  |some ⟨.b,false,_,_⟩,some .bool=>true
  |some ⟨.s,false,_,_⟩,some .string=>true
  |_,_=>false
section
variable {P:Program} {ti:TypeId→Option TI} {G:Nat→Prop} {w:World}
def Wza (P:Program) (ti:TypeId→Option TI) (G:Nat→Prop) (w:World) (n:Nat):Prop:=
 ∀ T t d (X Y:t.ty.den) (us vs:List Value) (x y:Value) (b:Bool) (w':World),n≤d→eqB P ti n T=true→ti T=some t→Ji (Ik P G w) (A6 t.ty X) us→Ji (Ik P G w) (A6 t.ty Y) vs→Dx (A6 t.ty X) (A6 t.ty Y)=some b→
  (if t.ag then x = .agg us.toArray else us=[x])→(if t.ag then y = .agg vs.toArray else vs=[y])→(Op.equalIn d T x y).run P w' = .ok b w'
def Rz {T:TypeId} {t:TI} (hk:TOk P T t) {us:List Value} {off:Nat} (hl:off+t.ty.sz≤us.length) (w':World):
  ∃ u,(part T us.toArray off).run P w' = .ok u w'∧(if t.ag then u = .agg ((us.drop off).take t.ty.sz).toArray else (us.drop off).take t.ty.sz=[u]):=by
 obtain⟨d,hd,hagg⟩:=Doa hk
 cases ha:t.ag with
 |true=>
  rw[ha]at hagg;refine⟨.agg (us.toArray.extract off (off+t.ty.sz)),?_,?_⟩
  ·unfold part;simp only[Wc,M7 hd hagg,Wb,if_true,Im (Nj hk),Wq]
  ·simp only[if_true];congr 1;apply Cab;rw[Array.toList_extract];simp[List.extract]
 |false=>
  rw[ha]at hagg;have h1:=K3a hk ha
  have hlt:off<us.length:=by omega
  refine⟨us[off],?_,?_⟩
  ·unfold part;simp only[Wc,M7 hd hagg,Wb,Wm,if_false]
   have:us.toArray[off]? = some us[off]:=by simp[hlt]
   rw[this];rfl
  ·simp only[Wm,if_false];rw[h1,Zd hlt];rfl
def Bua (htok:∀ T t,ti T=some t→TOk P T t) {n:Nat} (ih:Wza P ti G w n) {d:Nat} (hd:n≤d) {us vs:List Value} (w':World):
  ∀ (fs:List Field) (o:Nat) (ty:Ty) (X Y:ty.den) (b:Bool),Qn ti fs o ty=true→fs.all (λ f => !(f.name == "_")&&eqB P ti n f.type)=true→o+ty.sz≤us.length→o+ty.sz≤vs.length→
   Ji (Ik P G w) (A6 ty X) ((us.drop o).take ty.sz)→Ji (Ik P G w) (A6 ty Y) ((vs.drop o).take ty.sz)→
   Dx (A6 ty X) (A6 ty Y)=some b→(Op.eqFields d us.toArray vs.toArray fs).run P w' = .ok b w'
 |[],o,ty,X,Y,b,hp,_,_,_,_,_,_=>by cases ty<;>simp[Qn]at hp
 |[f],o,ty,X,Y,b,hp,ha,hl,hl',h0,h0',he=>by
  simp only[Qn,Va]at hp;simp only[Atb,Va,Vy,beq_eq_false_iff_ne]at ha;obtain⟨⟨a1,a2⟩,_⟩:=ha;obtain⟨t,h1,h2⟩:=N7 hp.2;have ho:f.offset=o:=Vd hp.1;subst h2;subst ho;obtain⟨x,hx1,hx2⟩:=Rz (htok _ _ h1) hl w';obtain⟨y,hy1,hy2⟩:=Rz (htok _ _ h1) hl' w';have hr:=ih f.type t d X Y _ _ x y b w' hd a2 h1 h0 h0' he hx2 hy2;simp only[Op.eqFields,ne_eq,a1,not_false_eq_true,if_true,Wc,hx1,hy1,hr,Wb]
  cases b<;>rfl
 |f::g::fs,o,ty,X,Y,b,hp,ha,hl,hl',h0,h0',he=>by
  cases ty<;>first|(simp[Qn]at hp;done)|skip
  rename_i tx tyy;simp only[Qn,Va]at hp;obtain⟨⟨q0,q1⟩,hp⟩:=hp;rw[Atb,Va]at ha;obtain⟨ha0,ha⟩:=ha;simp only[Va,Vy,beq_eq_false_iff_ne]at ha0;obtain⟨a1,a2⟩:=ha0;obtain⟨t,h1,h2⟩:=N7 q1;have ho:f.offset=o:=Vd q0;subst h2;subst ho;have hl2:f.offset+(t.ty.sz+tyy.sz)≤us.length:=hl;have hl2':f.offset+(t.ty.sz+tyy.sz)≤vs.length:=hl';have he2:Dx (A6 t.ty X.1++A6 tyy X.2) (A6 t.ty Y.1++A6 tyy Y.2)=some b:=he;have r0:Ji (Ik P G w) (A6 t.ty X.1++A6 tyy X.2) ((us.drop f.offset).take (t.ty.sz+tyy.sz)):=h0;have r0':Ji (Ik P G w) (A6 t.ty Y.1++A6 tyy Y.2) ((vs.drop f.offset).take (t.ty.sz+tyy.sz)):=h0';have k1:=r0.take t.ty.sz;have k2:=r0.drop t.ty.sz;have k1':=r0'.take t.ty.sz;have k2':=r0'.drop t.ty.sz;have c1:=Gx t.ty X.1;have c1':=Gx t.ty Y.1;rw[← c1,Axb,c1,Alb,Zxa (by omega)]at k1;rw[← c1',Axb,c1',Alb,Zxa (by omega)]at k1'
  have c2:∀ l:List Value,List.drop t.ty.sz (List.take (t.ty.sz+tyy.sz) l)=List.take tyy.sz (List.drop t.ty.sz l):=λ l=>by rw[Ayb];congr 1;omega
  rw[c2,Yo]at k2 k2';rw[show List.drop t.ty.sz (A6 t.ty X.1++A6 tyy X.2)=A6 tyy X.2 by rw[← c1,Zi]]at k2;rw[show List.drop t.ty.sz (A6 t.ty Y.1++A6 tyy Y.2)=A6 tyy Y.2 by rw[← c1',Zi]]at k2';obtain⟨b1,b2,e1,e2,rfl⟩:=W4 _ _ _ _ b (by rw[c1,c1']) he2;obtain⟨x,hx1,hx2⟩:=Rz (htok _ _ h1) (us:=us) (off:=f.offset) (by omega) w';obtain⟨y,hy1,hy2⟩:=Rz (htok _ _ h1) (us:=vs) (off:=f.offset) (by omega) w';have hr:=ih f.type t d X.1 Y.1 _ _ x y b1 w' hd a2 h1 k1 k1' e1 hx2 hy2;have hr2:=Bua htok ih hd w' (g::fs) (f.offset+t.ty.sz) tyy X.2 Y.2 b2 hp ha (by omega) (by omega) k2 k2' e2;rw[Op.eqFields];simp only[ne_eq,a1,not_false_eq_true,if_true,Wc,hx1,hy1,hr,Wb];cases b1
  ·rfl
  ·simpa using hr2
def S8a (htok:∀ T t,ti T=some t→TOk P T t):∀ n,Wza P ti G w n
 |0=>by
  intro T t d X Y us vs x y b w' _ h;simp[eqB]at h
 |n+1=>by
  intro T t d X Y us vs x y b w' hd h hT hl hl' he hx hy;obtain⟨d,rfl⟩:∃ m,d=m+1:=⟨d-1,by omega⟩
  have one:∀ {us:List Value} {x:Value} {z:Lf},us=[x]→Ji (Ik P G w) [z] us→Ik P G w z x:=by
   intro us x z e h;subst e
   cases h with
   |cons a h=>exact a
  unfold eqB at h;rw[hT]at h;split at h
  ·rename_i t0 fs e1 hu;cases e1;simp only[Va,Vy]at h;obtain⟨⟨⟨h1,h2⟩,h3⟩,h4⟩:=h;rw[h1]at hx hy;simp only[if_true]at hx hy;subst hx hy
   have hfs:P.fieldsOf T=fs:=by unfold Program.fieldsOf;rw[hu]
   rw[run_equalIn_struct w' d T _ _ (by rw[hfs];exact hu) h2,hfs];have e1:=hl.len;have e2:=hl'.len;rw[Gx]at e1 e2;exact Bua htok (S8a htok n) (by omega) w' fs.toList 0 t.ty X Y b h3 h4 (by omega) (by omega) (by rw[Yx,← e1,Zv];exact hl) (by rw[Yx,← e2,Zv];exact hl') he
  ·rename_i k by_ fo k' e1 hu;cases e1;simp only[Wm,if_false]at hx hy;have hz:=(one hx hl).1;have hz':=(one hy hl').1;subst hz hz'
   have he':(X==Y)=b:=by simpa[A6,Dx] using he
   rw[← he'];simp[Op.equalIn,run_underlying hu]
  ·rename_i by_ fo e1 hu;cases e1;simp only[Wm,if_false]at hx hy;have hz:=(one hx hl).1;have hz':=(one hy hl').1;subst hz hz'
   have he':(X==Y)=b:=by simpa[A6,Dx] using he
   rw[← he'];simp[Op.equalIn,run_underlying hu]
  ·rename_i by_ fo e1 hu;cases e1;simp only[Wm,if_false]at hx hy;have hz:=(one hx hl).1;have hz':=(one hy hl').1;subst hz hz'
   have he':(X==Y)=b:=by simpa[A6,Dx] using he
   rw[← he'];simp[Op.equalIn,run_underlying hu]
  ·cases h
end
def X0a:∀ (t:Ty) (l l':List Lf) (x:t.den),Mq l=true→mkT t l=some (x,l')→l=A6 t x++l'∧Mq l'=true:=by
 intro t
 induction t with
 |pr p q ihp ihq=>
  intro l l' x h hm;simp only[mkT]at hm;split at hm
  ·rename_i y l1 h1;split at hm
   ·rename_i z l2 h2;cases hm;obtain⟨e1,a1⟩:=ihp _ _ _ h h1;obtain⟨e2,a2⟩:=ihq _ _ _ a1 h2;refine⟨?_,a2⟩;rw[e1,e2,← Vo];rfl
   ·cases hm
  ·cases hm
 |_=>
  intro l l' x h hm
  cases l with
  |nil=>simp[mkT]at hm
  |cons z l=>
   cases z<;>first|(simp[Mq]at h;done)|skip
   rename_i v
   cases v<;>first|(simp[mkT]at hm;done)|skip
   all_goals
    simp only[Mq]at h;simp only[mkT]at hm
    first
     |(simp only[Vc,Vw]at hm;obtain⟨rfl,rfl⟩:=hm;exact⟨rfl,h⟩)
     |(
       rename_i k k' n
       by_cases hk:k=k'
       ·subst hk;simp only[decide_true,cond_true,Vc,Vw]at hm;obtain⟨rfl,rfl⟩:=hm;exact⟨rfl,h⟩
       ·simp[hk]at hm)
def Yca {P:Program} {ti:TypeId→Option TI} (htok:∀ T t,ti T=some t→TOk P T t) {T:TypeId} (h:eqB P ti 9 T=true) (hag:(match ti T with|some t=>t.ag|none=>false)=true) (hg:P.eqGuardType P.depth T=false) (G:Nat→Prop) (w w':World) (x y:Operand) (l l':List Lf) (us vs:List Value) (b:Bool)
  (h1:Ji (Ik P G w) l us) (h2:Ji (Ik P G w) l' vs) (he:Dx l l'=some b) (ha:Mq l=true) (ha':Mq l'=true) (hk:M2 (ti T) l=true) (hk':M2 (ti T) l'=true):
  (Op.equal T (.agg us.toArray) (.agg vs.toArray)).run P w' = .ok b w'∧(eqGuard .eql T x y (.agg us.toArray) (.agg vs.toArray)).run P w' = .ok () w'∧(eqGuard .neq T x y (.agg us.toArray) (.agg vs.toArray)).run P w' = .ok () w':=by
 refine⟨?_,run_eqGuard_agg w' _ T x y _ _ hg,run_eqGuard_agg w' _ T x y _ _ hg⟩;unfold M2 at hk hk';split at hk
 ·rename_i t hT;rw[hT]at hk' hag;simp only at hk' hag
  have key:∀ {l:List Lf},Mq l=true→(mkW t.ty l).isSome=true→∃ X,l=A6 t.ty X:=by
   intro l ha hk;obtain⟨X,hX⟩:=Zh.1 hk;unfold mkW at hX;split at hX
   ·rename_i z hz;cases hX;obtain⟨e1,_⟩:=X0a t.ty l [] _ ha hz;exact⟨_,by rw[e1,Wp]⟩
   ·cases hX
  obtain⟨X,rfl⟩:=key ha hk;obtain⟨Y,rfl⟩:=key ha' hk';exact S8a htok 9 T t Op.maxDepth X Y us vs _ _ b w' (by decide) h hT h1 h2 he (by rw[hag];rfl) (by rw[hag];rfl)
 ·cases hk
end

section
open Go.RowKit
attribute [local irreducible] C H
def Ig:Code→List Code
 |.seq a b=>Ig a++Ig b
 |.cond _ a b=>Ig a++Ig b
 |.block _ c=>Ig c
 |.loop c=>[c]
 |_=>[]
def Lxa {X:Cx} {E:En}:∀ (c:Code),(∀ d∈Ig c,∀ L,E.lp (first d)=some L→Bia X L d)→K7 X E c:=by
 intro c
 induction c with
 |seq a b iha ihb=>exact λ h=>⟨iha λ d hd=>h d (Vx _ hd),ihb λ d hd=>h d (Vn _ hd)⟩
 |cond x a b iha ihb=>exact λ h=>⟨iha λ d hd=>h d (Vx _ hd),ihb λ d hd=>h d (Vn _ hd)⟩
 |block i c ih=>exact λ h=>ih h
 |loop c ih=>exact λ h=>h c (by simp[Ig])
 |_=>exact λ h=>trivial
def Pya {X:Cx} {E:En} {c b:Code} (ids:List Nat) (h1:Ig c=ids.map λ l=>Hr l b) (h2:(ids.map λ l=>first (Hr l b))=ids) (h3:∀ l∈ids,∀ L,E.lp l=some L→Bia X L (Hr l b)):K7 X E c:=by
 refine Lxa c λ d hd L hL=>?_;rw[h1]at hd;obtain⟨l,hl,rfl⟩:=Yt.1 hd
 have:first (Hr l b)=l:=by
  have key:∀ (is:List Nat),(is.map λ l=>first (Hr l b))=is→∀ l∈is,first (Hr l b)=l:=by
   intro is
   induction is with
   |nil=>intro _ l hl;simp at hl
   |cons i is ih=>
    intro e l hl;simp only[Ya,Yf]at e;rcases Vl.1 hl with rfl|hl
    ·exact e.1
    ·exact ih e.2 l hl
  exact key ids h2 l hl
 rw[this]at hL;exact h3 l hl L hL
def X1a {P:Program} {X:Cx} {E:En} {ti:TypeId→Option TI} {eqs:TypeId→Bool} (hP:X.P=P) (h1:E.nt=X.nt) (h2:E.np=X.np) (h3:E.ti=ti) (h4:E.eq=eqs) (htok:∀ T t,ti T=some t→TOk P T t)
  (heq:∀ T,eqs T=true→eqB P ti 9 T=true∧(match ti T with|some t=>t.ag|none=>false)=true∧P.eqGuardType P.depth T=false) (hc:∀ f en,E.call f=some en→Lr P f en):T4 X E:=by
 refine⟨⟨h1,h2,λ T t h=>?_,λ T h G w w' x y l l' us vs b=>?_⟩,λ f en h=>?_⟩
 ·rw[hP];rw[h3]at h;exact htok T t h
 ·rw[hP,h3];rw[h4]at h;obtain⟨e1,e2,e3⟩:=heq T h;exact Yca htok e1 e2 e3 G w w' x y l l' us vs b
 ·rw[hP];exact hc f en h
def Uga {t:Ty} : {ts:List Ty}→t.den→Den ts→Den (t::ts)
 |[],x,_=>x
 |_::_,x,y=>(x,y)
def Bva {t:Ty} {ts:List Ty} {x:t.den} {y:Den ts}:Dv (t::ts) (Uga x y)=A6 t x::Dv ts y:=by
 cases ts<;>rfl
inductive S9a (P:Program) (w:World):(ps:List Par)→Den (ps.map Par.ty)→List Value→Prop
 |nil:S9a P w [] () []
 |cons {ag:Bool} {t:Ty} {ps:List Par} {X:t.den} {Y:Den (ps.map Par.ty)} {u:Value} {us vs:List Value} (hn:Iu t=true) (hu:if ag then u = .agg vs.toArray else vs=[u])
   (hr:t.rep P (λ k=>k<w.heap.size) w X vs) (h:S9a P w ps Y us):S9a P w (.val ag t::ps) (Uga (t:=t) (ts:=ps.map Par.ty) X Y) (u::us)
def Pza (w:World):Nat→Lab:=λ k=>if k<w.heap.size then .fz else .no
def Q0a {P:Program} {w:World}:∀ {ps:List Par} {x:Den (ps.map Par.ty)} {us:List Value},S9a P w ps x us→us.length=ps.length:=by
 intro ps x us h
 induction h with
 |nil=>rfl
 |cons _ _ _ _ ih=>simp[ih]
def Lya {P:Program} {w:World} {rg:Nat→Nat×Nat} {nv:Nat} {hs:List Value}:∀ {ps:List Par} {x:Den (ps.map Par.ty)} {us:List Value} (i:Nat),S9a P w ps x us→Lq P (bare (Pza w) w) rg nv hs i ps (Dv _ x) us:=by
 intro ps x us i h
 induction h generalizing i with
 |nil=>trivial
 |@cons ag t ps X Y u us vs hn hu hr h ih=>
  show Lq P (bare (Pza w) w) rg nv hs i (.val ag t::ps) (Dv (t::ps.map Par.ty) (Uga X Y)) (u::us);rw[Bva];refine⟨⟨vs,hu,?_⟩,ih (i+1)⟩;have h1:=M5 (P:=P) (G:=λ k=>Pza w k = .fz) (w:=w) t X vs (Ty.rep_mono (λ k hk=>by unfold Pza;rw[if_pos hk]) (λ _ _=>rfl) t X vs hr);rw[T0 t X hn];exact A8.ofRep (S:=bare (Pza w) w) h1 _ _
def Q1a {P:Program} {f:FuncId} {en:Ent} (hs:Tta P f en) {w:World} {us:List Value} {x:Den (en.ps.map Par.ty)} (hc:S9a P w en.ps x us) (hnv:Nat.ble en.ps.length en.nv=true) {r:Den (en.rs.map Prod.snd++J2 en.ps)} (hr:en.run x=some r)
  (hrs:en.rs=[(.one,.b)]) (hl:∃ ls,Dv _ r=[.sc (.bool true)]::ls):Calls P f us.toArray w (λ e w'=>e = .returned (.bool true)∧Below w.heap.size w w'):=by
 have htk:us.take en.nv=us:=A2b (by rw[Q0a hc];exact Vk hnv)
 have hcalls:=hs x r hr w (Pza w) (λ _=>(0,0)) us (λ k hk=>by
  unfold Pza at hk;split at hk
  ·assumption
  ·exact(hk rfl).elim) (λ k b hk=>by
  unfold Pza at hk
  split at hk<;>cases hk) (Lya 0 hc)
 rw[htk]at hcalls;refine Qh hcalls ?_;rintro e w' ⟨v,O',rfl,hF,_,hR,_⟩;obtain⟨ls,hl⟩:=hl;rw[hl]at hR;rw[hrs]at hR;obtain⟨l,ls',e1,h1⟩:=hR;cases e1;have h2:A8 P (bare O' w') (λ _ => .tm 1 []) 0 [.sc (.bool true)] [v]:=h1;have hv:v = .bool true:=h2.1.1;subst hv;exact⟨rfl,hF.os,hF.tape,hF.out,hF.size,λ k hk=>(hF.fz k hk (by unfold Pza;rw[if_pos hk])).2⟩
def Q2a {H':Type} {enc:TypeId×Value→H'} {P:Program} {w:World} {base:Nat} {spare:Nat→Bool} {held:Bool} {ti:TypeId→Option TI} (htok:∀ T t,ti T=some t→TOk P T t) (hcl:∀ T,Pl P ti T=true)
  {T:TypeId} {t:TI} (hT:ti T=some t) {v:Value} {d:DataW H'} {p:List MemPlace} {b0:Nat} (hv:Value.okWide P w .any b0 T v) (h:DataW.Trod enc P w base spare held T v d p)
  {ts:List TypeId} {ds:List (DataW H')} (hw:(DataW.weightsEach P ts ds).all (· ≤ reachBytes)=true) {j:Nat} (hj:ts[j]? = some T) (hd:ds[j]? = some d):
  ∃ (X:t.ty.den) (vs:List Value),(if t.ag then v = .agg vs.toArray else vs=[v])∧t.ty.rep P (λ k=>k<w.heap.size) w X vs∧t.ty.fit ti X:=by
 obtain⟨n,hn⟩:=h
 obtain⟨X,r,f⟩:=Y4 htok hcl n T t _ _ hT hn (λ m hm=>by
  have:=Wg.1 hw m (DataW.weights_mem_each hj hd m hm)
  exact of_decide_eq_true this)
 refine⟨X,_,?_,r,f⟩;have hc:=hcl T;unfold Pl at hc;rw[hT]at hc;unfold Value.okWide at hv;split at hc
 ·rename_i e;cases e
 ·rename_i t0 fs e1 hu;cases e1;simp only[Va]at hc;rw[hc.1];rw[hu]at hv;obtain⟨cs,rfl,_⟩:=hv;simp[Value.cells]
 all_goals first
  |(cases hc;done)
  |(rename_i hu;rw[hu]at hv;simp only[Cell.okWide,hu]at hv;rename_i e1;cases e1;simp only[Wm,if_false];have hsz:=Ty.rep_len _ _ _ r;cases v<;>first|(simp[Value.cells];done)|(simp only[Cell.ok,hu]at hv;done)|(simp[Cell.ok,hu]at hv;done))
end

section
open Go.RowKit
attribute [local irreducible] C H
def lk {α:Type}:List (Nat×α)→Nat→Option α
 |[],_=>none
 |(i,a)::l,n=>bif Nat.beq n i then some a else lk l n
structure LF where
 ins:Aga
 alts:List (Ex×Aga)
 f:Nat→ins.den→Option (Oia alts)
@[reducible] def LF.at (p:LF) (k:Nat):Lp:=⟨p.ins,p.alts,p.f k⟩
structure Fd where
 nt:Nat
 nv:Nat
 nm:List Nat
 res:List Nat
 cs:Nat→List (FuncId×Ent):=λ _=>[]
 ls:List (Nat×LF):=[]
 hint:List (Nat×Ty):=[]
 mv:List Nat:=[]
 gh:List (Nat×List Gh):=[]
 opn:List Nat:=[]
 sh:Bool:=false
 rf:Bool:=false
def Fd.n (D:Fd) (ti:TypeId→Option TI) (eqs:TypeId→Bool) (k:Nat):En:=
 ⟨D.nt,ti,eqs,D.nm.contains,D.res.contains,lk (D.cs k),λ l=>match lk D.ls l with|some p=>some (p.at k)|none=>none,D.nv,lk D.hint,D.mv.contains,λ n=>(lk D.gh n).getD [],D.opn.contains,λ _=>D.sh,D.rf⟩
def Saa {α:Type}:∀ {l:List (Nat×α)} {n:Nat} {a:α},lk l n=some a→n∈l.map Prod.fst
 |[],_,_,h=>by cases h
 |(i,b)::l,n,a,h=>by
  unfold lk at h;cases hb:Nat.beq n i
  case true=>rw[Vd hb];simp
  rw[hb,cond_false]at h;exact Vg _ (Saa h)
def Uha (P:Program):List (FuncId×Ent)→Prop
 |[]=>True
 |c::l=>Lr P c.1 c.2∧Uha P l
def Lza {P:Program}:∀ {l:List (FuncId×Ent)} {f:FuncId} {en:Ent},Uha P l→lk l f=some en→Lr P f en
 |[],_,_,_,h=>by cases h
 |(i,a)::l,f,en,hc,h=>by
  unfold lk at h
  cases hb:Nat.beq f i with
  |true=>
   rw[hb,cond_true]at h;cases h;rw[Vd hb];exact hc.1
  |false=>rw[hb,cond_false]at h;exact Lza hc.2 h
@[reducible] def bo (fn:Func):Code:=fn.body.getD .skip
structure Tg (P:Program) (ti:TypeId→Option TI) (eqs:TypeId→Bool):Prop where
 tok:∀ T t,ti T=some t→TOk P T t
 eq:∀ T,eqs T=true→eqB P ti 9 T=true∧(match ti T with|some t=>t.ag|none=>false)=true∧P.eqGuardType P.depth T=false
 mix:P.follows .mixedOrders=true
def LK (P:Program) (fn:Func) (D:Fd) (l:Nat) (p:LF):Prop:=∀ X:Cx,X.P=P→X.nt=fn.ntmps→X.np=D.nv→∀ k,Bia X (p.at k) (Hr l (bo fn))
def Uia (P:Program) (fn:Func) (D:Fd):List Nat→Prop
 |[]=>True
 |l::r=>(match lk D.ls l with|some p=>LK P fn D l p|none=>True)∧Uia P fn D r
def M0a {P:Program} {fn:Func} {D:Fd} {l:Nat} {p:LF} (hp:lk D.ls l=some p):∀ {r:List Nat},Uia P fn D r→l∈r→LK P fn D l p
 |[],_,h=>by cases h
 |i::r,ha,h=>by
  rcases Vl.1 h with rfl|h
  ·have:=ha.1;rw[hp]at this;exact this
  ·exact M0a hp ha.2 h
section
variable {P:Program} {ti:TypeId→Option TI} {eqs:TypeId→Bool} {fn:Func}
def Yda (hS:Tg P ti eqs) {D:Fd} {k:Nat} (hn:Nat.beq D.nt fn.ntmps=true) (hc:Uha P (D.cs k)) {X:Cx} (hP:X.P=P) (hx:X.nt=fn.ntmps) (hp:X.np=D.nv):T4 X (D.n ti eqs k):=
 X1a hP ((Vd hn).trans hx.symm) hp.symm rfl rfl hS.tok hS.eq (λ _ _ h=>Lza hc h)
def X2a (hS:Tg P ti eqs) {D:Fd} {k:Nat} (hn:Nat.beq D.nt fn.ntmps=true) (hc:Uha P (D.cs k)) {X:Cx} (hP:X.P=P) (hx:X.nt=fn.ntmps) (hp:X.np=D.nv):Bja X (D.n ti eqs k):=
 Ufa (Yda hS hn hc hP hx hp) (by rw[hP];exact hS.mix)
def Sba {D:Fd} {k:Nat} {c:Code} {ids:List Nat} (h:(Ig c,ids.map λ l=>first (Hr l (bo fn)))=(ids.map λ l=>Hr l (bo fn),ids)) (hi:Uia P fn D ids) {X:Cx} (hP:X.P=P) (hx:X.nt=fn.ntmps) (hp:X.np=D.nv):K7 X (D.n ti eqs k) c:=by
 rw[Vw]at h;refine Pya (b:=bo fn) ids h.1 h.2 λ l hl L hL=>?_;have hL':(match lk D.ls l with|some p=>some (p.at k)|none=>none)=some L:=hL
 cases hp':lk D.ls l with
 |none=>rw[hp']at hL';cases hL'
 |some p=>
  rw[hp']at hL';cases hL';exact M0a hp' hi hl X hP hx hp k
@[reducible] def Z3a (ti:TypeId→Option TI) (eqs:TypeId→Bool) (fn:Func) (D:Fd) (l:Nat) (p:LF):Prop:=∀ k x,Jra (D.n ti eqs k) (p.at k) (Hr l (bo fn)) x=p.f (k+1) x
def mkL (hS:Tg P ti eqs) {D:Fd} {l:Nat} {p:LF} (ids:List Nat) (hn:Nat.beq D.nt fn.ntmps=true) (hc:∀ k,Uha P (D.cs k)) (hi:Uia P fn D ids) (h:(Ig (Hr l (bo fn)),ids.map λ l=>first (Hr l (bo fn)))=(ids.map λ l=>Hr l (bo fn),ids)) (h0:∀ x,p.f 0 x=none) (hs:Z3a ti eqs fn D l p):LK P fn D l p:=
 λ X hP hx hp=>U1a (ins:=p.ins) (alts:=p.alts) (f:=p.f) (En':=D.n ti eqs) h0 hs (λ k=>Yda hS hn (hc k) hP hx hp) (λ k=>X2a hS hn (hc k) hP hx hp) (λ k=>Sba h hi hP hx hp)
def Yea (fn:Func) (D:Fd) (en:Ent):Bool:=Nat.beq D.nt fn.ntmps&&(Nat.ble fn.ntmps 1000&&(Nat.ble en.nv fn.ntmps&&(Nat.beq en.nv D.nv&&(fn.body.isSome&&(!(fn.name == "runtime.NumGoroutine")&&E3a en)))))
def mkS (hS:Tg P ti eqs) {f:FuncId} {D:Fd} {k:Nat} {en:Ent} (ids:List Nat) (hf:P.funcs[f]? = some fn) (hc:Uha P (D.cs k)) (hi:Uia P fn D ids) (hk:Yea fn D en=true) (h:(Ig (bo fn),ids.map λ l=>first (Hr l (bo fn)))=(ids.map λ l=>Hr l (bo fn),ids))
  (hr:∀ x,Jsa (D.n ti eqs k) (bo fn) fn.results.toList en x=en.run x):Lr P f en:=by
 unfold Yea at hk;simp only[Va,Vy]at hk;obtain⟨h1,h2,h3,h4,h5,h6,h7⟩:=hk;have h4:=Vd h4
 have hb:fn.body=some (bo fn):=by
  unfold bo
  cases hb:fn.body with
  |none=>rw[hb]at h5;cases h5
  |some c=>rfl
 refine⟨⟨fn,hf,h6,by rw[hb];rfl⟩,I9a hf hb (Vk h2) (Vk h3) (λ X hP hx hp=>?_) (λ X hP hx hp=>?_) (λ X hP hx hp=>?_) h7 hr⟩
 ·exact Yda hS h1 hc hP hx (hp.trans h4)
 ·exact X2a hS h1 hc hP hx (hp.trans h4)
 ·exact Sba h hi hP hx (hp.trans h4)
def Yfa {keys Vwa:List Nat} (hk:∀ {T t},ti T=some t→T∈keys) (h1:(keys.all λ T=>(match ti T with|some t=>Y8a P T t|none=>true)&&Pl P ti T)=true)
  (h2:(Vwa.all λ T=>eqB P ti 9 T&&(match ti T with|some t=>t.ag|none=>false)&&!(P.eqGuardType P.depth T))=true) (he:eqs=λ T=>Vwa.contains T) (hm:P.follows .mixedOrders=true):Tg P ti eqs∧∀ T,Pl P ti T=true:=by
 refine⟨⟨λ T t h=>?_,λ T h=>?_,hm⟩,λ T=>?_⟩
 ·have h3:=Wg.1 h1 T (hk h);rw[Va,h]at h3;exact W8a _ _ _ h3.1
 ·rw[he]at h;have h3:=Wg.1 h2 T (List.elem_iff.1 h);simp only[Va,Vy]at h3;exact⟨h3.1.1,h3.1.2,h3.2⟩
 ·cases h:ti T with
  |none=>unfold Pl;rw[h]
  |some t=>
   have h3:=Wg.1 h1 T (hk h);rw[Va]at h3;exact h3.2
end
end

section
open Go.Proofs
@[reducible] def t0:Ty := .sl 9 .s
@[reducible] def t1:Ty := .sl 4 .b
@[reducible] def t2:Ty := .ow 4 .b
@[reducible] def t3:Ty := .sl 5 (.i .u8)
@[reducible] def t4:Ty := .ow 5 (.i .u8)
@[reducible] def t5:Ty := .sl 3 (.i .i64)
@[reducible] def t6:Ty := .ow 3 (.i .i64)
@[reducible] def t7:Ty := .pr .s (.i .u64)
@[reducible] def t8:Ty := .pr (.i .i64) (.i .i64)
@[reducible] def t9:Ty := .sl 97 t5
@[reducible] def t10:Ty := .pr .s t3
@[reducible] def t11:Ty := .pr .s t4
@[reducible] def t12:Ty := .sl 139 t10
@[reducible] def t13:Ty := .ow 139 t10
@[reducible] def t14:Ty := .ow 139 t11
@[reducible] def t15:Ty := .pr (.i .i64) t8
@[reducible] def t16:Ty := .pr (.i .i64) t9
@[reducible] def t17:Ty := .pr (.i .i64) (.ow 97 t6)
@[reducible] def t18:Ty := .pr (.i .i64) (.ow 97 t5)
@[reducible] def t19:Ty := .pr t3 (.pr (.i .i64) .b)
@[reducible] def t20:Ty := .pr t3 t8
@[reducible] def t21:Ty := .sl 88 t15
@[reducible] def t22:Ty := .ow 88 t15
@[reducible] def t23:Ty := .pr (.i .i64) (.pr (.i .i64) (.pr .b (.i .u8)))
@[reducible] def t24:Ty := .pr t15 (.pr .b t3)
@[reducible] def t25:Ty := .pr t15 (.pr .b t4)
@[reducible] def t26:Ty := .pr .s (.pr t15 (.pr .b (.i .i64)))
@[reducible] def t27:Ty := .pr t12 t12
@[reducible] def t28:Ty := .pr t13 t13
@[reducible] def t29:Ty := .pr t14 t14
@[reducible] def t30:Ty := .sl 134 t26
@[reducible] def t31:Ty := .ow 134 t26
@[reducible] def t32:Ty := .pr .s (.pr t24 .b)
@[reducible] def t33:Ty := .pr (.i .i64) (.pr (.i .i64) (.pr .s (.pr t3 (.pr (.i .i64) t5))))
@[reducible] def t34:Ty := .sl 119 t32
@[reducible] def t35:Ty := .ow 119 t32
@[reducible] def t36:Ty := .pr t31 t31
@[reducible] def t37:Ty := .pr (.i .i64) (.pr t27 (.pr t30 t30))
@[reducible] def t38:Ty := .pr (.i .i64) (.pr t28 t36)
@[reducible] def t39:Ty := .pr (.i .i64) (.pr t27 t36)
@[reducible] def t40:Ty := .sl 56 t37
@[reducible] def t41:Ty := .ow 56 t37
@[reducible] def t42:Ty := .pr t41 (.pr t15 (.pr t35 (.ow 9 .s)))
@[reducible] def t43:Ty := .pr t21 (.pr t16 (.pr t40 (.pr t15 (.pr t34 t0))))
@[reducible] def t44:Ty := .pr t22 (.pr t16 t42)
@[reducible] def t45:Ty := .pr t22 (.pr t18 t42)
@[reducible] def t46:Ty := .pr t22 (.pr t16 (.pr t41 (.pr t15 (.pr t35 t0))))
def tiL:List (Nat×TI):=[(2,⟨(.i .i64),false,8,[]⟩),
 (3,⟨(.i .i64),false,8,[]⟩),
 (4,⟨.b,false,1,[]⟩),
 (5,⟨(.i .u8),false,1,[]⟩),
 (6,⟨(.i .u8),false,1,[]⟩),
 (7,⟨t23,true,24,[(0,1,false),(1,1,false),(2,1,false),(3,1,false)]⟩),
 (8,⟨t23,true,24,[(0,1,false),(1,1,false),(2,1,false),(3,1,false)]⟩),
 (9,⟨.s,false,16,[]⟩),
 (10,⟨.s,false,16,[]⟩),
 (11,⟨.s,false,16,[]⟩),
 (12,⟨(.i .u64),false,8,[]⟩),
 (13,⟨t7,true,24,[(0,1,false),(1,1,false)]⟩),
 (14,⟨t7,true,24,[(0,1,false),(1,1,false)]⟩),
 (21,⟨(.i .i32),false,4,[]⟩),
 (22,⟨t3,false,24,[]⟩),
 (24,⟨t21,false,24,[]⟩),
 (25,⟨t9,false,24,[]⟩),
 (26,⟨t16,true,32,[(0,1,false),(1,1,false)]⟩),
 (27,⟨t16,true,32,[(0,1,false),(1,1,false)]⟩),
 (28,⟨t40,false,24,[]⟩),
 (29,⟨t15,true,24,[(0,1,false),(1,1,false),(2,1,false)]⟩),
 (30,⟨t15,true,24,[(0,1,false),(1,1,false),(2,1,false)]⟩),
 (31,⟨t34,false,24,[]⟩),
 (32,⟨t0,false,24,[]⟩),
 (33,⟨t43,true,152,[(0,1,false),(1,2,true),(3,1,false),(4,3,true),(7,1,false),(8,1,false)]⟩),
 (34,⟨t43,true,152,[(0,1,false),(1,2,true),(3,1,false),(4,3,true),(7,1,false),(8,1,false)]⟩),
 (35,⟨t5,false,24,[]⟩),
 (40,⟨t24,true,56,[(0,3,true),(3,1,false),(4,1,false)]⟩),
 (41,⟨t24,true,56,[(0,3,true),(3,1,false),(4,1,false)]⟩),
 (51,⟨t12,false,24,[]⟩),
 (52,⟨t27,true,48,[(0,1,false),(1,1,false)]⟩),
 (53,⟨t27,true,48,[(0,1,false),(1,1,false)]⟩),
 (54,⟨t30,false,24,[]⟩),
 (55,⟨t37,true,104,[(0,1,false),(1,2,true),(3,1,false),(4,1,false)]⟩),
 (56,⟨t37,true,104,[(0,1,false),(1,2,true),(3,1,false),(4,1,false)]⟩),
 (66,⟨t33,true,88,[(0,1,false),(1,1,false),(2,1,false),(3,1,false),(4,1,false),(5,1,false)]⟩),
 (67,⟨t33,true,88,[(0,1,false),(1,1,false),(2,1,false),(3,1,false),(4,1,false),(5,1,false)]⟩),
 (87,⟨t15,true,24,[(0,1,false),(1,1,false),(2,1,false)]⟩),
 (88,⟨t15,true,24,[(0,1,false),(1,1,false),(2,1,false)]⟩),
 (96,⟨t5,true,24,[(0,1,false)]⟩),
 (97,⟨t5,true,24,[(0,1,false)]⟩),
 (110,⟨t20,true,40,[(0,1,false),(1,1,false),(2,1,false)]⟩),
 (111,⟨t20,true,40,[(0,1,false),(1,1,false),(2,1,false)]⟩),
 (118,⟨t32,true,80,[(0,1,false),(1,5,true),(6,1,false)]⟩),
 (119,⟨t32,true,80,[(0,1,false),(1,5,true),(6,1,false)]⟩),
 (133,⟨t26,true,56,[(0,1,false),(1,3,true),(4,1,false),(5,1,false)]⟩),
 (134,⟨t26,true,56,[(0,1,false),(1,3,true),(4,1,false),(5,1,false)]⟩),
 (138,⟨t10,true,40,[(0,1,false),(1,1,false)]⟩),
 (139,⟨t10,true,40,[(0,1,false),(1,1,false)]⟩),
 (146,⟨t19,true,40,[(0,1,false),(1,1,false),(2,1,false)]⟩),
 (147,⟨t19,true,40,[(0,1,false),(1,1,false),(2,1,false)]⟩),
 (186,⟨(.i .u32),false,4,[]⟩),
 (191,⟨(.i .u64),false,8,[]⟩),
 (198,⟨t1,false,24,[]⟩),
 (238,⟨(.i .u8),false,1,[]⟩),
 (239,⟨(.i .u8),false,1,[]⟩),
 (242,⟨(.i .i32),false,4,[]⟩),
 (243,⟨(.i .i32),false,4,[]⟩)]
def ti:TypeId→Option TI:=lk tiL
def Vwa:List Nat:=[29,30,87,88,133,134]
def eqs:TypeId→Bool:=λ T=>Vwa.contains T
def sK:Tg Tryz.prog ti eqs∧∀ T,Pl Tryz.prog ti T=true:=Yfa (P:=Tryz.prog) (ti:=ti) (eqs:=eqs) (keys:=tiL.map Prod.fst) (Vwa:=Vwa) Saa (by kernel_rfl) (by kernel_rfl) rfl (by kernel_rfl)
def sO:Tg Tryz.prog ti eqs:=sK.1
def Zaa:∀ T t,ti T=some t→TOk Tryz.prog T t:=sO.tok
def Zba:∀ T,Pl Tryz.prog ti T=true:=sK.2
abbrev CK:=Lr Tryz.prog
abbrev LL:=LK Tryz.prog
abbrev AC:=Uha Tryz.prog
def mS {f:FuncId} {fn:Func} (D:Fd) (k:Nat) {en:Ent} (ids:List Nat) (hf:Tryz.prog.funcs[f]? = some fn) (hc:AC (D.cs k)) (hi:Uia Tryz.prog fn D ids) (h:(Yea fn D en,Ig (bo fn),ids.map λ l=>first (Hr l (bo fn)))=(true,ids.map λ l=>Hr l (bo fn),ids):=by kernel_rfl) (hr:∀ x,Jsa (D.n ti eqs k) (bo fn) fn.results.toList en x=en.run x:=by intro x;kernel_rfl):CK f en:=mkS sO ids hf hc hi (congrArg Prod.fst h) (congrArg Prod.snd h) hr
def mL {fn:Func} {D:Fd} {l:Nat} {p:LF} (ids:List Nat) (hc:∀ k,AC (D.cs k)) (hi:Uia Tryz.prog fn D ids) (h:(Nat.beq D.nt fn.ntmps,Ig (Hr l (bo fn)),ids.map λ l=>first (Hr l (bo fn)))=(true,ids.map λ l=>Hr l (bo fn),ids):=by kernel_rfl) (h0:∀ x,p.f 0 x=none:=by intro _;rfl) (hs:Z3a ti eqs fn D l p:=by intro k x;kernel_rfl):LL fn D l p:=mkL sO ids (congrArg Prod.fst h) hc hi (congrArg Prod.snd h) h0 hs
def Jg.e (k:Nat):Ent:=⟨1,[(.val false t3)],[(.one,.b)],λ x=>Jg x⟩
def Jg.d:Fd := { nt:=6,nv:=1,nm:=[0,1],res:=[2] }
def Jg.s (k:Nat):CK 7 (Jg.e k):=mS Jg.d k [] Tryz.func7 trivial trivial
def Ba.e (k:Nat):Ent:=⟨3,[(.val false (.i .i64)),(.val false (.i .i64)),(.val false (.i .i64))],[(.one,.b)],λ x=>Ba x.1 x.2.1 x.2.2⟩
def Ba.d:Fd := { nt:=15,nv:=3,nm:=[0,1,2,3,4,5],res:=[6] }
def Ba.s (k:Nat):CK 83 (Ba.e k):=mS Ba.d k [] Tryz.func83 trivial trivial
def Bj.e (k:Nat):Ent:=⟨1,[(.val false t21)],[(.one,.b)],λ x=>Bj k x⟩
def E8.p:LF:=⟨⟨[],[(0,t21),(5,t21),(6,(.i .i64)),(7,(.i .i64))]⟩,[(.ret,⟨[],[(2,.b)]⟩),((.exit 0),⟨[],[(0,t21)]⟩)],λ k x=>E8 k x.1 x.2.1 x.2.2.1 x.2.2.2⟩
def Bj.d:Fd := { nt:=47,nv:=1,nm:=[0,1,3,4],res:=[2],cs:=λ k=>[(83,Ba.e k)],ls:=[(2,E8.p)],rf:=true }
def Bj.a (k:Nat):AC (Bj.d.cs k):=⟨Ba.s k,trivial⟩
def E8.s:LL Tryz.f101 Bj.d 2 E8.p:=mL [] Bj.a trivial
def Bj.s (k:Nat):CK 101 (Bj.e k):=mS Bj.d k [2] Tryz.func101 (Bj.a k) ⟨E8.s,trivial⟩
def Be.e (k:Nat):Ent:=⟨2,[(.val false t5),(.val false (.i .i64))],[(.one,.b)],λ x=>Be k x.1 x.2⟩
def Eo.p:LF:=⟨⟨[],[(1,(.i .i64)),(7,t5),(8,(.i .i64)),(9,(.i .i64))]⟩,[(.ret,⟨[],[(4,.b)]⟩),((.exit 0),⟨[],[]⟩)],λ k x=>Eo k x.1 x.2.1 x.2.2.1 x.2.2.2⟩
def Be.d:Fd := { nt:=17,nv:=2,nm:=[0,1,2,3,5,6],res:=[4],ls:=[(2,Eo.p)],rf:=true }
def Eo.s:LL Tryz.f152 Be.d 2 Eo.p:=mL [] (λ _=>trivial) trivial
def Be.s (k:Nat):CK 152 (Be.e k):=mS Be.d k [2] Tryz.func152 trivial ⟨Eo.s,trivial⟩
def D6.e (k:Nat):Ent:=⟨2,[(.val false t21),(.val false (.i .i64))],[(.agg,t15),(.one,.b)],λ x=>D6 k x.1 x.2⟩
def Fk.p:LF:=⟨⟨[(4,(.bp 4 0 0)),(5999,(.hd 3))],[(1,(.i .i64)),(8,t21),(9,(.i .i64)),(10,(.i .i64)),(5000,t15)]⟩,[(.ret,⟨[(4,(.bp 4 0 0)),(5999,(.hd 3))],[(5,.b),(5000,t15)]⟩),((.exit 0),⟨[(4,(.bp 4 0 0)),(5999,(.hd 3))],[(5000,t15)]⟩)],λ k x=>Fk k x.1 x.2.1 x.2.2.1 x.2.2.2.1 x.2.2.2.2⟩
def D6.d:Fd := { nt:=21,nv:=2,nm:=[0,1,2,3,6,7],res:=[5],ls:=[(2,Fk.p)],rf:=true }
def Fk.s:LL Tryz.f103 D6.d 2 Fk.p:=mL [] (λ _=>trivial) trivial
def D6.s (k:Nat):CK 103 (D6.e k):=mS D6.d k [2] Tryz.func103 trivial ⟨Fk.s,trivial⟩
def C7.e (k:Nat):Ent:=⟨2,[(.val false t5),(.val false t21)],[(.one,t6)],λ x=>C7 k x.1 x.2⟩
def Cl.p:LF:=⟨⟨[],[(1,t21),(5,t6),(10,t5),(11,(.i .i64)),(12,(.i .i64))]⟩,[((.exit 0),⟨[],[(5,t6)]⟩)],λ k x=>Cl k x.1 x.2.1 x.2.2.1 x.2.2.2.1 x.2.2.2.2⟩
def C7.d:Fd := { nt:=37,nv:=2,nm:=[0,1,2,3,5,6,7,8,9],res:=[4],cs:=λ k=>[(103,D6.e k),(152,Be.e k)],ls:=[(3,Cl.p)],rf:=true }
def C7.a (k:Nat):AC (C7.d.cs k):=⟨D6.s k,Be.s k,trivial⟩
def Cl.s:LL Tryz.f159 C7.d 3 Cl.p:=mL [] C7.a trivial
def C7.s (k:Nat):CK 159 (C7.e k):=mS C7.d k [3] Tryz.func159 (C7.a k) ⟨Cl.s,trivial⟩
def Dz.e (k:Nat):Ent:=⟨2,[(.val true t16),(.val false (.i .i64))],[(.one,(.i .i64))],λ x=>Dz k x.1 x.2⟩
def E9.p:LF:=⟨⟨[],[(1,(.i .i64)),(5,(.i .i64)),(11,t9),(12,(.i .i64)),(13,(.i .i64)),(18,t5),(19,(.i .i64)),(20,(.i .i64))]⟩,[((.exit 2),⟨[],[(1,(.i .i64)),(5,(.i .i64)),(11,t9),(12,(.i .i64)),(13,(.i .i64))]⟩)],λ k x=>E9 k x.1 x.2.1 x.2.2.1 x.2.2.2.1 x.2.2.2.2.1 x.2.2.2.2.2.1 x.2.2.2.2.2.2.1 x.2.2.2.2.2.2.2⟩
def Ep.p:LF:=⟨⟨[],[(1,(.i .i64)),(5,(.i .i64)),(11,t9),(12,(.i .i64)),(13,(.i .i64))]⟩,[((.exit 0),⟨[],[(5,(.i .i64))]⟩)],λ k x=>Ep k x.1 x.2.1 x.2.2.1 x.2.2.2.1 x.2.2.2.2⟩
def Dz.d:Fd := { nt:=32,nv:=2,nm:=[0,1,2,3,5,6,7,8,9],res:=[4],ls:=[(6,E9.p),(3,Ep.p)],rf:=true }
def E9.s:LL Tryz.f160 Dz.d 6 E9.p:=mL [] (λ _=>trivial) trivial
def Ep.s:LL Tryz.f160 Dz.d 3 Ep.p:=mL [6] (λ _=>trivial) ⟨E9.s,trivial⟩
def Dz.s (k:Nat):CK 160 (Dz.e k):=mS Dz.d k [3] Tryz.func160 trivial ⟨Ep.s,trivial⟩
def Eg.e (k:Nat):Ent:=⟨3,[(.val true t16),(.val true t5),(.val false t21)],[(.one,(.i .i64))],λ x=>Eg k x.1 x.2.1 x.2.2⟩
def Bf.p:LF:=⟨⟨[(3,(.bp 3 0 0)),(4,(.bp 4 0 0)),(8,(.bp 8 0 0)),(4999,(.hd 2)),(5999,(.hd 1)),(9999,(.hd 3))],[(7,t6),(9,(.i .i64)),(10,.b),(23,t21),(24,(.i .i64)),(25,(.i .i64)),(4000,t16),(5000,t5),(9000,t15)]⟩,[((.exit 0),⟨[(8,(.bp 8 0 0)),(9999,(.hd 3))],[(9000,t15)]⟩)],λ k x=>Bf k x.1 x.2.1 x.2.2.1 x.2.2.2.1 x.2.2.2.2.1 x.2.2.2.2.2.1 x.2.2.2.2.2.2.1 x.2.2.2.2.2.2.2.1 x.2.2.2.2.2.2.2.2⟩
def Eg.d:Fd := { nt:=76,nv:=3,nm:=[0,1,2,3,4,5,7,8,9,10,11,12,13,14],res:=[6],cs:=λ k=>[(101,Bj.e k),(152,Be.e k),(159,C7.e k),(160,Dz.e k)],ls:=[(6,Bf.p)],rf:=true }
def Eg.a (k:Nat):AC (Eg.d.cs k):=⟨Bj.s k,Be.s k,C7.s k,Dz.s k,trivial⟩
def Bf.s:LL Tryz.f111 Eg.d 6 Bf.p:=mL [] Eg.a trivial
def Eg.s (k:Nat):CK 111 (Eg.e k):=mS Eg.d k [6] Tryz.func111 (Eg.a k) ⟨Bf.s,trivial⟩
def El.e (k:Nat):Ent:=⟨3,[(.val false t21),(.val false (.i .i64)),(.val false (.i .i64))],[(.agg,t17),(.one,.b)],λ x=>El k x.1 x.2.1 x.2.2⟩
def Fl.p:LF:=⟨⟨[(6,(.bp 6 0 0)),(8,(.bp 8 0 0)),(7999,(.hd 2)),(9999,(.hd 2))],[(0,t21),(2,(.i .i64)),(9,(.i .i64)),(34,(.i .i64)),(35,(.i .i64)),(44,(.i .i64)),(45,(.i .i64)),(7000,t18),(9000,t17)]⟩,[((.exit 2),⟨[(6,(.bp 6 0 0)),(8,(.bp 8 0 0)),(7999,(.hd 2)),(9999,(.hd 2))],[(0,t21),(2,(.i .i64)),(34,(.i .i64)),(35,(.i .i64)),(7000,t18),(9000,t17)]⟩)],λ k x=>Fl k x.1 x.2.1 x.2.2.1 x.2.2.2.1 x.2.2.2.2.1 x.2.2.2.2.2.1 x.2.2.2.2.2.2.1 x.2.2.2.2.2.2.2.1 x.2.2.2.2.2.2.2.2⟩
def Fm.p:LF:=⟨⟨[(6,(.bp 6 0 0)),(8,(.bp 8 0 0)),(7999,(.hd 2)),(9999,(.hd 2))],[(0,t21),(2,(.i .i64)),(34,(.i .i64)),(35,(.i .i64)),(7000,t18),(9000,t17)]⟩,[((.exit 0),⟨[(6,(.bp 6 0 0)),(8,(.bp 8 0 0)),(7999,(.hd 2)),(9999,(.hd 2))],[(7000,t18),(9000,t17)]⟩)],λ k x=>Fm k x.1 x.2.1 x.2.2.1 x.2.2.2.1 x.2.2.2.2.1 x.2.2.2.2.2⟩
def El.d:Fd := { nt:=70,nv:=3,nm:=[0,1,2,3,4,5,8,9,10,11],res:=[7],cs:=λ k=>[(83,Ba.e k),(101,Bj.e k),(111,Eg.e k)],ls:=[(9,Fl.p),(5,Fm.p)],hint:=[(41,t6),(42,t6)],mv:=[69],gh:=[(12,[.od 10 3001]),(1000010,[.cl 9001])],rf:=true }
def El.a (k:Nat):AC (El.d.cs k):=⟨Ba.s k,Bj.s k,Eg.s k,trivial⟩
def Fl.s:LL Tryz.f51 El.d 9 Fl.p:=mL [] El.a trivial
def Fm.s:LL Tryz.f51 El.d 5 Fm.p:=mL [9] El.a ⟨Fl.s,trivial⟩
def El.s (k:Nat):CK 51 (El.e k):=mS El.d k [5] Tryz.func51 (El.a k) ⟨Fm.s,trivial⟩
def Gb.e (k:Nat):Ent:=⟨1,[(.val false (.i .i64))],[(.agg,t38)],λ x=>Gb x⟩
def Gb.d:Fd := { nt:=9,nv:=1,nm:=[0,1],res:=[],cs:=λ k=>[(83,Ba.e k)],rf:=true }
def Gb.s (k:Nat):CK 52 (Gb.e k):=mS Gb.d k [] Tryz.func52 ⟨Ba.s k,trivial⟩ trivial
def Ch.e (k:Nat):Ent:=⟨3,[(.val false t21),(.val false (.i .i64)),(.val false (.i .i64))],[(.agg,t44)],λ x=>Ch k x.1 x.2.1 x.2.2⟩
def Da.p:LF:=⟨⟨[(6,(.bp 6 0 0)),(9,(.bp 9 0 0)),(7999,(.hd 9)),(10999,(.hd 9))],[(26,t21),(27,(.i .i64)),(28,(.i .i64)),(7000,t45),(10000,t44)]⟩,[((.exit 0),⟨[(6,(.bp 6 0 0)),(9,(.bp 9 0 0)),(7999,(.hd 9)),(10999,(.hd 9))],[(7000,t45),(10000,t44)]⟩)],λ k x=>Da k x.1 x.2.1 x.2.2.1 x.2.2.2.1 x.2.2.2.2⟩
def Ch.d:Fd := { nt:=42,nv:=3,nm:=[0,1,2,3,4,5,7,8,9,10,11],res:=[],cs:=λ k=>[(51,El.e k),(52,Gb.e k)],ls:=[(6,Da.p)],mv:=[41],rf:=true }
def Ch.a (k:Nat):AC (Ch.d.cs k):=⟨El.s k,Gb.s k,trivial⟩
def Da.s:LL Tryz.f15 Ch.d 6 Da.p:=mL [] Ch.a trivial
def Ch.s (k:Nat):CK 15 (Ch.e k):=mS Ch.d k [6] Tryz.func15 (Ch.a k) ⟨Da.s,trivial⟩
def Ae.e (k:Nat):Ent:=⟨1,[(.val false .s)],[(.one,.b)],λ x=>Ae k x⟩
def Ah.p:LF:=⟨⟨[],[(0,.s),(3,(.i .i64))]⟩,[(.ret,⟨[],[(2,.b)]⟩),((.exit 0),⟨[],[(0,.s)]⟩)],λ k x=>Ah k x.1 x.2⟩
def Ae.d:Fd := { nt:=45,nv:=1,nm:=[0,1,3,4],res:=[2],cs:=λ k=>[(83,Ba.e k)],ls:=[(2,Ah.p)] }
def Ae.a (k:Nat):AC (Ae.d.cs k):=⟨Ba.s k,trivial⟩
def Ah.s:LL Tryz.f41 Ae.d 2 Ah.p:=mL [] Ae.a trivial
def Ae.s (k:Nat):CK 41 (Ae.e k):=mS Ae.d k [2] Tryz.func41 (Ae.a k) ⟨Ah.s,trivial⟩
def Ec.e (k:Nat):Ent:=⟨1,[(.val false t5)],[(.one,.b)],λ x=>Ec k x⟩
def Fn.p:LF:=⟨⟨[],[(0,t5),(5,t5),(6,(.i .i64)),(7,(.i .i64))]⟩,[(.ret,⟨[],[(2,.b)]⟩),((.exit 0),⟨[],[]⟩)],λ k x=>Fn k x.1 x.2.1 x.2.2.1 x.2.2.2⟩
def Ec.d:Fd := { nt:=18,nv:=1,nm:=[0,1,3,4],res:=[2],cs:=λ k=>[(152,Be.e k)],ls:=[(2,Fn.p)],rf:=true }
def Ec.a (k:Nat):AC (Ec.d.cs k):=⟨Be.s k,trivial⟩
def Fn.s:LL Tryz.f102 Ec.d 2 Fn.p:=mL [] Ec.a trivial
def Ec.s (k:Nat):CK 102 (Ec.e k):=mS Ec.d k [2] Tryz.func102 (Ec.a k) ⟨Fn.s,trivial⟩
def Dr.e (k:Nat):Ent:=⟨2,[(.val true t16),(.val false t21)],[(.one,.b)],λ x=>Dr k x.1 x.2⟩
def Er.p:LF:=⟨⟨[(2,(.bp 2 0 0)),(3999,(.hd 2))],[(1,t21),(28,t9),(29,(.i .i64)),(30,(.i .i64)),(47,t5),(48,(.i .i64)),(49,(.i .i64)),(3000,t16)]⟩,[(.ret,⟨[],[(4,.b)]⟩),((.exit 2),⟨[(2,(.bp 2 0 0)),(3999,(.hd 2))],[(1,t21),(28,t9),(29,(.i .i64)),(30,(.i .i64)),(3000,t16)]⟩)],λ k x=>Er k x.1 x.2.1 x.2.2.1 x.2.2.2.1 x.2.2.2.2.1 x.2.2.2.2.2.1 x.2.2.2.2.2.2.1 x.2.2.2.2.2.2.2⟩
def Es.p:LF:=⟨⟨[(2,(.bp 2 0 0)),(3999,(.hd 2))],[(1,t21),(28,t9),(29,(.i .i64)),(30,(.i .i64)),(3000,t16)]⟩,[(.ret,⟨[],[(4,.b)]⟩),((.exit 0),⟨[],[]⟩)],λ k x=>Es k x.1 x.2.1 x.2.2.1 x.2.2.2.1 x.2.2.2.2⟩
def Dr.d:Fd := { nt:=63,nv:=2,nm:=[0,1,2,3,5,6,7,8,9,10],res:=[4],cs:=λ k=>[(83,Ba.e k),(101,Bj.e k),(102,Ec.e k),(103,D6.e k)],ls:=[(9,Er.p),(4,Es.p)],rf:=true }
def Dr.a (k:Nat):AC (Dr.d.cs k):=⟨Ba.s k,Bj.s k,Ec.s k,D6.s k,trivial⟩
def Er.s:LL Tryz.f45 Dr.d 9 Er.p:=mL [] Dr.a trivial
def Es.s:LL Tryz.f45 Dr.d 4 Es.p:=mL [9] Dr.a ⟨Er.s,trivial⟩
def Dr.s (k:Nat):CK 45 (Dr.e k):=mS Dr.d k [4] Tryz.func45 (Dr.a k) ⟨Es.s,trivial⟩
def Bo.e (k:Nat):Ent:=⟨1,[(.val true t15)],[(.one,.b)],λ x=>Bo x⟩
def Bo.d:Fd := { nt:=16,nv:=1,nm:=[0,1],res:=[2],cs:=λ k=>[(83,Ba.e k)] }
def Bo.s (k:Nat):CK 46 (Bo.e k):=mS Bo.d k [] Tryz.func46 ⟨Ba.s k,trivial⟩ trivial
def Am.e (k:Nat):Ent:=⟨2,[(.val true t15),(.val true t15)],[(.one,.b)],λ x=>Am x.1 x.2⟩
def Am.d:Fd := { nt:=32,nv:=2,nm:=[0,1,2,3],res:=[4] }
def Am.s (k:Nat):CK 100 (Am.e k):=mS Am.d k [] Tryz.func100 trivial trivial
def Cm.e (k:Nat):Ent:=⟨1,[(.val true t24)],[(.one,.b)],λ x=>Cm x⟩
def Cm.d:Fd := { nt:=23,nv:=1,nm:=[0,1],res:=[2],cs:=λ k=>[(46,Bo.e k)] }
def Cm.s (k:Nat):CK 104 (Cm.e k):=mS Cm.d k [] Tryz.func104 ⟨Bo.s k,trivial⟩ trivial
def Ci.e (k:Nat):Ent:=⟨1,[(.val true t43)],[(.one,.b)],λ x=>Ci k x⟩
def Db.p:LF:=⟨⟨[(1,(.bp 1 0 0)),(2999,(.hd 9))],[(6,t34),(7,(.i .i64)),(8,(.i .i64)),(2000,t43)]⟩,[(.ret,⟨[],[(2,.b)]⟩),((.exit 0),⟨[(1,(.bp 1 0 0)),(2999,(.hd 9))],[(2000,t43)]⟩)],λ k x=>Db k x.1 x.2.1 x.2.2.1 x.2.2.2⟩
def Ci.d:Fd := { nt:=35,nv:=1,nm:=[0,1,3,4],res:=[2],cs:=λ k=>[(41,Ae.e k),(100,Am.e k),(104,Cm.e k)],ls:=[(2,Db.p)],rf:=true }
def Ci.a (k:Nat):AC (Ci.d.cs k):=⟨Ae.s k,Am.s k,Cm.s k,trivial⟩
def Db.s:LL Tryz.f47 Ci.d 2 Db.p:=mL [] Ci.a trivial
def Ci.s (k:Nat):CK 47 (Ci.e k):=mS Ci.d k [2] Tryz.func47 (Ci.a k) ⟨Db.s,trivial⟩
def Gk.e (k:Nat):Ent:=⟨1,[(.val true t26)],[(.one,.b)],λ x=>Gk k x⟩
def Gk.d:Fd := { nt:=26,nv:=1,nm:=[0,1],res:=[2],cs:=λ k=>[(41,Ae.e k),(46,Bo.e k),(83,Ba.e k)] }
def Gk.s (k:Nat):CK 105 (Gk.e k):=mS Gk.d k [] Tryz.func105 ⟨Ae.s k,Bo.s k,Ba.s k,trivial⟩ trivial
def D0.e (k:Nat):Ent:=⟨1,[(.val false t12)],[(.one,.b)],λ x=>D0 k x⟩
def Dc.p:LF:=⟨⟨[],[(0,t12),(5,t12),(6,(.i .i64)),(7,(.i .i64))]⟩,[(.ret,⟨[],[(2,.b)]⟩),((.exit 0),⟨[],[(0,t12)]⟩)],λ k x=>Dc k x.1 x.2.1 x.2.2.1 x.2.2.2⟩
def D0.d:Fd := { nt:=41,nv:=1,nm:=[0,1,3,4],res:=[2],cs:=λ k=>[(41,Ae.e k)],ls:=[(2,Dc.p)] }
def D0.a (k:Nat):AC (D0.d.cs k):=⟨Ae.s k,trivial⟩
def Dc.s:LL Tryz.f153 D0.d 2 Dc.p:=mL [] D0.a trivial
def D0.s (k:Nat):CK 153 (D0.e k):=mS D0.d k [2] Tryz.func153 (D0.a k) ⟨Dc.s,trivial⟩
def Ap.e (k:Nat):Ent:=⟨1,[(.val true t27)],[(.one,.b)],λ x=>Ap k x⟩
def Ap.d:Fd := { nt:=11,nv:=1,nm:=[0,1],res:=[2],cs:=λ k=>[(153,D0.e k)] }
def Ap.s (k:Nat):CK 106 (Ap.e k):=mS Ap.d k [] Tryz.func106 ⟨D0.s k,trivial⟩ trivial
def D8.e (k:Nat):Ent:=⟨1,[(.val false t30)],[(.one,.b)],λ x=>D8 k x⟩
def Ea.p:LF:=⟨⟨[],[(0,t30),(5,t30),(6,(.i .i64)),(7,(.i .i64))]⟩,[(.ret,⟨[],[(2,.b)]⟩),((.exit 0),⟨[],[(0,t30)]⟩)],λ k x=>Ea k x.1 x.2.1 x.2.2.1 x.2.2.2⟩
def D8.d:Fd := { nt:=34,nv:=1,nm:=[0,1,3,4],res:=[2],cs:=λ k=>[(105,Gk.e k)],ls:=[(2,Ea.p)] }
def D8.a (k:Nat):AC (D8.d.cs k):=⟨Gk.s k,trivial⟩
def Ea.s:LL Tryz.f107 D8.d 2 Ea.p:=mL [] D8.a trivial
def D8.s (k:Nat):CK 107 (D8.e k):=mS D8.d k [2] Tryz.func107 (D8.a k) ⟨Ea.s,trivial⟩
def B5.e (k:Nat):Ent:=⟨1,[(.val true t37)],[(.one,.b)],λ x=>B5 k x⟩
def Et.p:LF:=⟨⟨[(1,(.bp 1 0 0)),(2999,(.hd 5))],[(6,t30),(7,(.i .i64)),(8,(.i .i64)),(2000,(.i .i64)),(2001,t12),(2002,t12),(2003,t30),(2004,t30)]⟩,[(.ret,⟨[],[(2,.b)]⟩),((.exit 0),⟨[(1,(.bp 1 0 0)),(2999,(.hd 5))],[(2000,(.i .i64)),(2001,t12),(2002,t12),(2003,t30),(2004,t30)]⟩)],λ k x=>Et k x.1 x.2.1 x.2.2.1 x.2.2.2.1 x.2.2.2.2.1 x.2.2.2.2.2.1 x.2.2.2.2.2.2.1 x.2.2.2.2.2.2.2⟩
def B5.d:Fd := { nt:=35,nv:=1,nm:=[0,1,3,4],res:=[2],cs:=λ k=>[(83,Ba.e k),(105,Gk.e k),(106,Ap.e k),(107,D8.e k)],ls:=[(2,Et.p)] }
def B5.a (k:Nat):AC (B5.d.cs k):=⟨Ba.s k,Gk.s k,Ap.s k,D8.s k,trivial⟩
def Et.s:LL Tryz.f48 B5.d 2 Et.p:=mL [] B5.a trivial
def B5.s (k:Nat):CK 48 (B5.e k):=mS B5.d k [2] Tryz.func48 (B5.a k) ⟨Et.s,trivial⟩
def B9.e (k:Nat):Ent:=⟨1,[(.val true t43)],[(.one,.b)],λ x=>B9 k x⟩
def C1.p:LF:=⟨⟨[(1,(.bp 1 0 0)),(2999,(.hd 9))],[(57,t0),(58,(.i .i64)),(59,(.i .i64)),(2000,t43)]⟩,[(.ret,⟨[],[(2,.b)]⟩),((.exit 2),⟨[],[]⟩)],λ k x=>C1 k x.1 x.2.1 x.2.2.1 x.2.2.2⟩
def Dd.p:LF:=⟨⟨[(1,(.bp 1 0 0)),(2999,(.hd 9))],[(34,t40),(35,(.i .i64)),(36,(.i .i64)),(2000,t43)]⟩,[(.ret,⟨[],[(2,.b)]⟩),((.exit 0),⟨[(1,(.bp 1 0 0)),(2999,(.hd 9))],[(2000,t43)]⟩)],λ k x=>Dd k x.1 x.2.1 x.2.2.1 x.2.2.2⟩
def B9.d:Fd := { nt:=82,nv:=1,nm:=[0,1,3,4,5,6],res:=[2],cs:=λ k=>[(41,Ae.e k),(45,Dr.e k),(46,Bo.e k),(47,Ci.e k),(48,B5.e k)],ls:=[(10,C1.p),(4,Dd.p)],rf:=true }
def B9.a (k:Nat):AC (B9.d.cs k):=⟨Ae.s k,Dr.s k,Bo.s k,Ci.s k,B5.s k,trivial⟩
def C1.s:LL Tryz.f12 B9.d 10 C1.p:=mL [] B9.a trivial
def Dd.s:LL Tryz.f12 B9.d 4 Dd.p:=mL [] B9.a trivial
def B9.s (k:Nat):CK 12 (B9.e k):=mS B9.d k [4,10] Tryz.func12 (B9.a k) ⟨Dd.s,C1.s,trivial⟩
def Bm.e (k:Nat):Ent:=⟨1,[(.val false t5)],[(.one,t6)],λ x=>Bm x⟩
def Bm.d:Fd := { nt:=5,nv:=1,nm:=[0,1],res:=[2],rf:=true }
def Bm.s (k:Nat):CK 56 (Bm.e k):=mS Bm.d k [] Tryz.func56 trivial trivial
def C8.e (k:Nat):Ent:=⟨1,[(.val true t16)],[(.agg,t18)],λ x=>C8 k x⟩
def Ck.p:LF:=⟨⟨[(2,(.bp 2 0 0)),(3,(.bp 3 0 0)),(3999,(.hd 2)),(4999,(.hd 2))],[(10,t9),(11,(.i .i64)),(12,(.i .i64)),(3000,t18),(4000,t18)]⟩,[((.exit 0),⟨[(2,(.bp 2 0 0)),(3,(.bp 3 0 0)),(3999,(.hd 2)),(4999,(.hd 2))],[(3000,t18),(4000,t18)]⟩)],λ k x=>Ck k x.1 x.2.1 x.2.2.1 x.2.2.2.1 x.2.2.2.2⟩
def C8.d:Fd := { nt:=27,nv:=1,nm:=[0,1,3,4,5],res:=[],cs:=λ k=>[(56,Bm.e k)],ls:=[(3,Ck.p)],mv:=[26],rf:=true }
def C8.a (k:Nat):AC (C8.d.cs k):=⟨Bm.s k,trivial⟩
def Ck.s:LL Tryz.f80 C8.d 3 Ck.p:=mL [] C8.a trivial
def C8.s (k:Nat):CK 80 (C8.e k):=mS C8.d k [3] Tryz.func80 (C8.a k) ⟨Ck.s,trivial⟩
def C9.e (k:Nat):Ent:=⟨1,[(.val true t16)],[(.agg,t17)],λ x=>C9 k x⟩
def Gl.p:LF:=⟨⟨[(2,(.bp 2 0 0)),(3,(.bp 3 0 0)),(3999,(.hd 2)),(4999,(.hd 2))],[(10,t9),(11,(.i .i64)),(12,(.i .i64)),(3000,t18),(4000,t17)]⟩,[((.exit 0),⟨[(2,(.bp 2 0 0)),(3,(.bp 3 0 0)),(3999,(.hd 2)),(4999,(.hd 2))],[(3000,t18),(4000,t17)]⟩)],λ k x=>Gl k x.1 x.2.1 x.2.2.1 x.2.2.2.1 x.2.2.2.2⟩
def C9.d:Fd := { nt:=27,nv:=1,nm:=[0,1,3,4,5],res:=[],cs:=λ k=>[(56,Bm.e k)],ls:=[(3,Gl.p)],hint:=[(22,t6),(23,t6)],mv:=[26],rf:=true }
def C9.a (k:Nat):AC (C9.d.cs k):=⟨Bm.s k,trivial⟩
def Gl.s:LL Tryz.f80 C9.d 3 Gl.p:=mL [] C9.a trivial
def C9.s (k:Nat):CK 80 (C9.e k):=mS C9.d k [3] Tryz.func80 (C9.a k) ⟨Gl.s,trivial⟩
def Ac.e (k:Nat):Ent:=⟨1,[(.val false t30)],[(.one,t31)],λ x=>Ac x⟩
def Ac.d:Fd := { nt:=5,nv:=1,nm:=[0,1],res:=[2] }
def Ac.s (k:Nat):CK 120 (Ac.e k):=mS Ac.d k [] Tryz.func120 trivial trivial
def A9.e (k:Nat):Ent:=⟨1,[(.val false t3)],[(.one,t4)],λ x=>A9 x⟩
def A9.d:Fd := { nt:=5,nv:=1,nm:=[0,1],res:=[2] }
def A9.s (k:Nat):CK 55 (A9.e k):=mS A9.d k [] Tryz.func55 trivial trivial
def Av.e (k:Nat):Ent:=⟨1,[(.val false t12)],[(.one,t13)],λ x=>Av k x⟩
def C2.p:LF:=⟨⟨[],[(3,t13),(6,t12),(7,(.i .i64)),(8,(.i .i64))]⟩,[((.exit 0),⟨[],[(3,t13)]⟩)],λ k x=>C2 k x.1 x.2.1 x.2.2.1 x.2.2.2⟩
def Av.d:Fd := { nt:=23,nv:=1,nm:=[0,1,3,4,5],res:=[2],cs:=λ k=>[(55,A9.e k)],ls:=[(3,C2.p)] }
def Av.a (k:Nat):AC (Av.d.cs k):=⟨A9.s k,trivial⟩
def C2.s:LL Tryz.f189 Av.d 3 C2.p:=mL [] Av.a trivial
def Av.s (k:Nat):CK 189 (Av.e k):=mS Av.d k [3] Tryz.func189 (Av.a k) ⟨C2.s,trivial⟩
def C3.e (k:Nat):Ent:=⟨1,[(.val false t12)],[(.one,t14)],λ x=>C3 k x⟩
def G6.p:LF:=⟨⟨[],[(3,t14),(6,t12),(7,(.i .i64)),(8,(.i .i64))]⟩,[((.exit 0),⟨[],[(3,t14)]⟩)],λ k x=>G6 k x.1 x.2.1 x.2.2.1 x.2.2.2⟩
def C3.d:Fd := { nt:=23,nv:=1,nm:=[0,1,3,4,5],res:=[2],cs:=λ k=>[(55,A9.e k)],ls:=[(3,G6.p)],hint:=[(19,t11),(20,t11)] }
def C3.a (k:Nat):AC (C3.d.cs k):=⟨A9.s k,trivial⟩
def G6.s:LL Tryz.f189 C3.d 3 G6.p:=mL [] C3.a trivial
def C3.s (k:Nat):CK 189 (C3.e k):=mS C3.d k [3] Tryz.func189 (C3.a k) ⟨G6.s,trivial⟩
def A4.e (k:Nat):Ent:=⟨1,[(.val true t27)],[(.agg,t28)],λ x=>A4 k x⟩
def A4.d:Fd := { nt:=10,nv:=1,nm:=[0,1],res:=[],cs:=λ k=>[(189,Av.e k)] }
def A4.s (k:Nat):CK 142 (A4.e k):=mS A4.d k [] Tryz.func142 ⟨Av.s k,trivial⟩ trivial
def Fo.e (k:Nat):Ent:=⟨1,[(.val true t27)],[(.agg,t29)],λ x=>Fo k x⟩
def Fo.d:Fd := { nt:=10,nv:=1,nm:=[0,1],res:=[],cs:=λ k=>[(189,C3.e k)] }
def Fo.s (k:Nat):CK 142 (Fo.e k):=mS Fo.d k [] Tryz.func142 ⟨C3.s k,trivial⟩ trivial
def Ai.e (k:Nat):Ent:=⟨1,[(.val true t37)],[(.agg,t38)],λ x=>Ai k x⟩
def Ai.d:Fd := { nt:=15,nv:=1,nm:=[0,1],res:=[],cs:=λ k=>[(120,Ac.e k),(142,A4.e k)] }
def Ai.s (k:Nat):CK 81 (Ai.e k):=mS Ai.d k [] Tryz.func81 ⟨Ac.s k,A4.s k,trivial⟩ trivial
def Dt.e (k:Nat):Ent:=⟨1,[(.val true t24)],[(.agg,t25)],λ x=>Dt x⟩
def Dt.d:Fd := { nt:=8,nv:=1,nm:=[0,1],res:=[],cs:=λ k=>[(55,A9.e k)],mv:=[7],rf:=true }
def Dt.s (k:Nat):CK 82 (Dt.e k):=mS Dt.d k [] Tryz.func82 ⟨A9.s k,trivial⟩ trivial
def Aq.e (k:Nat):Ent:=⟨1,[(.val true t43)],[(.agg,t45)],λ x=>Aq k x⟩
def Cn.p:LF:=⟨⟨[(2,(.bp 2 0 0)),(3,(.bp 3 0 0)),(3999,(.hd 9)),(4999,(.hd 9))],[(36,t34),(37,(.i .i64)),(38,(.i .i64)),(3000,t45),(4000,t45)]⟩,[((.exit 2),⟨[(2,(.bp 2 0 0)),(3,(.bp 3 0 0)),(3999,(.hd 9)),(4999,(.hd 9))],[(3000,t45),(4000,t45)]⟩)],λ k x=>Cn k x.1 x.2.1 x.2.2.1 x.2.2.2.1 x.2.2.2.2⟩
def Co.p:LF:=⟨⟨[(1,(.bp 1 0 0)),(2,(.bp 2 0 0)),(3,(.bp 3 0 0)),(2999,(.hd 9)),(3999,(.hd 9)),(4999,(.hd 9))],[(21,t40),(22,(.i .i64)),(23,(.i .i64)),(2000,t43),(3000,t45),(4000,t45)]⟩,[((.exit 0),⟨[(1,(.bp 1 0 0)),(2,(.bp 2 0 0)),(3,(.bp 3 0 0)),(2999,(.hd 9)),(3999,(.hd 9)),(4999,(.hd 9))],[(2000,t43),(3000,t45),(4000,t45)]⟩)],λ k x=>Co k x.1 x.2.1 x.2.2.1 x.2.2.2.1 x.2.2.2.2.1 x.2.2.2.2.2⟩
def Aq.d:Fd := { nt:=54,nv:=1,nm:=[0,1,3,4,5,6,7],res:=[],cs:=λ k=>[(80,C8.e k),(81,Ai.e k),(82,Dt.e k)],ls:=[(8,Cn.p),(3,Co.p)],mv:=[53],rf:=true }
def Aq.a (k:Nat):AC (Aq.d.cs k):=⟨C8.s k,Ai.s k,Dt.s k,trivial⟩
def Cn.s:LL Tryz.f36 Aq.d 8 Cn.p:=mL [] Aq.a trivial
def Co.s:LL Tryz.f36 Aq.d 3 Co.p:=mL [] Aq.a trivial
def Aq.s (k:Nat):CK 36 (Aq.e k):=mS Aq.d k [3,8] Tryz.func36 (Aq.a k) ⟨Co.s,Cn.s,trivial⟩
def D5.e (k:Nat):Ent:=⟨2,[(.val false t5),(.val false (.i .i64))],[(.one,(.i .i64))],λ x=>D5 x.1 x.2⟩
def D5.d:Fd := { nt:=20,nv:=2,nm:=[0,1,2,3],res:=[4],cs:=λ k=>[(83,Ba.e k)],rf:=true }
def D5.s (k:Nat):CK 61 (D5.e k):=mS D5.d k [] Tryz.func61 ⟨Ba.s k,trivial⟩ trivial
def Hy.e (k:Nat):Ent:=⟨1,[(.val false .s)],[(.one,(.i .i64))],λ x=>Hy k x⟩
def Gc.p:LF:=⟨⟨[],[(0,.s),(3,(.i .u32)),(4,(.i .i64))]⟩,[((.exit 0),⟨[],[(3,(.i .u32))]⟩)],λ k x=>Gc k x.1 x.2.1 x.2.2⟩
def Hy.d:Fd := { nt:=20,nv:=1,nm:=[0,1,3,4],res:=[2],ls:=[(3,Gc.p)],rf:=true }
def Gc.s:LL Tryz.f114 Hy.d 3 Gc.p:=mL [] (λ _=>trivial) trivial
def Hy.s (k:Nat):CK 114 (Hy.e k):=mS Hy.d k [3] Tryz.func114 trivial ⟨Gc.s,trivial⟩
def Hg.e (k:Nat):Ent:=⟨2,[(.val false .s),(.val false (.i .i64))],[(.one,(.i .i64))],λ x=>Hg k x.1 x.2⟩
def Hg.d:Fd := { nt:=11,nv:=2,nm:=[0,1,2,3],res:=[4],cs:=λ k=>[(114,Hy.e k)],rf:=true }
def Hg.s (k:Nat):CK 57 (Hg.e k):=mS Hg.d k [] Tryz.func57 ⟨Hy.s k,trivial⟩ trivial
def B6.e (k:Nat):Ent:=⟨2,[(.val true t16),(.val false .s)],[(.one,t6)],λ x=>B6 k x.1 x.2⟩
def B6.d:Fd := { nt:=20,nv:=2,nm:=[0,1,2,3],res:=[4],cs:=λ k=>[(56,Bm.e k),(57,Hg.e k)],rf:=true }
def B6.s (k:Nat):CK 18 (B6.e k):=mS B6.d k [] Tryz.func18 ⟨Bm.s k,Hg.s k,trivial⟩ trivial
def Ca.e (k:Nat):Ent:=⟨2,[(.val true t43),(.val false t5)],[(.one,t6)],λ x=>Ca k x.1 x.2⟩
def Cp.p:LF:=⟨⟨[(2,(.bp 2 0 0)),(3999,(.hd 9))],[(5,t6),(7,(.i .i64)),(10,t5),(11,(.i .i64)),(12,(.i .i64)),(17,t40),(18,(.i .i64)),(19,(.i .i64)),(3000,t43)]⟩,[((.exit 2),⟨[(2,(.bp 2 0 0)),(3999,(.hd 9))],[(5,t6),(10,t5),(11,(.i .i64)),(12,(.i .i64)),(3000,t43)]⟩)],λ k x=>Cp k x.1 x.2.1 x.2.2.1 x.2.2.2.1 x.2.2.2.2.1 x.2.2.2.2.2.1 x.2.2.2.2.2.2.1 x.2.2.2.2.2.2.2.1 x.2.2.2.2.2.2.2.2⟩
def E3.p:LF:=⟨⟨[(2,(.bp 2 0 0)),(3999,(.hd 9))],[(5,t6),(10,t5),(11,(.i .i64)),(12,(.i .i64)),(3000,t43)]⟩,[((.exit 0),⟨[],[(5,t6)]⟩)],λ k x=>E3 k x.1 x.2.1 x.2.2.1 x.2.2.2.1 x.2.2.2.2⟩
def Ca.d:Fd := { nt:=35,nv:=2,nm:=[0,1,2,3,5,6,7,8,9],res:=[4],ls:=[(6,Cp.p),(3,E3.p)],rf:=true }
def Cp.s:LL Tryz.f119 Ca.d 6 Cp.p:=mL [] (λ _=>trivial) trivial
def E3.s:LL Tryz.f119 Ca.d 3 E3.p:=mL [6] (λ _=>trivial) ⟨Cp.s,trivial⟩
def Ca.s (k:Nat):CK 119 (Ca.e k):=mS Ca.d k [3] Tryz.func119 trivial ⟨E3.s,trivial⟩
def Cj.e (k:Nat):Ent:=⟨3,[(.val true t16),(.val false t21),(.val false .s)],[(.one,t6)],λ x=>Cj k x.1 x.2.1 x.2.2⟩
def C4.p:LF:=⟨⟨[],[(7,t6),(8,t6),(9,t6),(10,t6),(19,t21),(20,(.i .i64)),(21,(.i .i64))]⟩,[((.exit 0),⟨[],[(9,t6),(10,t6)]⟩)],λ k x=>C4 k x.1 x.2.1 x.2.2.1 x.2.2.2.1 x.2.2.2.2.1 x.2.2.2.2.2.1 x.2.2.2.2.2.2⟩
def Cj.d:Fd := { nt:=49,nv:=3,nm:=[0,1,2,3,4,5,7,8,9,10,11,12],res:=[6],cs:=λ k=>[(18,B6.e k),(152,Be.e k),(159,C7.e k)],ls:=[(5,C4.p)],rf:=true }
def Cj.a (k:Nat):AC (Cj.d.cs k):=⟨B6.s k,Be.s k,C7.s k,trivial⟩
def C4.s:LL Tryz.f129 Cj.d 5 C4.p:=mL [] Cj.a trivial
def Cj.s (k:Nat):CK 129 (Cj.e k):=mS Cj.d k [5] Tryz.func129 (Cj.a k) ⟨C4.s,trivial⟩
def Br.e (k:Nat):Ent:=⟨2,[(.ptr t46 t46),(.val false .s)],[(.one,t6)],λ x=>Br k x.1 x.2⟩
def Br.d:Fd := { nt:=26,nv:=2,nm:=[0,1,2,3],res:=[4],cs:=λ k=>[(18,B6.e k),(119,Ca.e k),(129,Cj.e k)],rf:=true }
def Br.s (k:Nat):CK 66 (Br.e k):=mS Br.d k [] Tryz.func66 ⟨B6.s k,Ca.s k,Cj.s k,trivial⟩ trivial
def Eu.e (k:Nat):Ent:=⟨3,[(.val true t15),(.val false (.i .i64)),(.val false (.i .i64))],[(.agg,t15)],λ x=>Eu x.1 x.2.1 x.2.2⟩
def Eu.d:Fd := { nt:=27,nv:=3,nm:=[0,1,2,3,4,5,7],res:=[],cs:=λ k=>[(46,Bo.e k)],rf:=true }
def Eu.s (k:Nat):CK 84 (Eu.e k):=mS Eu.d k [] Tryz.func84 ⟨Bo.s k,trivial⟩ trivial
def Gn.e (k:Nat):Ent:=⟨2,[(.val false .s),(.val true t24)],[(.agg,t26)],λ x=>Gn x.1 x.2⟩
def Gn.d:Fd := { nt:=14,nv:=2,nm:=[0,1,2,3],res:=[],rf:=true }
def Gn.s (k:Nat):CK 132 (Gn.e k):=mS Gn.d k [] Tryz.func132 trivial trivial
def Gp.e (k:Nat):Ent:=⟨2,[(.val true t24),(.val true t24)],[(.one,.b)],λ x=>Gp x.1 x.2⟩
def Gp.d:Fd := { nt:=10,nv:=2,nm:=[0,1,2,3],res:=[4],cs:=λ k=>[(100,Am.e k)] }
def Gp.s (k:Nat):CK 44 (Gp.e k):=mS Gp.d k [] Tryz.func44 ⟨Am.s k,trivial⟩ trivial
def Ed.e (k:Nat):Ent:=⟨2,[(.val false t12),(.val false .s)],[(.one,(.i .i64))],λ x=>Ed k x.1 x.2⟩
def Hn.p:LF:=⟨⟨[],[(1,.s),(7,t12),(8,(.i .i64)),(9,(.i .i64))]⟩,[(.ret,⟨[],[(4,(.i .i64))]⟩),((.exit 0),⟨[],[]⟩)],λ k x=>Hn k x.1 x.2.1 x.2.2.1 x.2.2.2⟩
def Ed.d:Fd := { nt:=20,nv:=2,nm:=[0,1,2,3,5,6],res:=[4],ls:=[(2,Hn.p)] }
def Hn.s:LL Tryz.f115 Ed.d 2 Hn.p:=mL [] (λ _=>trivial) trivial
def Ed.s (k:Nat):CK 115 (Ed.e k):=mS Ed.d k [2] Tryz.func115 trivial ⟨Hn.s,trivial⟩
def Du.e (k:Nat):Ent:=⟨2,[(.val true t27),(.val false .s)],[(.one,t4),(.one,.b)],λ x=>Du k x.1 x.2⟩
def Du.d:Fd := { nt:=20,nv:=2,nm:=[0,1,2,3,6],res:=[4,5],cs:=λ k=>[(55,A9.e k),(115,Ed.e k)] }
def Du.s (k:Nat):CK 58 (Du.e k):=mS Du.d k [] Tryz.func58 ⟨A9.s k,Ed.s k,trivial⟩ trivial
def Fc.e (k:Nat):Ent:=⟨2,[(.val false t3),(.val false (.i .i64))],[(.one,(.i .i64)),(.one,(.i .i64)),(.one,.b)],λ x=>Fc k x.1 x.2⟩
def Eb.p:LF:=⟨⟨[],[(0,t3),(1,(.i .i64)),(7,(.i .i64)),(8,(.i .i64))]⟩,[(.ret,⟨[],[(4,(.i .i64)),(5,(.i .i64)),(6,.b)]⟩),((.exit 0),⟨[],[]⟩)],λ k x=>Eb k x.1 x.2.1 x.2.2.1 x.2.2.2⟩
def Fc.d:Fd := { nt:=57,nv:=2,nm:=[0,1,2,3,7,8,9],res:=[4,5,6],ls:=[(3,Eb.p)] }
def Eb.s:LL Tryz.f205 Fc.d 3 Eb.p:=mL [] (λ _=>trivial) trivial
def Fc.s (k:Nat):CK 205 (Fc.e k):=mS Fc.d k [3] Tryz.func205 trivial ⟨Eb.s,trivial⟩
def Cb.e (k:Nat):Ent:=⟨1,[(.ptr t19 t19)],[(.one,(.i .i64))],λ x=>Cb k x⟩
def Cb.d:Fd := { nt:=35,nv:=1,nm:=[0,1,3,4,5],res:=[2],cs:=λ k=>[(205,Fc.e k)] }
def Cb.s (k:Nat):CK 164 (Cb.e k):=mS Cb.d k [] Tryz.func164 ⟨Fc.s k,trivial⟩ trivial
def Cq.e (k:Nat):Ent:=⟨1,[(.ptr t19 t19)],[(.agg,t15),(.one,.b)],λ x=>Cq k x⟩
def Cq.d:Fd := { nt:=31,nv:=1,nm:=[0,1,4,5],res:=[3],cs:=λ k=>[(164,Cb.e k)] }
def Cq.s (k:Nat):CK 116 (Cq.e k):=mS Cq.d k [] Tryz.func116 ⟨Cb.s k,trivial⟩ trivial
def Gd.e (k:Nat):Ent:=⟨2,[(.val false t3),(.val false (.i .i64))],[(.one,.s),(.one,(.i .i64)),(.one,.b)],λ x=>Gd k x.1 x.2⟩
def Gd.d:Fd := { nt:=37,nv:=2,nm:=[0,1,2,3,7,8,9],res:=[4,5,6],cs:=λ k=>[(205,Fc.e k)] }
def Gd.s (k:Nat):CK 165 (Gd.e k):=mS Gd.d k [] Tryz.func165 ⟨Fc.s k,trivial⟩ trivial
def C5.e (k:Nat):Ent:=⟨1,[(.ptr t19 t19)],[(.one,.s)],λ x=>C5 k x⟩
def C5.d:Fd := { nt:=35,nv:=1,nm:=[0,1,3,4,5],res:=[2],cs:=λ k=>[(165,Gd.e k)] }
def C5.s (k:Nat):CK 117 (C5.e k):=mS C5.d k [] Tryz.func117 ⟨Gd.s k,trivial⟩ trivial
def Ds.e (k:Nat):Ent:=⟨2,[(.val false t4),(.val false (.i .i64))],[(.one,t4)],λ x=>Ds k x.1 x.2⟩
def Ev.p:LF:=⟨⟨[],[(0,t4),(1,(.i .i64))]⟩,[((.exit 0),⟨[],[(0,t4),(1,(.i .i64))]⟩)],λ k x=>Ev k x.1 x.2⟩
def Ds.d:Fd := { nt:=24,nv:=2,nm:=[0,1,2,3],res:=[4],ls:=[(2,Ev.p)] }
def Ev.s:LL Tryz.f206 Ds.d 2 Ev.p:=mL [] (λ _=>trivial) trivial
def Ds.s (k:Nat):CK 206 (Ds.e k):=mS Ds.d k [2] Tryz.func206 trivial ⟨Ev.s,trivial⟩
def Ge.e (k:Nat):Ent:=⟨2,[(.val false t4),(.val false .s)],[(.one,t4)],λ x=>Ge k x.1 x.2⟩
def Ge.d:Fd := { nt:=11,nv:=2,nm:=[0,1,2,3],res:=[4],cs:=λ k=>[(206,Ds.e k)] }
def Ge.s (k:Nat):CK 166 (Ge.e k):=mS Ge.d k [] Tryz.func166 ⟨Ds.s k,trivial⟩ trivial
def Jh.e (k:Nat):Ent:=⟨1,[(.val false .b)],[(.one,(.i .i64))],λ x=>Jh x⟩
def Jh.d:Fd := { nt:=4,nv:=1,nm:=[0,1],res:=[2] }
def Jh.s (k:Nat):CK 207 (Jh.e k):=mS Jh.d k [] Tryz.func207 trivial trivial
def Fp.e (k:Nat):Ent:=⟨3,[(.val false t4),(.val true t15),(.val false .b)],[(.one,t4)],λ x=>Fp k x.1 x.2.1 x.2.2⟩
def Fp.d:Fd := { nt:=20,nv:=3,nm:=[0,1,2,3,4,5],res:=[6],cs:=λ k=>[(206,Ds.e k),(207,Jh.e k)] }
def Fp.s (k:Nat):CK 167 (Fp.e k):=mS Fp.d k [] Tryz.func167 ⟨Ds.s k,Jh.s k,trivial⟩ trivial
def Ic.e (k:Nat):Ent:=⟨1,[(.val false t3)],[(.one,(.i .i64))],λ x=>Ic k x⟩
def Gq.p:LF:=⟨⟨[],[(3,(.i .u32)),(7,t3),(8,(.i .i64)),(9,(.i .i64)),(17,(.i .i64))]⟩,[((.exit 2),⟨[],[(3,(.i .u32)),(7,t3),(8,(.i .i64)),(9,(.i .i64))]⟩)],λ k x=>Gq k x.1 x.2.1 x.2.2.1 x.2.2.2.1 x.2.2.2.2⟩
def H0.p:LF:=⟨⟨[],[(3,(.i .u32)),(7,t3),(8,(.i .i64)),(9,(.i .i64))]⟩,[((.exit 0),⟨[],[(3,(.i .u32))]⟩)],λ k x=>H0 k x.1 x.2.1 x.2.2.1 x.2.2.2⟩
def Ic.d:Fd := { nt:=32,nv:=1,nm:=[0,1,3,4,5,6],res:=[2],ls:=[(7,Gq.p),(3,H0.p)] }
def Gq.s:LL Tryz.f168 Ic.d 7 Gq.p:=mL [] (λ _=>trivial) trivial
def H0.s:LL Tryz.f168 Ic.d 3 H0.p:=mL [7] (λ _=>trivial) ⟨Gq.s,trivial⟩
def Ic.s (k:Nat):CK 168 (Ic.e k):=mS Ic.d k [3] Tryz.func168 trivial ⟨H0.s,trivial⟩
def Dm.e (k:Nat):Ent:=⟨1,[(.val true t24)],[(.one,t4)],λ x=>Dm k x⟩
def Dm.d:Fd := { nt:=33,nv:=1,nm:=[0,1,3,4],res:=[2],cs:=λ k=>[(104,Cm.e k),(166,Ge.e k),(167,Fp.e k),(168,Ic.e k)] }
def Dm.s (k:Nat):CK 118 (Dm.e k):=mS Dm.d k [] Tryz.func118 ⟨Cm.s k,Ge.s k,Fp.s k,Ic.s k,trivial⟩ trivial
def Bg.e (k:Nat):Ent:=⟨1,[(.val false t3)],[(.agg,t24),(.one,.b)],λ x=>Bg k x⟩
def Bg.d:Fd := { nt:=41,nv:=1,nm:=[0,1,4,5,6],res:=[3],cs:=λ k=>[(116,Cq.e k),(117,C5.e k),(118,Dm.e k)] }
def Bg.s (k:Nat):CK 59 (Bg.e k):=mS Bg.d k [] Tryz.func59 ⟨Cq.s k,C5.s k,Dm.s k,trivial⟩ trivial
def Ew.e (k:Nat):Ent:=⟨2,[(.val false t12),(.val false .s)],[(.one,t12)],λ x=>Ew k x.1 x.2⟩
def Ew.d:Fd := { nt:=21,nv:=2,nm:=[0,1,2,3,5],res:=[4],cs:=λ k=>[(115,Ed.e k)] }
def Ew.s (k:Nat):CK 209 (Ew.e k):=mS Ew.d k [] Tryz.func209 ⟨Ed.s k,trivial⟩ trivial
def Hu.e (k:Nat):Ent:=⟨2,[(.val false t12),(.val true t10)],[(.one,t13)],λ x=>Hu k x.1 x.2⟩
def H1.p:LF:=⟨⟨[(3,(.bp 3 0 0)),(4999,(.hd 2))],[(0,t12),(5,(.i .i64)),(4000,.s),(4001,t3)]⟩,[((.exit 0),⟨[(3,(.bp 3 0 0)),(4999,(.hd 2))],[(0,t12),(5,(.i .i64)),(4000,.s),(4001,t3)]⟩)],λ k x=>H1 k x.1 x.2.1 x.2.2.1 x.2.2.2⟩
def Hu.d:Fd := { nt:=33,nv:=2,nm:=[0,1,2,3,5],res:=[4],ls:=[(2,H1.p)] }
def H1.s:LL Tryz.f210 Hu.d 2 H1.p:=mL [] (λ _=>trivial) trivial
def Hu.s (k:Nat):CK 210 (Hu.e k):=mS Hu.d k [2] Tryz.func210 trivial ⟨H1.s,trivial⟩
def Bn.e (k:Nat):Ent:=⟨2,[(.val true t27),(.val false .s)],[(.agg,(.pr t13 t12)),(.one,.b)],λ x=>Bn k x.1 x.2⟩
def Bn.d:Fd := { nt:=50,nv:=2,nm:=[0,1,2,3,6,7],res:=[5],cs:=λ k=>[(41,Ae.e k),(55,A9.e k),(106,Ap.e k),(115,Ed.e k),(142,A4.e k),(209,Ew.e k),(210,Hu.e k)],mv:=[18,49] }
def Bn.s (k:Nat):CK 174 (Bn.e k):=mS Bn.d k [] Tryz.func174 ⟨Ae.s k,A9.s k,Ap.s k,Ed.s k,A4.s k,Ew.s k,Hu.s k,trivial⟩ trivial
def Cy.e (k:Nat):Ent:=⟨3,[(.val true t27),(.val false .s),(.val false t3)],[(.agg,t28),(.one,.b)],λ x=>Cy k x.1 x.2.1 x.2.2⟩
def Cy.d:Fd := { nt:=42,nv:=3,nm:=[0,1,2,3,4,5,8],res:=[7],cs:=λ k=>[(41,Ae.e k),(55,A9.e k),(106,Ap.e k),(142,A4.e k),(209,Ew.e k),(210,Hu.e k)],mv:=[24,41] }
def Cy.s (k:Nat):CK 190 (Cy.e k):=mS Cy.d k [] Tryz.func190 ⟨Ae.s k,A9.s k,Ap.s k,A4.s k,Ew.s k,Hu.s k,trivial⟩ trivial
def Hc.e (k:Nat):Ent:=⟨4,[(.val true t27),(.val false .s),(.val true t24),(.val false .b)],[(.agg,t27),(.one,(.i .i64))],λ x=>Hc k x.1 x.2.1 x.2.2.1 x.2.2.2⟩
def Hc.d:Fd := { nt:=82,nv:=4,nm:=[0,1,2,3,4,5,6,7,10,11,12,13,14,15,16,17,18,19],res:=[9],cs:=λ k=>[(41,Ae.e k),(44,Gp.e k),(58,Du.e k),(59,Bg.e k),(104,Cm.e k),(106,Ap.e k),(118,Dm.e k),(142,A4.e k),(174,Bn.e k),(190,Cy.e k)],mv:=[80] }
def Hc.s (k:Nat):CK 143 (Hc.e k):=mS Hc.d k [] Tryz.func143 ⟨Ae.s k,Gp.s k,Du.s k,Bg.s k,Cm.s k,Ap.s k,Dm.s k,A4.s k,Bn.s k,Cy.s k,trivial⟩ trivial
def Gf.e (k:Nat):Ent:=⟨4,[(.val true t37),(.val false .s),(.val true t24),(.val false .b)],[(.agg,t39),(.one,(.i .i64))],λ x=>Gf k x.1 x.2.1 x.2.2.1 x.2.2.2⟩
def Gf.d:Fd := { nt:=62,nv:=4,nm:=[0,1,2,3,4,5,6,7,10,11,12],res:=[9],cs:=λ k=>[(41,Ae.e k),(48,B5.e k),(81,Ai.e k),(104,Cm.e k),(132,Gn.e k),(143,Hc.e k)],mv:=[29,35,60],rf:=true }
def Gf.s (k:Nat):CK 86 (Gf.e k):=mS Gf.d k [] Tryz.func86 ⟨Ae.s k,B5.s k,Ai.s k,Cm.s k,Gn.s k,Hc.s k,trivial⟩ trivial
def Cc.e (k:Nat):Ent:=⟨5,[(.ptr t37 t37),(.val false (.i .i64)),(.ptr .s .s),(.ptr t24 t24),(.ptr (.i .i64) (.i .i64))],[],λ x=>Cc k x.1 x.2.1 x.2.2.1 x.2.2.2.1 x.2.2.2.2⟩
def Cc.d:Fd := { nt:=35,nv:=5,nm:=[0,1,5,6,7,8],res:=[],cs:=λ k=>[(86,Gf.e k)],rf:=true }
def Cc.s (k:Nat):CK 85 (Cc.e k):=mS Cc.d k [] Tryz.func85 ⟨Gf.s k,trivial⟩ trivial
def H2.e (k:Nat):Ent:=⟨1,[(.val false (.i .i64))],[(.one,(.i .i64))],λ x=>H2 x⟩
def H2.d:Fd := { nt:=6,nv:=1,nm:=[0,1],res:=[2],rf:=true }
def H2.s (k:Nat):CK 87 (H2.e k):=mS H2.d k [] Tryz.func87 trivial trivial
def A7.e (k:Nat):Ent:=⟨4,[(.ptr t46 t46),(.val false .s),(.val false t5),(.fn 85 3),(.hid .s .s),(.hid t24 t24),(.hid (.i .i64) (.i .i64))],[],λ x=>A7 k x.1 x.2.1 x.2.2.1 x.2.2.2.1 x.2.2.2.2.1 x.2.2.2.2.2.1 x.2.2.2.2.2.2⟩
def Aa.p:LF:=⟨⟨[(0,(.bp 0 0 0)),(3,(.fn 85 [(1500,0),(1501,0),(1502,0)])),(1999,(.hd 9)),(1501999,(.hd 1)),(1502999,(.hd 5)),(1503999,(.hd 1))],[(2,t5),(8,(.i .i64)),(14,t6),(15,(.i .i64)),(16,(.i .i64)),(1000,t46),(1501000,.s),(1502000,t24),(1503000,(.i .i64))]⟩,[((.exit 0),⟨[(1999,(.hd 9)),(1501999,(.hd 1)),(1502999,(.hd 5)),(1503999,(.hd 1))],[(1000,t46),(1501000,.s),(1502000,t24),(1503000,(.i .i64))]⟩)],λ k x=>Aa k x.1 x.2.1 x.2.2.1 x.2.2.2.1 x.2.2.2.2.1 x.2.2.2.2.2.1 x.2.2.2.2.2.2.1 x.2.2.2.2.2.2.2.1 x.2.2.2.2.2.2.2.2⟩
def A7.d:Fd := { nt:=47,nv:=4,nm:=[0,1,2,3,4,5,6,7,8,9,10,11],res:=[],cs:=λ k=>[(61,D5.e k),(66,Br.e k),(85,Cc.e k)],ls:=[(2,Aa.p)],gh:=[(1000003,[.cl 1003])],opn:=[41],rf:=true }
def A7.a (k:Nat):AC (A7.d.cs k):=⟨D5.s k,Br.s k,Cc.s k,trivial⟩
def Aa.s:LL Tryz.f42 A7.d 2 Aa.p:=mL [] A7.a trivial
def A7.s (k:Nat):CK 42 (A7.e k):=mS A7.d k [2] Tryz.func42 (A7.a k) ⟨Aa.s,trivial⟩
def B0.e (k:Nat):Ent:=⟨5,[(.ptr t46 t46),(.val false .s),(.val true t24),(.val false (.i .i64)),(.val false t5)],[(.one,(.i .i64))],λ x=>B0 k x.1 x.2.1 x.2.2.1 x.2.2.2.1 x.2.2.2.2⟩
def B0.d:Fd := { nt:=82,nv:=5,nm:=[0,1,2,3,4,5,6,7,8,9,11,12,13],res:=[10],cs:=λ k=>[(41,Ae.e k),(42,A7.e k),(82,Dt.e k),(83,Ba.e k),(84,Eu.e k),(87,H2.e k)],rf:=true }
def B0.s (k:Nat):CK 37 (B0.e k):=mS B0.d k [] Tryz.func37 ⟨Ae.s k,A7.s k,Dt.s k,Ba.s k,Eu.s k,H2.s k,trivial⟩ trivial
def Ey.e (k:Nat):Ent:=⟨5,[(.val true t43),(.val false .s),(.val false t3),(.val false (.i .i64)),(.val false t5)],[(.agg,t46),(.one,(.i .i64))],λ x=>Ey k x.1 x.2.1 x.2.2.1 x.2.2.2.1 x.2.2.2.2⟩
def Ey.d:Fd := { nt:=29,nv:=5,nm:=[0,1,2,3,4,5,6,7,8,9,12,13],res:=[11],cs:=λ k=>[(12,B9.e k),(36,Aq.e k),(37,B0.e k),(55,A9.e k)],mv:=[19,27],rf:=true }
def Ey.s (k:Nat):CK 17 (Ey.e k):=mS Ey.d k [] Tryz.func17 ⟨B9.s k,Aq.s k,B0.s k,A9.s k,trivial⟩ trivial
def H9.e (k:Nat):Ent:=⟨1,[(.val false t3)],[(.ptr,t20)],λ x=>H9 k x⟩
def Fq.p:LF:=⟨⟨[],[(0,t3),(3,(.i .i64)),(4,(.i .i64))]⟩,[((.exit 0),⟨[],[(0,t3),(3,(.i .i64))]⟩)],λ k x=>Fq k x.1 x.2.1 x.2.2⟩
def H9.d:Fd := { nt:=32,nv:=1,nm:=[0,1,3,4],res:=[2],ls:=[(3,Fq.p)] }
def Fq.s:LL Tryz.f30 H9.d 3 Fq.p:=mL [] (λ _=>trivial) trivial
def H9.s (k:Nat):CK 30 (H9.e k):=mS H9.d k [3] Tryz.func30 trivial ⟨Fq.s,trivial⟩
def Fs.e (k:Nat):Ent:=⟨1,[(.ptr t20 t20)],[(.one,(.i .i64))],λ x=>Fs x⟩
def Fs.d:Fd := { nt:=58,nv:=1,nm:=[0,1,3],res:=[2] }
def Fs.s (k:Nat):CK 141 (Fs.e k):=mS Fs.d k [] Tryz.func141 trivial trivial
def Dn.e (k:Nat):Ent:=⟨2,[(.ptr t20 t20),(.val false (.i .i64))],[(.one,(.i .i64))],λ x=>Dn x.1 x.2⟩
def Dn.d:Fd := { nt:=31,nv:=2,nm:=[0,1,2,3,5,6,7],res:=[4],cs:=λ k=>[(141,Fs.e k)] }
def Dn.s (k:Nat):CK 78 (Dn.e k):=mS Dn.d k [] Tryz.func78 ⟨Fs.s k,trivial⟩ trivial
def G7.e (k:Nat):Ent:=⟨2,[(.ptr t20 t20),(.val false t5)],[(.one,(.i .i64))],λ x=>G7 x.1 x.2⟩
def G7.d:Fd := { nt:=12,nv:=2,nm:=[0,1,2,3],res:=[4],cs:=λ k=>[(78,Dn.e k)] }
def G7.s (k:Nat):CK 34 (G7.e k):=mS G7.d k [] Tryz.func34 ⟨Dn.s k,trivial⟩ trivial
def Eh.e (k:Nat):Ent:=⟨1,[(.ptr t20 t20)],[(.one,t22)],λ x=>Eh k x⟩
def Ez.p:LF:=⟨⟨[(0,(.bp 0 0 0)),(1999,(.hd 3))],[(3,t22),(4,(.i .i64)),(5,(.i .i64)),(6,(.i .i64)),(1000,t20)]⟩,[((.exit 0),⟨[(1999,(.hd 3))],[(3,t22),(1000,t20)]⟩)],λ k x=>Ez k x.1 x.2.1 x.2.2.1 x.2.2.2.1 x.2.2.2.2⟩
def Eh.d:Fd := { nt:=35,nv:=1,nm:=[0,1,3,4,5,6],res:=[2],cs:=λ k=>[(34,G7.e k),(78,Dn.e k)],ls:=[(5,Ez.p)],rf:=true }
def Eh.a (k:Nat):AC (Eh.d.cs k):=⟨G7.s k,Dn.s k,trivial⟩
def Ez.s:LL Tryz.f65 Eh.d 5 Ez.p:=mL [] Eh.a trivial
def Eh.s (k:Nat):CK 65 (Eh.e k):=mS Eh.d k [5] Tryz.func65 (Eh.a k) ⟨Ez.s,trivial⟩
def Bw.e (k:Nat):Ent:=⟨1,[(.val false t3)],[(.one,t22)],λ x=>Bw k x⟩
def Cr.p:LF:=⟨⟨[],[(4,t22),(5,(.i .i64)),(6,(.i .i64))]⟩,[((.exit 0),⟨[],[(4,t22)]⟩)],λ k x=>Cr k x.1 x.2.1 x.2.2⟩
def Bw.d:Fd := { nt:=30,nv:=1,nm:=[0,1,3,4,5,6],res:=[2],cs:=λ k=>[(30,H9.e k),(34,G7.e k),(65,Eh.e k)],ls:=[(5,Cr.p)],rf:=true }
def Bw.a (k:Nat):AC (Bw.d.cs k):=⟨H9.s k,G7.s k,Eh.s k,trivial⟩
def Cr.s:LL Tryz.f23 Bw.d 5 Cr.p:=mL [] Bw.a trivial
def Bw.s (k:Nat):CK 23 (Bw.e k):=mS Bw.d k [5] Tryz.func23 (Bw.a k) ⟨Cr.s,trivial⟩
def Fy.e (k:Nat):Ent:=⟨1,[(.val true t27)],[(.agg,t27),(.one,(.i .i64))],λ x=>Fy k x⟩
def F9.p:LF:=⟨⟨[(2,(.bp 2 0 0)),(4,(.bp 4 0 0)),(3999,(.hd 2)),(5999,(.hd 2))],[(5,(.i .i64)),(17,t12),(18,(.i .i64)),(19,(.i .i64)),(3000,t28),(5000,t27)]⟩,[((.exit 0),⟨[(2,(.bp 2 0 0)),(4,(.bp 4 0 0)),(3999,(.hd 2)),(5999,(.hd 2))],[(5,(.i .i64)),(3000,t28),(5000,t27)]⟩)],λ k x=>F9 k x.1 x.2.1 x.2.2.1 x.2.2.2.1 x.2.2.2.2.1 x.2.2.2.2.2⟩
def Fy.d:Fd := { nt:=48,nv:=1,nm:=[0,1,4,5,6,7,8,9],res:=[3],cs:=λ k=>[(59,Bg.e k),(106,Ap.e k),(142,A4.e k),(209,Ew.e k)],ls:=[(6,F9.p)],mv:=[15],rf:=true }
def Fy.a (k:Nat):AC (Fy.d.cs k):=⟨Bg.s k,Ap.s k,A4.s k,Ew.s k,trivial⟩
def F9.s:LL Tryz.f171 Fy.d 6 F9.p:=mL [] Fy.a trivial
def Fy.s (k:Nat):CK 171 (Fy.e k):=mS Fy.d k [6] Tryz.func171 (Fy.a k) ⟨F9.s,trivial⟩
def F3.e (k:Nat):Ent:=⟨1,[(.val true t37)],[(.agg,t39),(.one,(.i .i64))],λ x=>F3 k x⟩
def F3.d:Fd := { nt:=19,nv:=1,nm:=[0,1,4,5,6],res:=[3],cs:=λ k=>[(81,Ai.e k),(171,Fy.e k)],mv:=[17],rf:=true }
def F3.s (k:Nat):CK 124 (F3.e k):=mS F3.d k [] Tryz.func124 ⟨Ai.s k,Fy.s k,trivial⟩ trivial
def Gg.e (k:Nat):Ent:=⟨2,[(.val true t27),(.val false .s)],[(.agg,t24),(.one,(.i .i64))],λ x=>Gg k x.1 x.2⟩
def Gg.d:Fd := { nt:=28,nv:=2,nm:=[0,1,2,3,6,7,8,9],res:=[5],cs:=λ k=>[(58,Du.e k),(59,Bg.e k)] }
def Gg.s (k:Nat):CK 19 (Gg.e k):=mS Gg.d k [] Tryz.func19 ⟨Du.s k,Bg.s k,trivial⟩ trivial
def De.e (k:Nat):Ent:=⟨2,[(.val true t27),(.val false .s)],[(.agg,(.pr t12 t13)),(.one,.b)],λ x=>De k x.1 x.2⟩
def De.d:Fd := { nt:=26,nv:=2,nm:=[0,1,2,3,6],res:=[5],cs:=λ k=>[(106,Ap.e k),(115,Ed.e k),(142,A4.e k),(209,Ew.e k)],mv:=[19,25] }
def De.s (k:Nat):CK 173 (De.e k):=mS De.d k [] Tryz.func173 ⟨Ap.s k,Ed.s k,A4.s k,Ew.s k,trivial⟩ trivial
def Af.e (k:Nat):Ent:=⟨4,[(.ptr t46 t46),(.val false (.i .i64)),(.val false .s),(.val false t5)],[(.one,.b)],λ x=>Af k x.1 x.2.1 x.2.2.1 x.2.2.2⟩
def Ad.p:LF:=⟨⟨[(0,(.bp 0 0 0)),(9,(.bp 9 0 0)),(1999,(.hd 9)),(10999,(.hd 5))],[(1,(.i .i64)),(2,.s),(3,t5),(11,.b),(12,.b),(43,t6),(44,(.i .i64)),(45,(.i .i64)),(1000,t46),(10000,t24)]⟩,[((.exit 0),⟨[(0,(.bp 0 0 0)),(1999,(.hd 9))],[(1,(.i .i64)),(2,.s),(11,.b),(12,.b),(1000,t46)]⟩)],λ k x=>Ad k x.1 x.2.1 x.2.2.1 x.2.2.2.1 x.2.2.2.2.1 x.2.2.2.2.2.1 x.2.2.2.2.2.2.1 x.2.2.2.2.2.2.2.1 x.2.2.2.2.2.2.2.2.1 x.2.2.2.2.2.2.2.2.2⟩
def Af.d:Fd := { nt:=120,nv:=4,nm:=[0,1,2,3,4,5,6,7,9,10,11,12,13,14,15,16,17,18],res:=[8],cs:=λ k=>[(18,B6.e k),(19,Gg.e k),(61,D5.e k),(119,Ca.e k),(143,Hc.e k),(173,De.e k),(174,Bn.e k)],ls:=[(6,Ad.p)],rf:=true }
def Af.a (k:Nat):AC (Af.d.cs k):=⟨B6.s k,Gg.s k,D5.s k,Ca.s k,Hc.s k,De.s k,Bn.s k,trivial⟩
def Ad.s:LL Tryz.f126 Af.d 6 Ad.p:=mL [] Af.a trivial
def Af.s (k:Nat):CK 126 (Af.e k):=mS Af.d k [6] Tryz.func126 (Af.a k) ⟨Ad.s,trivial⟩
def Ek.e (k:Nat):Ent:=⟨1,[(.val true t43)],[(.one,t6)],λ x=>Ek k x⟩
def Ek.d:Fd := { nt:=8,nv:=1,nm:=[0,1],res:=[2],cs:=λ k=>[(18,B6.e k),(119,Ca.e k)],rf:=true }
def Ek.s (k:Nat):CK 60 (Ek.e k):=mS Ek.d k [] Tryz.func60 ⟨B6.s k,Ca.s k,trivial⟩ trivial
def Ft.e (k:Nat):Ent:=⟨2,[(.val true t26),(.val true t26)],[(.one,.b)],λ x=>Ft x.1 x.2⟩
def Ft.d:Fd := { nt:=29,nv:=2,nm:=[0,1,2,3],res:=[4],cs:=λ k=>[(100,Am.e k)] }
def Ft.s (k:Nat):CK 169 (Ft.e k):=mS Ft.d k [] Tryz.func169 ⟨Am.s k,trivial⟩ trivial
def Bt.e (k:Nat):Ent:=⟨2,[(.val false t30),(.val true t26)],[(.one,t31)],λ x=>Bt k x.1 x.2⟩
def Cs.p:LF:=⟨⟨[(3,(.bp 3 0 0)),(4999,(.hd 6))],[(0,t30),(8,(.i .i64)),(4000,.s),(4001,(.i .i64)),(4002,(.i .i64)),(4003,(.i .i64)),(4004,.b),(4005,(.i .i64))]⟩,[((.exit 2),⟨[(3,(.bp 3 0 0)),(4999,(.hd 6))],[(0,t30),(8,(.i .i64)),(4000,.s),(4001,(.i .i64)),(4002,(.i .i64)),(4003,(.i .i64)),(4004,.b),(4005,(.i .i64))]⟩)],λ k x=>Cs k x.1 x.2.1 x.2.2.1 x.2.2.2.1 x.2.2.2.2.1 x.2.2.2.2.2.1 x.2.2.2.2.2.2.1 x.2.2.2.2.2.2.2⟩
def Df.p:LF:=⟨⟨[(3,(.bp 3 0 0)),(4999,(.hd 6))],[(0,t30),(5,t31),(11,t30),(12,(.i .i64)),(13,(.i .i64)),(4000,.s),(4001,(.i .i64)),(4002,(.i .i64)),(4003,(.i .i64)),(4004,.b),(4005,(.i .i64))]⟩,[(.ret,⟨[],[(4,t31)]⟩),((.exit 0),⟨[(3,(.bp 3 0 0)),(4999,(.hd 6))],[(0,t30),(4000,.s),(4001,(.i .i64)),(4002,(.i .i64)),(4003,(.i .i64)),(4004,.b),(4005,(.i .i64))]⟩)],λ k x=>Df k x.1 x.2.1 x.2.2.1 x.2.2.2.1 x.2.2.2.2.1 x.2.2.2.2.2.1 x.2.2.2.2.2.2.1 x.2.2.2.2.2.2.2.1 x.2.2.2.2.2.2.2.2.1 x.2.2.2.2.2.2.2.2.2.1 x.2.2.2.2.2.2.2.2.2.2⟩
def Bt.d:Fd := { nt:=60,nv:=2,nm:=[0,1,2,3,5,6,7,8],res:=[4],cs:=λ k=>[(120,Ac.e k),(169,Ft.e k)],ls:=[(11,Cs.p),(3,Df.p)] }
def Bt.a (k:Nat):AC (Bt.d.cs k):=⟨Ac.s k,Ft.s k,trivial⟩
def Cs.s:LL Tryz.f121 Bt.d 11 Cs.p:=mL [] Bt.a trivial
def Df.s:LL Tryz.f121 Bt.d 3 Df.p:=mL [] Bt.a trivial
def Bt.s (k:Nat):CK 121 (Bt.e k):=mS Bt.d k [3,11] Tryz.func121 (Bt.a k) ⟨Df.s,Cs.s,trivial⟩
def Bx.e (k:Nat):Ent:=⟨2,[(.val false t30),(.val false t30)],[(.one,t31)],λ x=>Bx k x.1 x.2⟩
def Ct.p:LF:=⟨⟨[],[(5,t31),(10,t30),(11,(.i .i64)),(12,(.i .i64))]⟩,[((.exit 0),⟨[],[(5,t31)]⟩)],λ k x=>Ct k x.1 x.2.1 x.2.2.1 x.2.2.2⟩
def Bx.d:Fd := { nt:=21,nv:=2,nm:=[0,1,2,3,5,6,7],res:=[4],cs:=λ k=>[(120,Ac.e k),(121,Bt.e k)],ls:=[(3,Ct.p)] }
def Bx.a (k:Nat):AC (Bx.d.cs k):=⟨Ac.s k,Bt.s k,trivial⟩
def Ct.s:LL Tryz.f62 Bx.d 3 Ct.p:=mL [] Bx.a trivial
def Bx.s (k:Nat):CK 62 (Bx.e k):=mS Bx.d k [3] Tryz.func62 (Bx.a k) ⟨Ct.s,trivial⟩
def Fu.e (k:Nat):Ent:=⟨2,[(.val true t37),(.val false t30)],[(.agg,t38),(.one,.b)],λ x=>Fu k x.1 x.2⟩
def Fu.d:Fd := { nt:=30,nv:=2,nm:=[0,1,2,3,6],res:=[5],cs:=λ k=>[(48,B5.e k),(62,Bx.e k),(81,Ai.e k),(107,D8.e k)],mv:=[17,29] }
def Fu.s (k:Nat):CK 211 (Fu.e k):=mS Fu.d k [] Tryz.func211 ⟨B5.s k,Bx.s k,Ai.s k,D8.s k,trivial⟩ trivial
def Aj.e (k:Nat):Ent:=⟨4,[(.ptr t46 t46),(.val false t30),(.val false t5),(.val false (.i .i64))],[(.one,.b)],λ x=>Aj k x.1 x.2.1 x.2.2.1 x.2.2.2⟩
def As.p:LF:=⟨⟨[(0,(.bp 0 0 0)),(1999,(.hd 9))],[(1,t30),(2,t5),(3,(.i .i64)),(9,.b),(17,t6),(18,(.i .i64)),(19,(.i .i64)),(1000,t46)]⟩,[((.exit 0),⟨[(1999,(.hd 9))],[(9,.b),(1000,t46)]⟩)],λ k x=>As k x.1 x.2.1 x.2.2.1 x.2.2.2.1 x.2.2.2.2.1 x.2.2.2.2.2.1 x.2.2.2.2.2.2.1 x.2.2.2.2.2.2.2⟩
def Aj.d:Fd := { nt:=56,nv:=4,nm:=[0,1,2,3,4,5,6,7,9,10,11,12,13],res:=[8],cs:=λ k=>[(60,Ek.e k),(61,D5.e k),(211,Fu.e k)],ls:=[(3,As.p)],rf:=true }
def Aj.a (k:Nat):AC (Aj.d.cs k):=⟨Ek.s k,D5.s k,Fu.s k,trivial⟩
def As.s:LL Tryz.f175 Aj.d 3 As.p:=mL [] Aj.a trivial
def Aj.s (k:Nat):CK 175 (Aj.e k):=mS Aj.d k [3] Tryz.func175 (Aj.a k) ⟨As.s,trivial⟩
def Bl.e (k:Nat):Ent:=⟨3,[(.ptr t46 t46),(.val false (.i .i64)),(.val false t5)],[(.one,.b)],λ x=>Bl k x.1 x.2.1 x.2.2⟩
def Bl.d:Fd := { nt:=47,nv:=3,nm:=[0,1,2,3,4,5],res:=[6],cs:=λ k=>[(120,Ac.e k),(175,Aj.e k)],rf:=true }
def Bl.s (k:Nat):CK 127 (Bl.e k):=mS Bl.d k [] Tryz.func127 ⟨Ac.s k,Aj.s k,trivial⟩ trivial
def Bh.e (k:Nat):Ent:=⟨3,[(.ptr t46 t46),(.val false (.i .i64)),(.val false t5)],[(.one,.b)],λ x=>Bh k x.1 x.2.1 x.2.2⟩
def Bh.d:Fd := { nt:=43,nv:=3,nm:=[0,1,2,3,4,5,7,8],res:=[6],cs:=λ k=>[(60,Ek.e k),(120,Ac.e k),(152,Be.e k),(175,Aj.e k)],rf:=true }
def Bh.s (k:Nat):CK 128 (Bh.e k):=mS Bh.d k [] Tryz.func128 ⟨Ek.s k,Ac.s k,Be.s k,Aj.s k,trivial⟩ trivial
def D9.e (k:Nat):Ent:=⟨2,[(.val false t0),(.val false .s)],[(.one,t0)],λ x=>D9 k x.1 x.2⟩
def Dg.p:LF:=⟨⟨[],[(0,t0),(1,.s),(5,(.i .i64))]⟩,[((.exit 0),⟨[],[(0,t0),(1,.s),(5,(.i .i64))]⟩)],λ k x=>Dg k x.1 x.2.1 x.2.2⟩
def D9.d:Fd := { nt:=44,nv:=2,nm:=[0,1,2,3,5],res:=[4],ls:=[(2,Dg.p)] }
def Dg.s:LL Tryz.f172 D9.d 2 Dg.p:=mL [] (λ _=>trivial) trivial
def D9.s (k:Nat):CK 172 (D9.e k):=mS D9.d k [2] Tryz.func172 trivial ⟨Dg.s,trivial⟩
def Bu.e (k:Nat):Ent:=⟨2,[(.val true t27),(.val false t1)],[(.agg,t28)],λ x=>Bu k x.1 x.2⟩
def Al.p:LF:=⟨⟨[(2,(.bp 2 0 0)),(4,(.bp 4 0 0)),(3999,(.hd 2)),(5999,(.hd 2))],[(1,t1),(8,t13),(34,t0),(35,(.i .i64)),(36,(.i .i64)),(3000,t12),(3001,t12),(5000,t13),(5001,t13)]⟩,[((.exit 2),⟨[(2,(.bp 2 0 0)),(4,(.bp 4 0 0)),(3999,(.hd 2)),(5999,(.hd 2))],[(8,t13),(3000,t12),(3001,t12),(5000,t13),(5001,t13)]⟩)],λ k x=>Al k x.1 x.2.1 x.2.2.1 x.2.2.2.1 x.2.2.2.2.1 x.2.2.2.2.2.1 x.2.2.2.2.2.2.1 x.2.2.2.2.2.2.2.1 x.2.2.2.2.2.2.2.2⟩
def Dh.p:LF:=⟨⟨[(2,(.bp 2 0 0)),(4,(.bp 4 0 0)),(3999,(.hd 2)),(5999,(.hd 2))],[(1,t1),(5,t0),(23,t13),(24,(.i .i64)),(25,(.i .i64)),(3000,t12),(3001,t12),(5000,t13),(5001,t13)]⟩,[((.exit 0),⟨[(2,(.bp 2 0 0)),(4,(.bp 4 0 0)),(3999,(.hd 2)),(5999,(.hd 2))],[(1,t1),(5,t0),(3000,t12),(3001,t12),(5000,t13),(5001,t13)]⟩)],λ k x=>Dh k x.1 x.2.1 x.2.2.1 x.2.2.2.1 x.2.2.2.2.1 x.2.2.2.2.2.1 x.2.2.2.2.2.2.1 x.2.2.2.2.2.2.2.1 x.2.2.2.2.2.2.2.2⟩
def Bu.d:Fd := { nt:=78,nv:=2,nm:=[0,1,2,3,5,6,7,8,9,10,11,12],res:=[],cs:=λ k=>[(106,Ap.e k),(115,Ed.e k),(142,A4.e k),(172,D9.e k),(189,Av.e k)],ls:=[(11,Al.p),(5,Dh.p)] }
def Bu.a (k:Nat):AC (Bu.d.cs k):=⟨Ap.s k,Ed.s k,A4.s k,D9.s k,Av.s k,trivial⟩
def Al.s:LL Tryz.f212 Bu.d 11 Al.p:=mL [] Bu.a trivial
def Dh.s:LL Tryz.f212 Bu.d 5 Dh.p:=mL [] Bu.a trivial
def Bu.s (k:Nat):CK 212 (Bu.e k):=mS Bu.d k [5,11] Tryz.func212 (Bu.a k) ⟨Dh.s,Al.s,trivial⟩
def F4.e (k:Nat):Ent:=⟨2,[(.val true t37),(.val false t1)],[(.agg,t38)],λ x=>F4 k x.1 x.2⟩
def F4.d:Fd := { nt:=16,nv:=2,nm:=[0,1,2,3,5],res:=[],cs:=λ k=>[(48,B5.e k),(81,Ai.e k),(212,Bu.e k)],mv:=[15],rf:=true }
def F4.s (k:Nat):CK 176 (F4.e k):=mS F4.d k [] Tryz.func176 ⟨B5.s k,Ai.s k,Bu.s k,trivial⟩ trivial
def H3.e (k:Nat):Ent:=⟨3,[(.val true t27),(.val false .s),(.val false (.i .i64))],[(.agg,t29),(.one,.b)],λ x=>H3 k x.1 x.2.1 x.2.2⟩
def H3.d:Fd := { nt:=95,nv:=3,nm:=[0,1,2,3,4,5,8,9,10,11],res:=[7],cs:=λ k=>[(106,Ap.e k),(115,Ed.e k),(142,Fo.e k)],mv:=[45,94],rf:=true }
def H3.s (k:Nat):CK 213 (H3.e k):=mS H3.d k [] Tryz.func213 ⟨Ap.s k,Ed.s k,Fo.s k,trivial⟩ trivial
def Gi.e (k:Nat):Ent:=⟨3,[(.val true t37),(.val false .s),(.val false (.i .i64))],[(.agg,t39),(.one,.b)],λ x=>Gi k x.1 x.2.1 x.2.2⟩
def Gi.d:Fd := { nt:=42,nv:=3,nm:=[0,1,2,3,4,5,8,9,10,11,12],res:=[7],cs:=λ k=>[(19,Gg.e k),(48,B5.e k),(81,Ai.e k),(213,H3.e k)],mv:=[29,40],rf:=true }
def Gi.s (k:Nat):CK 177 (Gi.e k):=mS Gi.d k [] Tryz.func177 ⟨Gg.s k,B5.s k,Ai.s k,H3.s k,trivial⟩ trivial
def Dp.e (k:Nat):Ent:=⟨2,[(.val true t16),(.val false t21)],[(.one,.b)],λ x=>Dp k x.1 x.2⟩
def E4.p:LF:=⟨⟨[(2,(.bp 2 0 0)),(3999,(.hd 2))],[(31,t9),(32,(.i .i64)),(33,(.i .i64)),(3000,t16)]⟩,[(.ret,⟨[],[(4,.b)]⟩),((.exit 0),⟨[],[]⟩)],λ k x=>E4 k x.1 x.2.1 x.2.2.1 x.2.2.2⟩
def Dp.d:Fd := { nt:=50,nv:=2,nm:=[0,1,2,3,5,6],res:=[4],cs:=λ k=>[(83,Ba.e k),(101,Bj.e k),(102,Ec.e k)],ls:=[(4,E4.p)],rf:=true }
def Dp.a (k:Nat):AC (Dp.d.cs k):=⟨Ba.s k,Bj.s k,Ec.s k,trivial⟩
def E4.s:LL Tryz.f237 Dp.d 4 E4.p:=mL [] Dp.a trivial
def Dp.s (k:Nat):CK 237 (Dp.e k):=mS Dp.d k [4] Tryz.func237 (Dp.a k) ⟨E4.s,trivial⟩
def Gu.e (k:Nat):Ent:=⟨2,[(.val true t5),(.val false t21)],[(.one,(.i .i64))],λ x=>Gu k x.1 x.2⟩
def Gj.p:LF:=⟨⟨[],[(1,t21),(10,t5),(11,(.i .i64)),(12,(.i .i64))]⟩,[(.ret,⟨[],[(4,(.i .i64))]⟩),((.exit 0),⟨[],[]⟩)],λ k x=>Gj k x.1 x.2.1 x.2.2.1 x.2.2.2⟩
def Gu.d:Fd := { nt:=27,nv:=2,nm:=[0,1,2,3,5,6,7,8],res:=[4],cs:=λ k=>[(103,D6.e k)],ls:=[(2,Gj.p)],rf:=true }
def Gu.a (k:Nat):AC (Gu.d.cs k):=⟨D6.s k,trivial⟩
def Gj.s:LL Tryz.f238 Gu.d 2 Gj.p:=mL [] Gu.a trivial
def Gu.s (k:Nat):CK 238 (Gu.e k):=mS Gu.d k [2] Tryz.func238 (Gu.a k) ⟨Gj.s,trivial⟩
def Fz.e (k:Nat):Ent:=⟨3,[(.val true t16),(.val true t5),(.val false t21)],[(.one,(.i .i64)),(.one,(.i .i64))],λ x=>Fz k x.1 x.2.1 x.2.2⟩
def Ee.p:LF:=⟨⟨[(3,(.bp 3 0 0)),(9,(.bp 9 0 0)),(4999,(.hd 2)),(10999,(.hd 3))],[(2,t21),(8,(.i .i64)),(10,.b),(26,t5),(27,(.i .i64)),(28,(.i .i64)),(4000,t16),(10000,t15)]⟩,[(.ret,⟨[],[(6,(.i .i64)),(7,(.i .i64))]⟩),((.exit 0),⟨[],[]⟩)],λ k x=>Ee k x.1 x.2.1 x.2.2.1 x.2.2.2.1 x.2.2.2.2.1 x.2.2.2.2.2.1 x.2.2.2.2.2.2.1 x.2.2.2.2.2.2.2⟩
def Fz.d:Fd := { nt:=60,nv:=3,nm:=[0,1,2,3,4,5,8,9,10,11,12,13,14],res:=[6,7],cs:=λ k=>[(103,D6.e k),(111,Eg.e k),(160,Dz.e k)],ls:=[(4,Ee.p)],rf:=true }
def Fz.a (k:Nat):AC (Fz.d.cs k):=⟨D6.s k,Eg.s k,Dz.s k,trivial⟩
def Ee.s:LL Tryz.f239 Fz.d 4 Ee.p:=mL [] Fz.a trivial
def Fz.s (k:Nat):CK 239 (Fz.e k):=mS Fz.d k [4] Tryz.func239 (Fz.a k) ⟨Ee.s,trivial⟩
def Bz.e (k:Nat):Ent:=⟨2,[(.val true t16),(.val false t21)],[(.agg,t17),(.one,(.i .i64))],λ x=>Bz k x.1 x.2⟩
def B1.p:LF:=⟨⟨[(4,(.bp 4 0 0)),(6,(.bp 6 0 0)),(5999,(.hd 2)),(7999,(.hd 2))],[(1,t21),(7,(.i .i64)),(22,(.i .i64)),(23,(.i .i64)),(5000,t18),(7000,t17)]⟩,[((.exit 0),⟨[(4,(.bp 4 0 0)),(6,(.bp 6 0 0)),(5999,(.hd 2)),(7999,(.hd 2))],[(7,(.i .i64)),(5000,t18),(7000,t17)]⟩)],λ k x=>B1 k x.1 x.2.1 x.2.2.1 x.2.2.2.1 x.2.2.2.2.1 x.2.2.2.2.2⟩
def Bz.d:Fd := { nt:=75,nv:=2,nm:=[0,1,2,3,6,7,8,9,10,11,12],res:=[5],cs:=λ k=>[(56,Bm.e k),(80,C9.e k),(111,Eg.e k),(237,Dp.e k),(238,Gu.e k),(239,Fz.e k)],ls:=[(6,B1.p)],mv:=[19,73],rf:=true }
def Bz.a (k:Nat):AC (Bz.d.cs k):=⟨Bm.s k,C9.s k,Eg.s k,Dp.s k,Gu.s k,Fz.s k,trivial⟩
def B1.s:LL Tryz.f214 Bz.d 6 B1.p:=mL [] Bz.a trivial
def Bz.s (k:Nat):CK 214 (Bz.e k):=mS Bz.d k [6] Tryz.func214 (Bz.a k) ⟨B1.s,trivial⟩
def Cd.e (k:Nat):Ent:=⟨3,[(.ptr t46 t46),(.val false (.i .i64)),(.val false (.i .i64))],[(.one,.b)],λ x=>Cd k x.1 x.2.1 x.2.2⟩
def Cd.d:Fd := { nt:=33,nv:=3,nm:=[0,1,2,3,4,5],res:=[6],cs:=λ k=>[(83,Ba.e k),(214,Bz.e k)],rf:=true }
def Cd.s (k:Nat):CK 178 (Cd.e k):=mS Cd.d k [] Tryz.func178 ⟨Ba.s k,Bz.s k,trivial⟩ trivial
def Au.e (k:Nat):Ent:=⟨2,[(.ptr t46 t46),(.val true t33)],[(.one,.b)],λ x=>Au k x.1 x.2⟩
def B7.p:LF:=⟨⟨[(0,(.bp 0 0 0)),(1999,(.hd 9))],[(5,(.i .i64)),(6,t2),(69,t5),(70,(.i .i64)),(71,(.i .i64)),(1000,t46)]⟩,[((.exit 1),⟨[(0,(.bp 0 0 0)),(1999,(.hd 9))],[(5,(.i .i64)),(6,t2),(1000,t46)]⟩)],λ k x=>B7 k x.1 x.2.1 x.2.2.1 x.2.2.2.1 x.2.2.2.2.1 x.2.2.2.2.2⟩
def Au.d:Fd := { nt:=139,nv:=2,nm:=[0,1,2,3,5,6,7,8,9,10],res:=[4],cs:=λ k=>[(83,Ba.e k),(124,F3.e k),(126,Af.e k),(127,Bl.e k),(128,Bh.e k),(172,D9.e k),(176,F4.e k),(177,Gi.e k),(178,Cd.e k)],ls:=[(17,B7.p)],rf:=true }
def Au.a (k:Nat):AC (Au.d.cs k):=⟨Ba.s k,F3.s k,Af.s k,Bl.s k,Bh.s k,D9.s k,F4.s k,Gi.s k,Cd.s k,trivial⟩
def B7.s:LL Tryz.f130 Au.d 17 B7.p:=mL [] Au.a trivial
def Au.s (k:Nat):CK 130 (Au.e k):=mS Au.d k [17] Tryz.func130 (Au.a k) ⟨B7.s,trivial⟩
def E5.e (k:Nat):Ent:=⟨2,[(.ptr t46 t46),(.val true t33)],[(.one,.b)],λ x=>E5 k x.1 x.2⟩
def E5.d:Fd := { nt:=42,nv:=2,nm:=[0,1,2,3,5],res:=[4],cs:=λ k=>[(37,B0.e k),(55,A9.e k),(130,Au.e k)],rf:=true }
def E5.s (k:Nat):CK 67 (E5.e k):=mS E5.d k [] Tryz.func67 ⟨B0.s k,A9.s k,Au.s k,trivial⟩ trivial
def Jo.e (k:Nat):Ent:=⟨2,[(.val true t43),(.val true t33)],[(.agg,t46),(.one,.b)],λ x=>Jo k x.1 x.2⟩
def Jo.d:Fd := { nt:=20,nv:=2,nm:=[0,1,2,3,6],res:=[5],cs:=λ k=>[(12,B9.e k),(36,Aq.e k),(67,E5.e k)],mv:=[19],rf:=true }
def Jo.s (k:Nat):CK 25 (Jo.e k):=mS Jo.d k [] Tryz.func25 ⟨B9.s k,Aq.s k,E5.s k,trivial⟩ trivial
def Bv.e (k:Nat):Ent:=⟨2,[(.val true t43),(.val false .s)],[(.agg,t24),(.one,.b)],λ x=>Bv k x.1 x.2⟩
def Bq.p:LF:=⟨⟨[(4,(.bp 4 0 0)),(6,(.bp 6 0 0)),(5999,(.hd 5)),(7999,(.hd 5))],[(1,.s),(7,.b),(13,t40),(14,(.i .i64)),(15,(.i .i64)),(5000,t25),(7000,t24)]⟩,[((.exit 0),⟨[(4,(.bp 4 0 0)),(6,(.bp 6 0 0)),(5999,(.hd 5)),(7999,(.hd 5))],[(7,.b),(5000,t25),(7000,t24)]⟩)],λ k x=>Bq k x.1 x.2.1 x.2.2.1 x.2.2.2.1 x.2.2.2.2.1 x.2.2.2.2.2.1 x.2.2.2.2.2.2⟩
def Bv.d:Fd := { nt:=41,nv:=2,nm:=[0,1,2,3,6,7,8,9,10,11],res:=[5],cs:=λ k=>[(19,Gg.e k),(44,Gp.e k)],ls:=[(4,Bq.p)],rf:=true }
def Bv.a (k:Nat):AC (Bv.d.cs k):=⟨Gg.s k,Gp.s k,trivial⟩
def Bq.s:LL Tryz.f28 Bv.d 4 Bq.p:=mL [] Bv.a trivial
def Bv.s (k:Nat):CK 28 (Bv.e k):=mS Bv.d k [4] Tryz.func28 (Bv.a k) ⟨Bq.s,trivial⟩
def Fv.e (k:Nat):Ent:=⟨2,[(.val true t24),(.val true t24)],[(.one,.b)],λ x=>Fv x.1 x.2⟩
def Fv.d:Fd := { nt:=26,nv:=2,nm:=[0,1,2,3],res:=[4],rf:=true }
def Fv.s (k:Nat):CK 179 (Fv.e k):=mS Fv.d k [] Tryz.func179 trivial trivial
def C0.e (k:Nat):Ent:=⟨3,[(.val true t43),(.val false .s),(.val true t24)],[(.one,.b)],λ x=>C0 k x.1 x.2.1 x.2.2⟩
def C6.p:LF:=⟨⟨[(5,(.bp 5 0 0)),(6999,(.hd 5))],[(1,.s),(10,t34),(11,(.i .i64)),(12,(.i .i64)),(6000,t24)]⟩,[(.ret,⟨[],[(6,.b)]⟩),((.exit 0),⟨[],[]⟩)],λ k x=>C6 k x.1 x.2.1 x.2.2.1 x.2.2.2.1 x.2.2.2.2⟩
def C0.d:Fd := { nt:=27,nv:=3,nm:=[0,1,2,3,4,5,7,8],res:=[6],cs:=λ k=>[(179,Fv.e k)],ls:=[(2,C6.p)],rf:=true }
def C0.a (k:Nat):AC (C0.d.cs k):=⟨Fv.s k,trivial⟩
def C6.s:LL Tryz.f131 C0.d 2 C6.p:=mL [] C0.a trivial
def C0.s (k:Nat):CK 131 (C0.e k):=mS C0.d k [2] Tryz.func131 (C0.a k) ⟨C6.s,trivial⟩
def Cg.e (k:Nat):Ent:=⟨1,[(.val true t43)],[(.one,.b)],λ x=>Cg k x⟩
def Di.p:LF:=⟨⟨[(1,(.bp 1 0 0)),(2999,(.hd 9))],[(10,t40),(11,(.i .i64)),(12,(.i .i64)),(23,t13),(24,(.i .i64)),(25,(.i .i64)),(2000,t43)]⟩,[(.ret,⟨[],[(2,.b)]⟩),((.exit 2),⟨[(1,(.bp 1 0 0)),(2999,(.hd 9))],[(10,t40),(11,(.i .i64)),(12,(.i .i64)),(2000,t43)]⟩)],λ k x=>Di k x.1 x.2.1 x.2.2.1 x.2.2.2.1 x.2.2.2.2.1 x.2.2.2.2.2.1 x.2.2.2.2.2.2⟩
def E6.p:LF:=⟨⟨[(1,(.bp 1 0 0)),(2999,(.hd 9))],[(10,t40),(11,(.i .i64)),(12,(.i .i64)),(2000,t43)]⟩,[(.ret,⟨[],[(2,.b)]⟩),((.exit 0),⟨[],[]⟩)],λ k x=>E6 k x.1 x.2.1 x.2.2.1 x.2.2.2⟩
def Cg.d:Fd := { nt:=46,nv:=1,nm:=[0,1,3,4,5,6,7,8],res:=[2],cs:=λ k=>[(59,Bg.e k),(131,C0.e k)],ls:=[(5,Di.p),(2,E6.p)],rf:=true }
def Cg.a (k:Nat):AC (Cg.d.cs k):=⟨Bg.s k,C0.s k,trivial⟩
def Di.s:LL Tryz.f69 Cg.d 5 Di.p:=mL [] Cg.a trivial
def E6.s:LL Tryz.f69 Cg.d 2 E6.p:=mL [5] Cg.a ⟨Di.s,trivial⟩
def Cg.s (k:Nat):CK 69 (Cg.e k):=mS Cg.d k [2] Tryz.func69 (Cg.a k) ⟨E6.s,trivial⟩
def Cu.e (k:Nat):Ent:=⟨1,[(.val true t43)],[(.one,.b)],λ x=>Cu k x⟩
def Cz.p:LF:=⟨⟨[(1,(.bp 1 0 0)),(6,(.bp 6 0 0)),(2999,(.hd 9)),(7999,(.hd 6))],[(7,.b),(11,t40),(12,(.i .i64)),(13,(.i .i64)),(22,t31),(23,(.i .i64)),(24,(.i .i64)),(29,t34),(30,(.i .i64)),(31,(.i .i64)),(2000,t43),(7000,t26)]⟩,[((.exit 4),⟨[(1,(.bp 1 0 0)),(2999,(.hd 9))],[(7,.b),(11,t40),(12,(.i .i64)),(13,(.i .i64)),(22,t31),(23,(.i .i64)),(24,(.i .i64)),(2000,t43)]⟩)],λ k x=>Cz k x.1 x.2.1 x.2.2.1 x.2.2.2.1 x.2.2.2.2.1 x.2.2.2.2.2.1 x.2.2.2.2.2.2.1 x.2.2.2.2.2.2.2.1 x.2.2.2.2.2.2.2.2.1 x.2.2.2.2.2.2.2.2.2.1 x.2.2.2.2.2.2.2.2.2.2.1 x.2.2.2.2.2.2.2.2.2.2.2⟩
def F5.p:LF:=⟨⟨[(1,(.bp 1 0 0)),(2999,(.hd 9))],[(11,t40),(12,(.i .i64)),(13,(.i .i64)),(22,t31),(23,(.i .i64)),(24,(.i .i64)),(2000,t43)]⟩,[(.ret,⟨[],[(2,.b)]⟩),((.exit 2),⟨[(1,(.bp 1 0 0)),(2999,(.hd 9))],[(11,t40),(12,(.i .i64)),(13,(.i .i64)),(2000,t43)]⟩)],λ k x=>F5 k x.1 x.2.1 x.2.2.1 x.2.2.2.1 x.2.2.2.2.1 x.2.2.2.2.2.1 x.2.2.2.2.2.2⟩
def F6.p:LF:=⟨⟨[(1,(.bp 1 0 0)),(2999,(.hd 9))],[(11,t40),(12,(.i .i64)),(13,(.i .i64)),(2000,t43)]⟩,[(.ret,⟨[],[(2,.b)]⟩),((.exit 0),⟨[],[]⟩)],λ k x=>F6 k x.1 x.2.1 x.2.2.1 x.2.2.2⟩
def Cu.d:Fd := { nt:=50,nv:=1,nm:=[0,1,3,4,5,6,7,8,9],res:=[2],cs:=λ k=>[(120,Ac.e k),(132,Gn.e k)],ls:=[(9,Cz.p),(5,F5.p),(2,F6.p)],rf:=true }
def Cu.a (k:Nat):AC (Cu.d.cs k):=⟨Ac.s k,Gn.s k,trivial⟩
def Cz.s:LL Tryz.f70 Cu.d 9 Cz.p:=mL [] Cu.a trivial
def F5.s:LL Tryz.f70 Cu.d 5 F5.p:=mL [9] Cu.a ⟨Cz.s,trivial⟩
def F6.s:LL Tryz.f70 Cu.d 2 F6.p:=mL [5] Cu.a ⟨F5.s,trivial⟩
def Cu.s (k:Nat):CK 70 (Cu.e k):=mS Cu.d k [2] Tryz.func70 (Cu.a k) ⟨F6.s,trivial⟩
def G3.e (k:Nat):Ent:=⟨2,[(.val false t0),(.val false .s)],[(.one,.b)],λ x=>G3 k x.1 x.2⟩
def E7.p:LF:=⟨⟨[],[(1,.s),(7,t0),(8,(.i .i64)),(9,(.i .i64))]⟩,[(.ret,⟨[],[(4,.b)]⟩),((.exit 0),⟨[],[]⟩)],λ k x=>E7 k x.1 x.2.1 x.2.2.1 x.2.2.2⟩
def G3.d:Fd := { nt:=17,nv:=2,nm:=[0,1,2,3,5,6],res:=[4],ls:=[(2,E7.p)],rf:=true }
def E7.s:LL Tryz.f133 G3.d 2 E7.p:=mL [] (λ _=>trivial) trivial
def G3.s (k:Nat):CK 133 (G3.e k):=mS G3.d k [2] Tryz.func133 trivial ⟨E7.s,trivial⟩
def G0.e (k:Nat):Ent:=⟨3,[(.val true t43),(.val false .s),(.val true t15)],[(.one,.b)],λ x=>G0 k x.1 x.2.1 x.2.2⟩
def Ef.p:LF:=⟨⟨[(5,(.bp 5 0 0)),(6999,(.hd 3))],[(1,.s),(13,t40),(14,(.i .i64)),(15,(.i .i64)),(6000,t15)]⟩,[(.ret,⟨[],[(6,.b)]⟩),((.exit 0),⟨[],[]⟩)],λ k x=>Ef k x.1 x.2.1 x.2.2.1 x.2.2.2.1 x.2.2.2.2⟩
def G0.d:Fd := { nt:=46,nv:=3,nm:=[0,1,2,3,4,5,7,8,9,10,11],res:=[6],cs:=λ k=>[(59,Bg.e k),(100,Am.e k),(115,Ed.e k)],ls:=[(2,Ef.p)],rf:=true }
def G0.a (k:Nat):AC (G0.d.cs k):=⟨Bg.s k,Am.s k,Ed.s k,trivial⟩
def Ef.s:LL Tryz.f134 G0.d 2 Ef.p:=mL [] G0.a trivial
def G0.s (k:Nat):CK 134 (G0.e k):=mS G0.d k [2] Tryz.func134 (G0.a k) ⟨Ef.s,trivial⟩
def Gv.e (k:Nat):Ent:=⟨1,[(.val true t43)],[(.one,.b)],λ x=>Gv k x⟩
def Fh.p:LF:=⟨⟨[(1,(.bp 1 0 0)),(2999,(.hd 9))],[(6,t34),(7,(.i .i64)),(8,(.i .i64)),(2000,t43)]⟩,[(.ret,⟨[],[(2,.b)]⟩),((.exit 0),⟨[],[]⟩)],λ k x=>Fh k x.1 x.2.1 x.2.2.1 x.2.2.2⟩
def Gv.d:Fd := { nt:=33,nv:=1,nm:=[0,1,3,4],res:=[2],cs:=λ k=>[(133,G3.e k),(134,G0.e k)],ls:=[(2,Fh.p)],rf:=true }
def Gv.a (k:Nat):AC (Gv.d.cs k):=⟨G3.s k,G0.s k,trivial⟩
def Fh.s:LL Tryz.f71 Gv.d 2 Fh.p:=mL [] Gv.a trivial
def Gv.s (k:Nat):CK 71 (Gv.e k):=mS Gv.d k [2] Tryz.func71 (Gv.a k) ⟨Fh.s,trivial⟩
def Dq.e (k:Nat):Ent:=⟨1,[(.val true t43)],[(.one,.b)],λ x=>Dq k x⟩
def Dj.p:LF:=⟨⟨[(1,(.bp 1 0 0)),(2999,(.hd 9))],[(6,t34),(7,(.i .i64)),(8,(.i .i64)),(2000,t43)]⟩,[(.ret,⟨[],[(2,.b)]⟩),((.exit 0),⟨[],[]⟩)],λ k x=>Dj k x.1 x.2.1 x.2.2.1 x.2.2.2⟩
def Dq.d:Fd := { nt:=39,nv:=1,nm:=[0,1,3,4],res:=[2],cs:=λ k=>[(100,Am.e k)],ls:=[(2,Dj.p)],rf:=true }
def Dq.a (k:Nat):AC (Dq.d.cs k):=⟨Am.s k,trivial⟩
def Dj.s:LL Tryz.f72 Dq.d 2 Dj.p:=mL [] Dq.a trivial
def Dq.s (k:Nat):CK 72 (Dq.e k):=mS Dq.d k [2] Tryz.func72 (Dq.a k) ⟨Dj.s,trivial⟩
def Hz.e (k:Nat):Ent:=⟨1,[(.val true t43)],[(.one,(.i .i64))],λ x=>Hz k x⟩
def Hz.d:Fd := { nt:=23,nv:=1,nm:=[0,1],res:=[2],cs:=λ k=>[(12,B9.e k),(69,Cg.e k),(70,Cu.e k),(71,Gv.e k),(72,Dq.e k)],rf:=true }
def Hz.s (k:Nat):CK 29 (Hz.e k):=mS Hz.d k [] Tryz.func29 ⟨B9.s k,Cg.s k,Cu.s k,Gv.s k,Dq.s k,trivial⟩ trivial
def Fe.e (k:Nat):Ent:=⟨1,[(.val false t3)],[(.one,.b)],λ x=>Fe k x⟩
def Dk.p:LF:=⟨⟨[(5,(.bp 5 0 0)),(9,(.bp 9 0 0)),(10,(.bp 10 0 0)),(6999,(.hd 9)),(10999,(.hd 9)),(11999,(.hd 9))],[(6,(.i .i64)),(8,.b),(11,(.i .i64)),(6000,t43),(10000,t43),(11000,t43)]⟩,[((.exit 0),⟨[(9,(.bp 9 0 0)),(10,(.bp 10 0 0)),(10999,(.hd 9)),(11999,(.hd 9))],[(6,(.i .i64)),(8,.b),(10000,t43),(11000,t43)]⟩)],λ k x=>Dk k x.1 x.2.1 x.2.2.1 x.2.2.2.1 x.2.2.2.2.1 x.2.2.2.2.2⟩
def Fe.d:Fd := { nt:=97,nv:=1,nm:=[0,1,3,4,5,6,7,8,9,10,11,12,13,14,15],res:=[2],cs:=λ k=>[(7,Jg.e k),(15,Ch.e k),(17,Ey.e k),(23,Bw.e k),(25,Jo.e k),(28,Bv.e k),(29,Hz.e k)],ls:=[(10,Dk.p)],sh:=true,rf:=true }
def Fe.a (k:Nat):AC (Fe.d.cs k):=⟨Jg.s k,Ch.s k,Ey.s k,Bw.s k,Jo.s k,Bv.s k,Hz.s k,trivial⟩
def Dk.s:LL Tryz.f6 Fe.d 10 Dk.p:=mL [] Fe.a trivial
def Fe.s (k:Nat):CK 6 (Fe.e k):=mS Fe.d k [10] Tryz.func6 (Fe.a k) ⟨Dk.s,trivial⟩
end

def Tot {α:Type} (f:Nat→Option α) (Q:α→Prop):Prop:=∃ r K,(∀ k,K≤k→f k=some r)∧Q r
section
variable {α β:Type} {f g:Nat→Option α} {Q Q':α→Prop}
def Tot.mono (h:Tot f Q) (hq:∀ a,Q a→Q' a):Tot f Q':=by
 obtain⟨r,K,h1,h2⟩:=h;exact⟨r,K,h1,hq r h2⟩
def Zga {a:α} (h:Q a):Tot (λ _=>some a) Q:=⟨a,0,λ _ _=>rfl,h⟩
def Zua {o:Option α} {a:α} (e:o=some a) (h:Q a):Tot (λ _=>o) Q:=⟨a,0,λ _ _=>e,h⟩
def Zha {h:Nat→α→Option β} {R:β→Prop} (hf:Tot f Q) (hh:∀ a,Q a→Tot (λ k=>h k a) R):Tot (λ k=>(f k).bind (h k)) R:=by
 obtain⟨a,K,h1,h2⟩:=hf;obtain⟨b,L,h3,h4⟩:=hh a h2;exact⟨b,max K L,λ k hk=>by show (f k).bind (h k)=_;rw[h1 k (by omega)];exact h3 k (by omega),h4⟩
def Zja {c:Bool} (hc:c=true) (h:Tot f Q):Tot (λ k=>cond c (f k) (g k)) Q:=by subst hc;exact h
def Zia {c:Bool} (hc:c=false) (h:Tot g Q):Tot (λ k=>cond c (f k) (g k)) Q:=by subst hc;exact h
def Zma {c:Bool} (h1:c=true→Tot f Q) (h2:c=false→Tot g Q):Tot (λ k=>cond c (f k) (g k)) Q:=by
 cases hc:c with
 |true=>exact h1 hc
 |false=>exact h2 hc
def Zka {p:Prop} [Decidable p] (hp:p) (h:Tot f Q):Tot (λ k=>cond (decide p) (f k) (g k)) Q:=Zja (decide_eq_true hp) h
def Zla {p:Prop} [Decidable p] (hp:¬ p) (h:Tot g Q):Tot (λ k=>cond (decide p) (f k) (g k)) Q:=Zia (decide_eq_false hp) h
def Zna {p:Prop} [Decidable p] (h1:p→Tot f Q) (h2:¬ p→Tot g Q):Tot (λ k=>cond (decide p) (f k) (g k)) Q:=
 Zma (λ h=>h1 (of_decide_eq_true h)) (λ h=>h2 (of_decide_eq_false h))
def Zoa {m n:Nat} (hp:m≤n) (h:Tot f Q):Tot (λ k=>cond (Nat.ble m n) (f k) (g k)) Q:=Zja (Zj hp) h
def Zsa {v:α} {h:Nat→α→Option β} {R:β→Prop} (hf:Tot f (λ r=>r=v)) (hh:Tot (λ k=>h k v) R):Tot (λ k=>(f k).bind (h k)) R:=
 Zha hf (by rintro r rfl;exact hh)
def Zta {c:Bool} (h1:c=false→Tot f Q) (h2:c=true→Tot g Q):Tot (λ k=>cond (!c) (f k) (g k)) Q:=by
 cases hc:c with
 |true=>exact h2 hc
 |false=>exact h1 hc
def Tot.succ (h:Tot (λ k=>f (k+1)) Q):Tot f Q:=by
 obtain⟨r,K,h1,h2⟩:=h;exact⟨r,K+1,λ k hk=>by obtain⟨m,rfl⟩:∃ m,k=m+1:=⟨k-1,by omega⟩;exact h1 m (by omega),h2⟩
def Tot.and (h:Tot f Q) (h':Tot f Q'):Tot f (λ a=>Q a∧Q' a):=by
 obtain⟨r,K,h1,h2⟩:=h;obtain⟨r',K',h1',h2'⟩:=h'
 have e:r=r':=by
  have a1:=h1 (max K K') (by omega);have a2:=h1' (max K K') (by omega);rw[a1]at a2;exact Ckb a2
 subst e;exact⟨r,K,h1,h2,h2'⟩
def Tot.law {f:Nat→Option Bool} (h:Tot f (λ b=>b=true)):∃ k,f k=some true:=by
 obtain⟨r,K,h1,h2⟩:=h;subst h2;exact⟨K,h1 K (Vv _)⟩
end
def w64 {n:Int} (h1 : -9223372036854775808≤n) (h2:n≤9223372036854775807):wrap .i64 n=n:=Go.IntWalk.i64_in n ⟨h1,h2⟩
def M1a (n:Int):0≤wrap .u8 n∧wrap .u8 n≤255:=by
 simp only[wrap,IntKind.signed,IntKind.bits];simp;omega
def Gua (x m:Int) (h0:0≤m) (h1:m<9223372036854775808):0≤wrap .i64 ((ofInt (IntKind.bits .i64) x &&& ofInt (IntKind.bits .i64) m).toNat)∧wrap .i64 ((ofInt (IntKind.bits .i64) x &&& ofInt (IntKind.bits .i64) m).toNat)≤m:=by
 have hm:(ofInt (IntKind.bits .i64) m).toNat=m.toNat:=by
  rw[C3b];show (m % ((2 ^ 64:Nat):Int)).toNat=m.toNat;rw[Int.emod_eq_of_lt h0 (by omega)]
 have hle:(ofInt (IntKind.bits .i64) x &&& ofInt (IntKind.bits .i64) m).toNat≤m.toNat:=by
  rw[BitVec.toNat_and,hm];exact Nat.and_le_right
 rw[w64 (by omega) (by omega)];omega
def M2a {x n:Int} (hx:0≤x) (hn:0<n):0≤Int.tmod x n∧Int.tmod x n<n:=by
 rw[Zva hx];exact⟨Int.emod_nonneg _ (by omega),Int.emod_lt_of_pos _ hn⟩

abbrev Cur:=List Int×Int×Int
def Th (c:Cur):Prop:=(c.1.length:Int)≤1048576∧0≤c.2.1∧c.2.1≤1048576
def Iha (b:List Int) (hb:(b.length:Int)≤1048576):∀ (n:Nat) (h i:Int),0≤i→i+n=4001→Tot (λ k=>Fq k b h i) (λ r=>r.1=b):=by
 intro n
 induction n with
 |zero=>
  intro h i h0 hi;refine Tot.succ ?_;simp only[Fq];refine Zna (λ h1=>?_) (λ h1=>Zga rfl);exact Zla (by omega) (Zga rfl)
 |succ n ih=>
  intro h i h0 hi;refine Tot.succ ?_;simp only[Fq];refine Zna (λ h1=>?_) (λ h1=>Zga rfl);refine Zna (λ h2=>?_) (λ h2=>Zga rfl);refine Zka h0 (Zka h1 ?_);rw[w64 (n:=i+1) (by omega) (by omega)];exact ih _ _ (by omega) (by omega)
def M3a (b:List Int) (hb:(b.length:Int)≤1048576):Tot (λ k=>H9 k b) Th:=by
 unfold H9;refine Zha (Iha b hb 4001 _ 0 (by omega) (by omega)) (λ r hr=>?_);exact Zga ⟨by rw[hr];exact hb,Abb 0,by show (0:Int)≤1048576;omega⟩
def Pn (c:Cur) (hc:Th c):∃ x c',Fs c=some (x,c')∧0≤x∧x≤255∧Th c':=by
 obtain⟨h1,h2,h3⟩:=hc;unfold Fs
 by_cases hlt:c.2.1<(c.1.length:Int)
 ·simp only[hlt,h2,decide_true,cond_true];obtain⟨a1,a2⟩:=Gua (wrap .i64 ((wrap .i64 ((ofInt (IntKind.bits .i64) (wrap .i64 ((ofInt (IntKind.bits .i64) (Int.fdiv (wrap .i64 ((wrap .i64 (c.2.2*6364136223846793005))+1442695040888963407)) (2 ^ (min (toNat 33) (IntKind.bits .i64)))) ^^^ ofInt (IntKind.bits .i64) (Int.fdiv (wrap .i64 ((wrap .i64 (c.2.2*6364136223846793005))+1442695040888963407)) (2 ^ (min (toNat 47) (IntKind.bits .i64))))).toNat)) &&& ofInt (IntKind.bits .i64) 255).toNat))+(wrap .i64 (getD c.1 (toNat c.2.1) (0:Int))))) 255 (by omega) (by omega);refine⟨_,_,rfl,a1,a2,h1,?_,?_⟩
  ·show 0≤wrap .i64 (c.2.1+1);rw[w64 (by omega) (by omega)];omega
  ·show wrap .i64 (c.2.1+1)≤1048576;rw[w64 (by omega) (by omega)];omega
 ·simp only[hlt,decide_false,cond_false];obtain⟨a1,a2⟩:=Gua (wrap .i64 ((ofInt (IntKind.bits .i64) (Int.fdiv (wrap .i64 ((wrap .i64 (c.2.2*6364136223846793005))+1442695040888963407)) (2 ^ (min (toNat 33) (IntKind.bits .i64)))) ^^^ ofInt (IntKind.bits .i64) (Int.fdiv (wrap .i64 ((wrap .i64 (c.2.2*6364136223846793005))+1442695040888963407)) (2 ^ (min (toNat 47) (IntKind.bits .i64))))).toNat)) 255 (by omega) (by omega);exact⟨_,_,rfl,a1,a2,h1,h2,h3⟩
def Ns (c:Cur) (hc:Th c) (n:Int) (hn:n≤1000000000):∃ x c',Dn c n=some (x,c')∧0≤x∧(0<n→x<n)∧(n≤0→x=0)∧Th c':=by
 unfold Dn
 by_cases h0:n≤0
 ·exact⟨0,c,by simp only[h0,decide_true,cond_true],by omega,by omega,λ _=>rfl,hc⟩
 ·by_cases h1:n≤256
  ·obtain⟨x,c',e,b0,b1,k⟩:=Pn c hc
   have hz:¬ n=0:=by omega
   have:=M2a b0 (show 0<n by omega);exact⟨Int.tmod x n,c',by simp only[h0,h1,hz,decide_true,decide_false,cond_true,cond_false,e,Vt],this.1,λ _=>this.2,λ h=>by omega,k⟩
  ·obtain⟨x,c1,e1,b0,b1,k1⟩:=Pn c hc;obtain⟨y,c2,e2,b2,b3,k2⟩:=Pn c1 k1;obtain⟨z,c3,e3,b4,b5,k3⟩:=Pn c2 k2
   have hz:¬ n=0:=by omega
   have:=M2a (show 0≤x*65536+y*256+z by omega) (show 0<n by omega);refine⟨Int.tmod (x*65536+y*256+z) n,c3,?_,this.1,λ _=>this.2,λ h=>by omega,k3⟩;simp only[h0,h1,hz,decide_false,cond_false,e1,e2,e3,Vt];rw[w64 (n:=x*65536) (by omega) (by omega),w64 (n:=y*256) (by omega) (by omega),w64 (n:=x*65536+y*256) (by omega) (by omega),w64 (n:=x*65536+y*256+z) (by omega) (by omega)]
def Q3a {α:Type} {l:List α} {i:Int} {d:α} (h0:0≤i) (h1:i<(l.length:Int)):l.getD i.toNat d∈l:=by
 have h:i.toNat<l.length:=by omega
 rw[Vb,Ve h];exact Blb h
def Y5 (c:Cur) (hc:Th c) (l:List Int) (hl:0<l.length) (hm:l.length≤2000000):∃ x c',G7 c l=some (x,c')∧x∈l∧Th c':=by
 obtain⟨i,c',e,b0,b1,_,k⟩:=Ns c hc (l.length:Int) (by omega);have b1:=b1 (by omega);refine⟨l.getD i.toNat 0,c',?_,Q3a b0 b1,k⟩;unfold G7;simp only[e,Vt,b0,b1,decide_true,cond_true]
def Ax (l:List Int):Prop:=∀ x∈l,0≤x∧x≤255
abbrev Stp:=Int×Int×Int
abbrev Row:=ByteArray×Stp×Bool×Int
abbrev Fil:=Stp×Bool×List Int

end Go.Proofs.YtcpligincipmhaaGreat.Vf
