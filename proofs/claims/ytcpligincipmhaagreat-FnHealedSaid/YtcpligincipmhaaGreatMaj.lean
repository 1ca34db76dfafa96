import Derived.Test.YtcpligincipmhaaGreatMai
import Derived.Laws.StructEq
import Derived.Below
import Derived.Test.YtcpligincipmhaaGreatMab
import Derived.Test.YtcpligincipmhaaGreatProg
import Derived.KernelRfl
import Derived.IntWalk
set_option linter.all false
namespace Go.Proofs.YtcpligincipmhaaGreat.Vf
open Go
open List (length getD)
open Int (toNat)
open Go.IntKind (wrap)
open BitVec (ofInt)
def Cvb:=@Int.tmod_eq_emod_of_nonneg
def Cyb:=@Bool.and_true
def Deb:=@Option.some.inj
def Dtb:=@List.all_cons
def F2b:=@BitVec.toNat_ofInt
def Fqb:=@Bool.and_assoc

section
attribute [local irreducible] C H
def eq1:Lf→Lf→Option Bool
 |.sc (.int k x),.sc (.int k' y)=>if k=k' then some (x==y) else none
 |.sc (.bool x),.sc (.bool y)=>some (x==y)
 |.sc (.string x),.sc (.string y)=>some (x==y)
 |_,_=>none
def S0a (a a':Lf) (l l':List Lf) {b:Bool} (h:E7 (a::l) (a'::l')=some b):∃ b1 b2,eq1 a a'=some b1∧E7 l l'=some b2∧b=(b1&&b2):=by
 unfold E7 at h;split at h
 ·rename_i e _;cases e
 ·rename_i k x k' y e1 e2;cases e1;cases e2
  by_cases hk:k=k'
  ·simp only[hk,decide_true,cond_true,Vc]at h;exact⟨x==y,true,by simp only[eq1,hk,if_true],rfl,by simp[h]⟩
  ·simp[hk]at h
 ·rename_i x y e1 e2;cases e1;cases e2;simp only[Vc]at h;exact⟨_,true,rfl,rfl,by simp[h]⟩
 ·rename_i x y e1 e2;cases e1;cases e2;simp only[Vc]at h;exact⟨_,true,rfl,rfl,by simp[h]⟩
 ·rename_i k x l k' y l' _ e1 e2;cases e1;cases e2
  by_cases hk:k=k'
  ·simp only[hk,decide_true,cond_true]at h;split at h
   ·rename_i b2 hb;simp only[Vc]at h;exact⟨_,b2,by simp only[eq1,hk,if_true],hb,h.symm⟩
   ·cases h
  ·simp[hk]at h
 ·rename_i x l y l' _ e1 e2;cases e1;cases e2;split at h
  ·rename_i b2 hb;simp only[Vc]at h;exact⟨_,b2,rfl,hb,h.symm⟩
  ·cases h
 ·rename_i x l y l' _ e1 e2;cases e1;cases e2;split at h
  ·rename_i b2 hb;simp only[Vc]at h;exact⟨_,b2,rfl,hb,h.symm⟩
  ·cases h
 ·cases h
def Xn:∀ (l m l' m':List Lf) (b:Bool),l.length=l'.length→E7 (l++m) (l'++m')=some b→∃ b1 b2,E7 l l'=some b1∧E7 m m'=some b2∧b=(b1&&b2)
 |[],m,[],m',b,_,h=>⟨true,b,rfl,h,by simp⟩
 |[],_,_::_,_,_,hl,_=>by simp at hl
 |_::_,_,[],_,_,hl,_=>by simp at hl
 |a::l,m,a'::l',m',b,hl,h=>by
  obtain⟨b1,b2,h1,h2,rfl⟩:=S0a a a' (l++m) (l'++m') h;obtain⟨b3,b4,h3,h4,rfl⟩:=Xn l m l' m' b2 (by simpa using hl) h2;refine⟨b1&&b3,b4,?_,h4,by simp[Fqb]⟩
  cases a with
  |sc u=>
   cases a' with
   |sc u'=>
    cases u<;>first|(simp[eq1]at h1;done)|skip
    all_goals (cases u'<;>first|(simp[eq1]at h1;done)|skip)
    ·rename_i x y;simp only[eq1,Vc]at h1
     cases l<;>cases l'<;>first|(simp at hl;done)|skip
     ·simp only[E7,Vc]at h3;simp only[E7];rw[← h3,← h1,Cyb]
     ·simp only[E7,h3];rw[← h1]
    ·rename_i k x k' y;simp only[eq1]at h1
     by_cases hk:k=k'
     ·rw[if_pos hk]at h1;simp only[Vc]at h1
      cases l<;>cases l'<;>first|(simp at hl;done)|skip
      ·simp only[E7,Vc]at h3;simp only[E7,hk,decide_true,cond_true];rw[← h3,← h1,Cyb]
      ·simp only[E7,hk,decide_true,cond_true,h3];rw[← h1]
     ·rw[if_neg hk]at h1;cases h1
    ·rename_i x y;simp only[eq1,Vc]at h1
     cases l<;>cases l'<;>first|(simp at hl;done)|skip
     ·simp only[E7,Vc]at h3;simp only[E7];rw[← h3,← h1,Cyb]
     ·simp only[E7,h3];rw[← h1]
   |_=>cases u<;>simp[eq1]at h1
  |_=>simp[eq1]at h1
def eqB (P:Program) (ti:TypeId→Option TI):Nat→TypeId→Bool
 |0,_=>false
 |n+1,T=>match ti T,P.underlying T with
  |some t,some (.struct fs)=>t.ag&&!(P.stoodInHeld T)&&Rp ti fs.toList 0 t.ty&&fs.toList.all (λ f => !(f.name == "_")&&eqB P ti n f.type)
  |some ⟨.i _,false,_,_⟩,some (.int _)=>true
  |some ⟨.b,false,_,_⟩,some .bool=>true
  |some ⟨.s,false,_,_⟩,some .string=>true
  |_,_=>false
section
variable {P:Program} {ti:TypeId→Option TI} {G:Nat→Prop} {w:World}
def Zqa (P:Program) (ti:TypeId→Option TI) (G:Nat→Prop) (w:World) (n:Nat):Prop:=
 ∀ T t d (X Y:t.ty.den) (us vs:List Value) (x y:Value) (b:Bool) (w':World),n≤d→eqB P ti n T=true→ti T=some t→Jt (It P G w) (A6 t.ty X) us→Jt (It P G w) (A6 t.ty Y) vs→E7 (A6 t.ty X) (A6 t.ty Y)=some b→
  (if t.ag then x = .agg us.toArray else us=[x])→(if t.ag then y = .agg vs.toArray else vs=[y])→(Op.equalIn d T x y).run P w' = .ok b w'
def T7 {T:TypeId} {t:TI} (hk:TOk P T t) {us:List Value} {off:Nat} (hl:off+t.ty.sz≤us.length) (w':World):
  ∃ u,(part T us.toArray off).run P w' = .ok u w'∧(if t.ag then u = .agg ((us.drop off).take t.ty.sz).toArray else (us.drop off).take t.ty.sz=[u]):=by
 obtain⟨d,hd,hagg⟩:=Eza hk
 cases ha:t.ag with
 |true=>
  rw[ha]at hagg;refine⟨.agg (us.toArray.extract off (off+t.ty.sz)),?_,?_⟩
  ·unfold part;simp only[Wd,Mj hd hagg,Wc,if_true,Iv (Oh hk),Yb]
  ·simp only[if_true];congr 1;apply F9b;rw[Array.toList_extract];simp[List.extract]
 |false=>
  rw[ha]at hagg;have h1:=Lua hk ha
  have hlt:off<us.length:=by omega
  refine⟨us[off],?_,?_⟩
  ·unfold part;simp only[Wd,Mj hd hagg,Wc,Wq,if_false]
   have:us.toArray[off]? = some us[off]:=by simp[hlt]
   rw[this];rfl
  ·simp only[Wq,if_false];rw[h1,Zj hlt];rfl
def Cwa (htok:∀ T t,ti T=some t→TOk P T t) {n:Nat} (ih:Zqa P ti G w n) {d:Nat} (hd:n≤d) {us vs:List Value} (w':World):
  ∀ (fs:List Field) (o:Nat) (ty:Ty) (X Y:ty.den) (b:Bool),Rp ti fs o ty=true→fs.all (λ f => !(f.name == "_")&&eqB P ti n f.type)=true→o+ty.sz≤us.length→o+ty.sz≤vs.length→
   Jt (It P G w) (A6 ty X) ((us.drop o).take ty.sz)→Jt (It P G w) (A6 ty Y) ((vs.drop o).take ty.sz)→
   E7 (A6 ty X) (A6 ty Y)=some b→(Op.eqFields d us.toArray vs.toArray fs).run P w' = .ok b w'
 |[],o,ty,X,Y,b,hp,_,_,_,_,_,_=>by cases ty<;>simp[Rp]at hp
 |[f],o,ty,X,Y,b,hp,ha,hl,hl',h0,h0',he=>by
  simp only[Rp,Va]at hp;simp only[Dtb,Va,Wb,beq_eq_false_iff_ne]at ha;obtain⟨⟨a1,a2⟩,_⟩:=ha;obtain⟨t,h1,h2⟩:=Nv hp.2;have ho:f.offset=o:=Ve hp.1;subst h2;subst ho;obtain⟨x,hx1,hx2⟩:=T7 (htok _ _ h1) hl w';obtain⟨y,hy1,hy2⟩:=T7 (htok _ _ h1) hl' w';have hr:=ih f.type t d X Y _ _ x y b w' hd a2 h1 h0 h0' he hx2 hy2;simp only[Op.eqFields,ne_eq,a1,not_false_eq_true,if_true,Wd,hx1,hy1,hr,Wc]
  cases b<;>rfl
 |f::g::fs,o,ty,X,Y,b,hp,ha,hl,hl',h0,h0',he=>by
  cases ty<;>first|(simp[Rp]at hp;done)|skip
  rename_i tx tyy;simp only[Rp,Va]at hp;obtain⟨⟨q0,q1⟩,hp⟩:=hp;rw[Dtb,Va]at ha;obtain⟨ha0,ha⟩:=ha;simp only[Va,Wb,beq_eq_false_iff_ne]at ha0;obtain⟨a1,a2⟩:=ha0;obtain⟨t,h1,h2⟩:=Nv q1;have ho:f.offset=o:=Ve q0;subst h2;subst ho;have hl2:f.offset+(t.ty.sz+tyy.sz)≤us.length:=hl;have hl2':f.offset+(t.ty.sz+tyy.sz)≤vs.length:=hl';have he2:E7 (A6 t.ty X.1++A6 tyy X.2) (A6 t.ty Y.1++A6 tyy Y.2)=some b:=he;have r0:Jt (It P G w) (A6 t.ty X.1++A6 tyy X.2) ((us.drop f.offset).take (t.ty.sz+tyy.sz)):=h0;have r0':Jt (It P G w) (A6 t.ty Y.1++A6 tyy Y.2) ((vs.drop f.offset).take (t.ty.sz+tyy.sz)):=h0';have k1:=r0.take t.ty.sz;have k2:=r0.drop t.ty.sz;have k1':=r0'.take t.ty.sz;have k2':=r0'.drop t.ty.sz;have c1:=Gz t.ty X.1;have c1':=Gz t.ty Y.1;rw[← c1,Dxb,c1,Dmb,D0b (by omega)]at k1;rw[← c1',Dxb,c1',Dmb,D0b (by omega)]at k1'
  have c2:∀ l:List Value,List.drop t.ty.sz (List.take (t.ty.sz+tyy.sz) l)=List.take tyy.sz (List.drop t.ty.sz l):=λ l=>by rw[Dyb];congr 1;omega
  rw[c2,Yo]at k2 k2';rw[show List.drop t.ty.sz (A6 t.ty X.1++A6 tyy X.2)=A6 tyy X.2 by rw[← c1,Zm]]at k2;rw[show List.drop t.ty.sz (A6 t.ty Y.1++A6 tyy Y.2)=A6 tyy Y.2 by rw[← c1',Zm]]at k2';obtain⟨b1,b2,e1,e2,rfl⟩:=Xn _ _ _ _ b (by rw[c1,c1']) he2;obtain⟨x,hx1,hx2⟩:=T7 (htok _ _ h1) (us:=us) (off:=f.offset) (by omega) w';obtain⟨y,hy1,hy2⟩:=T7 (htok _ _ h1) (us:=vs) (off:=f.offset) (by omega) w';have hr:=ih f.type t d X.1 Y.1 _ _ x y b1 w' hd a2 h1 k1 k1' e1 hx2 hy2;have hr2:=Cwa htok ih hd w' (g::fs) (f.offset+t.ty.sz) tyy X.2 Y.2 b2 hp ha (by omega) (by omega) k2 k2' e2;rw[Op.eqFields];simp only[ne_eq,a1,not_false_eq_true,if_true,Wd,hx1,hy1,hr,Wc];cases b1
  ·rfl
  ·simpa using hr2
def Uea (htok:∀ T t,ti T=some t→TOk P T t):∀ n,Zqa P ti G w n
 |0=>by
  intro T t d X Y us vs x y b w' _ h;simp[eqB]at h
 |n+1=>by
  intro T t d X Y us vs x y b w' hd h hT hl hl' he hx hy;obtain⟨d,rfl⟩:∃ m,d=m+1:=⟨d-1,by omega⟩
  have one:∀ {us:List Value} {x:Value} {z:Lf},us=[x]→Jt (It P G w) [z] us→It P G w z x:=by
   intro us x z e h;subst e
   cases h with
   |cons a h=>exact a
  unfold eqB at h;rw[hT]at h;split at h
  ·rename_i t0 fs e1 hu;cases e1;simp only[Va,Wb]at h;obtain⟨⟨⟨h1,h2⟩,h3⟩,h4⟩:=h;rw[h1]at hx hy;simp only[if_true]at hx hy;subst hx hy
   have hfs:P.fieldsOf T=fs:=by unfold Program.fieldsOf;rw[hu]
   rw[run_equalIn_struct w' d T _ _ (by rw[hfs];exact hu) h2,hfs];have e1:=hl.len;have e2:=hl'.len;rw[Gz]at e1 e2;exact Cwa htok (Uea htok n) (by omega) w' fs.toList 0 t.ty X Y b h3 h4 (by omega) (by omega) (by rw[Yu,← e1,Zf];exact hl) (by rw[Yu,← e2,Zf];exact hl') he
  ·rename_i k by_ fo k' e1 hu;cases e1;simp only[Wq,if_false]at hx hy;have hz:=(one hx hl).1;have hz':=(one hy hl').1;subst hz hz'
   have he':(X==Y)=b:=by simpa[A6,E7] using he
   rw[← he'];simp[Op.equalIn,run_underlying hu]
  ·rename_i by_ fo e1 hu;cases e1;simp only[Wq,if_false]at hx hy;have hz:=(one hx hl).1;have hz':=(one hy hl').1;subst hz hz'
   have he':(X==Y)=b:=by simpa[A6,E7] using he
   rw[← he'];simp[Op.equalIn,run_underlying hu]
  ·rename_i by_ fo e1 hu;cases e1;simp only[Wq,if_false]at hx hy;have hz:=(one hx hl).1;have hz':=(one hy hl').1;subst hz hz'
   have he':(X==Y)=b:=by simpa[A6,E7] using he
   rw[← he'];simp[Op.equalIn,run_underlying hu]
  ·cases h
end
def Zra:∀ (t:Ty) (l l':List Lf) (x:t.den),Nd l=true→mkT t l=some (x,l')→l=A6 t x++l'∧Nd l'=true:=by
 intro t
 induction t with
 |pr p q ihp ihq=>
  intro l l' x h hm;simp only[mkT]at hm;split at hm
  ·rename_i y l1 h1;split at hm
   ·rename_i z l2 h2;cases hm;obtain⟨e1,a1⟩:=ihp _ _ _ h h1;obtain⟨e2,a2⟩:=ihq _ _ _ a1 h2;refine⟨?_,a2⟩;rw[e1,e2,← Vo];rfl
   ·cases hm
  ·cases hm
 |_=>
  intro l l' x h hm
  cases l with
  |nil=>simp[mkT]at hm
  |cons z l=>
   cases z<;>first|(simp[Nd]at h;done)|skip
   rename_i v
   cases v<;>first|(simp[mkT]at hm;done)|skip
   all_goals
    simp only[Nd]at h;simp only[mkT]at hm
    first
     |(simp only[Vc,Vx]at hm;obtain⟨rfl,rfl⟩:=hm;exact⟨rfl,h⟩)
     |(
       rename_i k k' n
       by_cases hk:k=k'
       ·subst hk;simp only[decide_true,cond_true,Vc,Vx]at hm;obtain⟨rfl,rfl⟩:=hm;exact⟨rfl,h⟩
       ·simp[hk]at hm)
def Beb {P:Program} {ti:TypeId→Option TI} (htok:∀ T t,ti T=some t→TOk P T t) {T:TypeId} (h:eqB P ti 9 T=true) (hag:(match ti T with|some t=>t.ag|none=>false)=true) (hg:P.eqGuardType P.depth T=false) (G:Nat→Prop) (w w':World) (x y:Operand) (l l':List Lf) (us vs:List Value) (b:Bool)
  (h1:Jt (It P G w) l us) (h2:Jt (It P G w) l' vs) (he:E7 l l'=some b) (ha:Nd l=true) (ha':Nd l'=true) (hk:Me (ti T) l=true) (hk':Me (ti T) l'=true):
  (Op.equal T (.agg us.toArray) (.agg vs.toArray)).run P w' = .ok b w'∧(eqGuard .eql T x y (.agg us.toArray) (.agg vs.toArray)).run P w' = .ok () w'∧(eqGuard .neq T x y (.agg us.toArray) (.agg vs.toArray)).run P w' = .ok () w':=by
 refine⟨?_,run_eqGuard_agg w' _ T x y _ _ hg,run_eqGuard_agg w' _ T x y _ _ hg⟩;unfold Me at hk hk';split at hk
 ·rename_i t hT;rw[hT]at hk' hag;simp only at hk' hag
  have key:∀ {l:List Lf},Nd l=true→(mkW t.ty l).isSome=true→∃ X,l=A6 t.ty X:=by
   intro l ha hk;obtain⟨X,hX⟩:=Zl.1 hk;unfold mkW at hX;split at hX
   ·rename_i z hz;cases hX;obtain⟨e1,_⟩:=Zra t.ty l [] _ ha hz;exact⟨_,by rw[e1,Wo]⟩
   ·cases hX
  obtain⟨X,rfl⟩:=key ha hk;obtain⟨Y,rfl⟩:=key ha' hk';exact Uea htok 9 T t Op.maxDepth X Y us vs _ _ b w' (by decide) h hT h1 h2 he (by rw[hag];rfl) (by rw[hag];rfl)
 ·cases hk
end

section
open Go.RowKit
attribute [local irreducible] C H
def Il:Code→List Code
 |.seq a b=>Il a++Il b
 |.cond _ a b=>Il a++Il b
 |.block _ c=>Il c
 |.loop c=>[c]
 |_=>[]
def Noa {X:Cx} {E:En}:∀ (c:Code),(∀ d∈Il c,∀ L,E.lp (first d)=some L→Cka X L d)→Kr X E c:=by
 intro c
 induction c with
 |seq a b iha ihb=>exact λ h=>⟨iha λ d hd=>h d (Vy _ hd),ihb λ d hd=>h d (Vn _ hd)⟩
 |cond x a b iha ihb=>exact λ h=>⟨iha λ d hd=>h d (Vy _ hd),ihb λ d hd=>h d (Vn _ hd)⟩
 |block i c ih=>exact λ h=>ih h
 |loop c ih=>exact λ h=>h c (by simp[Il])
 |_=>exact λ h=>trivial
def S1a {X:Cx} {E:En} {c b:Code} (ids:List Nat) (h1:Il c=ids.map λ l=>Hs l b) (h2:(ids.map λ l=>first (Hs l b))=ids) (h3:∀ l∈ids,∀ L,E.lp l=some L→Cka X L (Hs l b)):Kr X E c:=by
 refine Noa c λ d hd L hL=>?_;rw[h1]at hd;obtain⟨l,hl,rfl⟩:=Yt.1 hd
 have:first (Hs l b)=l:=by
  have key:∀ (is:List Nat),(is.map λ l=>first (Hs l b))=is→∀ l∈is,first (Hs l b)=l:=by
   intro is
   induction is with
   |nil=>intro _ l hl;simp at hl
   |cons i is ih=>
    intro e l hl;simp only[Ya,Yh]at e;rcases Vk.1 hl with rfl|hl
    ·exact e.1
    ·exact ih e.2 l hl
  exact key ids h2 l hl
 rw[this]at hL;exact h3 l hl L hL
def Zsa {P:Program} {X:Cx} {E:En} {ti:TypeId→Option TI} {eqs:TypeId→Bool} (hP:X.P=P) (h1:E.nt=X.nt) (h2:E.np=X.np) (h3:E.ti=ti) (h4:E.eq=eqs) (htok:∀ T t,ti T=some t→TOk P T t)
  (heq:∀ T,eqs T=true→eqB P ti 9 T=true∧(match ti T with|some t=>t.ag|none=>false)=true∧P.eqGuardType P.depth T=false) (hc:∀ f en,E.call f=some en→M2 P f en):U8 X E:=by
 refine⟨⟨h1,h2,λ T t h=>?_,λ T h G w w' x y l l' us vs b=>?_⟩,λ f en h=>?_⟩
 ·rw[hP];rw[h3]at h;exact htok T t h
 ·rw[hP,h3];rw[h4]at h;obtain⟨e1,e2,e3⟩:=heq T h;exact Beb htok e1 e2 e3 G w w' x y l l' us vs b
 ·rw[hP];exact hc f en h
def Wva {t:Ty} : {ts:List Ty}→t.den→Den ts→Den (t::ts)
 |[],x,_=>x
 |_::_,x,y=>(x,y)
def Cxa {t:Ty} {ts:List Ty} {x:t.den} {y:Den ts}:E6 (t::ts) (Wva x y)=A6 t x::E6 ts y:=by
 cases ts<;>rfl
inductive Ufa (P:Program) (w:World):(ps:List Par)→Den (ps.map Par.ty)→List Value→Prop
 |nil:Ufa P w [] () []
 |cons {ag:Bool} {t:Ty} {ps:List Par} {X:t.den} {Y:Den (ps.map Par.ty)} {u:Value} {us vs:List Value} (hn:J6 t=true) (hu:if ag then u = .agg vs.toArray else vs=[u])
   (hr:t.rep P (λ k=>k<w.heap.size) w X vs) (h:Ufa P w ps Y us):Ufa P w (.val ag t::ps) (Wva (t:=t) (ts:=ps.map Par.ty) X Y) (u::us)
def S2a (w:World):Nat→Lab:=λ k=>if k<w.heap.size then .fz else .no
def S3a {P:Program} {w:World}:∀ {ps:List Par} {x:Den (ps.map Par.ty)} {us:List Value},Ufa P w ps x us→us.length=ps.length:=by
 intro ps x us h
 induction h with
 |nil=>rfl
 |cons _ _ _ _ ih=>simp[ih]
def Npa {P:Program} {w:World} {rg:Nat→Nat×Nat} {nv:Nat} {hs:List Value}:∀ {ps:List Par} {x:Den (ps.map Par.ty)} {us:List Value} (i:Nat),Ufa P w ps x us→M1 P (bare (S2a w) w) rg nv hs i ps (E6 _ x) us:=by
 intro ps x us i h
 induction h generalizing i with
 |nil=>trivial
 |@cons ag t ps X Y u us vs hn hu hr h ih=>
  show M1 P (bare (S2a w) w) rg nv hs i (.val ag t::ps) (E6 (t::ps.map Par.ty) (Wva X Y)) (u::us);rw[Cxa];refine⟨⟨vs,hu,?_⟩,ih (i+1)⟩;have h1:=Mh (P:=P) (G:=λ k=>S2a w k = .fz) (w:=w) t X vs (Ty.rep_mono (λ k hk=>by unfold S2a;rw[if_pos hk]) (λ _ _=>rfl) t X vs hr);rw[U4 t X hn];exact Ac.ofRep (S:=bare (S2a w) w) h1 _ _
def S4a {P:Program} {f:FuncId} {en:Ent} (hs:W8a P f en) {w:World} {us:List Value} {x:Den (en.ps.map Par.ty)} (hc:Ufa P w en.ps x us) (hnv:Nat.ble en.ps.length en.nv=true) {r:Den (en.rs.map Prod.snd++Jd en.ps)} (hr:en.run x=some r)
  (hrs:en.rs=[(.one,.b)]) (hl:∃ ls,E6 _ r=[.sc (.bool true)]::ls):Calls P f us.toArray w (λ e w'=>e = .returned (.bool true)∧Below w.heap.size w w'):=by
 have htk:us.take en.nv=us:=D3b (by rw[S3a hc];exact Vl hnv)
 have hcalls:=hs x r hr w (S2a w) (λ _=>(0,0)) us (λ k hk=>by
  unfold S2a at hk;split at hk
  ·assumption
  ·exact(hk rfl).elim) (λ k b hk=>by
  unfold S2a at hk
  split at hk<;>cases hk) (Npa 0 hc)
 rw[htk]at hcalls;refine Rj hcalls ?_;rintro e w' ⟨v,O',rfl,hF,_,hR,_⟩;obtain⟨ls,hl⟩:=hl;rw[hl]at hR;rw[hrs]at hR;obtain⟨l,ls',e1,h1⟩:=hR;cases e1;have h2:Ac P (bare O' w') (λ _ => .tm 1 []) 0 [.sc (.bool true)] [v]:=h1;have hv:v = .bool true:=h2.1.1;subst hv;exact⟨rfl,hF.os,hF.tape,hF.out,hF.size,λ k hk=>(hF.fz k hk (by unfold S2a;rw[if_pos hk])).2⟩
def S5a {H':Type} {enc:TypeId×Value→H'} {P:Program} {w:World} {base:Nat} {spare:Nat→Bool} {held:Bool} {ti:TypeId→Option TI} (htok:∀ T t,ti T=some t→TOk P T t) (hcl:∀ T,Qj P ti T=true)
  {T:TypeId} {t:TI} (hT:ti T=some t) {v:Value} {d:DataW H'} {p:List MemPlace} {b0:Nat} (hv:Value.okWide P w .any b0 T v) (h:DataW.Trod enc P w base spare held T v d p)
  {ts:List TypeId} {ds:List (DataW H')} (hw:(DataW.weightsEach P ts ds).all (· ≤ reachBytes)=true) {j:Nat} (hj:ts[j]? = some T) (hd:ds[j]? = some d):
  ∃ (X:t.ty.den) (vs:List Value),(if t.ag then v = .agg vs.toArray else vs=[v])∧t.ty.rep P (λ k=>k<w.heap.size) w X vs∧t.ty.fit ti X:=by
 obtain⟨n,hn⟩:=h
 obtain⟨X,r,f⟩:=Ala htok hcl n T t _ _ hT hn (λ m hm=>by
  have:=Yc.1 hw m (DataW.weights_mem_each hj hd m hm)
  exact of_decide_eq_true this)
 refine⟨X,_,?_,r,f⟩;have hc:=hcl T;unfold Qj at hc;rw[hT]at hc;unfold Value.okWide at hv;split at hc
 ·rename_i e;cases e
 ·rename_i t0 fs e1 hu;cases e1;simp only[Va]at hc;rw[hc.1];rw[hu]at hv;obtain⟨cs,rfl,_⟩:=hv;simp[Value.cells]
 all_goals first
  |(cases hc;done)
  |(rename_i hu;rw[hu]at hv;simp only[Cell.okWide,hu]at hv;rename_i e1;cases e1;simp only[Wq,if_false];have hsz:=Ty.rep_len _ _ _ r;cases v<;>first|(simp[Value.cells];done)|(simp only[Cell.ok,hu]at hv;done)|(simp[Cell.ok,hu]at hv;done))
end

section
open Go.RowKit
attribute [local irreducible] C H
def lk {α:Type}:List (Nat×α)→Nat→Option α
 |[],_=>none
 |(i,a)::l,n=>bif Nat.beq n i then some a else lk l n
structure LF where
 ins:Bia
 alts:List (Ex×Bia)
 f:Nat→ins.den→Option (Qla alts)
@[reducible] def LF.at (p:LF) (k:Nat):Lp:=⟨p.ins,p.alts,p.f k⟩
structure Fd where
 nt:Nat
 nv:Nat
 nm:List Nat
 res:List Nat
 cs:Nat→List (FuncId×Ent):=λ _=>[]
 ls:List (Nat×LF):=[]
 hint:List (Nat×Ty):=[]
 mv:List Nat:=[]
 gh:List (Nat×List Gh):=[]
 opn:List Nat:=[]
 sh:Bool:=false
 rf:Bool:=false
def Fd.n (D:Fd) (ti:TypeId→Option TI) (eqs:TypeId→Bool) (k:Nat):En:=
 ⟨D.nt,ti,eqs,D.nm.contains,D.res.contains,lk (D.cs k),λ l=>match lk D.ls l with|some p=>some (p.at k)|none=>none,D.nv,lk D.hint,D.mv.contains,λ n=>(lk D.gh n).getD [],D.opn.contains,λ _=>D.sh,D.rf⟩
def Uga {α:Type}:∀ {l:List (Nat×α)} {n:Nat} {a:α},lk l n=some a→n∈l.map Prod.fst
 |[],_,_,h=>by cases h
 |(i,b)::l,n,a,h=>by
  unfold lk at h;cases hb:Nat.beq n i
  case true=>rw[Ve hb];simp
  rw[hb,cond_false]at h;exact Vd _ (Uga h)
def Wwa (P:Program):List (FuncId×Ent)→Prop
 |[]=>True
 |c::l=>M2 P c.1 c.2∧Wwa P l
def Nqa {P:Program}:∀ {l:List (FuncId×Ent)} {f:FuncId} {en:Ent},Wwa P l→lk l f=some en→M2 P f en
 |[],_,_,_,h=>by cases h
 |(i,a)::l,f,en,hc,h=>by
  unfold lk at h
  cases hb:Nat.beq f i with
  |true=>
   rw[hb,cond_true]at h;cases h;rw[Ve hb];exact hc.1
  |false=>rw[hb,cond_false]at h;exact Nqa hc.2 h
@[reducible] def bo (fn:Func):Code:=fn.body.getD .skip
structure Uk (P:Program) (ti:TypeId→Option TI) (eqs:TypeId→Bool):Prop where
 tok:∀ T t,ti T=some t→TOk P T t
 eq:∀ T,eqs T=true→eqB P ti 9 T=true∧(match ti T with|some t=>t.ag|none=>false)=true∧P.eqGuardType P.depth T=false
 mix:P.follows .mixedOrders=true
def LK (P:Program) (fn:Func) (D:Fd) (l:Nat) (p:LF):Prop:=∀ X:Cx,X.P=P→X.nt=fn.ntmps→X.np=D.nv→∀ k,Cka X (p.at k) (Hs l (bo fn))
def Wxa (P:Program) (fn:Func) (D:Fd):List Nat→Prop
 |[]=>True
 |l::r=>(match lk D.ls l with|some p=>LK P fn D l p|none=>True)∧Wxa P fn D r
def Nra {P:Program} {fn:Func} {D:Fd} {l:Nat} {p:LF} (hp:lk D.ls l=some p):∀ {r:List Nat},Wxa P fn D r→l∈r→LK P fn D l p
 |[],_,h=>by cases h
 |i::r,ha,h=>by
  rcases Vk.1 h with rfl|h
  ·have:=ha.1;rw[hp]at this;exact this
  ·exact Nra hp ha.2 h
section
variable {P:Program} {ti:TypeId→Option TI} {eqs:TypeId→Bool} {fn:Func}
def Bfb (hS:Uk P ti eqs) {D:Fd} {k:Nat} (hn:Nat.beq D.nt fn.ntmps=true) (hc:Wwa P (D.cs k)) {X:Cx} (hP:X.P=P) (hx:X.nt=fn.ntmps) (hp:X.np=D.nv):U8 X (D.n ti eqs k):=
 Zsa hP ((Ve hn).trans hx.symm) hp.symm rfl rfl hS.tok hS.eq (λ _ _ h=>Nqa hc h)
def Zta (hS:Uk P ti eqs) {D:Fd} {k:Nat} (hn:Nat.beq D.nt fn.ntmps=true) (hc:Wwa P (D.cs k)) {X:Cx} (hP:X.P=P) (hx:X.nt=fn.ntmps) (hp:X.np=D.nv):Cla X (D.n ti eqs k):=
 Wua (Bfb hS hn hc hP hx hp) (by rw[hP];exact hS.mix)
def Uha {D:Fd} {k:Nat} {c:Code} {ids:List Nat} (h:(Il c,ids.map λ l=>first (Hs l (bo fn)))=(ids.map λ l=>Hs l (bo fn),ids)) (hi:Wxa P fn D ids) {X:Cx} (hP:X.P=P) (hx:X.nt=fn.ntmps) (hp:X.np=D.nv):Kr X (D.n ti eqs k) c:=by
 rw[Vx]at h;refine S1a (b:=bo fn) ids h.1 h.2 λ l hl L hL=>?_;have hL':(match lk D.ls l with|some p=>some (p.at k)|none=>none)=some L:=hL
 cases hp':lk D.ls l with
 |none=>rw[hp']at hL';cases hL'
 |some p=>
  rw[hp']at hL';cases hL';exact Nra hp' hi hl X hP hx hp k
@[reducible] def C1b (ti:TypeId→Option TI) (eqs:TypeId→Bool) (fn:Func) (D:Fd) (l:Nat) (p:LF):Prop:=∀ k x,Lia (D.n ti eqs k) (p.at k) (Hs l (bo fn)) x=p.f (k+1) x
def mkL (hS:Uk P ti eqs) {D:Fd} {l:Nat} {p:LF} (ids:List Nat) (hn:Nat.beq D.nt fn.ntmps=true) (hc:∀ k,Wwa P (D.cs k)) (hi:Wxa P fn D ids) (h:(Il (Hs l (bo fn)),ids.map λ l=>first (Hs l (bo fn)))=(ids.map λ l=>Hs l (bo fn),ids)) (h0:∀ x,p.f 0 x=none) (hs:C1b ti eqs fn D l p):LK P fn D l p:=
 λ X hP hx hp=>Wga (ins:=p.ins) (alts:=p.alts) (f:=p.f) (En':=D.n ti eqs) h0 hs (λ k=>Bfb hS hn (hc k) hP hx hp) (λ k=>Zta hS hn (hc k) hP hx hp) (λ k=>Uha h hi hP hx hp)
def Bgb (fn:Func) (D:Fd) (en:Ent):Bool:=Nat.beq D.nt fn.ntmps&&(Nat.ble fn.ntmps 1000&&(Nat.ble en.nv fn.ntmps&&(Nat.beq en.nv D.nv&&(fn.body.isSome&&(!(fn.name == "runtime.NumGoroutine")&&Fea en)))))
def mkS (hS:Uk P ti eqs) {f:FuncId} {D:Fd} {k:Nat} {en:Ent} (ids:List Nat) (hf:P.funcs[f]? = some fn) (hc:Wwa P (D.cs k)) (hi:Wxa P fn D ids) (hk:Bgb fn D en=true) (h:(Il (bo fn),ids.map λ l=>first (Hs l (bo fn)))=(ids.map λ l=>Hs l (bo fn),ids))
  (hr:∀ x,Lja (D.n ti eqs k) (bo fn) fn.results.toList en x=en.run x):M2 P f en:=by
 unfold Bgb at hk;simp only[Va,Wb]at hk;obtain⟨h1,h2,h3,h4,h5,h6,h7⟩:=hk;have h4:=Ve h4
 have hb:fn.body=some (bo fn):=by
  unfold bo
  cases hb:fn.body with
  |none=>rw[hb]at h5;cases h5
  |some c=>rfl
 refine⟨⟨fn,hf,h6,by rw[hb];rfl⟩,Jya hf hb (Vl h2) (Vl h3) (λ X hP hx hp=>?_) (λ X hP hx hp=>?_) (λ X hP hx hp=>?_) h7 hr⟩
 ·exact Bfb hS h1 hc hP hx (hp.trans h4)
 ·exact Zta hS h1 hc hP hx (hp.trans h4)
 ·exact Uha h hi hP hx (hp.trans h4)
def Bhb {keys Yma:List Nat} (hk:∀ {T t},ti T=some t→T∈keys) (h1:(keys.all λ T=>(match ti T with|some t=>Bab P T t|none=>true)&&Qj P ti T)=true)
  (h2:(Yma.all λ T=>eqB P ti 9 T&&(match ti T with|some t=>t.ag|none=>false)&&!(P.eqGuardType P.depth T))=true) (he:eqs=λ T=>Yma.contains T) (hm:P.follows .mixedOrders=true):Uk P ti eqs∧∀ T,Qj P ti T=true:=by
 refine⟨⟨λ T t h=>?_,λ T h=>?_,hm⟩,λ T=>?_⟩
 ·have h3:=Yc.1 h1 T (hk h);rw[Va,h]at h3;exact Yza _ _ _ h3.1
 ·rw[he]at h;have h3:=Yc.1 h2 T (List.elem_iff.1 h);simp only[Va,Wb]at h3;exact⟨h3.1.1,h3.1.2,h3.2⟩
 ·cases h:ti T with
  |none=>unfold Qj;rw[h]
  |some t=>
   have h3:=Yc.1 h1 T (hk h);rw[Va]at h3;exact h3.2
end
end

section
open Go.Proofs
@[reducible] def t0:Ty := .sl 9 .s
@[reducible] def t1:Ty := .sl 4 .b
@[reducible] def t2:Ty := .ow 4 .b
@[reducible] def t3:Ty := .sl 5 (.i .u8)
@[reducible] def t4:Ty := .ow 5 (.i .u8)
@[reducible] def t5:Ty := .sl 3 (.i .i64)
@[reducible] def t6:Ty := .ow 3 (.i .i64)
@[reducible] def t7:Ty := .pr .s (.i .u64)
@[reducible] def t8:Ty := .pr (.i .i64) (.i .i64)
@[reducible] def t9:Ty := .sl 97 t5
@[reducible] def t10:Ty := .pr .s t3
@[reducible] def t11:Ty := .pr .s t4
@[reducible] def t12:Ty := .sl 139 t10
@[reducible] def t13:Ty := .ow 139 t10
@[reducible] def t14:Ty := .ow 139 t11
@[reducible] def t15:Ty := .pr (.i .i64) t8
@[reducible] def t16:Ty := .pr (.i .i64) t9
@[reducible] def t17:Ty := .pr (.i .i64) (.ow 97 t6)
@[reducible] def t18:Ty := .pr (.i .i64) (.ow 97 t5)
@[reducible] def t19:Ty := .pr t3 (.pr (.i .i64) .b)
@[reducible] def t20:Ty := .pr t3 t8
@[reducible] def t21:Ty := .sl 88 t15
@[reducible] def t22:Ty := .ow 88 t15
@[reducible] def t23:Ty := .pr (.i .i64) (.pr (.i .i64) (.pr .b (.i .u8)))
@[reducible] def t24:Ty := .pr t15 (.pr .b t3)
@[reducible] def t25:Ty := .pr .s (.pr t15 (.pr .b (.i .i64)))
@[reducible] def t26:Ty := .pr t12 t12
@[reducible] def t27:Ty := .pr t13 t13
@[reducible] def t28:Ty := .pr t14 t14
@[reducible] def t29:Ty := .sl 134 t25
@[reducible] def t30:Ty := .ow 134 t25
@[reducible] def t31:Ty := .pr .s (.pr t24 .b)
@[reducible] def t32:Ty := .pr (.i .i64) (.pr (.i .i64) (.pr .s (.pr t3 (.pr (.i .i64) t5))))
@[reducible] def t33:Ty := .sl 119 t31
@[reducible] def t34:Ty := .ow 119 t31
@[reducible] def t35:Ty := .pr t30 t30
@[reducible] def t36:Ty := .pr (.i .i64) (.pr t26 (.pr t29 t29))
@[reducible] def t37:Ty := .pr (.i .i64) (.pr t27 t35)
@[reducible] def t38:Ty := .pr (.i .i64) (.pr t26 t35)
@[reducible] def t39:Ty := .sl 56 t36
@[reducible] def t40:Ty := .ow 56 t36
@[reducible] def t41:Ty := .pr t40 (.pr t15 (.pr t34 (.ow 9 .s)))
@[reducible] def t42:Ty := .pr t21 (.pr t16 (.pr t39 (.pr t15 (.pr t33 t0))))
@[reducible] def t43:Ty := .pr t22 (.pr t16 (.pr t40 (.pr t15 (.pr t34 t0))))
@[reducible] def t44:Ty := .pr t22 (.pr t16 t41)
@[reducible] def t45:Ty := .pr t22 (.pr t18 t41)
def tiL:List (Nat×TI):=[(2,⟨(.i .i64),false,8,[]⟩),
 (3,⟨(.i .i64),false,8,[]⟩),
 (4,⟨.b,false,1,[]⟩),
 (5,⟨(.i .u8),false,1,[]⟩),
 (6,⟨(.i .u8),false,1,[]⟩),
 (7,⟨t23,true,24,[(0,1,false),(1,1,false),(2,1,false),(3,1,false)]⟩),
 (8,⟨t23,true,24,[(0,1,false),(1,1,false),(2,1,false),(3,1,false)]⟩),
 (9,⟨.s,false,16,[]⟩),
 (10,⟨.s,false,16,[]⟩),
 (11,⟨.s,false,16,[]⟩),
 (12,⟨(.i .u64),false,8,[]⟩),
 (13,⟨t7,true,24,[(0,1,false),(1,1,false)]⟩),
 (14,⟨t7,true,24,[(0,1,false),(1,1,false)]⟩),
 (21,⟨(.i .i32),false,4,[]⟩),
 (22,⟨t3,false,24,[]⟩),
 (24,⟨t21,false,24,[]⟩),
 (25,⟨t9,false,24,[]⟩),
 (26,⟨t16,true,32,[(0,1,false),(1,1,false)]⟩),
 (27,⟨t16,true,32,[(0,1,false),(1,1,false)]⟩),
 (28,⟨t39,false,24,[]⟩),
 (29,⟨t15,true,24,[(0,1,false),(1,1,false),(2,1,false)]⟩),
 (30,⟨t15,true,24,[(0,1,false),(1,1,false),(2,1,false)]⟩),
 (31,⟨t33,false,24,[]⟩),
 (32,⟨t0,false,24,[]⟩),
 (33,⟨t42,true,152,[(0,1,false),(1,2,true),(3,1,false),(4,3,true),(7,1,false),(8,1,false)]⟩),
 (34,⟨t42,true,152,[(0,1,false),(1,2,true),(3,1,false),(4,3,true),(7,1,false),(8,1,false)]⟩),
 (35,⟨t5,false,24,[]⟩),
 (40,⟨t24,true,56,[(0,3,true),(3,1,false),(4,1,false)]⟩),
 (41,⟨t24,true,56,[(0,3,true),(3,1,false),(4,1,false)]⟩),
 (51,⟨t12,false,24,[]⟩),
 (52,⟨t26,true,48,[(0,1,false),(1,1,false)]⟩),
 (53,⟨t26,true,48,[(0,1,false),(1,1,false)]⟩),
 (54,⟨t29,false,24,[]⟩),
 (55,⟨t36,true,104,[(0,1,false),(1,2,true),(3,1,false),(4,1,false)]⟩),
 (56,⟨t36,true,104,[(0,1,false),(1,2,true),(3,1,false),(4,1,false)]⟩),
 (66,⟨t32,true,88,[(0,1,false),(1,1,false),(2,1,false),(3,1,false),(4,1,false),(5,1,false)]⟩),
 (67,⟨t32,true,88,[(0,1,false),(1,1,false),(2,1,false),(3,1,false),(4,1,false),(5,1,false)]⟩),
 (87,⟨t15,true,24,[(0,1,false),(1,1,false),(2,1,false)]⟩),
 (88,⟨t15,true,24,[(0,1,false),(1,1,false),(2,1,false)]⟩),
 (96,⟨t5,true,24,[(0,1,false)]⟩),
 (97,⟨t5,true,24,[(0,1,false)]⟩),
 (110,⟨t20,true,40,[(0,1,false),(1,1,false),(2,1,false)]⟩),
 (111,⟨t20,true,40,[(0,1,false),(1,1,false),(2,1,false)]⟩),
 (118,⟨t31,true,80,[(0,1,false),(1,5,true),(6,1,false)]⟩),
 (119,⟨t31,true,80,[(0,1,false),(1,5,true),(6,1,false)]⟩),
 (133,⟨t25,true,56,[(0,1,false),(1,3,true),(4,1,false),(5,1,false)]⟩),
 (134,⟨t25,true,56,[(0,1,false),(1,3,true),(4,1,false),(5,1,false)]⟩),
 (138,⟨t10,true,40,[(0,1,false),(1,1,false)]⟩),
 (139,⟨t10,true,40,[(0,1,false),(1,1,false)]⟩),
 (146,⟨t19,true,40,[(0,1,false),(1,1,false),(2,1,false)]⟩),
 (147,⟨t19,true,40,[(0,1,false),(1,1,false),(2,1,false)]⟩),
 (186,⟨(.i .u32),false,4,[]⟩),
 (191,⟨(.i .u64),false,8,[]⟩),
 (198,⟨t1,false,24,[]⟩),
 (238,⟨(.i .u8),false,1,[]⟩),
 (239,⟨(.i .u8),false,1,[]⟩),
 (242,⟨(.i .i32),false,4,[]⟩),
 (243,⟨(.i .i32),false,4,[]⟩)]
def ti:TypeId→Option TI:=lk tiL
def Yma:List Nat:=[29,30,87,88,133,134]
def eqs:TypeId→Bool:=λ T=>Yma.contains T
def sK:Uk Tryz.prog ti eqs∧∀ T,Qj Tryz.prog ti T=true:=Bhb (P:=Tryz.prog) (ti:=ti) (eqs:=eqs) (keys:=tiL.map Prod.fst) (Yma:=Yma) Uga (by kernel_rfl) (by kernel_rfl) rfl (by kernel_rfl)
def sO:Uk Tryz.prog ti eqs:=sK.1
def C9b:∀ T t,ti T=some t→TOk Tryz.prog T t:=sO.tok
def Cab:∀ T,Qj Tryz.prog ti T=true:=sK.2
abbrev CK:=M2 Tryz.prog
abbrev LL:=LK Tryz.prog
abbrev AC:=Wwa Tryz.prog
def mS {f:FuncId} {fn:Func} (D:Fd) (k:Nat) {en:Ent} (ids:List Nat) (hf:Tryz.prog.funcs[f]? = some fn) (hc:AC (D.cs k)) (hi:Wxa Tryz.prog fn D ids) (h:(Bgb fn D en,Il (bo fn),ids.map λ l=>first (Hs l (bo fn)))=(true,ids.map λ l=>Hs l (bo fn),ids):=by kernel_rfl) (hr:∀ x,Lja (D.n ti eqs k) (bo fn) fn.results.toList en x=en.run x:=by intro x;kernel_rfl):CK f en:=mkS sO ids hf hc hi (congrArg Prod.fst h) (congrArg Prod.snd h) hr
def mL {fn:Func} {D:Fd} {l:Nat} {p:LF} (ids:List Nat) (hc:∀ k,AC (D.cs k)) (hi:Wxa Tryz.prog fn D ids) (h:(Nat.beq D.nt fn.ntmps,Il (Hs l (bo fn)),ids.map λ l=>first (Hs l (bo fn)))=(true,ids.map λ l=>Hs l (bo fn),ids):=by kernel_rfl) (h0:∀ x,p.f 0 x=none:=by intro _;rfl) (hs:C1b ti eqs fn D l p:=by intro k x;kernel_rfl):LL fn D l p:=mkL sO ids (congrArg Prod.fst h) hc hi (congrArg Prod.snd h) h0 hs
def Jr.e (k:Nat):Ent:=⟨1,[(.val false t3)],[(.one,.b)],λ x=>Jr x⟩
def Jr.d:Fd := { nt:=6,nv:=1,nm:=[0,1],res:=[2] }
def Jr.s (k:Nat):CK 7 (Jr.e k):=mS Jr.d k [] Tryz.func7 trivial trivial
def Bj.e (k:Nat):Ent:=⟨3,[(.val false (.i .i64)),(.val false (.i .i64)),(.val false (.i .i64))],[(.one,.b)],λ x=>Bj x.1 x.2.1 x.2.2⟩
def Bj.d:Fd := { nt:=15,nv:=3,nm:=[0,1,2,3,4,5],res:=[6] }
def Bj.s (k:Nat):CK 83 (Bj.e k):=mS Bj.d k [] Tryz.func83 trivial trivial
def Ae.e (k:Nat):Ent:=⟨1,[(.val false .s)],[(.one,.b)],λ x=>Ae k x⟩
def An.p:LF:=⟨⟨[],[(0,.s),(3,(.i .i64))]⟩,[(.ret,⟨[],[(2,.b)]⟩),((.exit 0),⟨[],[(0,.s)]⟩)],λ k x=>An k x.1 x.2⟩
def Ae.d:Fd := { nt:=45,nv:=1,nm:=[0,1,3,4],res:=[2],cs:=λ k=>[(83,Bj.e k)],ls:=[(2,An.p)] }
def Ae.a (k:Nat):AC (Ae.d.cs k):=⟨Bj.s k,trivial⟩
def An.s:LL Tryz.f41 Ae.d 2 An.p:=mL [] Ae.a trivial
def Ae.s (k:Nat):CK 41 (Ae.e k):=mS Ae.d k [2] Tryz.func41 (Ae.a k) ⟨An.s,trivial⟩
def Br.e (k:Nat):Ent:=⟨1,[(.val false t21)],[(.one,.b)],λ x=>Br k x⟩
def Ec.p:LF:=⟨⟨[],[(0,t21),(5,t21),(6,(.i .i64)),(7,(.i .i64))]⟩,[(.ret,⟨[],[(2,.b)]⟩),((.exit 0),⟨[],[(0,t21)]⟩)],λ k x=>Ec k x.1 x.2.1 x.2.2.1 x.2.2.2⟩
def Br.d:Fd := { nt:=47,nv:=1,nm:=[0,1,3,4],res:=[2],cs:=λ k=>[(83,Bj.e k)],ls:=[(2,Ec.p)],rf:=true }
def Br.a (k:Nat):AC (Br.d.cs k):=⟨Bj.s k,trivial⟩
def Ec.s:LL Tryz.f101 Br.d 2 Ec.p:=mL [] Br.a trivial
def Br.s (k:Nat):CK 101 (Br.e k):=mS Br.d k [2] Tryz.func101 (Br.a k) ⟨Ec.s,trivial⟩
def Bn.e (k:Nat):Ent:=⟨2,[(.val false t5),(.val false (.i .i64))],[(.one,.b)],λ x=>Bn k x.1 x.2⟩
def Ev.p:LF:=⟨⟨[],[(1,(.i .i64)),(7,t5),(8,(.i .i64)),(9,(.i .i64))]⟩,[(.ret,⟨[],[(4,.b)]⟩),((.exit 0),⟨[],[]⟩)],λ k x=>Ev k x.1 x.2.1 x.2.2.1 x.2.2.2⟩
def Bn.d:Fd := { nt:=17,nv:=2,nm:=[0,1,2,3,5,6],res:=[4],ls:=[(2,Ev.p)],rf:=true }
def Ev.s:LL Tryz.f152 Bn.d 2 Ev.p:=mL [] (λ _=>trivial) trivial
def Bn.s (k:Nat):CK 152 (Bn.e k):=mS Bn.d k [2] Tryz.func152 trivial ⟨Ev.s,trivial⟩
def Eh.e (k:Nat):Ent:=⟨1,[(.val false t5)],[(.one,.b)],λ x=>Eh k x⟩
def Fn.p:LF:=⟨⟨[],[(0,t5),(5,t5),(6,(.i .i64)),(7,(.i .i64))]⟩,[(.ret,⟨[],[(2,.b)]⟩),((.exit 0),⟨[],[]⟩)],λ k x=>Fn k x.1 x.2.1 x.2.2.1 x.2.2.2⟩
def Eh.d:Fd := { nt:=18,nv:=1,nm:=[0,1,3,4],res:=[2],cs:=λ k=>[(152,Bn.e k)],ls:=[(2,Fn.p)],rf:=true }
def Eh.a (k:Nat):AC (Eh.d.cs k):=⟨Bn.s k,trivial⟩
def Fn.s:LL Tryz.f102 Eh.d 2 Fn.p:=mL [] Eh.a trivial
def Eh.s (k:Nat):CK 102 (Eh.e k):=mS Eh.d k [2] Tryz.func102 (Eh.a k) ⟨Fn.s,trivial⟩
def De.e (k:Nat):Ent:=⟨2,[(.val false t21),(.val false (.i .i64))],[(.agg,t15),(.one,.b)],λ x=>De k x.1 x.2⟩
def Fo.p:LF:=⟨⟨[(4,(.bp 4 0 0)),(5999,(.hd 3))],[(1,(.i .i64)),(8,t21),(9,(.i .i64)),(10,(.i .i64)),(5000,t15)]⟩,[(.ret,⟨[(4,(.bp 4 0 0)),(5999,(.hd 3))],[(5,.b),(5000,t15)]⟩),((.exit 0),⟨[(4,(.bp 4 0 0)),(5999,(.hd 3))],[(5000,t15)]⟩)],λ k x=>Fo k x.1 x.2.1 x.2.2.1 x.2.2.2.1 x.2.2.2.2⟩
def De.d:Fd := { nt:=21,nv:=2,nm:=[0,1,2,3,6,7],res:=[5],ls:=[(2,Fo.p)],rf:=true }
def Fo.s:LL Tryz.f103 De.d 2 Fo.p:=mL [] (λ _=>trivial) trivial
def De.s (k:Nat):CK 103 (De.e k):=mS De.d k [2] Tryz.func103 trivial ⟨Fo.s,trivial⟩
def Dw.e (k:Nat):Ent:=⟨2,[(.val true t16),(.val false t21)],[(.one,.b)],λ x=>Dw k x.1 x.2⟩
def Ew.p:LF:=⟨⟨[(2,(.bp 2 0 0)),(3999,(.hd 2))],[(1,t21),(28,t9),(29,(.i .i64)),(30,(.i .i64)),(47,t5),(48,(.i .i64)),(49,(.i .i64)),(3000,t16)]⟩,[(.ret,⟨[],[(4,.b)]⟩),((.exit 2),⟨[(2,(.bp 2 0 0)),(3999,(.hd 2))],[(1,t21),(28,t9),(29,(.i .i64)),(30,(.i .i64)),(3000,t16)]⟩)],λ k x=>Ew k x.1 x.2.1 x.2.2.1 x.2.2.2.1 x.2.2.2.2.1 x.2.2.2.2.2.1 x.2.2.2.2.2.2.1 x.2.2.2.2.2.2.2⟩
def Ey.p:LF:=⟨⟨[(2,(.bp 2 0 0)),(3999,(.hd 2))],[(1,t21),(28,t9),(29,(.i .i64)),(30,(.i .i64)),(3000,t16)]⟩,[(.ret,⟨[],[(4,.b)]⟩),((.exit 0),⟨[],[]⟩)],λ k x=>Ey k x.1 x.2.1 x.2.2.1 x.2.2.2.1 x.2.2.2.2⟩
def Dw.d:Fd := { nt:=63,nv:=2,nm:=[0,1,2,3,5,6,7,8,9,10],res:=[4],cs:=λ k=>[(83,Bj.e k),(101,Br.e k),(102,Eh.e k),(103,De.e k)],ls:=[(9,Ew.p),(4,Ey.p)],rf:=true }
def Dw.a (k:Nat):AC (Dw.d.cs k):=⟨Bj.s k,Br.s k,Eh.s k,De.s k,trivial⟩
def Ew.s:LL Tryz.f45 Dw.d 9 Ew.p:=mL [] Dw.a trivial
def Ey.s:LL Tryz.f45 Dw.d 4 Ey.p:=mL [9] Dw.a ⟨Ew.s,trivial⟩
def Dw.s (k:Nat):CK 45 (Dw.e k):=mS Dw.d k [4] Tryz.func45 (Dw.a k) ⟨Ey.s,trivial⟩
def Bu.e (k:Nat):Ent:=⟨1,[(.val true t15)],[(.one,.b)],λ x=>Bu x⟩
def Bu.d:Fd := { nt:=16,nv:=1,nm:=[0,1],res:=[2],cs:=λ k=>[(83,Bj.e k)] }
def Bu.s (k:Nat):CK 46 (Bu.e k):=mS Bu.d k [] Tryz.func46 ⟨Bj.s k,trivial⟩ trivial
def Bv.e (k:Nat):Ent:=⟨2,[(.val true t15),(.val true t15)],[(.one,.b)],λ x=>Bv x.1 x.2⟩
def Bv.d:Fd := { nt:=32,nv:=2,nm:=[0,1,2,3],res:=[4] }
def Bv.s (k:Nat):CK 100 (Bv.e k):=mS Bv.d k [] Tryz.func100 trivial trivial
def Cr.e (k:Nat):Ent:=⟨1,[(.val true t24)],[(.one,.b)],λ x=>Cr x⟩
def Cr.d:Fd := { nt:=23,nv:=1,nm:=[0,1],res:=[2],cs:=λ k=>[(46,Bu.e k)] }
def Cr.s (k:Nat):CK 104 (Cr.e k):=mS Cr.d k [] Tryz.func104 ⟨Bu.s k,trivial⟩ trivial
def Co.e (k:Nat):Ent:=⟨1,[(.val true t42)],[(.one,.b)],λ x=>Co k x⟩
def Di.p:LF:=⟨⟨[(1,(.bp 1 0 0)),(2999,(.hd 9))],[(6,t33),(7,(.i .i64)),(8,(.i .i64)),(2000,t42)]⟩,[(.ret,⟨[],[(2,.b)]⟩),((.exit 0),⟨[(1,(.bp 1 0 0)),(2999,(.hd 9))],[(2000,t42)]⟩)],λ k x=>Di k x.1 x.2.1 x.2.2.1 x.2.2.2⟩
def Co.d:Fd := { nt:=35,nv:=1,nm:=[0,1,3,4],res:=[2],cs:=λ k=>[(41,Ae.e k),(100,Bv.e k),(104,Cr.e k)],ls:=[(2,Di.p)],rf:=true }
def Co.a (k:Nat):AC (Co.d.cs k):=⟨Ae.s k,Bv.s k,Cr.s k,trivial⟩
def Di.s:LL Tryz.f47 Co.d 2 Di.p:=mL [] Co.a trivial
def Co.s (k:Nat):CK 47 (Co.e k):=mS Co.d k [2] Tryz.func47 (Co.a k) ⟨Di.s,trivial⟩
def Gq.e (k:Nat):Ent:=⟨1,[(.val true t25)],[(.one,.b)],λ x=>Gq k x⟩
def Gq.d:Fd := { nt:=26,nv:=1,nm:=[0,1],res:=[2],cs:=λ k=>[(41,Ae.e k),(46,Bu.e k),(83,Bj.e k)] }
def Gq.s (k:Nat):CK 105 (Gq.e k):=mS Gq.d k [] Tryz.func105 ⟨Ae.s k,Bu.s k,Bj.s k,trivial⟩ trivial
def Dc.e (k:Nat):Ent:=⟨1,[(.val false t12)],[(.one,.b)],λ x=>Dc k x⟩
def Dj.p:LF:=⟨⟨[],[(0,t12),(5,t12),(6,(.i .i64)),(7,(.i .i64))]⟩,[(.ret,⟨[],[(2,.b)]⟩),((.exit 0),⟨[],[(0,t12)]⟩)],λ k x=>Dj k x.1 x.2.1 x.2.2.1 x.2.2.2⟩
def Dc.d:Fd := { nt:=41,nv:=1,nm:=[0,1,3,4],res:=[2],cs:=λ k=>[(41,Ae.e k)],ls:=[(2,Dj.p)] }
def Dc.a (k:Nat):AC (Dc.d.cs k):=⟨Ae.s k,trivial⟩
def Dj.s:LL Tryz.f153 Dc.d 2 Dj.p:=mL [] Dc.a trivial
def Dc.s (k:Nat):CK 153 (Dc.e k):=mS Dc.d k [2] Tryz.func153 (Dc.a k) ⟨Dj.s,trivial⟩
def Aw.e (k:Nat):Ent:=⟨1,[(.val true t26)],[(.one,.b)],λ x=>Aw k x⟩
def Aw.d:Fd := { nt:=11,nv:=1,nm:=[0,1],res:=[2],cs:=λ k=>[(153,Dc.e k)] }
def Aw.s (k:Nat):CK 106 (Aw.e k):=mS Aw.d k [] Tryz.func106 ⟨Dc.s k,trivial⟩ trivial
def Df.e (k:Nat):Ent:=⟨1,[(.val false t29)],[(.one,.b)],λ x=>Df k x⟩
def Ed.p:LF:=⟨⟨[],[(0,t29),(5,t29),(6,(.i .i64)),(7,(.i .i64))]⟩,[(.ret,⟨[],[(2,.b)]⟩),((.exit 0),⟨[],[(0,t29)]⟩)],λ k x=>Ed k x.1 x.2.1 x.2.2.1 x.2.2.2⟩
def Df.d:Fd := { nt:=34,nv:=1,nm:=[0,1,3,4],res:=[2],cs:=λ k=>[(105,Gq.e k)],ls:=[(2,Ed.p)] }
def Df.a (k:Nat):AC (Df.d.cs k):=⟨Gq.s k,trivial⟩
def Ed.s:LL Tryz.f107 Df.d 2 Ed.p:=mL [] Df.a trivial
def Df.s (k:Nat):CK 107 (Df.e k):=mS Df.d k [2] Tryz.func107 (Df.a k) ⟨Ed.s,trivial⟩
def Bf.e (k:Nat):Ent:=⟨1,[(.val true t36)],[(.one,.b)],λ x=>Bf k x⟩
def Ez.p:LF:=⟨⟨[(1,(.bp 1 0 0)),(2999,(.hd 5))],[(6,t29),(7,(.i .i64)),(8,(.i .i64)),(2000,(.i .i64)),(2001,t12),(2002,t12),(2003,t29),(2004,t29)]⟩,[(.ret,⟨[],[(2,.b)]⟩),((.exit 0),⟨[(1,(.bp 1 0 0)),(2999,(.hd 5))],[(2000,(.i .i64)),(2001,t12),(2002,t12),(2003,t29),(2004,t29)]⟩)],λ k x=>Ez k x.1 x.2.1 x.2.2.1 x.2.2.2.1 x.2.2.2.2.1 x.2.2.2.2.2.1 x.2.2.2.2.2.2.1 x.2.2.2.2.2.2.2⟩
def Bf.d:Fd := { nt:=35,nv:=1,nm:=[0,1,3,4],res:=[2],cs:=λ k=>[(83,Bj.e k),(105,Gq.e k),(106,Aw.e k),(107,Df.e k)],ls:=[(2,Ez.p)] }
def Bf.a (k:Nat):AC (Bf.d.cs k):=⟨Bj.s k,Gq.s k,Aw.s k,Df.s k,trivial⟩
def Ez.s:LL Tryz.f48 Bf.d 2 Ez.p:=mL [] Bf.a trivial
def Bf.s (k:Nat):CK 48 (Bf.e k):=mS Bf.d k [2] Tryz.func48 (Bf.a k) ⟨Ez.s,trivial⟩
def Ar.e (k:Nat):Ent:=⟨1,[(.val true t42)],[(.one,.b)],λ x=>Ar k x⟩
def Ca.p:LF:=⟨⟨[(1,(.bp 1 0 0)),(2999,(.hd 9))],[(57,t0),(58,(.i .i64)),(59,(.i .i64)),(2000,t42)]⟩,[(.ret,⟨[],[(2,.b)]⟩),((.exit 2),⟨[],[]⟩)],λ k x=>Ca k x.1 x.2.1 x.2.2.1 x.2.2.2⟩
def Dk.p:LF:=⟨⟨[(1,(.bp 1 0 0)),(2999,(.hd 9))],[(34,t39),(35,(.i .i64)),(36,(.i .i64)),(2000,t42)]⟩,[(.ret,⟨[],[(2,.b)]⟩),((.exit 0),⟨[(1,(.bp 1 0 0)),(2999,(.hd 9))],[(2000,t42)]⟩)],λ k x=>Dk k x.1 x.2.1 x.2.2.1 x.2.2.2⟩
def Ar.d:Fd := { nt:=82,nv:=1,nm:=[0,1,3,4,5,6],res:=[2],cs:=λ k=>[(41,Ae.e k),(45,Dw.e k),(46,Bu.e k),(47,Co.e k),(48,Bf.e k)],ls:=[(10,Ca.p),(4,Dk.p)],rf:=true }
def Ar.a (k:Nat):AC (Ar.d.cs k):=⟨Ae.s k,Dw.s k,Bu.s k,Co.s k,Bf.s k,trivial⟩
def Ca.s:LL Tryz.f12 Ar.d 10 Ca.p:=mL [] Ar.a trivial
def Dk.s:LL Tryz.f12 Ar.d 4 Dk.p:=mL [] Ar.a trivial
def Ar.s (k:Nat):CK 12 (Ar.e k):=mS Ar.d k [4,10] Tryz.func12 (Ar.a k) ⟨Dk.s,Ca.s,trivial⟩
def C4.e (k:Nat):Ent:=⟨2,[(.val false t5),(.val false (.i .i64))],[(.one,(.i .i64))],λ x=>C4 x.1 x.2⟩
def C4.d:Fd := { nt:=20,nv:=2,nm:=[0,1,2,3],res:=[4],cs:=λ k=>[(83,Bj.e k)],rf:=true }
def C4.s (k:Nat):CK 61 (C4.e k):=mS C4.d k [] Tryz.func61 ⟨Bj.s k,trivial⟩ trivial
def Bs.e (k:Nat):Ent:=⟨1,[(.val false t5)],[(.one,t6)],λ x=>Bs x⟩
def Bs.d:Fd := { nt:=5,nv:=1,nm:=[0,1],res:=[2],rf:=true }
def Bs.s (k:Nat):CK 56 (Bs.e k):=mS Bs.d k [] Tryz.func56 trivial trivial
def I3.e (k:Nat):Ent:=⟨1,[(.val false .s)],[(.one,(.i .i64))],λ x=>I3 k x⟩
def Gf.p:LF:=⟨⟨[],[(0,.s),(3,(.i .u32)),(4,(.i .i64))]⟩,[((.exit 0),⟨[],[(3,(.i .u32))]⟩)],λ k x=>Gf k x.1 x.2.1 x.2.2⟩
def I3.d:Fd := { nt:=20,nv:=1,nm:=[0,1,3,4],res:=[2],ls:=[(3,Gf.p)],rf:=true }
def Gf.s:LL Tryz.f114 I3.d 3 Gf.p:=mL [] (λ _=>trivial) trivial
def I3.s (k:Nat):CK 114 (I3.e k):=mS I3.d k [3] Tryz.func114 trivial ⟨Gf.s,trivial⟩
def Hf.e (k:Nat):Ent:=⟨2,[(.val false .s),(.val false (.i .i64))],[(.one,(.i .i64))],λ x=>Hf k x.1 x.2⟩
def Hf.d:Fd := { nt:=11,nv:=2,nm:=[0,1,2,3],res:=[4],cs:=λ k=>[(114,I3.e k)],rf:=true }
def Hf.s (k:Nat):CK 57 (Hf.e k):=mS Hf.d k [] Tryz.func57 ⟨I3.s k,trivial⟩ trivial
def B3.e (k:Nat):Ent:=⟨2,[(.val true t16),(.val false .s)],[(.one,t6)],λ x=>B3 k x.1 x.2⟩
def B3.d:Fd := { nt:=20,nv:=2,nm:=[0,1,2,3],res:=[4],cs:=λ k=>[(56,Bs.e k),(57,Hf.e k)],rf:=true }
def B3.s (k:Nat):CK 18 (B3.e k):=mS B3.d k [] Tryz.func18 ⟨Bs.s k,Hf.s k,trivial⟩ trivial
def Bw.e (k:Nat):Ent:=⟨2,[(.val true t42),(.val false t5)],[(.one,t6)],λ x=>Bw k x.1 x.2⟩
def Cs.p:LF:=⟨⟨[(2,(.bp 2 0 0)),(3999,(.hd 9))],[(5,t6),(7,(.i .i64)),(10,t5),(11,(.i .i64)),(12,(.i .i64)),(17,t39),(18,(.i .i64)),(19,(.i .i64)),(3000,t42)]⟩,[((.exit 2),⟨[(2,(.bp 2 0 0)),(3999,(.hd 9))],[(5,t6),(10,t5),(11,(.i .i64)),(12,(.i .i64)),(3000,t42)]⟩)],λ k x=>Cs k x.1 x.2.1 x.2.2.1 x.2.2.2.1 x.2.2.2.2.1 x.2.2.2.2.2.1 x.2.2.2.2.2.2.1 x.2.2.2.2.2.2.2.1 x.2.2.2.2.2.2.2.2⟩
def E8.p:LF:=⟨⟨[(2,(.bp 2 0 0)),(3999,(.hd 9))],[(5,t6),(10,t5),(11,(.i .i64)),(12,(.i .i64)),(3000,t42)]⟩,[((.exit 0),⟨[],[(5,t6)]⟩)],λ k x=>E8 k x.1 x.2.1 x.2.2.1 x.2.2.2.1 x.2.2.2.2⟩
def Bw.d:Fd := { nt:=35,nv:=2,nm:=[0,1,2,3,5,6,7,8,9],res:=[4],ls:=[(6,Cs.p),(3,E8.p)],rf:=true }
def Cs.s:LL Tryz.f119 Bw.d 6 Cs.p:=mL [] (λ _=>trivial) trivial
def E8.s:LL Tryz.f119 Bw.d 3 E8.p:=mL [6] (λ _=>trivial) ⟨Cs.s,trivial⟩
def Bw.s (k:Nat):CK 119 (Bw.e k):=mS Bw.d k [3] Tryz.func119 trivial ⟨E8.s,trivial⟩
def Cf.e (k:Nat):Ent:=⟨2,[(.val false t5),(.val false t21)],[(.one,t6)],λ x=>Cf k x.1 x.2⟩
def Ct.p:LF:=⟨⟨[],[(1,t21),(5,t6),(10,t5),(11,(.i .i64)),(12,(.i .i64))]⟩,[((.exit 0),⟨[],[(5,t6)]⟩)],λ k x=>Ct k x.1 x.2.1 x.2.2.1 x.2.2.2.1 x.2.2.2.2⟩
def Cf.d:Fd := { nt:=37,nv:=2,nm:=[0,1,2,3,5,6,7,8,9],res:=[4],cs:=λ k=>[(103,De.e k),(152,Bn.e k)],ls:=[(3,Ct.p)],rf:=true }
def Cf.a (k:Nat):AC (Cf.d.cs k):=⟨De.s k,Bn.s k,trivial⟩
def Ct.s:LL Tryz.f159 Cf.d 3 Ct.p:=mL [] Cf.a trivial
def Cf.s (k:Nat):CK 159 (Cf.e k):=mS Cf.d k [3] Tryz.func159 (Cf.a k) ⟨Ct.s,trivial⟩
def C0.e (k:Nat):Ent:=⟨3,[(.val true t16),(.val false t21),(.val false .s)],[(.one,t6)],λ x=>C0 k x.1 x.2.1 x.2.2⟩
def Cb.p:LF:=⟨⟨[],[(7,t6),(8,t6),(9,t6),(10,t6),(19,t21),(20,(.i .i64)),(21,(.i .i64))]⟩,[((.exit 0),⟨[],[(9,t6),(10,t6)]⟩)],λ k x=>Cb k x.1 x.2.1 x.2.2.1 x.2.2.2.1 x.2.2.2.2.1 x.2.2.2.2.2.1 x.2.2.2.2.2.2⟩
def C0.d:Fd := { nt:=49,nv:=3,nm:=[0,1,2,3,4,5,7,8,9,10,11,12],res:=[6],cs:=λ k=>[(18,B3.e k),(152,Bn.e k),(159,Cf.e k)],ls:=[(5,Cb.p)],rf:=true }
def C0.a (k:Nat):AC (C0.d.cs k):=⟨B3.s k,Bn.s k,Cf.s k,trivial⟩
def Cb.s:LL Tryz.f129 C0.d 5 Cb.p:=mL [] C0.a trivial
def C0.s (k:Nat):CK 129 (C0.e k):=mS C0.d k [5] Tryz.func129 (C0.a k) ⟨Cb.s,trivial⟩
def Az.e (k:Nat):Ent:=⟨2,[(.ptr t42 t42),(.val false .s)],[(.one,t6)],λ x=>Az k x.1 x.2⟩
def Az.d:Fd := { nt:=26,nv:=2,nm:=[0,1,2,3],res:=[4],cs:=λ k=>[(18,B3.e k),(119,Bw.e k),(129,C0.e k)],rf:=true }
def Az.s (k:Nat):CK 66 (Az.e k):=mS Az.d k [] Tryz.func66 ⟨B3.s k,Bw.s k,C0.s k,trivial⟩ trivial
def Cg.e (k:Nat):Ent:=⟨2,[(.ptr t43 t43),(.val false .s)],[(.one,t6)],λ x=>Cg k x.1 x.2⟩
def Cg.d:Fd := { nt:=26,nv:=2,nm:=[0,1,2,3],res:=[4],cs:=λ k=>[(18,B3.e k),(119,Bw.e k),(129,C0.e k)],rf:=true }
def Cg.s (k:Nat):CK 66 (Cg.e k):=mS Cg.d k [] Tryz.func66 ⟨B3.s k,Bw.s k,C0.s k,trivial⟩ trivial
def Af.e (k:Nat):Ent:=⟨1,[(.val false t3)],[(.one,t4)],λ x=>Af x⟩
def Af.d:Fd := { nt:=5,nv:=1,nm:=[0,1],res:=[2] }
def Af.s (k:Nat):CK 55 (Af.e k):=mS Af.d k [] Tryz.func55 trivial trivial
def Fh.e (k:Nat):Ent:=⟨2,[(.val false t12),(.val false .s)],[(.one,(.i .i64))],λ x=>Fh k x.1 x.2⟩
def Hl.p:LF:=⟨⟨[],[(1,.s),(7,t12),(8,(.i .i64)),(9,(.i .i64))]⟩,[(.ret,⟨[],[(4,(.i .i64))]⟩),((.exit 0),⟨[],[]⟩)],λ k x=>Hl k x.1 x.2.1 x.2.2.1 x.2.2.2⟩
def Fh.d:Fd := { nt:=20,nv:=2,nm:=[0,1,2,3,5,6],res:=[4],ls:=[(2,Hl.p)] }
def Hl.s:LL Tryz.f115 Fh.d 2 Hl.p:=mL [] (λ _=>trivial) trivial
def Fh.s (k:Nat):CK 115 (Fh.e k):=mS Fh.d k [2] Tryz.func115 trivial ⟨Hl.s,trivial⟩
def Dy.e (k:Nat):Ent:=⟨2,[(.val true t26),(.val false .s)],[(.one,t4),(.one,.b)],λ x=>Dy k x.1 x.2⟩
def Dy.d:Fd := { nt:=20,nv:=2,nm:=[0,1,2,3,6],res:=[4,5],cs:=λ k=>[(55,Af.e k),(115,Fh.e k)] }
def Dy.s (k:Nat):CK 58 (Dy.e k):=mS Dy.d k [] Tryz.func58 ⟨Af.s k,Fh.s k,trivial⟩ trivial
def Fi.e (k:Nat):Ent:=⟨2,[(.val false t3),(.val false (.i .i64))],[(.one,(.i .i64)),(.one,(.i .i64)),(.one,.b)],λ x=>Fi k x.1 x.2⟩
def Ee.p:LF:=⟨⟨[],[(0,t3),(1,(.i .i64)),(7,(.i .i64)),(8,(.i .i64))]⟩,[(.ret,⟨[],[(4,(.i .i64)),(5,(.i .i64)),(6,.b)]⟩),((.exit 0),⟨[],[]⟩)],λ k x=>Ee k x.1 x.2.1 x.2.2.1 x.2.2.2⟩
def Fi.d:Fd := { nt:=57,nv:=2,nm:=[0,1,2,3,7,8,9],res:=[4,5,6],ls:=[(3,Ee.p)] }
def Ee.s:LL Tryz.f205 Fi.d 3 Ee.p:=mL [] (λ _=>trivial) trivial
def Fi.s (k:Nat):CK 205 (Fi.e k):=mS Fi.d k [3] Tryz.func205 trivial ⟨Ee.s,trivial⟩
def Ch.e (k:Nat):Ent:=⟨1,[(.ptr t19 t19)],[(.one,(.i .i64))],λ x=>Ch k x⟩
def Ch.d:Fd := { nt:=35,nv:=1,nm:=[0,1,3,4,5],res:=[2],cs:=λ k=>[(205,Fi.e k)] }
def Ch.s (k:Nat):CK 164 (Ch.e k):=mS Ch.d k [] Tryz.func164 ⟨Fi.s k,trivial⟩ trivial
def Cu.e (k:Nat):Ent:=⟨1,[(.ptr t19 t19)],[(.agg,t15),(.one,.b)],λ x=>Cu k x⟩
def Cu.d:Fd := { nt:=31,nv:=1,nm:=[0,1,4,5],res:=[3],cs:=λ k=>[(164,Ch.e k)] }
def Cu.s (k:Nat):CK 116 (Cu.e k):=mS Cu.d k [] Tryz.func116 ⟨Ch.s k,trivial⟩ trivial
def Gg.e (k:Nat):Ent:=⟨2,[(.val false t3),(.val false (.i .i64))],[(.one,.s),(.one,(.i .i64)),(.one,.b)],λ x=>Gg k x.1 x.2⟩
def Gg.d:Fd := { nt:=37,nv:=2,nm:=[0,1,2,3,7,8,9],res:=[4,5,6],cs:=λ k=>[(205,Fi.e k)] }
def Gg.s (k:Nat):CK 165 (Gg.e k):=mS Gg.d k [] Tryz.func165 ⟨Fi.s k,trivial⟩ trivial
def Cc.e (k:Nat):Ent:=⟨1,[(.ptr t19 t19)],[(.one,.s)],λ x=>Cc k x⟩
def Cc.d:Fd := { nt:=35,nv:=1,nm:=[0,1,3,4,5],res:=[2],cs:=λ k=>[(165,Gg.e k)] }
def Cc.s (k:Nat):CK 117 (Cc.e k):=mS Cc.d k [] Tryz.func117 ⟨Gg.s k,trivial⟩ trivial
def Dx.e (k:Nat):Ent:=⟨2,[(.val false t4),(.val false (.i .i64))],[(.one,t4)],λ x=>Dx k x.1 x.2⟩
def F3.p:LF:=⟨⟨[],[(0,t4),(1,(.i .i64))]⟩,[((.exit 0),⟨[],[(0,t4),(1,(.i .i64))]⟩)],λ k x=>F3 k x.1 x.2⟩
def Dx.d:Fd := { nt:=24,nv:=2,nm:=[0,1,2,3],res:=[4],ls:=[(2,F3.p)] }
def F3.s:LL Tryz.f206 Dx.d 2 F3.p:=mL [] (λ _=>trivial) trivial
def Dx.s (k:Nat):CK 206 (Dx.e k):=mS Dx.d k [2] Tryz.func206 trivial ⟨F3.s,trivial⟩
def Gi.e (k:Nat):Ent:=⟨2,[(.val false t4),(.val false .s)],[(.one,t4)],λ x=>Gi k x.1 x.2⟩
def Gi.d:Fd := { nt:=11,nv:=2,nm:=[0,1,2,3],res:=[4],cs:=λ k=>[(206,Dx.e k)] }
def Gi.s (k:Nat):CK 166 (Gi.e k):=mS Gi.d k [] Tryz.func166 ⟨Dx.s k,trivial⟩ trivial
def Js.e (k:Nat):Ent:=⟨1,[(.val false .b)],[(.one,(.i .i64))],λ x=>Js x⟩
def Js.d:Fd := { nt:=4,nv:=1,nm:=[0,1],res:=[2] }
def Js.s (k:Nat):CK 207 (Js.e k):=mS Js.d k [] Tryz.func207 trivial trivial
def Fp.e (k:Nat):Ent:=⟨3,[(.val false t4),(.val true t15),(.val false .b)],[(.one,t4)],λ x=>Fp k x.1 x.2.1 x.2.2⟩
def Fp.d:Fd := { nt:=20,nv:=3,nm:=[0,1,2,3,4,5],res:=[6],cs:=λ k=>[(206,Dx.e k),(207,Js.e k)] }
def Fp.s (k:Nat):CK 167 (Fp.e k):=mS Fp.d k [] Tryz.func167 ⟨Dx.s k,Js.s k,trivial⟩ trivial
def Ii.e (k:Nat):Ent:=⟨1,[(.val false t3)],[(.one,(.i .i64))],λ x=>Ii k x⟩
def Gv.p:LF:=⟨⟨[],[(3,(.i .u32)),(7,t3),(8,(.i .i64)),(9,(.i .i64)),(17,(.i .i64))]⟩,[((.exit 2),⟨[],[(3,(.i .u32)),(7,t3),(8,(.i .i64)),(9,(.i .i64))]⟩)],λ k x=>Gv k x.1 x.2.1 x.2.2.1 x.2.2.2.1 x.2.2.2.2⟩
def H1.p:LF:=⟨⟨[],[(3,(.i .u32)),(7,t3),(8,(.i .i64)),(9,(.i .i64))]⟩,[((.exit 0),⟨[],[(3,(.i .u32))]⟩)],λ k x=>H1 k x.1 x.2.1 x.2.2.1 x.2.2.2⟩
def Ii.d:Fd := { nt:=32,nv:=1,nm:=[0,1,3,4,5,6],res:=[2],ls:=[(7,Gv.p),(3,H1.p)] }
def Gv.s:LL Tryz.f168 Ii.d 7 Gv.p:=mL [] (λ _=>trivial) trivial
def H1.s:LL Tryz.f168 Ii.d 3 H1.p:=mL [7] (λ _=>trivial) ⟨Gv.s,trivial⟩
def Ii.s (k:Nat):CK 168 (Ii.e k):=mS Ii.d k [3] Tryz.func168 trivial ⟨H1.s,trivial⟩
def Dt.e (k:Nat):Ent:=⟨1,[(.val true t24)],[(.one,t4)],λ x=>Dt k x⟩
def Dt.d:Fd := { nt:=33,nv:=1,nm:=[0,1,3,4],res:=[2],cs:=λ k=>[(104,Cr.e k),(166,Gi.e k),(167,Fp.e k),(168,Ii.e k)] }
def Dt.s (k:Nat):CK 118 (Dt.e k):=mS Dt.d k [] Tryz.func118 ⟨Cr.s k,Gi.s k,Fp.s k,Ii.s k,trivial⟩ trivial
def Dd.e (k:Nat):Ent:=⟨1,[(.val false t3)],[(.agg,t24),(.one,.b)],λ x=>Dd k x⟩
def Dd.d:Fd := { nt:=41,nv:=1,nm:=[0,1,4,5,6],res:=[3],cs:=λ k=>[(116,Cu.e k),(117,Cc.e k),(118,Dt.e k)] }
def Dd.s (k:Nat):CK 59 (Dd.e k):=mS Dd.d k [] Tryz.func59 ⟨Cu.s k,Cc.s k,Dt.s k,trivial⟩ trivial
def Dz.e (k:Nat):Ent:=⟨2,[(.val true t26),(.val false .s)],[(.agg,t24),(.one,(.i .i64))],λ x=>Dz k x.1 x.2⟩
def Dz.d:Fd := { nt:=28,nv:=2,nm:=[0,1,2,3,6,7,8,9],res:=[5],cs:=λ k=>[(58,Dy.e k),(59,Dd.e k)] }
def Dz.s (k:Nat):CK 19 (Dz.e k):=mS Dz.d k [] Tryz.func19 ⟨Dy.s k,Dd.s k,trivial⟩ trivial
def Gr.e (k:Nat):Ent:=⟨2,[(.val true t24),(.val true t24)],[(.one,.b)],λ x=>Gr x.1 x.2⟩
def Gr.d:Fd := { nt:=10,nv:=2,nm:=[0,1,2,3],res:=[4],cs:=λ k=>[(100,Bv.e k)] }
def Gr.s (k:Nat):CK 44 (Gr.e k):=mS Gr.d k [] Tryz.func44 ⟨Bv.s k,trivial⟩ trivial
def Bz.e (k:Nat):Ent:=⟨6,[(.rd t36),(.val false (.i .i64)),(.ptr (.i .i64) (.i .i64)),(.ptr .s .s),(.ptr .b .b),(.ptr t24 t24)],[],λ x=>Bz k x.1 x.2.1 x.2.2.1 x.2.2.2.1 x.2.2.2.2.1 x.2.2.2.2.2⟩
def Bz.d:Fd := { nt:=35,nv:=6,nm:=[0,1,6,7,8,9],res:=[],cs:=λ k=>[(19,Dz.e k),(44,Gr.e k)],rf:=true }
def Bz.s (k:Nat):CK 43 (Bz.e k):=mS Bz.d k [] Tryz.func43 ⟨Dz.s k,Gr.s k,trivial⟩ trivial
def A7.e (k:Nat):Ent:=⟨4,[(.ptr t42 t42),(.val false .s),(.val false t5),(.fn 43 4),(.hid (.i .i64) (.i .i64)),(.hid .s .s),(.hid .b .b),(.hid t24 t24)],[],λ x=>A7 k x.1 x.2.1 x.2.2.1 x.2.2.2.1 x.2.2.2.2.1 x.2.2.2.2.2.1 x.2.2.2.2.2.2.1 x.2.2.2.2.2.2.2⟩
def A9.p:LF:=⟨⟨[(0,(.bp 0 0 0)),(3,(.fn 43 [(1500,0),(1501,0),(1502,0),(1503,0)])),(1999,(.hd 9)),(1501999,(.hd 1)),(1502999,(.hd 1)),(1503999,(.hd 1)),(1504999,(.hd 5))],[(2,t5),(8,(.i .i64)),(14,t6),(15,(.i .i64)),(16,(.i .i64)),(1000,t42),(1501000,(.i .i64)),(1502000,.s),(1503000,.b),(1504000,t24)]⟩,[((.exit 0),⟨[(1999,(.hd 9)),(1501999,(.hd 1)),(1502999,(.hd 1)),(1503999,(.hd 1)),(1504999,(.hd 5))],[(1000,t42),(1501000,(.i .i64)),(1502000,.s),(1503000,.b),(1504000,t24)]⟩)],λ k x=>A9 k x.1 x.2.1 x.2.2.1 x.2.2.2.1 x.2.2.2.2.1 x.2.2.2.2.2.1 x.2.2.2.2.2.2.1 x.2.2.2.2.2.2.2.1 x.2.2.2.2.2.2.2.2.1 x.2.2.2.2.2.2.2.2.2⟩
def A7.d:Fd := { nt:=47,nv:=4,nm:=[0,1,2,3,4,5,6,7,8,9,10,11],res:=[],cs:=λ k=>[(43,Bz.e k),(61,C4.e k),(66,Az.e k)],ls:=[(2,A9.p)],rf:=true }
def A7.a (k:Nat):AC (A7.d.cs k):=⟨Bz.s k,C4.s k,Az.s k,trivial⟩
def A9.s:LL Tryz.f42 A7.d 2 A9.p:=mL [] A7.a trivial
def A7.s (k:Nat):CK 42 (A7.e k):=mS A7.d k [2] Tryz.func42 (A7.a k) ⟨A9.s,trivial⟩
def F4.e (k:Nat):Ent:=⟨3,[(.val true t42),(.val false .s),(.val false t5)],[(.agg,t24),(.one,(.i .i64))],λ x=>F4 k x.1 x.2.1 x.2.2⟩
def F4.d:Fd := { nt:=37,nv:=3,nm:=[0,1,2,3,4,5,8,9,10],res:=[7],cs:=λ k=>[(12,Ar.e k),(41,Ae.e k),(42,A7.e k)],rf:=true }
def F4.s (k:Nat):CK 11 (F4.e k):=mS F4.d k [] Tryz.func11 ⟨Ar.s k,Ae.s k,A7.s k,trivial⟩ trivial
def E9.e (k:Nat):Ent:=⟨2,[(.val true t16),(.val false (.i .i64))],[(.one,(.i .i64))],λ x=>E9 k x.1 x.2⟩
def Ef.p:LF:=⟨⟨[],[(1,(.i .i64)),(5,(.i .i64)),(11,t9),(12,(.i .i64)),(13,(.i .i64)),(18,t5),(19,(.i .i64)),(20,(.i .i64))]⟩,[((.exit 2),⟨[],[(1,(.i .i64)),(5,(.i .i64)),(11,t9),(12,(.i .i64)),(13,(.i .i64))]⟩)],λ k x=>Ef k x.1 x.2.1 x.2.2.1 x.2.2.2.1 x.2.2.2.2.1 x.2.2.2.2.2.1 x.2.2.2.2.2.2.1 x.2.2.2.2.2.2.2⟩
def F5.p:LF:=⟨⟨[],[(1,(.i .i64)),(5,(.i .i64)),(11,t9),(12,(.i .i64)),(13,(.i .i64))]⟩,[((.exit 0),⟨[],[(5,(.i .i64))]⟩)],λ k x=>F5 k x.1 x.2.1 x.2.2.1 x.2.2.2.1 x.2.2.2.2⟩
def E9.d:Fd := { nt:=32,nv:=2,nm:=[0,1,2,3,5,6,7,8,9],res:=[4],ls:=[(6,Ef.p),(3,F5.p)],rf:=true }
def Ef.s:LL Tryz.f160 E9.d 6 Ef.p:=mL [] (λ _=>trivial) trivial
def F5.s:LL Tryz.f160 E9.d 3 F5.p:=mL [6] (λ _=>trivial) ⟨Ef.s,trivial⟩
def E9.s (k:Nat):CK 160 (E9.e k):=mS E9.d k [3] Tryz.func160 trivial ⟨F5.s,trivial⟩
def Em.e (k:Nat):Ent:=⟨3,[(.val true t16),(.val true t5),(.val false t21)],[(.one,(.i .i64))],λ x=>Em k x.1 x.2.1 x.2.2⟩
def Bo.p:LF:=⟨⟨[(3,(.bp 3 0 0)),(4,(.bp 4 0 0)),(8,(.bp 8 0 0)),(4999,(.hd 2)),(5999,(.hd 1)),(9999,(.hd 3))],[(7,t6),(9,(.i .i64)),(10,.b),(23,t21),(24,(.i .i64)),(25,(.i .i64)),(4000,t16),(5000,t5),(9000,t15)]⟩,[((.exit 0),⟨[(8,(.bp 8 0 0)),(9999,(.hd 3))],[(9000,t15)]⟩)],λ k x=>Bo k x.1 x.2.1 x.2.2.1 x.2.2.2.1 x.2.2.2.2.1 x.2.2.2.2.2.1 x.2.2.2.2.2.2.1 x.2.2.2.2.2.2.2.1 x.2.2.2.2.2.2.2.2⟩
def Em.d:Fd := { nt:=76,nv:=3,nm:=[0,1,2,3,4,5,7,8,9,10,11,12,13,14],res:=[6],cs:=λ k=>[(101,Br.e k),(152,Bn.e k),(159,Cf.e k),(160,E9.e k)],ls:=[(6,Bo.p)],rf:=true }
def Em.a (k:Nat):AC (Em.d.cs k):=⟨Br.s k,Bn.s k,Cf.s k,E9.s k,trivial⟩
def Bo.s:LL Tryz.f111 Em.d 6 Bo.p:=mL [] Em.a trivial
def Em.s (k:Nat):CK 111 (Em.e k):=mS Em.d k [6] Tryz.func111 (Em.a k) ⟨Bo.s,trivial⟩
def Et.e (k:Nat):Ent:=⟨3,[(.val false t21),(.val false (.i .i64)),(.val false (.i .i64))],[(.agg,t17),(.one,.b)],λ x=>Et k x.1 x.2.1 x.2.2⟩
def Fq.p:LF:=⟨⟨[(6,(.bp 6 0 0)),(8,(.bp 8 0 0)),(7999,(.hd 2)),(9999,(.hd 2))],[(0,t21),(2,(.i .i64)),(9,(.i .i64)),(34,(.i .i64)),(35,(.i .i64)),(44,(.i .i64)),(45,(.i .i64)),(7000,t18),(9000,t17)]⟩,[((.exit 2),⟨[(6,(.bp 6 0 0)),(8,(.bp 8 0 0)),(7999,(.hd 2)),(9999,(.hd 2))],[(0,t21),(2,(.i .i64)),(34,(.i .i64)),(35,(.i .i64)),(7000,t18),(9000,t17)]⟩)],λ k x=>Fq k x.1 x.2.1 x.2.2.1 x.2.2.2.1 x.2.2.2.2.1 x.2.2.2.2.2.1 x.2.2.2.2.2.2.1 x.2.2.2.2.2.2.2.1 x.2.2.2.2.2.2.2.2⟩
def Fs.p:LF:=⟨⟨[(6,(.bp 6 0 0)),(8,(.bp 8 0 0)),(7999,(.hd 2)),(9999,(.hd 2))],[(0,t21),(2,(.i .i64)),(34,(.i .i64)),(35,(.i .i64)),(7000,t18),(9000,t17)]⟩,[((.exit 0),⟨[(6,(.bp 6 0 0)),(8,(.bp 8 0 0)),(7999,(.hd 2)),(9999,(.hd 2))],[(7000,t18),(9000,t17)]⟩)],λ k x=>Fs k x.1 x.2.1 x.2.2.1 x.2.2.2.1 x.2.2.2.2.1 x.2.2.2.2.2⟩
def Et.d:Fd := { nt:=70,nv:=3,nm:=[0,1,2,3,4,5,8,9,10,11],res:=[7],cs:=λ k=>[(83,Bj.e k),(101,Br.e k),(111,Em.e k)],ls:=[(9,Fq.p),(5,Fs.p)],hint:=[(41,t6),(42,t6)],mv:=[69],gh:=[(12,[.od 10 3001]),(1000010,[.cl 9001])],rf:=true }
def Et.a (k:Nat):AC (Et.d.cs k):=⟨Bj.s k,Br.s k,Em.s k,trivial⟩
def Fq.s:LL Tryz.f51 Et.d 9 Fq.p:=mL [] Et.a trivial
def Fs.s:LL Tryz.f51 Et.d 5 Fs.p:=mL [9] Et.a ⟨Fq.s,trivial⟩
def Et.s (k:Nat):CK 51 (Et.e k):=mS Et.d k [5] Tryz.func51 (Et.a k) ⟨Fs.s,trivial⟩
def Gj.e (k:Nat):Ent:=⟨1,[(.val false (.i .i64))],[(.agg,t37)],λ x=>Gj x⟩
def Gj.d:Fd := { nt:=9,nv:=1,nm:=[0,1],res:=[],cs:=λ k=>[(83,Bj.e k)],rf:=true }
def Gj.s (k:Nat):CK 52 (Gj.e k):=mS Gj.d k [] Tryz.func52 ⟨Bj.s k,trivial⟩ trivial
def Cp.e (k:Nat):Ent:=⟨3,[(.val false t21),(.val false (.i .i64)),(.val false (.i .i64))],[(.agg,t44)],λ x=>Cp k x.1 x.2.1 x.2.2⟩
def Dl.p:LF:=⟨⟨[(6,(.bp 6 0 0)),(9,(.bp 9 0 0)),(7999,(.hd 9)),(10999,(.hd 9))],[(26,t21),(27,(.i .i64)),(28,(.i .i64)),(7000,t45),(10000,t44)]⟩,[((.exit 0),⟨[(6,(.bp 6 0 0)),(9,(.bp 9 0 0)),(7999,(.hd 9)),(10999,(.hd 9))],[(7000,t45),(10000,t44)]⟩)],λ k x=>Dl k x.1 x.2.1 x.2.2.1 x.2.2.2.1 x.2.2.2.2⟩
def Cp.d:Fd := { nt:=42,nv:=3,nm:=[0,1,2,3,4,5,7,8,9,10,11],res:=[],cs:=λ k=>[(51,Et.e k),(52,Gj.e k)],ls:=[(6,Dl.p)],mv:=[41],rf:=true }
def Cp.a (k:Nat):AC (Cp.d.cs k):=⟨Et.s k,Gj.s k,trivial⟩
def Dl.s:LL Tryz.f15 Cp.d 6 Dl.p:=mL [] Cp.a trivial
def Cp.s (k:Nat):CK 15 (Cp.e k):=mS Cp.d k [6] Tryz.func15 (Cp.a k) ⟨Dl.s,trivial⟩
def Ci.e (k:Nat):Ent:=⟨1,[(.val true t16)],[(.agg,t18)],λ x=>Ci k x⟩
def Cq.p:LF:=⟨⟨[(2,(.bp 2 0 0)),(3,(.bp 3 0 0)),(3999,(.hd 2)),(4999,(.hd 2))],[(10,t9),(11,(.i .i64)),(12,(.i .i64)),(3000,t18),(4000,t18)]⟩,[((.exit 0),⟨[(2,(.bp 2 0 0)),(3,(.bp 3 0 0)),(3999,(.hd 2)),(4999,(.hd 2))],[(3000,t18),(4000,t18)]⟩)],λ k x=>Cq k x.1 x.2.1 x.2.2.1 x.2.2.2.1 x.2.2.2.2⟩
def Ci.d:Fd := { nt:=27,nv:=1,nm:=[0,1,3,4,5],res:=[],cs:=λ k=>[(56,Bs.e k)],ls:=[(3,Cq.p)],mv:=[26],rf:=true }
def Ci.a (k:Nat):AC (Ci.d.cs k):=⟨Bs.s k,trivial⟩
def Cq.s:LL Tryz.f80 Ci.d 3 Cq.p:=mL [] Ci.a trivial
def Ci.s (k:Nat):CK 80 (Ci.e k):=mS Ci.d k [3] Tryz.func80 (Ci.a k) ⟨Cq.s,trivial⟩
def Cj.e (k:Nat):Ent:=⟨1,[(.val true t16)],[(.agg,t17)],λ x=>Cj k x⟩
def Gt.p:LF:=⟨⟨[(2,(.bp 2 0 0)),(3,(.bp 3 0 0)),(3999,(.hd 2)),(4999,(.hd 2))],[(10,t9),(11,(.i .i64)),(12,(.i .i64)),(3000,t18),(4000,t17)]⟩,[((.exit 0),⟨[(2,(.bp 2 0 0)),(3,(.bp 3 0 0)),(3999,(.hd 2)),(4999,(.hd 2))],[(3000,t18),(4000,t17)]⟩)],λ k x=>Gt k x.1 x.2.1 x.2.2.1 x.2.2.2.1 x.2.2.2.2⟩
def Cj.d:Fd := { nt:=27,nv:=1,nm:=[0,1,3,4,5],res:=[],cs:=λ k=>[(56,Bs.e k)],ls:=[(3,Gt.p)],hint:=[(22,t6),(23,t6)],mv:=[26],rf:=true }
def Cj.a (k:Nat):AC (Cj.d.cs k):=⟨Bs.s k,trivial⟩
def Gt.s:LL Tryz.f80 Cj.d 3 Gt.p:=mL [] Cj.a trivial
def Cj.s (k:Nat):CK 80 (Cj.e k):=mS Cj.d k [3] Tryz.func80 (Cj.a k) ⟨Gt.s,trivial⟩
def Am.e (k:Nat):Ent:=⟨1,[(.val false t29)],[(.one,t30)],λ x=>Am x⟩
def Am.d:Fd := { nt:=5,nv:=1,nm:=[0,1],res:=[2] }
def Am.s (k:Nat):CK 120 (Am.e k):=mS Am.d k [] Tryz.func120 trivial trivial
def B4.e (k:Nat):Ent:=⟨1,[(.val false t12)],[(.one,t13)],λ x=>B4 k x⟩
def Cd.p:LF:=⟨⟨[],[(3,t13),(6,t12),(7,(.i .i64)),(8,(.i .i64))]⟩,[((.exit 0),⟨[],[(3,t13)]⟩)],λ k x=>Cd k x.1 x.2.1 x.2.2.1 x.2.2.2⟩
def B4.d:Fd := { nt:=23,nv:=1,nm:=[0,1,3,4,5],res:=[2],cs:=λ k=>[(55,Af.e k)],ls:=[(3,Cd.p)] }
def B4.a (k:Nat):AC (B4.d.cs k):=⟨Af.s k,trivial⟩
def Cd.s:LL Tryz.f189 B4.d 3 Cd.p:=mL [] B4.a trivial
def B4.s (k:Nat):CK 189 (B4.e k):=mS B4.d k [3] Tryz.func189 (B4.a k) ⟨Cd.s,trivial⟩
def Ce.e (k:Nat):Ent:=⟨1,[(.val false t12)],[(.one,t14)],λ x=>Ce k x⟩
def G8.p:LF:=⟨⟨[],[(3,t14),(6,t12),(7,(.i .i64)),(8,(.i .i64))]⟩,[((.exit 0),⟨[],[(3,t14)]⟩)],λ k x=>G8 k x.1 x.2.1 x.2.2.1 x.2.2.2⟩
def Ce.d:Fd := { nt:=23,nv:=1,nm:=[0,1,3,4,5],res:=[2],cs:=λ k=>[(55,Af.e k)],ls:=[(3,G8.p)],hint:=[(19,t11),(20,t11)] }
def Ce.a (k:Nat):AC (Ce.d.cs k):=⟨Af.s k,trivial⟩
def G8.s:LL Tryz.f189 Ce.d 3 G8.p:=mL [] Ce.a trivial
def Ce.s (k:Nat):CK 189 (Ce.e k):=mS Ce.d k [3] Tryz.func189 (Ce.a k) ⟨G8.s,trivial⟩
def A4.e (k:Nat):Ent:=⟨1,[(.val true t26)],[(.agg,t27)],λ x=>A4 k x⟩
def A4.d:Fd := { nt:=10,nv:=1,nm:=[0,1],res:=[],cs:=λ k=>[(189,B4.e k)] }
def A4.s (k:Nat):CK 142 (A4.e k):=mS A4.d k [] Tryz.func142 ⟨B4.s k,trivial⟩ trivial
def Ft.e (k:Nat):Ent:=⟨1,[(.val true t26)],[(.agg,t28)],λ x=>Ft k x⟩
def Ft.d:Fd := { nt:=10,nv:=1,nm:=[0,1],res:=[],cs:=λ k=>[(189,Ce.e k)] }
def Ft.s (k:Nat):CK 142 (Ft.e k):=mS Ft.d k [] Tryz.func142 ⟨Ce.s k,trivial⟩ trivial
def Ao.e (k:Nat):Ent:=⟨1,[(.val true t36)],[(.agg,t37)],λ x=>Ao k x⟩
def Ao.d:Fd := { nt:=15,nv:=1,nm:=[0,1],res:=[],cs:=λ k=>[(120,Am.e k),(142,A4.e k)] }
def Ao.s (k:Nat):CK 81 (Ao.e k):=mS Ao.d k [] Tryz.func81 ⟨Am.s k,A4.s k,trivial⟩ trivial
def E3.e (k:Nat):Ent:=⟨1,[(.val true t24)],[(.agg,(.pr t15 (.pr .b t4)))],λ x=>E3 x⟩
def E3.d:Fd := { nt:=8,nv:=1,nm:=[0,1],res:=[],cs:=λ k=>[(55,Af.e k)],mv:=[7],rf:=true }
def E3.s (k:Nat):CK 82 (E3.e k):=mS E3.d k [] Tryz.func82 ⟨Af.s k,trivial⟩ trivial
def Al.e (k:Nat):Ent:=⟨1,[(.val true t42)],[(.agg,t45)],λ x=>Al k x⟩
def Cv.p:LF:=⟨⟨[(2,(.bp 2 0 0)),(3,(.bp 3 0 0)),(3999,(.hd 9)),(4999,(.hd 9))],[(36,t33),(37,(.i .i64)),(38,(.i .i64)),(3000,t45),(4000,t45)]⟩,[((.exit 2),⟨[(2,(.bp 2 0 0)),(3,(.bp 3 0 0)),(3999,(.hd 9)),(4999,(.hd 9))],[(3000,t45),(4000,t45)]⟩)],λ k x=>Cv k x.1 x.2.1 x.2.2.1 x.2.2.2.1 x.2.2.2.2⟩
def Cw.p:LF:=⟨⟨[(1,(.bp 1 0 0)),(2,(.bp 2 0 0)),(3,(.bp 3 0 0)),(2999,(.hd 9)),(3999,(.hd 9)),(4999,(.hd 9))],[(21,t39),(22,(.i .i64)),(23,(.i .i64)),(2000,t42),(3000,t45),(4000,t45)]⟩,[((.exit 0),⟨[(1,(.bp 1 0 0)),(2,(.bp 2 0 0)),(3,(.bp 3 0 0)),(2999,(.hd 9)),(3999,(.hd 9)),(4999,(.hd 9))],[(2000,t42),(3000,t45),(4000,t45)]⟩)],λ k x=>Cw k x.1 x.2.1 x.2.2.1 x.2.2.2.1 x.2.2.2.2.1 x.2.2.2.2.2⟩
def Al.d:Fd := { nt:=54,nv:=1,nm:=[0,1,3,4,5,6,7],res:=[],cs:=λ k=>[(80,Ci.e k),(81,Ao.e k),(82,E3.e k)],ls:=[(8,Cv.p),(3,Cw.p)],mv:=[53],rf:=true }
def Al.a (k:Nat):AC (Al.d.cs k):=⟨Ci.s k,Ao.s k,E3.s k,trivial⟩
def Cv.s:LL Tryz.f36 Al.d 8 Cv.p:=mL [] Al.a trivial
def Cw.s:LL Tryz.f36 Al.d 3 Cw.p:=mL [] Al.a trivial
def Al.s (k:Nat):CK 36 (Al.e k):=mS Al.d k [3,8] Tryz.func36 (Al.a k) ⟨Cw.s,Cv.s,trivial⟩
def F6.e (k:Nat):Ent:=⟨3,[(.val true t15),(.val false (.i .i64)),(.val false (.i .i64))],[(.agg,t15)],λ x=>F6 x.1 x.2.1 x.2.2⟩
def F6.d:Fd := { nt:=27,nv:=3,nm:=[0,1,2,3,4,5,7],res:=[],cs:=λ k=>[(46,Bu.e k)],rf:=true }
def F6.s (k:Nat):CK 84 (F6.e k):=mS F6.d k [] Tryz.func84 ⟨Bu.s k,trivial⟩ trivial
def I5.e (k:Nat):Ent:=⟨2,[(.val false .s),(.val true t24)],[(.agg,t25)],λ x=>I5 x.1 x.2⟩
def I5.d:Fd := { nt:=14,nv:=2,nm:=[0,1,2,3],res:=[],rf:=true }
def I5.s (k:Nat):CK 132 (I5.e k):=mS I5.d k [] Tryz.func132 trivial trivial
def F7.e (k:Nat):Ent:=⟨2,[(.val false t12),(.val false .s)],[(.one,t12)],λ x=>F7 k x.1 x.2⟩
def F7.d:Fd := { nt:=21,nv:=2,nm:=[0,1,2,3,5],res:=[4],cs:=λ k=>[(115,Fh.e k)] }
def F7.s (k:Nat):CK 209 (F7.e k):=mS F7.d k [] Tryz.func209 ⟨Fh.s k,trivial⟩ trivial
def Hv.e (k:Nat):Ent:=⟨2,[(.val false t12),(.val true t10)],[(.one,t13)],λ x=>Hv k x.1 x.2⟩
def H2.p:LF:=⟨⟨[(3,(.bp 3 0 0)),(4999,(.hd 2))],[(0,t12),(5,(.i .i64)),(4000,.s),(4001,t3)]⟩,[((.exit 0),⟨[(3,(.bp 3 0 0)),(4999,(.hd 2))],[(0,t12),(5,(.i .i64)),(4000,.s),(4001,t3)]⟩)],λ k x=>H2 k x.1 x.2.1 x.2.2.1 x.2.2.2⟩
def Hv.d:Fd := { nt:=33,nv:=2,nm:=[0,1,2,3,5],res:=[4],ls:=[(2,H2.p)] }
def H2.s:LL Tryz.f210 Hv.d 2 H2.p:=mL [] (λ _=>trivial) trivial
def Hv.s (k:Nat):CK 210 (Hv.e k):=mS Hv.d k [2] Tryz.func210 trivial ⟨H2.s,trivial⟩
def Bt.e (k:Nat):Ent:=⟨2,[(.val true t26),(.val false .s)],[(.agg,(.pr t13 t12)),(.one,.b)],λ x=>Bt k x.1 x.2⟩
def Bt.d:Fd := { nt:=50,nv:=2,nm:=[0,1,2,3,6,7],res:=[5],cs:=λ k=>[(41,Ae.e k),(55,Af.e k),(106,Aw.e k),(115,Fh.e k),(142,A4.e k),(209,F7.e k),(210,Hv.e k)],mv:=[18,49] }
def Bt.s (k:Nat):CK 174 (Bt.e k):=mS Bt.d k [] Tryz.func174 ⟨Ae.s k,Af.s k,Aw.s k,Fh.s k,A4.s k,F7.s k,Hv.s k,trivial⟩ trivial
def D9.e (k:Nat):Ent:=⟨3,[(.val true t26),(.val false .s),(.val false t3)],[(.agg,t27),(.one,.b)],λ x=>D9 k x.1 x.2.1 x.2.2⟩
def D9.d:Fd := { nt:=42,nv:=3,nm:=[0,1,2,3,4,5,8],res:=[7],cs:=λ k=>[(41,Ae.e k),(55,Af.e k),(106,Aw.e k),(142,A4.e k),(209,F7.e k),(210,Hv.e k)],mv:=[24,41] }
def D9.s (k:Nat):CK 190 (D9.e k):=mS D9.d k [] Tryz.func190 ⟨Ae.s k,Af.s k,Aw.s k,A4.s k,F7.s k,Hv.s k,trivial⟩ trivial
def Hc.e (k:Nat):Ent:=⟨4,[(.val true t26),(.val false .s),(.val true t24),(.val false .b)],[(.agg,t26),(.one,(.i .i64))],λ x=>Hc k x.1 x.2.1 x.2.2.1 x.2.2.2⟩
def Hc.d:Fd := { nt:=82,nv:=4,nm:=[0,1,2,3,4,5,6,7,10,11,12,13,14,15,16,17,18,19],res:=[9],cs:=λ k=>[(41,Ae.e k),(44,Gr.e k),(58,Dy.e k),(59,Dd.e k),(104,Cr.e k),(106,Aw.e k),(118,Dt.e k),(142,A4.e k),(174,Bt.e k),(190,D9.e k)],mv:=[80] }
def Hc.s (k:Nat):CK 143 (Hc.e k):=mS Hc.d k [] Tryz.func143 ⟨Ae.s k,Gr.s k,Dy.s k,Dd.s k,Cr.s k,Aw.s k,Dt.s k,A4.s k,Bt.s k,D9.s k,trivial⟩ trivial
def Gk.e (k:Nat):Ent:=⟨4,[(.val true t36),(.val false .s),(.val true t24),(.val false .b)],[(.agg,t38),(.one,(.i .i64))],λ x=>Gk k x.1 x.2.1 x.2.2.1 x.2.2.2⟩
def Gk.d:Fd := { nt:=62,nv:=4,nm:=[0,1,2,3,4,5,6,7,10,11,12],res:=[9],cs:=λ k=>[(41,Ae.e k),(48,Bf.e k),(81,Ao.e k),(104,Cr.e k),(132,I5.e k),(143,Hc.e k)],mv:=[29,35,60],rf:=true }
def Gk.s (k:Nat):CK 86 (Gk.e k):=mS Gk.d k [] Tryz.func86 ⟨Ae.s k,Bf.s k,Ao.s k,Cr.s k,I5.s k,Hc.s k,trivial⟩ trivial
def Ck.e (k:Nat):Ent:=⟨5,[(.ptr t36 t36),(.val false (.i .i64)),(.ptr .s .s),(.ptr t24 t24),(.ptr (.i .i64) (.i .i64))],[],λ x=>Ck k x.1 x.2.1 x.2.2.1 x.2.2.2.1 x.2.2.2.2⟩
def Ck.d:Fd := { nt:=35,nv:=5,nm:=[0,1,5,6,7,8],res:=[],cs:=λ k=>[(86,Gk.e k)],rf:=true }
def Ck.s (k:Nat):CK 85 (Ck.e k):=mS Ck.d k [] Tryz.func85 ⟨Gk.s k,trivial⟩ trivial
def H3.e (k:Nat):Ent:=⟨1,[(.val false (.i .i64))],[(.one,(.i .i64))],λ x=>H3 x⟩
def H3.d:Fd := { nt:=6,nv:=1,nm:=[0,1],res:=[2],rf:=true }
def H3.s (k:Nat):CK 87 (H3.e k):=mS H3.d k [] Tryz.func87 trivial trivial
def Aa.e (k:Nat):Ent:=⟨4,[(.ptr t43 t43),(.val false .s),(.val false t5),(.fn 85 3),(.hid .s .s),(.hid t24 t24),(.hid (.i .i64) (.i .i64))],[],λ x=>Aa k x.1 x.2.1 x.2.2.1 x.2.2.2.1 x.2.2.2.2.1 x.2.2.2.2.2.1 x.2.2.2.2.2.2⟩
def Ah.p:LF:=⟨⟨[(0,(.bp 0 0 0)),(3,(.fn 85 [(1500,0),(1501,0),(1502,0)])),(1999,(.hd 9)),(1501999,(.hd 1)),(1502999,(.hd 5)),(1503999,(.hd 1))],[(2,t5),(8,(.i .i64)),(14,t6),(15,(.i .i64)),(16,(.i .i64)),(1000,t43),(1501000,.s),(1502000,t24),(1503000,(.i .i64))]⟩,[((.exit 0),⟨[(1999,(.hd 9)),(1501999,(.hd 1)),(1502999,(.hd 5)),(1503999,(.hd 1))],[(1000,t43),(1501000,.s),(1502000,t24),(1503000,(.i .i64))]⟩)],λ k x=>Ah k x.1 x.2.1 x.2.2.1 x.2.2.2.1 x.2.2.2.2.1 x.2.2.2.2.2.1 x.2.2.2.2.2.2.1 x.2.2.2.2.2.2.2.1 x.2.2.2.2.2.2.2.2⟩
def Aa.d:Fd := { nt:=47,nv:=4,nm:=[0,1,2,3,4,5,6,7,8,9,10,11],res:=[],cs:=λ k=>[(61,C4.e k),(66,Cg.e k),(85,Ck.e k)],ls:=[(2,Ah.p)],gh:=[(1000003,[.cl 1003])],opn:=[41],rf:=true }
def Aa.a (k:Nat):AC (Aa.d.cs k):=⟨C4.s k,Cg.s k,Ck.s k,trivial⟩
def Ah.s:LL Tryz.f42 Aa.d 2 Ah.p:=mL [] Aa.a trivial
def Aa.s (k:Nat):CK 42 (Aa.e k):=mS Aa.d k [2] Tryz.func42 (Aa.a k) ⟨Ah.s,trivial⟩
def B9.e (k:Nat):Ent:=⟨5,[(.ptr t43 t43),(.val false .s),(.val true t24),(.val false (.i .i64)),(.val false t5)],[(.one,(.i .i64))],λ x=>B9 k x.1 x.2.1 x.2.2.1 x.2.2.2.1 x.2.2.2.2⟩
def B9.d:Fd := { nt:=82,nv:=5,nm:=[0,1,2,3,4,5,6,7,8,9,11,12,13],res:=[10],cs:=λ k=>[(41,Ae.e k),(42,Aa.e k),(82,E3.e k),(83,Bj.e k),(84,F6.e k),(87,H3.e k)],rf:=true }
def B9.s (k:Nat):CK 37 (B9.e k):=mS B9.d k [] Tryz.func37 ⟨Ae.s k,Aa.s k,E3.s k,Bj.s k,F6.s k,H3.s k,trivial⟩ trivial
def F8.e (k:Nat):Ent:=⟨5,[(.val true t42),(.val false .s),(.val false t3),(.val false (.i .i64)),(.val false t5)],[(.agg,t43),(.one,(.i .i64))],λ x=>F8 k x.1 x.2.1 x.2.2.1 x.2.2.2.1 x.2.2.2.2⟩
def F8.d:Fd := { nt:=29,nv:=5,nm:=[0,1,2,3,4,5,6,7,8,9,12,13],res:=[11],cs:=λ k=>[(12,Ar.e k),(36,Al.e k),(37,B9.e k),(55,Af.e k)],mv:=[19,27],rf:=true }
def F8.s (k:Nat):CK 17 (F8.e k):=mS F8.d k [] Tryz.func17 ⟨Ar.s k,Al.s k,B9.s k,Af.s k,trivial⟩ trivial
def Fc.e (k:Nat):Ent:=⟨0,[],[(.one,t6)],λ _=>Fc k⟩
def Dm.p:LF:=⟨⟨[],[(1,t6),(2,(.i .i64))]⟩,[((.exit 0),⟨[],[(1,t6)]⟩)],λ k x=>Dm k x.1 x.2⟩
def Fc.d:Fd := { nt:=9,nv:=0,nm:=[1],res:=[0],ls:=[(3,Dm.p)],rf:=true }
def Dm.s:LL Tryz.f123 Fc.d 3 Dm.p:=mL [] (λ _=>trivial) trivial
def Fc.s (k:Nat):CK 123 (Fc.e k):=mS Fc.d k [3] Tryz.func123 trivial ⟨Dm.s,trivial⟩
def G0.e (k:Nat):Ent:=⟨1,[(.val true t26)],[(.agg,t26),(.one,(.i .i64))],λ x=>G0 k x⟩
def Fe.p:LF:=⟨⟨[(2,(.bp 2 0 0)),(4,(.bp 4 0 0)),(3999,(.hd 2)),(5999,(.hd 2))],[(5,(.i .i64)),(17,t12),(18,(.i .i64)),(19,(.i .i64)),(3000,t27),(5000,t26)]⟩,[((.exit 0),⟨[(2,(.bp 2 0 0)),(4,(.bp 4 0 0)),(3999,(.hd 2)),(5999,(.hd 2))],[(5,(.i .i64)),(3000,t27),(5000,t26)]⟩)],λ k x=>Fe k x.1 x.2.1 x.2.2.1 x.2.2.2.1 x.2.2.2.2.1 x.2.2.2.2.2⟩
def G0.d:Fd := { nt:=48,nv:=1,nm:=[0,1,4,5,6,7,8,9],res:=[3],cs:=λ k=>[(59,Dd.e k),(106,Aw.e k),(142,A4.e k),(209,F7.e k)],ls:=[(6,Fe.p)],mv:=[15],rf:=true }
def G0.a (k:Nat):AC (G0.d.cs k):=⟨Dd.s k,Aw.s k,A4.s k,F7.s k,trivial⟩
def Fe.s:LL Tryz.f171 G0.d 6 Fe.p:=mL [] G0.a trivial
def G0.s (k:Nat):CK 171 (G0.e k):=mS G0.d k [6] Tryz.func171 (G0.a k) ⟨Fe.s,trivial⟩
def Da.e (k:Nat):Ent:=⟨1,[(.val true t36)],[(.agg,t38),(.one,(.i .i64))],λ x=>Da k x⟩
def Da.d:Fd := { nt:=19,nv:=1,nm:=[0,1,4,5,6],res:=[3],cs:=λ k=>[(81,Ao.e k),(171,G0.e k)],mv:=[17],rf:=true }
def Da.s (k:Nat):CK 124 (Da.e k):=mS Da.d k [] Tryz.func124 ⟨Ao.s k,G0.s k,trivial⟩ trivial
def C1.e (k:Nat):Ent:=⟨2,[(.val false t0),(.val false .s)],[(.one,t0)],λ x=>C1 k x.1 x.2⟩
def Dn.p:LF:=⟨⟨[],[(0,t0),(1,.s),(5,(.i .i64))]⟩,[((.exit 0),⟨[],[(0,t0),(1,.s),(5,(.i .i64))]⟩)],λ k x=>Dn k x.1 x.2.1 x.2.2⟩
def C1.d:Fd := { nt:=44,nv:=2,nm:=[0,1,2,3,5],res:=[4],ls:=[(2,Dn.p)] }
def Dn.s:LL Tryz.f172 C1.d 2 Dn.p:=mL [] (λ _=>trivial) trivial
def C1.s (k:Nat):CK 172 (C1.e k):=mS C1.d k [2] Tryz.func172 trivial ⟨Dn.s,trivial⟩
def Gl.e (k:Nat):Ent:=⟨1,[(.val true t26)],[(.one,t0)],λ x=>Gl k x⟩
def G4.p:LF:=⟨⟨[(1,(.bp 1 0 0)),(2999,(.hd 2))],[(3,t0),(9,t12),(10,(.i .i64)),(11,(.i .i64)),(2000,t26)]⟩,[((.exit 0),⟨[],[(3,t0)]⟩)],λ k x=>G4 k x.1 x.2.1 x.2.2.1 x.2.2.2.1 x.2.2.2.2⟩
def Gl.d:Fd := { nt:=30,nv:=1,nm:=[0,1,3,4,5,6,7],res:=[2],cs:=λ k=>[(19,Dz.e k),(172,C1.e k)],ls:=[(3,G4.p)],rf:=true }
def Gl.a (k:Nat):AC (Gl.d.cs k):=⟨Dz.s k,C1.s k,trivial⟩
def G4.s:LL Tryz.f125 Gl.d 3 G4.p:=mL [] Gl.a trivial
def Gl.s (k:Nat):CK 125 (Gl.e k):=mS Gl.d k [3] Tryz.func125 (Gl.a k) ⟨G4.s,trivial⟩
def Dp.e (k:Nat):Ent:=⟨2,[(.val true t26),(.val false .s)],[(.agg,(.pr t12 t13)),(.one,.b)],λ x=>Dp k x.1 x.2⟩
def Dp.d:Fd := { nt:=26,nv:=2,nm:=[0,1,2,3,6],res:=[5],cs:=λ k=>[(106,Aw.e k),(115,Fh.e k),(142,A4.e k),(209,F7.e k)],mv:=[19,25] }
def Dp.s (k:Nat):CK 173 (Dp.e k):=mS Dp.d k [] Tryz.func173 ⟨Aw.s k,Fh.s k,A4.s k,F7.s k,trivial⟩ trivial
def Ad.e (k:Nat):Ent:=⟨4,[(.ptr t43 t43),(.val false (.i .i64)),(.val false .s),(.val false t5)],[(.one,.b)],λ x=>Ad k x.1 x.2.1 x.2.2.1 x.2.2.2⟩
def Ai.p:LF:=⟨⟨[(0,(.bp 0 0 0)),(9,(.bp 9 0 0)),(1999,(.hd 9)),(10999,(.hd 5))],[(1,(.i .i64)),(2,.s),(3,t5),(11,.b),(12,.b),(43,t6),(44,(.i .i64)),(45,(.i .i64)),(1000,t43),(10000,t24)]⟩,[((.exit 0),⟨[(0,(.bp 0 0 0)),(1999,(.hd 9))],[(1,(.i .i64)),(2,.s),(11,.b),(12,.b),(1000,t43)]⟩)],λ k x=>Ai k x.1 x.2.1 x.2.2.1 x.2.2.2.1 x.2.2.2.2.1 x.2.2.2.2.2.1 x.2.2.2.2.2.2.1 x.2.2.2.2.2.2.2.1 x.2.2.2.2.2.2.2.2.1 x.2.2.2.2.2.2.2.2.2⟩
def Ad.d:Fd := { nt:=120,nv:=4,nm:=[0,1,2,3,4,5,6,7,9,10,11,12,13,14,15,16,17,18],res:=[8],cs:=λ k=>[(18,B3.e k),(19,Dz.e k),(61,C4.e k),(119,Bw.e k),(143,Hc.e k),(173,Dp.e k),(174,Bt.e k)],ls:=[(6,Ai.p)],rf:=true }
def Ad.a (k:Nat):AC (Ad.d.cs k):=⟨B3.s k,Dz.s k,C4.s k,Bw.s k,Hc.s k,Dp.s k,Bt.s k,trivial⟩
def Ai.s:LL Tryz.f126 Ad.d 6 Ai.p:=mL [] Ad.a trivial
def Ad.s (k:Nat):CK 126 (Ad.e k):=mS Ad.d k [6] Tryz.func126 (Ad.a k) ⟨Ai.s,trivial⟩
def Es.e (k:Nat):Ent:=⟨1,[(.val true t42)],[(.one,t6)],λ x=>Es k x⟩
def Es.d:Fd := { nt:=8,nv:=1,nm:=[0,1],res:=[2],cs:=λ k=>[(18,B3.e k),(119,Bw.e k)],rf:=true }
def Es.s (k:Nat):CK 60 (Es.e k):=mS Es.d k [] Tryz.func60 ⟨B3.s k,Bw.s k,trivial⟩ trivial
def Fu.e (k:Nat):Ent:=⟨2,[(.val true t25),(.val true t25)],[(.one,.b)],λ x=>Fu x.1 x.2⟩
def Fu.d:Fd := { nt:=29,nv:=2,nm:=[0,1,2,3],res:=[4],cs:=λ k=>[(100,Bv.e k)] }
def Fu.s (k:Nat):CK 169 (Fu.e k):=mS Fu.d k [] Tryz.func169 ⟨Bv.s k,trivial⟩ trivial
def C2.e (k:Nat):Ent:=⟨2,[(.val false t29),(.val true t25)],[(.one,t30)],λ x=>C2 k x.1 x.2⟩
def Cy.p:LF:=⟨⟨[(3,(.bp 3 0 0)),(4999,(.hd 6))],[(0,t29),(8,(.i .i64)),(4000,.s),(4001,(.i .i64)),(4002,(.i .i64)),(4003,(.i .i64)),(4004,.b),(4005,(.i .i64))]⟩,[((.exit 2),⟨[(3,(.bp 3 0 0)),(4999,(.hd 6))],[(0,t29),(8,(.i .i64)),(4000,.s),(4001,(.i .i64)),(4002,(.i .i64)),(4003,(.i .i64)),(4004,.b),(4005,(.i .i64))]⟩)],λ k x=>Cy k x.1 x.2.1 x.2.2.1 x.2.2.2.1 x.2.2.2.2.1 x.2.2.2.2.2.1 x.2.2.2.2.2.2.1 x.2.2.2.2.2.2.2⟩
def Dq.p:LF:=⟨⟨[(3,(.bp 3 0 0)),(4999,(.hd 6))],[(0,t29),(5,t30),(11,t29),(12,(.i .i64)),(13,(.i .i64)),(4000,.s),(4001,(.i .i64)),(4002,(.i .i64)),(4003,(.i .i64)),(4004,.b),(4005,(.i .i64))]⟩,[(.ret,⟨[],[(4,t30)]⟩),((.exit 0),⟨[(3,(.bp 3 0 0)),(4999,(.hd 6))],[(0,t29),(4000,.s),(4001,(.i .i64)),(4002,(.i .i64)),(4003,(.i .i64)),(4004,.b),(4005,(.i .i64))]⟩)],λ k x=>Dq k x.1 x.2.1 x.2.2.1 x.2.2.2.1 x.2.2.2.2.1 x.2.2.2.2.2.1 x.2.2.2.2.2.2.1 x.2.2.2.2.2.2.2.1 x.2.2.2.2.2.2.2.2.1 x.2.2.2.2.2.2.2.2.2.1 x.2.2.2.2.2.2.2.2.2.2⟩
def C2.d:Fd := { nt:=60,nv:=2,nm:=[0,1,2,3,5,6,7,8],res:=[4],cs:=λ k=>[(120,Am.e k),(169,Fu.e k)],ls:=[(11,Cy.p),(3,Dq.p)] }
def C2.a (k:Nat):AC (C2.d.cs k):=⟨Am.s k,Fu.s k,trivial⟩
def Cy.s:LL Tryz.f121 C2.d 11 Cy.p:=mL [] C2.a trivial
def Dq.s:LL Tryz.f121 C2.d 3 Dq.p:=mL [] C2.a trivial
def C2.s (k:Nat):CK 121 (C2.e k):=mS C2.d k [3,11] Tryz.func121 (C2.a k) ⟨Dq.s,Cy.s,trivial⟩
def C5.e (k:Nat):Ent:=⟨2,[(.val false t29),(.val false t29)],[(.one,t30)],λ x=>C5 k x.1 x.2⟩
def Cz.p:LF:=⟨⟨[],[(5,t30),(10,t29),(11,(.i .i64)),(12,(.i .i64))]⟩,[((.exit 0),⟨[],[(5,t30)]⟩)],λ k x=>Cz k x.1 x.2.1 x.2.2.1 x.2.2.2⟩
def C5.d:Fd := { nt:=21,nv:=2,nm:=[0,1,2,3,5,6,7],res:=[4],cs:=λ k=>[(120,Am.e k),(121,C2.e k)],ls:=[(3,Cz.p)] }
def C5.a (k:Nat):AC (C5.d.cs k):=⟨Am.s k,C2.s k,trivial⟩
def Cz.s:LL Tryz.f62 C5.d 3 Cz.p:=mL [] C5.a trivial
def C5.s (k:Nat):CK 62 (C5.e k):=mS C5.d k [3] Tryz.func62 (C5.a k) ⟨Cz.s,trivial⟩
def Fv.e (k:Nat):Ent:=⟨2,[(.val true t36),(.val false t29)],[(.agg,t37),(.one,.b)],λ x=>Fv k x.1 x.2⟩
def Fv.d:Fd := { nt:=30,nv:=2,nm:=[0,1,2,3,6],res:=[5],cs:=λ k=>[(48,Bf.e k),(62,C5.e k),(81,Ao.e k),(107,Df.e k)],mv:=[17,29] }
def Fv.s (k:Nat):CK 211 (Fv.e k):=mS Fv.d k [] Tryz.func211 ⟨Bf.s k,C5.s k,Ao.s k,Df.s k,trivial⟩ trivial
def Ap.e (k:Nat):Ent:=⟨4,[(.ptr t43 t43),(.val false t29),(.val false t5),(.val false (.i .i64))],[(.one,.b)],λ x=>Ap k x.1 x.2.1 x.2.2.1 x.2.2.2⟩
def B0.p:LF:=⟨⟨[(0,(.bp 0 0 0)),(1999,(.hd 9))],[(1,t29),(2,t5),(3,(.i .i64)),(9,.b),(17,t6),(18,(.i .i64)),(19,(.i .i64)),(1000,t43)]⟩,[((.exit 0),⟨[(1999,(.hd 9))],[(9,.b),(1000,t43)]⟩)],λ k x=>B0 k x.1 x.2.1 x.2.2.1 x.2.2.2.1 x.2.2.2.2.1 x.2.2.2.2.2.1 x.2.2.2.2.2.2.1 x.2.2.2.2.2.2.2⟩
def Ap.d:Fd := { nt:=56,nv:=4,nm:=[0,1,2,3,4,5,6,7,9,10,11,12,13],res:=[8],cs:=λ k=>[(60,Es.e k),(61,C4.e k),(211,Fv.e k)],ls:=[(3,B0.p)],rf:=true }
def Ap.a (k:Nat):AC (Ap.d.cs k):=⟨Es.s k,C4.s k,Fv.s k,trivial⟩
def B0.s:LL Tryz.f175 Ap.d 3 B0.p:=mL [] Ap.a trivial
def Ap.s (k:Nat):CK 175 (Ap.e k):=mS Ap.d k [3] Tryz.func175 (Ap.a k) ⟨B0.s,trivial⟩
def B1.e (k:Nat):Ent:=⟨3,[(.ptr t43 t43),(.val false (.i .i64)),(.val false t5)],[(.one,.b)],λ x=>B1 k x.1 x.2.1 x.2.2⟩
def B1.d:Fd := { nt:=47,nv:=3,nm:=[0,1,2,3,4,5],res:=[6],cs:=λ k=>[(120,Am.e k),(175,Ap.e k)],rf:=true }
def B1.s (k:Nat):CK 127 (B1.e k):=mS B1.d k [] Tryz.func127 ⟨Am.s k,Ap.s k,trivial⟩ trivial
def As.e (k:Nat):Ent:=⟨3,[(.ptr t43 t43),(.val false (.i .i64)),(.val false t5)],[(.one,.b)],λ x=>As k x.1 x.2.1 x.2.2⟩
def As.d:Fd := { nt:=43,nv:=3,nm:=[0,1,2,3,4,5,7,8],res:=[6],cs:=λ k=>[(60,Es.e k),(120,Am.e k),(152,Bn.e k),(175,Ap.e k)],rf:=true }
def As.s (k:Nat):CK 128 (As.e k):=mS As.d k [] Tryz.func128 ⟨Es.s k,Am.s k,Bn.s k,Ap.s k,trivial⟩ trivial
def Aj.e (k:Nat):Ent:=⟨1,[(.ptr t43 t43)],[],λ x=>Aj k x⟩
def Bg.p:LF:=⟨⟨[(0,(.bp 0 0 0)),(1999,(.hd 9))],[(2,t5),(3,(.i .i64)),(11,(.i .i64)),(12,(.i .i64)),(60,(.i .i64)),(61,(.i .i64)),(1000,t43)]⟩,[((.exit 4),⟨[(0,(.bp 0 0 0)),(1999,(.hd 9))],[(2,t5),(3,(.i .i64)),(11,(.i .i64)),(12,(.i .i64)),(1000,t43)]⟩)],λ k x=>Bg k x.1 x.2.1 x.2.2.1 x.2.2.2.1 x.2.2.2.2.1 x.2.2.2.2.2.1 x.2.2.2.2.2.2⟩
def Be.p:LF:=⟨⟨[(0,(.bp 0 0 0)),(1999,(.hd 9))],[(2,t5),(3,(.i .i64)),(11,(.i .i64)),(12,(.i .i64)),(40,t0),(41,(.i .i64)),(42,(.i .i64)),(1000,t43)]⟩,[((.exit 2),⟨[(0,(.bp 0 0 0)),(1999,(.hd 9))],[(2,t5),(3,(.i .i64)),(11,(.i .i64)),(12,(.i .i64)),(1000,t43)]⟩)],λ k x=>Be k x.1 x.2.1 x.2.2.1 x.2.2.2.1 x.2.2.2.2.1 x.2.2.2.2.2.1 x.2.2.2.2.2.2.1 x.2.2.2.2.2.2.2⟩
def Bp.p:LF:=⟨⟨[(0,(.bp 0 0 0)),(1999,(.hd 9))],[(2,t5),(11,(.i .i64)),(12,(.i .i64)),(1000,t43)]⟩,[((.exit 0),⟨[(1999,(.hd 9))],[(1000,t43)]⟩)],λ k x=>Bp k x.1 x.2.1 x.2.2.1 x.2.2.2⟩
def Aj.d:Fd := { nt:=73,nv:=1,nm:=[0,1,2,3,4,5],res:=[],cs:=λ k=>[(123,Fc.e k),(124,Da.e k),(125,Gl.e k),(126,Ad.e k),(127,B1.e k),(128,As.e k)],ls:=[(11,Bg.p),(6,Be.p),(2,Bp.p)],rf:=true }
def Aj.a (k:Nat):AC (Aj.d.cs k):=⟨Fc.s k,Da.s k,Gl.s k,Ad.s k,B1.s k,As.s k,trivial⟩
def Bg.s:LL Tryz.f64 Aj.d 11 Bg.p:=mL [] Aj.a trivial
def Be.s:LL Tryz.f64 Aj.d 6 Be.p:=mL [] Aj.a trivial
def Bp.s:LL Tryz.f64 Aj.d 2 Bp.p:=mL [6,11] Aj.a ⟨Be.s,Bg.s,trivial⟩
def Aj.s (k:Nat):CK 64 (Aj.e k):=mS Aj.d k [2] Tryz.func64 (Aj.a k) ⟨Bp.s,trivial⟩
def Hm.e (k:Nat):Ent:=⟨1,[(.val true t42)],[(.agg,t43)],λ x=>Hm k x⟩
def Hm.d:Fd := { nt:=10,nv:=1,nm:=[0,1,3],res:=[],cs:=λ k=>[(12,Ar.e k),(36,Al.e k),(64,Aj.e k)],mv:=[9],rf:=true }
def Hm.s (k:Nat):CK 22 (Hm.e k):=mS Hm.d k [] Tryz.func22 ⟨Ar.s k,Al.s k,Aj.s k,trivial⟩ trivial
def H9.e (k:Nat):Ent:=⟨1,[(.val false t3)],[(.ptr,t20)],λ x=>H9 k x⟩
def Fw.p:LF:=⟨⟨[],[(0,t3),(3,(.i .i64)),(4,(.i .i64))]⟩,[((.exit 0),⟨[],[(0,t3),(3,(.i .i64))]⟩)],λ k x=>Fw k x.1 x.2.1 x.2.2⟩
def H9.d:Fd := { nt:=32,nv:=1,nm:=[0,1,3,4],res:=[2],ls:=[(3,Fw.p)] }
def Fw.s:LL Tryz.f30 H9.d 3 Fw.p:=mL [] (λ _=>trivial) trivial
def H9.s (k:Nat):CK 30 (H9.e k):=mS H9.d k [3] Tryz.func30 trivial ⟨Fw.s,trivial⟩
def Fx.e (k:Nat):Ent:=⟨1,[(.ptr t20 t20)],[(.one,(.i .i64))],λ x=>Fx x⟩
def Fx.d:Fd := { nt:=58,nv:=1,nm:=[0,1,3],res:=[2] }
def Fx.s (k:Nat):CK 141 (Fx.e k):=mS Fx.d k [] Tryz.func141 trivial trivial
def Du.e (k:Nat):Ent:=⟨2,[(.ptr t20 t20),(.val false (.i .i64))],[(.one,(.i .i64))],λ x=>Du x.1 x.2⟩
def Du.d:Fd := { nt:=31,nv:=2,nm:=[0,1,2,3,5,6,7],res:=[4],cs:=λ k=>[(141,Fx.e k)] }
def Du.s (k:Nat):CK 78 (Du.e k):=mS Du.d k [] Tryz.func78 ⟨Fx.s k,trivial⟩ trivial
def G9.e (k:Nat):Ent:=⟨2,[(.ptr t20 t20),(.val false t5)],[(.one,(.i .i64))],λ x=>G9 x.1 x.2⟩
def G9.d:Fd := { nt:=12,nv:=2,nm:=[0,1,2,3],res:=[4],cs:=λ k=>[(78,Du.e k)] }
def G9.s (k:Nat):CK 34 (G9.e k):=mS G9.d k [] Tryz.func34 ⟨Du.s k,trivial⟩ trivial
def Eo.e (k:Nat):Ent:=⟨1,[(.ptr t20 t20)],[(.one,t22)],λ x=>Eo k x⟩
def F9.p:LF:=⟨⟨[(0,(.bp 0 0 0)),(1999,(.hd 3))],[(3,t22),(4,(.i .i64)),(5,(.i .i64)),(6,(.i .i64)),(1000,t20)]⟩,[((.exit 0),⟨[(1999,(.hd 3))],[(3,t22),(1000,t20)]⟩)],λ k x=>F9 k x.1 x.2.1 x.2.2.1 x.2.2.2.1 x.2.2.2.2⟩
def Eo.d:Fd := { nt:=35,nv:=1,nm:=[0,1,3,4,5,6],res:=[2],cs:=λ k=>[(34,G9.e k),(78,Du.e k)],ls:=[(5,F9.p)],rf:=true }
def Eo.a (k:Nat):AC (Eo.d.cs k):=⟨G9.s k,Du.s k,trivial⟩
def F9.s:LL Tryz.f65 Eo.d 5 F9.p:=mL [] Eo.a trivial
def Eo.s (k:Nat):CK 65 (Eo.e k):=mS Eo.d k [5] Tryz.func65 (Eo.a k) ⟨F9.s,trivial⟩
def C6.e (k:Nat):Ent:=⟨1,[(.val false t3)],[(.one,t22)],λ x=>C6 k x⟩
def D0.p:LF:=⟨⟨[],[(4,t22),(5,(.i .i64)),(6,(.i .i64))]⟩,[((.exit 0),⟨[],[(4,t22)]⟩)],λ k x=>D0 k x.1 x.2.1 x.2.2⟩
def C6.d:Fd := { nt:=30,nv:=1,nm:=[0,1,3,4,5,6],res:=[2],cs:=λ k=>[(30,H9.e k),(34,G9.e k),(65,Eo.e k)],ls:=[(5,D0.p)],rf:=true }
def C6.a (k:Nat):AC (C6.d.cs k):=⟨H9.s k,G9.s k,Eo.s k,trivial⟩
def D0.s:LL Tryz.f23 C6.d 5 D0.p:=mL [] C6.a trivial
def C6.s (k:Nat):CK 23 (C6.e k):=mS C6.d k [5] Tryz.func23 (C6.a k) ⟨D0.s,trivial⟩
def Gc.e (k:Nat):Ent:=⟨2,[(.val true t42),(.val false .s)],[(.one,t6)],λ x=>Gc k x.1 x.2⟩
def Gc.d:Fd := { nt:=10,nv:=2,nm:=[0,1,2,3],res:=[4],cs:=λ k=>[(12,Ar.e k),(66,Az.e k)],rf:=true }
def Gc.s (k:Nat):CK 24 (Gc.e k):=mS Gc.d k [] Tryz.func24 ⟨Ar.s k,Az.s k,trivial⟩ trivial
def C3.e (k:Nat):Ent:=⟨2,[(.val true t26),(.val false t1)],[(.agg,t27)],λ x=>C3 k x.1 x.2⟩
def Aq.p:LF:=⟨⟨[(2,(.bp 2 0 0)),(4,(.bp 4 0 0)),(3999,(.hd 2)),(5999,(.hd 2))],[(1,t1),(8,t13),(34,t0),(35,(.i .i64)),(36,(.i .i64)),(3000,t12),(3001,t12),(5000,t13),(5001,t13)]⟩,[((.exit 2),⟨[(2,(.bp 2 0 0)),(4,(.bp 4 0 0)),(3999,(.hd 2)),(5999,(.hd 2))],[(8,t13),(3000,t12),(3001,t12),(5000,t13),(5001,t13)]⟩)],λ k x=>Aq k x.1 x.2.1 x.2.2.1 x.2.2.2.1 x.2.2.2.2.1 x.2.2.2.2.2.1 x.2.2.2.2.2.2.1 x.2.2.2.2.2.2.2.1 x.2.2.2.2.2.2.2.2⟩
def Dr.p:LF:=⟨⟨[(2,(.bp 2 0 0)),(4,(.bp 4 0 0)),(3999,(.hd 2)),(5999,(.hd 2))],[(1,t1),(5,t0),(23,t13),(24,(.i .i64)),(25,(.i .i64)),(3000,t12),(3001,t12),(5000,t13),(5001,t13)]⟩,[((.exit 0),⟨[(2,(.bp 2 0 0)),(4,(.bp 4 0 0)),(3999,(.hd 2)),(5999,(.hd 2))],[(1,t1),(5,t0),(3000,t12),(3001,t12),(5000,t13),(5001,t13)]⟩)],λ k x=>Dr k x.1 x.2.1 x.2.2.1 x.2.2.2.1 x.2.2.2.2.1 x.2.2.2.2.2.1 x.2.2.2.2.2.2.1 x.2.2.2.2.2.2.2.1 x.2.2.2.2.2.2.2.2⟩
def C3.d:Fd := { nt:=78,nv:=2,nm:=[0,1,2,3,5,6,7,8,9,10,11,12],res:=[],cs:=λ k=>[(106,Aw.e k),(115,Fh.e k),(142,A4.e k),(172,C1.e k),(189,B4.e k)],ls:=[(11,Aq.p),(5,Dr.p)] }
def C3.a (k:Nat):AC (C3.d.cs k):=⟨Aw.s k,Fh.s k,A4.s k,C1.s k,B4.s k,trivial⟩
def Aq.s:LL Tryz.f212 C3.d 11 Aq.p:=mL [] C3.a trivial
def Dr.s:LL Tryz.f212 C3.d 5 Dr.p:=mL [] C3.a trivial
def C3.s (k:Nat):CK 212 (C3.e k):=mS C3.d k [5,11] Tryz.func212 (C3.a k) ⟨Dr.s,Aq.s,trivial⟩
def Fa.e (k:Nat):Ent:=⟨2,[(.val true t36),(.val false t1)],[(.agg,t37)],λ x=>Fa k x.1 x.2⟩
def Fa.d:Fd := { nt:=16,nv:=2,nm:=[0,1,2,3,5],res:=[],cs:=λ k=>[(48,Bf.e k),(81,Ao.e k),(212,C3.e k)],mv:=[15],rf:=true }
def Fa.s (k:Nat):CK 176 (Fa.e k):=mS Fa.d k [] Tryz.func176 ⟨Bf.s k,Ao.s k,C3.s k,trivial⟩ trivial
def H4.e (k:Nat):Ent:=⟨3,[(.val true t26),(.val false .s),(.val false (.i .i64))],[(.agg,t28),(.one,.b)],λ x=>H4 k x.1 x.2.1 x.2.2⟩
def H4.d:Fd := { nt:=95,nv:=3,nm:=[0,1,2,3,4,5,8,9,10,11],res:=[7],cs:=λ k=>[(106,Aw.e k),(115,Fh.e k),(142,Ft.e k)],mv:=[45,94],rf:=true }
def H4.s (k:Nat):CK 213 (H4.e k):=mS H4.d k [] Tryz.func213 ⟨Aw.s k,Fh.s k,Ft.s k,trivial⟩ trivial
def Gn.e (k:Nat):Ent:=⟨3,[(.val true t36),(.val false .s),(.val false (.i .i64))],[(.agg,t38),(.one,.b)],λ x=>Gn k x.1 x.2.1 x.2.2⟩
def Gn.d:Fd := { nt:=42,nv:=3,nm:=[0,1,2,3,4,5,8,9,10,11,12],res:=[7],cs:=λ k=>[(19,Dz.e k),(48,Bf.e k),(81,Ao.e k),(213,H4.e k)],mv:=[29,40],rf:=true }
def Gn.s (k:Nat):CK 177 (Gn.e k):=mS Gn.d k [] Tryz.func177 ⟨Dz.s k,Bf.s k,Ao.s k,H4.s k,trivial⟩ trivial
def Dv.e (k:Nat):Ent:=⟨2,[(.val true t16),(.val false t21)],[(.one,.b)],λ x=>Dv k x.1 x.2⟩
def Ea.p:LF:=⟨⟨[(2,(.bp 2 0 0)),(3999,(.hd 2))],[(31,t9),(32,(.i .i64)),(33,(.i .i64)),(3000,t16)]⟩,[(.ret,⟨[],[(4,.b)]⟩),((.exit 0),⟨[],[]⟩)],λ k x=>Ea k x.1 x.2.1 x.2.2.1 x.2.2.2⟩
def Dv.d:Fd := { nt:=50,nv:=2,nm:=[0,1,2,3,5,6],res:=[4],cs:=λ k=>[(83,Bj.e k),(101,Br.e k),(102,Eh.e k)],ls:=[(4,Ea.p)],rf:=true }
def Dv.a (k:Nat):AC (Dv.d.cs k):=⟨Bj.s k,Br.s k,Eh.s k,trivial⟩
def Ea.s:LL Tryz.f237 Dv.d 4 Ea.p:=mL [] Dv.a trivial
def Dv.s (k:Nat):CK 237 (Dv.e k):=mS Dv.d k [4] Tryz.func237 (Dv.a k) ⟨Ea.s,trivial⟩
def Gy.e (k:Nat):Ent:=⟨2,[(.val true t5),(.val false t21)],[(.one,(.i .i64))],λ x=>Gy k x.1 x.2⟩
def Gp.p:LF:=⟨⟨[],[(1,t21),(10,t5),(11,(.i .i64)),(12,(.i .i64))]⟩,[(.ret,⟨[],[(4,(.i .i64))]⟩),((.exit 0),⟨[],[]⟩)],λ k x=>Gp k x.1 x.2.1 x.2.2.1 x.2.2.2⟩
def Gy.d:Fd := { nt:=27,nv:=2,nm:=[0,1,2,3,5,6,7,8],res:=[4],cs:=λ k=>[(103,De.e k)],ls:=[(2,Gp.p)],rf:=true }
def Gy.a (k:Nat):AC (Gy.d.cs k):=⟨De.s k,trivial⟩
def Gp.s:LL Tryz.f238 Gy.d 2 Gp.p:=mL [] Gy.a trivial
def Gy.s (k:Nat):CK 238 (Gy.e k):=mS Gy.d k [2] Tryz.func238 (Gy.a k) ⟨Gp.s,trivial⟩
def G3.e (k:Nat):Ent:=⟨3,[(.val true t16),(.val true t5),(.val false t21)],[(.one,(.i .i64)),(.one,(.i .i64))],λ x=>G3 k x.1 x.2.1 x.2.2⟩
def Ei.p:LF:=⟨⟨[(3,(.bp 3 0 0)),(9,(.bp 9 0 0)),(4999,(.hd 2)),(10999,(.hd 3))],[(2,t21),(8,(.i .i64)),(10,.b),(26,t5),(27,(.i .i64)),(28,(.i .i64)),(4000,t16),(10000,t15)]⟩,[(.ret,⟨[],[(6,(.i .i64)),(7,(.i .i64))]⟩),((.exit 0),⟨[],[]⟩)],λ k x=>Ei k x.1 x.2.1 x.2.2.1 x.2.2.2.1 x.2.2.2.2.1 x.2.2.2.2.2.1 x.2.2.2.2.2.2.1 x.2.2.2.2.2.2.2⟩
def G3.d:Fd := { nt:=60,nv:=3,nm:=[0,1,2,3,4,5,8,9,10,11,12,13,14],res:=[6,7],cs:=λ k=>[(103,De.e k),(111,Em.e k),(160,E9.e k)],ls:=[(4,Ei.p)],rf:=true }
def G3.a (k:Nat):AC (G3.d.cs k):=⟨De.s k,Em.s k,E9.s k,trivial⟩
def Ei.s:LL Tryz.f239 G3.d 4 Ei.p:=mL [] G3.a trivial
def G3.s (k:Nat):CK 239 (G3.e k):=mS G3.d k [4] Tryz.func239 (G3.a k) ⟨Ei.s,trivial⟩
def C7.e (k:Nat):Ent:=⟨2,[(.val true t16),(.val false t21)],[(.agg,t17),(.one,(.i .i64))],λ x=>C7 k x.1 x.2⟩
def Ba.p:LF:=⟨⟨[(4,(.bp 4 0 0)),(6,(.bp 6 0 0)),(5999,(.hd 2)),(7999,(.hd 2))],[(1,t21),(7,(.i .i64)),(22,(.i .i64)),(23,(.i .i64)),(5000,t18),(7000,t17)]⟩,[((.exit 0),⟨[(4,(.bp 4 0 0)),(6,(.bp 6 0 0)),(5999,(.hd 2)),(7999,(.hd 2))],[(7,(.i .i64)),(5000,t18),(7000,t17)]⟩)],λ k x=>Ba k x.1 x.2.1 x.2.2.1 x.2.2.2.1 x.2.2.2.2.1 x.2.2.2.2.2⟩
def C7.d:Fd := { nt:=75,nv:=2,nm:=[0,1,2,3,6,7,8,9,10,11,12],res:=[5],cs:=λ k=>[(56,Bs.e k),(80,Cj.e k),(111,Em.e k),(237,Dv.e k),(238,Gy.e k),(239,G3.e k)],ls:=[(6,Ba.p)],mv:=[19,73],rf:=true }
def C7.a (k:Nat):AC (C7.d.cs k):=⟨Bs.s k,Cj.s k,Em.s k,Dv.s k,Gy.s k,G3.s k,trivial⟩
def Ba.s:LL Tryz.f214 C7.d 6 Ba.p:=mL [] C7.a trivial
def C7.s (k:Nat):CK 214 (C7.e k):=mS C7.d k [6] Tryz.func214 (C7.a k) ⟨Ba.s,trivial⟩
def Cl.e (k:Nat):Ent:=⟨3,[(.ptr t43 t43),(.val false (.i .i64)),(.val false (.i .i64))],[(.one,.b)],λ x=>Cl k x.1 x.2.1 x.2.2⟩
def Cl.d:Fd := { nt:=33,nv:=3,nm:=[0,1,2,3,4,5],res:=[6],cs:=λ k=>[(83,Bj.e k),(214,C7.e k)],rf:=true }
def Cl.s (k:Nat):CK 178 (Cl.e k):=mS Cl.d k [] Tryz.func178 ⟨Bj.s k,C7.s k,trivial⟩ trivial
def B2.e (k:Nat):Ent:=⟨2,[(.ptr t43 t43),(.val true t32)],[(.one,.b)],λ x=>B2 k x.1 x.2⟩
def Bh.p:LF:=⟨⟨[(0,(.bp 0 0 0)),(1999,(.hd 9))],[(5,(.i .i64)),(6,t2),(69,t5),(70,(.i .i64)),(71,(.i .i64)),(1000,t43)]⟩,[((.exit 1),⟨[(0,(.bp 0 0 0)),(1999,(.hd 9))],[(5,(.i .i64)),(6,t2),(1000,t43)]⟩)],λ k x=>Bh k x.1 x.2.1 x.2.2.1 x.2.2.2.1 x.2.2.2.2.1 x.2.2.2.2.2⟩
def B2.d:Fd := { nt:=139,nv:=2,nm:=[0,1,2,3,5,6,7,8,9,10],res:=[4],cs:=λ k=>[(83,Bj.e k),(124,Da.e k),(126,Ad.e k),(127,B1.e k),(128,As.e k),(172,C1.e k),(176,Fa.e k),(177,Gn.e k),(178,Cl.e k)],ls:=[(17,Bh.p)],rf:=true }
def B2.a (k:Nat):AC (B2.d.cs k):=⟨Bj.s k,Da.s k,Ad.s k,B1.s k,As.s k,C1.s k,Fa.s k,Gn.s k,Cl.s k,trivial⟩
def Bh.s:LL Tryz.f130 B2.d 17 Bh.p:=mL [] B2.a trivial
def B2.s (k:Nat):CK 130 (B2.e k):=mS B2.d k [17] Tryz.func130 (B2.a k) ⟨Bh.s,trivial⟩
def Eb.e (k:Nat):Ent:=⟨2,[(.ptr t43 t43),(.val true t32)],[(.one,.b)],λ x=>Eb k x.1 x.2⟩
def Eb.d:Fd := { nt:=42,nv:=2,nm:=[0,1,2,3,5],res:=[4],cs:=λ k=>[(37,B9.e k),(55,Af.e k),(130,B2.e k)],rf:=true }
def Eb.s (k:Nat):CK 67 (Eb.e k):=mS Eb.d k [] Tryz.func67 ⟨B9.s k,Af.s k,B2.s k,trivial⟩ trivial
def Kl.e (k:Nat):Ent:=⟨2,[(.val true t42),(.val true t32)],[(.agg,t43),(.one,.b)],λ x=>Kl k x.1 x.2⟩
def Kl.d:Fd := { nt:=20,nv:=2,nm:=[0,1,2,3,6],res:=[5],cs:=λ k=>[(12,Ar.e k),(36,Al.e k),(67,Eb.e k)],mv:=[19],rf:=true }
def Kl.s (k:Nat):CK 25 (Kl.e k):=mS Kl.d k [] Tryz.func25 ⟨Ar.s k,Al.s k,Eb.s k,trivial⟩ trivial
def Jy.e (k:Nat):Ent:=⟨2,[(.val false t3),(.val false (.i .i64))],[(.one,(.i .i64))],λ x=>Jy x.1 x.2⟩
def Jy.d:Fd := { nt:=21,nv:=2,nm:=[0,1,2,3],res:=[4],rf:=true }
def Jy.s (k:Nat):CK 26 (Jy.e k):=mS Jy.d k [] Tryz.func26 trivial trivial
def Eg.e (k:Nat):Ent:=⟨2,[(.val false t3),(.val false t3)],[(.one,.b)],λ x=>Eg k x.1 x.2⟩
def D5.p:LF:=⟨⟨[],[(0,t3),(1,t3),(5,(.i .i64))]⟩,[(.ret,⟨[],[(4,.b)]⟩),((.exit 0),⟨[],[]⟩)],λ k x=>D5 k x.1 x.2.1 x.2.2⟩
def Eg.d:Fd := { nt:=26,nv:=2,nm:=[0,1,2,3,5],res:=[4],ls:=[(4,D5.p)] }
def D5.s:LL Tryz.f68 Eg.d 4 D5.p:=mL [] (λ _=>trivial) trivial
def Eg.s (k:Nat):CK 68 (Eg.e k):=mS Eg.d k [4] Tryz.func68 trivial ⟨D5.s,trivial⟩
def Ej.e (k:Nat):Ent:=⟨2,[(.val true t24),(.val true t24)],[(.one,.b)],λ x=>Ej k x.1 x.2⟩
def Ej.d:Fd := { nt:=24,nv:=2,nm:=[0,1,2,3],res:=[4],cs:=λ k=>[(68,Eg.e k)] }
def Ej.s (k:Nat):CK 27 (Ej.e k):=mS Ej.d k [] Tryz.func27 ⟨Eg.s k,trivial⟩ trivial
def Gd.e (k:Nat):Ent:=⟨1,[(.val false t3)],[(.one,.b)],λ x=>Gd k x⟩
def Gd.d:Fd := { nt:=116,nv:=1,nm:=[0,1,3,4,5,6,7,8,9,10,11,12,13,14,15,16],res:=[2],cs:=λ k=>[(7,Jr.e k),(11,F4.e k),(15,Cp.e k),(17,F8.e k),(19,Dz.e k),(22,Hm.e k),(23,C6.e k),(24,Gc.e k),(25,Kl.e k),(26,Jy.e k),(27,Ej.e k)],sh:=true,rf:=true }
def Gd.s (k:Nat):CK 5 (Gd.e k):=mS Gd.d k [] Tryz.func5 ⟨Jr.s k,F4.s k,Cp.s k,F8.s k,Dz.s k,Hm.s k,C6.s k,Gc.s k,Kl.s k,Jy.s k,Ej.s k,trivial⟩ trivial
end

def Tot {α:Type} (f:Nat→Option α) (Q:α→Prop):Prop:=∃ r K,(∀ k,K≤k→f k=some r)∧Q r
section
variable {α β:Type} {f g:Nat→Option α} {Q Q':α→Prop}
def Tot.mono (h:Tot f Q) (hq:∀ a,Q a→Q' a):Tot f Q':=by
 obtain⟨r,K,h1,h2⟩:=h;exact⟨r,K,h1,hq r h2⟩
def Cfb {a:α} (h:Q a):Tot (λ _=>some a) Q:=⟨a,0,λ _ _=>rfl,h⟩
def Crb {o:Option α} {a:α} (e:o=some a) (h:Q a):Tot (λ _=>o) Q:=⟨a,0,λ _ _=>e,h⟩
def Cgb {h:Nat→α→Option β} {R:β→Prop} (hf:Tot f Q) (hh:∀ a,Q a→Tot (λ k=>h k a) R):Tot (λ k=>(f k).bind (h k)) R:=by
 obtain⟨a,K,h1,h2⟩:=hf;obtain⟨b,L,h3,h4⟩:=hh a h2;exact⟨b,max K L,λ k hk=>by show (f k).bind (h k)=_;rw[h1 k (by omega)];exact h3 k (by omega),h4⟩
def Cib {c:Bool} (hc:c=true) (h:Tot f Q):Tot (λ k=>cond c (f k) (g k)) Q:=by subst hc;exact h
def Chb {c:Bool} (hc:c=false) (h:Tot g Q):Tot (λ k=>cond c (f k) (g k)) Q:=by subst hc;exact h
def Clb {c:Bool} (h1:c=true→Tot f Q) (h2:c=false→Tot g Q):Tot (λ k=>cond c (f k) (g k)) Q:=by
 cases hc:c with
 |true=>exact h1 hc
 |false=>exact h2 hc
def Cjb {p:Prop} [Decidable p] (hp:p) (h:Tot f Q):Tot (λ k=>cond (decide p) (f k) (g k)) Q:=Cib (decide_eq_true hp) h
def Ckb {p:Prop} [Decidable p] (hp:¬ p) (h:Tot g Q):Tot (λ k=>cond (decide p) (f k) (g k)) Q:=Chb (decide_eq_false hp) h
def Cmb {p:Prop} [Decidable p] (h1:p→Tot f Q) (h2:¬ p→Tot g Q):Tot (λ k=>cond (decide p) (f k) (g k)) Q:=
 Clb (λ h=>h1 (of_decide_eq_true h)) (λ h=>h2 (of_decide_eq_false h))
def Cnb {m n:Nat} (hp:m≤n) (h:Tot f Q):Tot (λ k=>cond (Nat.ble m n) (f k) (g k)) Q:=Cib (Zn hp) h
def Cqb {v:α} {h:Nat→α→Option β} {R:β→Prop} (hf:Tot f (λ r=>r=v)) (hh:Tot (λ k=>h k v) R):Tot (λ k=>(f k).bind (h k)) R:=
 Cgb hf (by rintro r rfl;exact hh)
def Tot.succ (h:Tot (λ k=>f (k+1)) Q):Tot f Q:=by
 obtain⟨r,K,h1,h2⟩:=h;exact⟨r,K+1,λ k hk=>by obtain⟨m,rfl⟩:∃ m,k=m+1:=⟨k-1,by omega⟩;exact h1 m (by omega),h2⟩
def Tot.and (h:Tot f Q) (h':Tot f Q'):Tot f (λ a=>Q a∧Q' a):=by
 obtain⟨r,K,h1,h2⟩:=h;obtain⟨r',K',h1',h2'⟩:=h'
 have e:r=r':=by
  have a1:=h1 (max K K') (by omega);have a2:=h1' (max K K') (by omega);rw[a1]at a2;exact Deb a2
 subst e;exact⟨r,K,h1,h2,h2'⟩
def Tot.law {f:Nat→Option Bool} (h:Tot f (λ b=>b=true)):∃ k,f k=some true:=by
 obtain⟨r,K,h1,h2⟩:=h;subst h2;exact⟨K,h1 K (Vw _)⟩
end
def w64 {n:Int} (h1 : -9223372036854775808≤n) (h2:n≤9223372036854775807):wrap .i64 n=n:=Go.IntWalk.i64_in n ⟨h1,h2⟩
def Nsa (n:Int):0≤wrap .u8 n∧wrap .u8 n≤255:=by
 simp only[wrap,IntKind.signed,IntKind.bits];simp;omega
def I1a (x m:Int) (h0:0≤m) (h1:m<9223372036854775808):0≤wrap .i64 ((ofInt (IntKind.bits .i64) x &&& ofInt (IntKind.bits .i64) m).toNat)∧wrap .i64 ((ofInt (IntKind.bits .i64) x &&& ofInt (IntKind.bits .i64) m).toNat)≤m:=by
 have hm:(ofInt (IntKind.bits .i64) m).toNat=m.toNat:=by
  rw[F2b];show (m % ((2 ^ 64:Nat):Int)).toNat=m.toNat;rw[Int.emod_eq_of_lt h0 (by omega)]
 have hle:(ofInt (IntKind.bits .i64) x &&& ofInt (IntKind.bits .i64) m).toNat≤m.toNat:=by
  rw[BitVec.toNat_and,hm];exact Nat.and_le_right
 rw[w64 (by omega) (by omega)];omega
def Nta {x n:Int} (hx:0≤x) (hn:0<n):0≤Int.tmod x n∧Int.tmod x n<n:=by
 rw[Cvb hx];exact⟨Int.emod_nonneg _ (by omega),Int.emod_lt_of_pos _ hn⟩

abbrev Cur:=List Int×Int×Int
def Ul (c:Cur):Prop:=(c.1.length:Int)≤1048576∧0≤c.2.1∧c.2.1≤1048576
def K6a (b:List Int) (hb:(b.length:Int)≤1048576):∀ (n:Nat) (h i:Int),0≤i→i+n=4001→Tot (λ k=>Fw k b h i) (λ r=>r.1=b):=by
 intro n
 induction n with
 |zero=>
  intro h i h0 hi;refine Tot.succ ?_;simp only[Fw];refine Cmb (λ h1=>?_) (λ h1=>Cfb rfl);exact Ckb (by omega) (Cfb rfl)
 |succ n ih=>
  intro h i h0 hi;refine Tot.succ ?_;simp only[Fw];refine Cmb (λ h1=>?_) (λ h1=>Cfb rfl);refine Cmb (λ h2=>?_) (λ h2=>Cfb rfl);refine Cjb h0 (Cjb h1 ?_);rw[w64 (n:=i+1) (by omega) (by omega)];exact ih _ _ (by omega) (by omega)
def Nua (b:List Int) (hb:(b.length:Int)≤1048576):Tot (λ k=>H9 k b) Ul:=by
 unfold H9;refine Cgb (K6a b hb 4001 _ 0 (by omega) (by omega)) (λ r hr=>?_);exact Cfb ⟨by rw[hr];exact hb,Zza 0,by show (0:Int)≤1048576;omega⟩
def Ql (c:Cur) (hc:Ul c):∃ x c',Fx c=some (x,c')∧0≤x∧x≤255∧Ul c':=by
 obtain⟨h1,h2,h3⟩:=hc;unfold Fx
 by_cases hlt:c.2.1<(c.1.length:Int)
 ·simp only[hlt,h2,decide_true,cond_true];obtain⟨a1,a2⟩:=I1a (wrap .i64 ((wrap .i64 ((ofInt (IntKind.bits .i64) (wrap .i64 ((ofInt (IntKind.bits .i64) (Int.fdiv (wrap .i64 ((wrap .i64 (c.2.2*6364136223846793005))+1442695040888963407)) (2 ^ (min (toNat 33) (IntKind.bits .i64)))) ^^^ ofInt (IntKind.bits .i64) (Int.fdiv (wrap .i64 ((wrap .i64 (c.2.2*6364136223846793005))+1442695040888963407)) (2 ^ (min (toNat 47) (IntKind.bits .i64))))).toNat)) &&& ofInt (IntKind.bits .i64) 255).toNat))+(wrap .i64 (getD c.1 (toNat c.2.1) (0:Int))))) 255 (by omega) (by omega);refine⟨_,_,rfl,a1,a2,h1,?_,?_⟩
  ·show 0≤wrap .i64 (c.2.1+1);rw[w64 (by omega) (by omega)];omega
  ·show wrap .i64 (c.2.1+1)≤1048576;rw[w64 (by omega) (by omega)];omega
 ·simp only[hlt,decide_false,cond_false];obtain⟨a1,a2⟩:=I1a (wrap .i64 ((ofInt (IntKind.bits .i64) (Int.fdiv (wrap .i64 ((wrap .i64 (c.2.2*6364136223846793005))+1442695040888963407)) (2 ^ (min (toNat 33) (IntKind.bits .i64)))) ^^^ ofInt (IntKind.bits .i64) (Int.fdiv (wrap .i64 ((wrap .i64 (c.2.2*6364136223846793005))+1442695040888963407)) (2 ^ (min (toNat 47) (IntKind.bits .i64))))).toNat)) 255 (by omega) (by omega);exact⟨_,_,rfl,a1,a2,h1,h2,h3⟩
def Ou (c:Cur) (hc:Ul c) (n:Int) (hn:n≤1000000000):∃ x c',Du c n=some (x,c')∧0≤x∧(0<n→x<n)∧(n≤0→x=0)∧Ul c':=by
 unfold Du
 by_cases h0:n≤0
 ·exact⟨0,c,by simp only[h0,decide_true,cond_true],by omega,by omega,λ _=>rfl,hc⟩
 ·by_cases h1:n≤256
  ·obtain⟨x,c',e,b0,b1,k⟩:=Ql c hc
   have hz:¬ n=0:=by omega
   have:=Nta b0 (show 0<n by omega);exact⟨Int.tmod x n,c',by simp only[h0,h1,hz,decide_true,decide_false,cond_true,cond_false,e,Vt],this.1,λ _=>this.2,λ h=>by omega,k⟩
  ·obtain⟨x,c1,e1,b0,b1,k1⟩:=Ql c hc;obtain⟨y,c2,e2,b2,b3,k2⟩:=Ql c1 k1;obtain⟨z,c3,e3,b4,b5,k3⟩:=Ql c2 k2
   have hz:¬ n=0:=by omega
   have:=Nta (show 0≤x*65536+y*256+z by omega) (show 0<n by omega);refine⟨Int.tmod (x*65536+y*256+z) n,c3,?_,this.1,λ _=>this.2,λ h=>by omega,k3⟩;simp only[h0,h1,hz,decide_false,cond_false,e1,e2,e3,Vt];rw[w64 (n:=x*65536) (by omega) (by omega),w64 (n:=y*256) (by omega) (by omega),w64 (n:=x*65536+y*256) (by omega) (by omega),w64 (n:=x*65536+y*256+z) (by omega) (by omega)]
def S6a {α:Type} {l:List α} {i:Int} {d:α} (h0:0≤i) (h1:i<(l.length:Int)):l.getD i.toNat d∈l:=by
 have h:i.toNat<l.length:=by omega
 rw[Vb,Vg h];exact Eob h
def Ama (c:Cur) (hc:Ul c) (l:List Int) (hl:0<l.length) (hm:l.length≤2000000):∃ x c',G9 c l=some (x,c')∧x∈l∧Ul c':=by
 obtain⟨i,c',e,b0,b1,_,k⟩:=Ou c hc (l.length:Int) (by omega);have b1:=b1 (by omega);refine⟨l.getD i.toNat 0,c',?_,S6a b0 b1,k⟩;unfold G9;simp only[e,Vt,b0,b1,decide_true,cond_true]
def Ax (l:List Int):Prop:=∀ x∈l,0≤x∧x≤255
abbrev Stp:=Int×Int×Int
abbrev Row:=ByteArray×Stp×Bool×Int
abbrev Fil:=Stp×Bool×List Int

end Go.Proofs.YtcpligincipmhaaGreat.Vf
