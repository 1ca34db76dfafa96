import Derived.Test.YtiiekghlhfbmmaaGreatMai
import Derived.ChangeArms
import Derived.SizedLaws
import Derived.DataReads
import Derived.Laws.StructEq
import Derived.Below
set_option linter.all false
namespace Go.Proofs.YtiiekghlhfbmmaaGreat.Vf
open Go
open List (length getD)
open Int (toNat)
open Go.IntKind (wrap)
open BitVec (ofInt)
def Yt:=@List.take_length
def Fsb:=@List.all_cons
def Fwb:=@Bool.and_true
def H4b:=@Option.bind_eq_some_iff
def Hjb:=@List.getElem_mem
def Iob:=@Bool.and_assoc

section
attribute [local irreducible] C H
def Ty.fit (ti:TypeId→Option TI):(t:Ty)→t.den→Prop
 |.i k,n=>(Lit.int k n).wf=true
 |.b,_=>True
 |.s,x=>x.size≤140737488351232
 |.sl e r,xs=>(∀ te,ti e=some te→xs.length*te.by_≤140737488351232)∧∀ x∈xs,r.fit ti x
 |.ow e r,xs=>(∀ te,ti e=some te→xs.length*te.by_≤140737488351232)∧∀ x∈xs,r.fit ti x
 |.pr x y,p=>x.fit ti p.1∧y.fit ti p.2
def Cnb (ti:TypeId→Option TI) (T:TypeId) (ty:Ty):Bool:=match ti T with
 |some t=>decide (t.ty=ty)
 |none=>false
def Uk (ti:TypeId→Option TI):List Field→Nat→Ty→Bool
 |[],_,_=>false
 |[f],o,ty=>Nat.beq f.offset o&&Cnb ti f.type ty
 |f::g::fs,o,.pr x y=>Nat.beq f.offset o&&Cnb ti f.type x&&Uk ti (g::fs) (o+x.sz) y
 |_,_,_=>false
def Td (P:Program) (ti:TypeId→Option TI) (T:TypeId):Bool:=match ti T,P.underlying T with
 |none,_=>true
 |some t,some (.struct fs)=>t.ag&&Uk ti fs.toList 0 t.ty
 |some ⟨.sl e r,false,_,_⟩,some (.slice e')=>Nat.beq e e'&&Cnb ti e r
 |some ⟨.i k,false,_,_⟩,some (.int k')=>decide (k=k')
 |some ⟨.b,false,_,_⟩,some .bool=>true
 |some ⟨.s,false,_,_⟩,some .string=>true
 |_,_=>false
section
variable {H':Type} {enc:TypeId×Value→H'} {P:Program} {w:World} {base:Nat} {spare:Nat→Bool} {held:Bool} {ti:TypeId→Option TI}
def Qn {T:TypeId} {ty:Ty} (h:Cnb ti T ty=true):∃ t,ti T=some t∧t.ty=ty:=by
 unfold Cnb at h
 split at h
 ·rename_i t ht
  exact⟨t,ht,of_decide_eq_true h⟩
 ·cases h
def Te {T:TypeId} {t:TI} (h:TOk P T t):P.cellsOf T=t.ty.sz:=by
 unfold Program.cellsOf
 rw[Rb h]
 rfl
def R3a {T:TypeId} {t:TI} (h:TOk P T t):P.bytesOf T=t.by_:=by
 obtain⟨i,h1,_,h2,_⟩:=h.info
 unfold Program.bytesOf
 rw[h1]
 exact h2
def R4a {α:Type} {R:α→List Value→Prop} {Fit:α→Prop} {k o n:Nat}:∀ (len:Nat),(∀ i,i<len→∃ x c,R x c∧Fit x∧c.length=n∧H7 w k (o+i*n) c)→
  ∃ (xs:List α) (cs:List Value),xs.length=len∧Rows R xs cs∧(∀ x∈xs,Fit x)∧cs.length=len*n∧H7 w k o cs
 |0,_=>⟨[],[],rfl,rfl,by simp,by simp,by intro j u hj;simp at hj⟩
 |len+1,h=>by
  obtain⟨xs,cs,h1,h2,h3,h4,h5⟩:=R4a len (λ i hi=>h i (by omega))
  obtain⟨x,c,g1,g2,g3,g4⟩:=h len (by omega)
  refine⟨xs++[x],cs++c,by simp[h1],Rows.append h2 ⟨c,[],by simp,g1,rfl⟩,?_,?_,?_⟩
  ·intro y hy
   rcases Vn.1 hy with hy|hy
   ·exact h3 y hy
   ·simp at hy;subst hy;exact g2
  ·rw[Ve,h4,g3,Yv,Zc]
  ·intro j u hj
   by_cases hlt:j<cs.length
   ·rw[Yc hlt]at hj
    exact h5 j u hj
   ·rw[Yf (by omega)]at hj
    have:=g4 (j-cs.length) u hj
    rw[h4]at this hlt
    rwa [show o+len*n+(j-len*n)=o+j by omega]at this
def Vea {a:Addr} {n:Nat} {cs:List Value} (h:w.cells? base a n=some cs) (hn:0<n):a.spot=none∧a.block<w.heap.size∧cs.length=n∧H7 w a.block a.off cs:=by
 unfold World.cells? at h
 split at h
 ·have hl:=mapM_some_length h
  have hg:=λ i hi=>mapM_some_get h i i hi
  simp only[List.length_range]at hl
  have h0:w.cell? (a.add 0)=cs[0]? := hg 0 (by simp[hn])
  have hc0:∃ v,cs[0]? = some v:=⟨_,Vk (by omega)⟩
  obtain⟨v,hv⟩:=hc0
  rw[hv]at h0
  have hspot:a.spot=none∧a.block<w.heap.size:=by
   unfold World.cell? at h0
   split at h0
   ·rename_i c e f hb
    refine⟨?_,(Zr.1 hb).1⟩
    cases hs:a.spot with
    |none=>rfl
    |some s=>simp[Addr.add,hs]at h0
   ·cases h0
  refine⟨hspot.1,hspot.2,hl,λ j u hj=>?_⟩
  have hjl:j<n:=by have:=(Yl.1 hj).1;omega
  have:=hg j (by simp[hjl])
  rw[hj]at this
  obtain⟨b,off,sp⟩:=a
  have hsp:sp=none:=hspot.1
  subst hsp
  rw[Nm]at this
  exact this
 ·cases h
def Z4 {T:TypeId}:∀ {ds:List (DataW H')} {m:Nat},m∈DataW.weightsAll P T ds↔∃ d∈ds,m∈d.weights P T
 |[],m=>by simp[DataW.weightsAll]
 |d::ds,m=>by
  simp only[DataW.weightsAll,Vn,Vl,Z4 (ds:=ds)]
  constructor
  ·rintro (h|⟨d',h1,h2⟩)
   ·exact⟨d,.inl rfl,h⟩
   ·exact⟨d',.inr h1,h2⟩
  ·rintro⟨d',rfl|h1,h2⟩
   ·exact .inl h2
   ·exact .inr ⟨d',h1,h2⟩
def Cob (enc:TypeId×Value→H') (P:Program) (w:World) (base:Nat) (spare:Nat→Bool) (held:Bool) (ti:TypeId→Option TI) (n:Nat):Prop:=
 ∀ T t cs y,ti T=some t→DataW.trod enc P w base spare held n T cs=some y→(∀ m∈y.1.weights P T,m≤140737488351232)→∃ X:t.ty.den,t.ty.rep P (λ k=>k<w.heap.size) w X cs∧t.ty.fit ti X
def Z5 (htok:∀ T t,ti T=some t→TOk P T t) {n:Nat} (ih:Cob enc P w base spare held ti n) {cs:List Value}:∀ (fs:List Field) (o:Nat) (ty:Ty) (xs:List (DataW H'×List MemPlace)),Uk ti fs o ty=true→xs.length=fs.length→
  (∀ (i:Nat) (f:Field),fs[i]? = some f→DataW.trod enc P w base spare held n f.type ((cs.drop f.offset).take (P.cellsOf f.type))=xs[i]?)→(∀ m∈DataW.weightsEach P (fs.map (·.type)) (xs.map (·.1)),m≤140737488351232)→o+ty.sz≤cs.length→
  ∃ X:ty.den,ty.rep P (λ k=>k<w.heap.size) w X ((cs.drop o).take ty.sz)∧ty.fit ti X
 |[],o,ty,xs,hp,_,_,_,_=>by cases ty<;>simp[Uk]at hp
 |[f],o,ty,xs,hp,hl,ht,hw,hs=>by
  simp only[Uk,Va]at hp
  obtain⟨t,h1,h2⟩:=Qn hp.2
  have ho:f.offset=o:=Vh hp.1
  subst h2
  have e:=ht 0 f rfl
  cases xs with
  |nil=>simp at hl
  |cons y xs=>
   have e':DataW.trod enc P w base spare held n f.type ((cs.drop f.offset).take (P.cellsOf f.type))=some y:=by simpa using e
   rw[Te (htok _ _ h1),ho]at e'
   exact ih f.type t _ y h1 e' (λ m hm=>hw m (by simp[DataW.weightsEach,hm]))
 |f::g::fs,o,ty,xs,hp,hl,ht,hw,hs=>by
  cases ty<;>first|(simp[Uk]at hp;done)|skip
  rename_i x y
  simp only[Uk,Va]at hp
  obtain⟨⟨h0,h1a⟩,hp⟩:=hp
  obtain⟨t,h1,h2⟩:=Qn h1a
  have ho:f.offset=o:=Vh h0
  subst h2
  have e:=ht 0 f rfl
  cases xs with
  |nil=>simp at hl
  |cons z xs=>
   have e':DataW.trod enc P w base spare held n f.type ((cs.drop f.offset).take (P.cellsOf f.type))=some z:=by simpa using e
   rw[Te (htok _ _ h1),ho]at e'
   have hsz:o+(t.ty.sz+y.sz)≤cs.length:=hs
   obtain⟨X,r1,f1⟩:=ih f.type t _ z h1 e' (λ m hm=>hw m (by simp[DataW.weightsEach,hm]))
   obtain⟨Y,r2,f2⟩:=Z5 htok ih (g::fs) (o+t.ty.sz) y xs hp (by simpa using hl) (λ i f' hf'=>by have:=ht (i+1) f' hf';simpa using this) (λ m hm=>hw m (by
    simp only[Yi,DataW.weightsEach,Vn]
    exact .inr hm)) (by omega)
   refine⟨(X,Y),⟨_,_,?_,r1,r2⟩,f1,f2⟩
   show (cs.drop o).take (t.ty.sz+y.sz)=_
   rw[List.take_add,Yn]
def Dea (htok:∀ T t,ti T=some t→TOk P T t) (hcl:∀ T,Td P ti T=true):∀ n,Cob enc P w base spare held ti n
 |0=>by
  intro T t cs y _ h
  simp[DataW.trod]at h
 |n+1=>by
  intro T t cs y hT h hw
  have hc:=hcl T
  have hk:=htok T t hT
  unfold Td at hc
  rw[hT]at hc
  split at hc
  ·rename_i e;cases e
  ·-- a struct
   rename_i t0 fs e1 hu
   cases e1
   simp only[Va]at hc
   obtain⟨xs,n',e1,rfl,hl,hxl,hx⟩:=DataW.trod_struct hu h
   have:n'=n:=by omega
   subst this
   rw[Te hk]at hl
   have hw':∀ m∈DataW.weightsEach P (fs.toList.map (·.type)) (xs.map (·.1)),m≤140737488351232:=λ m hm=>hw m (by simp only[DataW.weights,hu];exact hm)
   obtain⟨X,r,f⟩:=Z5 htok (Dea htok hcl n') fs.toList 0 t.ty xs hc.2 (by simpa using hxl) (λ i f hf=>hx i f (by simpa using hf)) hw' (by omega)
   rw[Wp,← hl,Yt]at r
   exact⟨X,r,f⟩
  ·-- a slice
   rename_i e r by_ fo e' e1 hu
   cases e1
   simp only[Va]at hc
   obtain⟨te,hte,hty⟩:=Qn hc.2
   have he:e=e':=Vh hc.1
   subst he
   subst hty
   have hke:=htok e te hte
   have hsz:Ata P e te.ty.sz:=Rb hke
   rcases DataW.trod_slice hu h with⟨rfl,rfl⟩|⟨a,len,cap,elems,rest,n',e1,rfl,rfl,hb,hl,hm,hlen,hel,hsp,hns⟩
   ·exact⟨[],⟨_,rfl,hsz,none,0,[],rfl,Vw _,rfl,λ h=>(h rfl).elim⟩,by simp,by simp⟩
   ·have:n'=n:=by omega
    subst this
    have hlw:(elems.map (·.1)).length+(rest.map (·.1)).length=elems.length+rest.length:=by simp
    have hw0:(elems.length+rest.length)*P.bytesOf e≤140737488351232:=hw _ (by simp only[DataW.weights,hu];simp)
    rw[R3a hke]at hw0
    rw[Te hke]at hel
    have hpos:=Q2 te.ty
    have each:∀ i,i<len→∃ x c,te.ty.rep P (λ k=>k<w.heap.size) w x c∧te.ty.fit ti x∧c.length=te.ty.sz∧((i=0→a.spot=none)∧a.block<w.heap.size)∧H7 w a.block (a.off+i*te.ty.sz) c:=by
     intro i hi
     have e1:=hel i hi
     rw[Vk (by omega)]at e1
     simp only[H4b]at e1
     obtain⟨c,hc1,hc2⟩:=e1
     obtain⟨g1,g2,g3,g4⟩:=Vea hc1 hpos
     obtain⟨X,r1,f1⟩:=Dea htok hcl n' e te c _ hte hc2 (λ m hm=>hw m (by
      simp only[DataW.weights,hu,Vl,Vn]
      exact .inr (.inl (Z4.2 ⟨_,Yo (Hjb (l:=elems) (n:=i) (by omega)),hm⟩))))
     have hblk:(a.add (i*te.ty.sz)).block=a.block∧(a.add (i*te.ty.sz)).off=a.off+i*te.ty.sz:=by
      unfold Addr.add
      split
      ·rename_i h0;exact⟨rfl,by omega⟩
      ·exact⟨rfl,rfl⟩
     rw[hblk.1,hblk.2]at g4
     rw[hblk.1]at g2
     refine⟨X,c,r1,f1,g3,⟨λ h0=>?_,g2⟩,g4⟩
     subst h0
     rw[Ghb]at g1
     exact g1
    obtain⟨xs,cs,h1,h2,h3,h4,h5⟩:=R4a (w:=w) (k:=a.block) (o:=a.off) (n:=te.ty.sz) (R:=λ x c=>te.ty.rep P (λ k=>k<w.heap.size) w x c) (Fit:=te.ty.fit ti) len (λ i hi=>by
     obtain⟨x,c,q1,q2,q3,q4,q5⟩:=each i hi
     exact⟨x,c,q1,q2,q3,q5⟩)
    refine⟨xs,⟨_,rfl,hsz,some a,cap,cs,by rw[h1],by omega,h2,λ hne=>?_⟩,λ te' ht'=>?_,h3⟩
    ·have hpos:0<len:=by rw[← h1];cases xs with|nil=>exact(hne rfl).elim|cons=>simp
     obtain⟨x,c,q1,q2,q3,q4,q5⟩:=each 0 hpos
     refine⟨a.block,a.off,?_,q4.2,h5⟩
     obtain⟨b,off,sp⟩:=a
     have hsp:sp=none:=q4.1 rfl
     rw[hsp]
    ·rw[hte]at ht'
     cases ht'
     rw[h1,← hlen]
     exact Zs (Wn _ (Nat.le_add_right _ _)) hw0
  ·rename_i k by_ fo k' e1 hu
   cases e1
   have:k=k':=of_decide_eq_true hc
   subst this
   obtain⟨m,rfl,rfl,hwf⟩:=DataW.trod_int hu h
   exact⟨m,rfl,hwf⟩
  ·rename_i by_ fo e1 hu
   cases e1
   obtain⟨b,rfl,rfl⟩:=DataW.trod_bool hu h
   exact⟨b,rfl,trivial⟩
  ·rename_i by_ fo e1 hu
   cases e1
   obtain⟨s,rfl,rfl,hs⟩:=DataW.trod_string hu h
   refine⟨s,rfl,?_⟩
   have:=hw s.data.toList.length (by rw[show (DataW.lit (.string s.data.toList):DataW H').weights P T=[s.data.toList.length] from by simp only[DataW.weights]];exact Vt.2 rfl)
   have e:s.data.toList.length=s.size:=Yw
   rw[e]at this
   exact this
  ·cases hc
end
end

section
attribute [local irreducible] C H
def eq1:Lf→Lf→Option Bool
 |.sc (.int k x),.sc (.int k' y)=>if k=k' then some (x==y) else none
 |.sc (.bool x),.sc (.bool y)=>some (x==y)
 |.sc (.string x),.sc (.string y)=>some (x==y)
 |_,_=>none
def Vfa (a a':Lf) (l l':List Lf) {b:Bool} (h:Fh (a::l) (a'::l')=some b):∃ b1 b2,eq1 a a'=some b1∧Fh l l'=some b2∧b=(b1&&b2):=by
 unfold Fh at h
 split at h
 ·rename_i e _;cases e
 ·rename_i k x k' y e1 e2
  cases e1;cases e2
  by_cases hk:k=k'
  ·simp only[hk,decide_true,cond_true,Vg]at h
   exact⟨x==y,true,by simp only[eq1,hk,if_true],rfl,by simp[h]⟩
  ·simp[hk]at h
 ·rename_i x y e1 e2
  cases e1;cases e2
  simp only[Vg]at h
  exact⟨_,true,rfl,rfl,by simp[h]⟩
 ·rename_i x y e1 e2
  cases e1;cases e2
  simp only[Vg]at h
  exact⟨_,true,rfl,rfl,by simp[h]⟩
 ·rename_i k x l k' y l' _ e1 e2
  cases e1;cases e2
  by_cases hk:k=k'
  ·simp only[hk,decide_true,cond_true]at h
   split at h
   ·rename_i b2 hb
    simp only[Vg]at h
    exact⟨_,b2,by simp only[eq1,hk,if_true],hb,h.symm⟩
   ·cases h
  ·simp[hk]at h
 ·rename_i x l y l' _ e1 e2
  cases e1;cases e2
  split at h
  ·rename_i b2 hb
   simp only[Vg]at h
   exact⟨_,b2,rfl,hb,h.symm⟩
  ·cases h
 ·rename_i x l y l' _ e1 e2
  cases e1;cases e2
  split at h
  ·rename_i b2 hb
   simp only[Vg]at h
   exact⟨_,b2,rfl,hb,h.symm⟩
  ·cases h
 ·cases h
def Bua:∀ (l m l' m':List Lf) (b:Bool),l.length=l'.length→Fh (l++m) (l'++m')=some b→∃ b1 b2,Fh l l'=some b1∧Fh m m'=some b2∧b=(b1&&b2)
 |[],m,[],m',b,_,h=>⟨true,b,rfl,h,by simp⟩
 |[],_,_::_,_,_,hl,_=>by simp at hl
 |_::_,_,[],_,_,hl,_=>by simp at hl
 |a::l,m,a'::l',m',b,hl,h=>by
  obtain⟨b1,b2,h1,h2,rfl⟩:=Vfa a a' (l++m) (l'++m') h
  obtain⟨b3,b4,h3,h4,rfl⟩:=Bua l m l' m' b2 (by simpa using hl) h2
  refine⟨b1&&b3,b4,?_,h4,by simp[Iob]⟩
  cases a with
  |sc u=>
   cases a' with
   |sc u'=>
    cases u<;>first|(simp[eq1]at h1;done)|skip
    all_goals (cases u'<;>first|(simp[eq1]at h1;done)|skip)
    ·rename_i x y
     simp only[eq1,Vg]at h1
     cases l<;>cases l'<;>first|(simp at hl;done)|skip
     ·simp only[Fh,Vg]at h3
      simp only[Fh]
      rw[← h3,← h1,Fwb]
     ·simp only[Fh,h3]
      rw[← h1]
    ·rename_i k x k' y
     simp only[eq1]at h1
     by_cases hk:k=k'
     ·rw[if_pos hk]at h1
      simp only[Vg]at h1
      cases l<;>cases l'<;>first|(simp at hl;done)|skip
      ·simp only[Fh,Vg]at h3
       simp only[Fh,hk,decide_true,cond_true]
       rw[← h3,← h1,Fwb]
      ·simp only[Fh,hk,decide_true,cond_true,h3]
       rw[← h1]
     ·rw[if_neg hk]at h1;cases h1
    ·rename_i x y
     simp only[eq1,Vg]at h1
     cases l<;>cases l'<;>first|(simp at hl;done)|skip
     ·simp only[Fh,Vg]at h3
      simp only[Fh]
      rw[← h3,← h1,Fwb]
     ·simp only[Fh,h3]
      rw[← h1]
   |_=>cases u<;>simp[eq1]at h1
  |_=>simp[eq1]at h1
def eqB (P:Program) (ti:TypeId→Option TI):Nat→TypeId→Bool
 |0,_=>false
 |n+1,T=>match ti T,P.underlying T with
  |some t,some (.struct fs)=>t.ag&&!(P.stoodInHeld T)&&Uk ti fs.toList 0 t.ty&&fs.toList.all (λ f => !(f.name == "_")&&eqB P ti n f.type)
  |some ⟨.i _,false,_,_⟩,some (.int _)=>true
  |some ⟨.b,false,_,_⟩,some .bool=>true
  |some ⟨.s,false,_,_⟩,some .string=>true
  |_,_=>false
section
variable {P:Program} {ti:TypeId→Option TI} {G:Nat→Prop} {w:World}
def Cpb (P:Program) (ti:TypeId→Option TI) (G:Nat→Prop) (w:World) (n:Nat):Prop:=
 ∀ T t d (X Y:t.ty.den) (us vs:List Value) (x y:Value) (b:Bool) (w':World),n≤d→eqB P ti n T=true→ti T=some t→N9 (M2 P G w) (A8 t.ty X) us→N9 (M2 P G w) (A8 t.ty Y) vs→Fh (A8 t.ty X) (A8 t.ty Y)=some b→
  (if t.ag then x = .agg us.toArray else us=[x])→(if t.ag then y = .agg vs.toArray else vs=[y])→(Op.equalIn d T x y).run P w' = .ok b w'
def X9 {T:TypeId} {t:TI} (hk:TOk P T t) {us:List Value} {off:Nat} (hl:off+t.ty.sz≤us.length) (w':World):
  ∃ u,(part T us.toArray off).run P w' = .ok u w'∧(if t.ag then u = .agg ((us.drop off).take t.ty.sz).toArray else (us.drop off).take t.ty.sz=[u]):=by
 obtain⟨d,hd,hagg⟩:=I9a hk
 cases ha:t.ag with
 |true=>
  rw[ha]at hagg
  refine⟨.agg (us.toArray.extract off (off+t.ty.sz)),?_,?_⟩
  ·unfold part
   simp only[We,Ph hd hagg,Wd,if_true,M3 (Rb hk),Yb]
  ·simp only[if_true]
   congr 1
   apply I8b
   rw[Array.toList_extract]
   simp[List.extract]
 |false=>
  rw[ha]at hagg
  have h1:=Pca hk ha
  have hlt:off<us.length:=by omega
  refine⟨us[off],?_,?_⟩
  ·unfold part
   simp only[We,Ph hd hagg,Wd,Ya,if_false]
   have:us.toArray[off]? = some us[off]:=by simp[hlt]
   rw[this]
   rfl
  ·simp only[Ya,if_false]
   rw[h1,Yx hlt]
   rfl
def Fsa (htok:∀ T t,ti T=some t→TOk P T t) {n:Nat} (ih:Cpb P ti G w n) {d:Nat} (hd:n≤d) {us vs:List Value} (w':World):
  ∀ (fs:List Field) (o:Nat) (ty:Ty) (X Y:ty.den) (b:Bool),Uk ti fs o ty=true→fs.all (λ f => !(f.name == "_")&&eqB P ti n f.type)=true→o+ty.sz≤us.length→o+ty.sz≤vs.length→
   N9 (M2 P G w) (A8 ty X) ((us.drop o).take ty.sz)→N9 (M2 P G w) (A8 ty Y) ((vs.drop o).take ty.sz)→
   Fh (A8 ty X) (A8 ty Y)=some b→(Op.eqFields d us.toArray vs.toArray fs).run P w' = .ok b w'
 |[],o,ty,X,Y,b,hp,_,_,_,_,_,_=>by cases ty<;>simp[Uk]at hp
 |[f],o,ty,X,Y,b,hp,ha,hl,hl',h0,h0',he=>by
  simp only[Uk,Va]at hp
  simp only[Fsb,Va,Vv,beq_eq_false_iff_ne]at ha
  obtain⟨⟨a1,a2⟩,_⟩:=ha
  obtain⟨t,h1,h2⟩:=Qn hp.2
  have ho:f.offset=o:=Vh hp.1
  subst h2
  subst ho
  obtain⟨x,hx1,hx2⟩:=X9 (htok _ _ h1) hl w'
  obtain⟨y,hy1,hy2⟩:=X9 (htok _ _ h1) hl' w'
  have hr:=ih f.type t d X Y _ _ x y b w' hd a2 h1 h0 h0' he hx2 hy2
  simp only[Op.eqFields,ne_eq,a1,not_false_eq_true,if_true,We,hx1,hy1,hr,Wd]
  cases b<;>rfl
 |f::g::fs,o,ty,X,Y,b,hp,ha,hl,hl',h0,h0',he=>by
  cases ty<;>first|(simp[Uk]at hp;done)|skip
  rename_i tx tyy
  simp only[Uk,Va]at hp
  obtain⟨⟨q0,q1⟩,hp⟩:=hp
  rw[Fsb,Va]at ha
  obtain⟨ha0,ha⟩:=ha
  simp only[Va,Vv,beq_eq_false_iff_ne]at ha0
  obtain⟨a1,a2⟩:=ha0
  obtain⟨t,h1,h2⟩:=Qn q1
  have ho:f.offset=o:=Vh q0
  subst h2
  subst ho
  have hl2:f.offset+(t.ty.sz+tyy.sz)≤us.length:=hl
  have hl2':f.offset+(t.ty.sz+tyy.sz)≤vs.length:=hl'
  have he2:Fh (A8 t.ty X.1++A8 tyy X.2) (A8 t.ty Y.1++A8 tyy Y.2)=some b:=he
  have r0:N9 (M2 P G w) (A8 t.ty X.1++A8 tyy X.2) ((us.drop f.offset).take (t.ty.sz+tyy.sz)):=h0
  have r0':N9 (M2 P G w) (A8 t.ty Y.1++A8 tyy Y.2) ((vs.drop f.offset).take (t.ty.sz+tyy.sz)):=h0'
  have k1:=r0.take t.ty.sz
  have k2:=r0.drop t.ty.sz
  have k1':=r0'.take t.ty.sz
  have k2':=r0'.drop t.ty.sz
  have c1:=Jg t.ty X.1
  have c1':=Jg t.ty Y.1
  rw[← c1,Gsb,c1,Gkb,Zu (by omega)]at k1
  rw[← c1',Gsb,c1',Gkb,Zu (by omega)]at k1'
  have c2:∀ l:List Value,List.drop t.ty.sz (List.take (t.ty.sz+tyy.sz) l)=List.take tyy.sz (List.drop t.ty.sz l):=λ l=>by rw[Gtb];congr 1;omega
  rw[c2,Yn]at k2 k2'
  rw[show List.drop t.ty.sz (A8 t.ty X.1++A8 tyy X.2)=A8 tyy X.2 by rw[← c1,Zg]]at k2
  rw[show List.drop t.ty.sz (A8 t.ty Y.1++A8 tyy Y.2)=A8 tyy Y.2 by rw[← c1',Zg]]at k2'
  obtain⟨b1,b2,e1,e2,rfl⟩:=Bua _ _ _ _ b (by rw[c1,c1']) he2
  obtain⟨x,hx1,hx2⟩:=X9 (htok _ _ h1) (us:=us) (off:=f.offset) (by omega) w'
  obtain⟨y,hy1,hy2⟩:=X9 (htok _ _ h1) (us:=vs) (off:=f.offset) (by omega) w'
  have hr:=ih f.type t d X.1 Y.1 _ _ x y b1 w' hd a2 h1 k1 k1' e1 hx2 hy2
  have hr2:=Fsa htok ih hd w' (g::fs) (f.offset+t.ty.sz) tyy X.2 Y.2 b2 hp ha (by omega) (by omega) k2 k2' e2
  rw[Op.eqFields]
  simp only[ne_eq,a1,not_false_eq_true,if_true,We,hx1,hy1,hr,Wd]
  cases b1
  ·rfl
  ·simpa using hr2
def Xka (htok:∀ T t,ti T=some t→TOk P T t):∀ n,Cpb P ti G w n
 |0=>by
  intro T t d X Y us vs x y b w' _ h
  simp[eqB]at h
 |n+1=>by
  intro T t d X Y us vs x y b w' hd h hT hl hl' he hx hy
  obtain⟨d,rfl⟩:∃ m,d=m+1:=⟨d-1,by omega⟩
  have one:∀ {us:List Value} {x:Value} {z:Lf},us=[x]→N9 (M2 P G w) [z] us→M2 P G w z x:=by
   intro us x z e h
   subst e
   cases h with
   |cons a h=>exact a
  unfold eqB at h
  rw[hT]at h
  split at h
  ·rename_i t0 fs e1 hu
   cases e1
   simp only[Va,Vv]at h
   obtain⟨⟨⟨h1,h2⟩,h3⟩,h4⟩:=h
   rw[h1]at hx hy
   simp only[if_true]at hx hy
   subst hx hy
   have hfs:P.fieldsOf T=fs:=by unfold Program.fieldsOf;rw[hu]
   rw[run_equalIn_struct w' d T _ _ (by rw[hfs];exact hu) h2,hfs]
   have e1:=hl.len
   have e2:=hl'.len
   rw[Jg]at e1 e2
   exact Fsa htok (Xka htok n) (by omega) w' fs.toList 0 t.ty X Y b h3 h4 (by omega) (by omega) (by rw[Wp,← e1,Yt];exact hl) (by rw[Wp,← e2,Yt];exact hl') he
  ·rename_i k by_ fo k' e1 hu
   cases e1
   simp only[Ya,if_false]at hx hy
   have hz:=(one hx hl).1
   have hz':=(one hy hl').1
   subst hz hz'
   have he':(X==Y)=b:=by simpa[A8,Fh] using he
   rw[← he']
   simp[Op.equalIn,run_underlying hu]
  ·rename_i by_ fo e1 hu
   cases e1
   simp only[Ya,if_false]at hx hy
   have hz:=(one hx hl).1
   have hz':=(one hy hl').1
   subst hz hz'
   have he':(X==Y)=b:=by simpa[A8,Fh] using he
   rw[← he']
   simp[Op.equalIn,run_underlying hu]
  ·rename_i by_ fo e1 hu
   cases e1
   simp only[Ya,if_false]at hx hy
   have hz:=(one hx hl).1
   have hz':=(one hy hl').1
   subst hz hz'
   have he':(X==Y)=b:=by simpa[A8,Fh] using he
   rw[← he']
   simp[Op.equalIn,run_underlying hu]
  ·cases h
end
def Cqb:∀ (t:Ty) (l l':List Lf) (x:t.den),Q7 l=true→mkT t l=some (x,l')→l=A8 t x++l'∧Q7 l'=true:=by
 intro t
 induction t with
 |pr p q ihp ihq=>
  intro l l' x h hm
  simp only[mkT]at hm
  split at hm
  ·rename_i y l1 h1
   split at hm
   ·rename_i z l2 h2
    cases hm
    obtain⟨e1,a1⟩:=ihp _ _ _ h h1
    obtain⟨e2,a2⟩:=ihq _ _ _ a1 h2
    refine⟨?_,a2⟩
    rw[e1,e2,← Vp]
    rfl
   ·cases hm
  ·cases hm
 |_=>
  intro l l' x h hm
  cases l with
  |nil=>simp[mkT]at hm
  |cons z l=>
   cases z<;>first|(simp[Q7]at h;done)|skip
   rename_i v
   cases v<;>first|(simp[mkT]at hm;done)|skip
   all_goals
    simp only[Q7]at h
    simp only[mkT]at hm
    first
     |(simp only[Vg,Wb]at hm;obtain⟨rfl,rfl⟩:=hm;exact⟨rfl,h⟩)
     |(
       rename_i k k' n
       by_cases hk:k=k'
       ·subst hk
        simp only[decide_true,cond_true,Vg,Wb]at hm
        obtain⟨rfl,rfl⟩:=hm
        exact⟨rfl,h⟩
       ·simp[hk]at hm)
def Edb {P:Program} {ti:TypeId→Option TI} (htok:∀ T t,ti T=some t→TOk P T t) {T:TypeId} (h:eqB P ti 9 T=true) (hag:(match ti T with|some t=>t.ag|none=>false)=true) (hg:P.eqGuardType P.depth T=false) (G:Nat→Prop) (w w':World) (x y:Operand) (l l':List Lf) (us vs:List Value) (b:Bool)
  (h1:N9 (M2 P G w) l us) (h2:N9 (M2 P G w) l' vs) (he:Fh l l'=some b) (ha:Q7 l=true) (ha':Q7 l'=true) (hk:Pd (ti T) l=true) (hk':Pd (ti T) l'=true):
  (Op.equal T (.agg us.toArray) (.agg vs.toArray)).run P w' = .ok b w'∧(eqGuard .eql T x y (.agg us.toArray) (.agg vs.toArray)).run P w' = .ok () w'∧(eqGuard .neq T x y (.agg us.toArray) (.agg vs.toArray)).run P w' = .ok () w':=by
 refine⟨?_,run_eqGuard_agg w' _ T x y _ _ hg,run_eqGuard_agg w' _ T x y _ _ hg⟩
 unfold Pd at hk hk'
 split at hk
 ·rename_i t hT
  rw[hT]at hk' hag
  simp only at hk' hag
  have key:∀ {l:List Lf},Q7 l=true→(mkW t.ty l).isSome=true→∃ X,l=A8 t.ty X:=by
   intro l ha hk
   obtain⟨X,hX⟩:=Zm.1 hk
   unfold mkW at hX
   split at hX
   ·rename_i z hz
    cases hX
    obtain⟨e1,_⟩:=Cqb t.ty l [] _ ha hz
    exact⟨_,by rw[e1,Wq]⟩
   ·cases hX
  obtain⟨X,rfl⟩:=key ha hk
  obtain⟨Y,rfl⟩:=key ha' hk'
  exact Xka htok 9 T t Op.maxDepth X Y us vs _ _ b w' (by decide) h hT h1 h2 he (by rw[hag];rfl) (by rw[hag];rfl)
 ·cases hk
end

section
open Go.RowKit
attribute [local irreducible] C H
def Lv:Code→List Code
 |.seq a b=>Lv a++Lv b
 |.cond _ a b=>Lv a++Lv b
 |.block _ c=>Lv c
 |.loop c=>[c]
 |_=>[]
def R5a {X:Cx} {E:En}:∀ (c:Code),(∀ d∈Lv c,∀ L,E.lp (first d)=some L→Fha X L d)→Nx X E c:=by
 intro c
 induction c with
 |seq a b iha ihb=>exact λ h=>⟨iha λ d hd=>h d (Wa _ hd),ihb λ d hd=>h d (Vq _ hd)⟩
 |cond x a b iha ihb=>exact λ h=>⟨iha λ d hd=>h d (Wa _ hd),ihb λ d hd=>h d (Vq _ hd)⟩
 |block i c ih=>exact λ h=>ih h
 |loop c ih=>exact λ h=>h c (by simp[Lv])
 |_=>exact λ h=>trivial
def Vga {X:Cx} {E:En} {c b:Code} (ids:List Nat) (h1:Lv c=ids.map λ l=>Ky l b) (h2:(ids.map λ l=>first (Ky l b))=ids) (h3:∀ l∈ids,∀ L,E.lp l=some L→Fha X L (Ky l b)):Nx X E c:=by
 refine R5a c λ d hd L hL=>?_
 rw[h1]at hd
 obtain⟨l,hl,rfl⟩:=Yu.1 hd
 have:first (Ky l b)=l:=by
  have key:∀ (is:List Nat),(is.map λ l=>first (Ky l b))=is→∀ l∈is,first (Ky l b)=l:=by
   intro is
   induction is with
   |nil=>intro _ l hl;simp at hl
   |cons i is ih=>
    intro e l hl
    simp only[Yi,Yj]at e
    rcases Vl.1 hl with rfl|hl
    ·exact e.1
    ·exact ih e.2 l hl
  exact key ids h2 l hl
 rw[this]at hL
 exact h3 l hl L hL
def Crb {P:Program} {X:Cx} {E:En} {ti:TypeId→Option TI} {eqs:TypeId→Bool} (hP:X.P=P) (h1:E.nt=X.nt) (h2:E.np=X.np) (h3:E.ti=ti) (h4:E.eq=eqs) (htok:∀ T t,ti T=some t→TOk P T t)
  (heq:∀ T,eqs T=true→eqB P ti 9 T=true∧(match ti T with|some t=>t.ag|none=>false)=true∧P.eqGuardType P.depth T=false) (hc:∀ f en,E.call f=some en→P5 P f en):Y6 X E:=by
 refine⟨⟨h1,h2,λ T t h=>?_,λ T h G w w' x y l l' us vs b=>?_⟩,λ f en h=>?_⟩
 ·rw[hP];rw[h3]at h;exact htok T t h
 ·rw[hP,h3]
  rw[h4]at h
  obtain⟨e1,e2,e3⟩:=heq T h
  exact Edb htok e1 e2 e3 G w w' x y l l' us vs b
 ·rw[hP];exact hc f en h
def Zta {t:Ty} : {ts:List Ty}→t.den→Den ts→Den (t::ts)
 |[],x,_=>x
 |_::_,x,y=>(x,y)
def Fta {t:Ty} {ts:List Ty} {x:t.den} {y:Den ts}:Fc (t::ts) (Zta x y)=A8 t x::Fc ts y:=by
 cases ts<;>rfl
inductive Xla (P:Program) (w:World):(ps:List Par)→Den (ps.map Par.ty)→List Value→Prop
 |nil:Xla P w [] () []
 |cons {ag:Bool} {t:Ty} {ps:List Par} {X:t.den} {Y:Den (ps.map Par.ty)} {u:Value} {us vs:List Value} (hn:Md t=true) (hu:if ag then u = .agg vs.toArray else vs=[u])
   (hr:t.rep P (λ k=>k<w.heap.size) w X vs) (h:Xla P w ps Y us):Xla P w (.val ag t::ps) (Zta (t:=t) (ts:=ps.map Par.ty) X Y) (u::us)
def Vha (w:World):Nat→Lab:=λ k=>if k<w.heap.size then .fz else .no
def Via {P:Program} {w:World}:∀ {ps:List Par} {x:Den (ps.map Par.ty)} {us:List Value},Xla P w ps x us→us.length=ps.length:=by
 intro ps x us h
 induction h with
 |nil=>rfl
 |cons _ _ _ _ ih=>simp[ih]
def R6a {P:Program} {w:World} {rg:Nat→Nat×Nat} {nv:Nat} {hs:List Value}:∀ {ps:List Par} {x:Den (ps.map Par.ty)} {us:List Value} (i:Nat),Xla P w ps x us→P4 P (bare (Vha w) w) rg nv hs i ps (Fc _ x) us:=by
 intro ps x us i h
 induction h generalizing i with
 |nil=>trivial
 |@cons ag t ps X Y u us vs hn hu hr h ih=>
  show P4 P (bare (Vha w) w) rg nv hs i (.val ag t::ps) (Fc (t::ps.map Par.ty) (Zta X Y)) (u::us)
  rw[Fta]
  refine⟨⟨vs,hu,?_⟩,ih (i+1)⟩
  have h1:=Pg (P:=P) (G:=λ k=>Vha w k = .fz) (w:=w) t X vs (Ty.rep_mono (λ k hk=>by unfold Vha;rw[if_pos hk]) (λ _ _=>rfl) t X vs hr)
  rw[Y2 t X hn]
  exact Aa.ofRep (S:=bare (Vha w) w) h1 _ _
def Vja {P:Program} {f:FuncId} {en:Ent} (hs:Z6a P f en) {w:World} {us:List Value} {x:Den (en.ps.map Par.ty)} (hc:Xla P w en.ps x us) (hnv:Nat.ble en.ps.length en.nv=true) {r:Den (en.rs.map Prod.snd++Mj en.ps)} (hr:en.run x=some r)
  (hrs:en.rs=[(.one,.b)]) (hl:∃ ls,Fc _ r=[.sc (.bool true)]::ls):Calls P f us.toArray w (λ e w'=>e = .returned (.bool true)∧Below w.heap.size w w'):=by
 have htk:us.take en.nv=us:=G2b (by rw[Via hc];exact Vm hnv)
 have hcalls:=hs x r hr w (Vha w) (λ _=>(0,0)) us (λ k hk=>by
  unfold Vha at hk
  split at hk
  ·assumption
  ·exact(hk rfl).elim) (λ k b hk=>by
  unfold Vha at hk
  split at hk<;>cases hk) (R6a 0 hc)
 rw[htk]at hcalls
 refine Ue hcalls ?_
 rintro e w' ⟨v,O',rfl,hF,_,hR,_⟩
 obtain⟨ls,hl⟩:=hl
 rw[hl]at hR
 rw[hrs]at hR
 obtain⟨l,ls',e1,h1⟩:=hR
 cases e1
 have h2:Aa P (bare O' w') (λ _ => .tm 1 []) 0 [.sc (.bool true)] [v]:=h1
 have hv:v = .bool true:=h2.1.1
 subst hv
 exact⟨rfl,hF.os,hF.tape,hF.out,hF.size,λ k hk=>(hF.fz k hk (by unfold Vha;rw[if_pos hk])).2⟩
def Vka {H':Type} {enc:TypeId×Value→H'} {P:Program} {w:World} {base:Nat} {spare:Nat→Bool} {held:Bool} {ti:TypeId→Option TI} (htok:∀ T t,ti T=some t→TOk P T t) (hcl:∀ T,Td P ti T=true)
  {T:TypeId} {t:TI} (hT:ti T=some t) {v:Value} {d:DataW H'} {p:List MemPlace} {b0:Nat} (hv:Value.okWide P w .any b0 T v) (h:DataW.Trod enc P w base spare held T v d p)
  {ts:List TypeId} {ds:List (DataW H')} (hw:(DataW.weightsEach P ts ds).all (· ≤ reachBytes)=true) {j:Nat} (hj:ts[j]? = some T) (hd:ds[j]? = some d):
  ∃ (X:t.ty.den) (vs:List Value),(if t.ag then v = .agg vs.toArray else vs=[v])∧t.ty.rep P (λ k=>k<w.heap.size) w X vs∧t.ty.fit ti X:=by
 obtain⟨n,hn⟩:=h
 obtain⟨X,r,f⟩:=Dea htok hcl n T t _ _ hT hn (λ m hm=>by
  have:=Ys.1 hw m (DataW.weights_mem_each hj hd m hm)
  exact of_decide_eq_true this)
 refine⟨X,_,?_,r,f⟩
 have hc:=hcl T
 unfold Td at hc
 rw[hT]at hc
 unfold Value.okWide at hv
 split at hc
 ·rename_i e;cases e
 ·rename_i t0 fs e1 hu
  cases e1
  simp only[Va]at hc
  rw[hc.1]
  rw[hu]at hv
  obtain⟨cs,rfl,_⟩:=hv
  simp[Value.cells]
 all_goals first
  |(cases hc;done)
  |(rename_i hu;rw[hu]at hv;simp only[Cell.okWide,hu]at hv;rename_i e1;cases e1;simp only[Ya,if_false];have hsz:=Ty.rep_len _ _ _ r;cases v<;>first|(simp[Value.cells];done)|(simp only[Cell.ok,hu]at hv;done)|(simp[Cell.ok,hu]at hv;done))
end

section
open Go.RowKit
attribute [local irreducible] C H
def lk {α:Type}:List (Nat×α)→Nat→Option α
 |[],_=>none
 |(i,a)::l,n=>bif Nat.beq n i then some a else lk l n
structure LF where
 ins:Efa
 alts:List (Ex×Efa)
 f:Nat→ins.den→Option (U0a alts)
@[reducible] def LF.at (p:LF) (k:Nat):Lp:=⟨p.ins,p.alts,p.f k⟩
structure Fd where
 nt:Nat
 nv:Nat
 nm:List Nat
 res:List Nat
 cs:Nat→List (FuncId×Ent):=λ _=>[]
 ls:List (Nat×LF):=[]
 hint:List (Nat×Ty):=[]
 mv:List Nat:=[]
 gh:List (Nat×List Gh):=[]
 opn:List Nat:=[]
 sh:Bool:=false
 rf:Bool:=false
def Fd.n (D:Fd) (ti:TypeId→Option TI) (eqs:TypeId→Bool) (k:Nat):En:=
 ⟨D.nt,ti,eqs,D.nm.contains,D.res.contains,lk (D.cs k),λ l=>match lk D.ls l with|some p=>some (p.at k)|none=>none,D.nv,lk D.hint,D.mv.contains,λ n=>(lk D.gh n).getD [],D.opn.contains,λ _=>D.sh,D.rf⟩
def Xma {α:Type}:∀ {l:List (Nat×α)} {n:Nat} {a:α},lk l n=some a→n∈l.map Prod.fst
 |[],_,_,h=>by cases h
 |(i,b)::l,n,a,h=>by
  unfold lk at h
  cases hb:Nat.beq n i
  case true=>rw[Vh hb];simp
  rw[hb,cond_false]at h
  exact Vi _ (Xma h)
def Zua (P:Program):List (FuncId×Ent)→Prop
 |[]=>True
 |c::l=>P5 P c.1 c.2∧Zua P l
def R7a {P:Program}:∀ {l:List (FuncId×Ent)} {f:FuncId} {en:Ent},Zua P l→lk l f=some en→P5 P f en
 |[],_,_,_,h=>by cases h
 |(i,a)::l,f,en,hc,h=>by
  unfold lk at h
  cases hb:Nat.beq f i with
  |true=>
   rw[hb,cond_true]at h
   cases h
   rw[Vh hb]
   exact hc.1
  |false=>rw[hb,cond_false]at h;exact R7a hc.2 h
@[reducible] def bo (fn:Func):Code:=fn.body.getD .skip
structure Z6 (P:Program) (ti:TypeId→Option TI) (eqs:TypeId→Bool):Prop where
 tok:∀ T t,ti T=some t→TOk P T t
 eq:∀ T,eqs T=true→eqB P ti 9 T=true∧(match ti T with|some t=>t.ag|none=>false)=true∧P.eqGuardType P.depth T=false
 mix:P.follows .mixedOrders=true
def LK (P:Program) (fn:Func) (D:Fd) (l:Nat) (p:LF):Prop:=∀ X:Cx,X.P=P→X.nt=fn.ntmps→X.np=D.nv→∀ k,Fha X (p.at k) (Ky l (bo fn))
def Zva (P:Program) (fn:Func) (D:Fd):List Nat→Prop
 |[]=>True
 |l::r=>(match lk D.ls l with|some p=>LK P fn D l p|none=>True)∧Zva P fn D r
def R8a {P:Program} {fn:Func} {D:Fd} {l:Nat} {p:LF} (hp:lk D.ls l=some p):∀ {r:List Nat},Zva P fn D r→l∈r→LK P fn D l p
 |[],_,h=>by cases h
 |i::r,ha,h=>by
  rcases Vl.1 h with rfl|h
  ·have:=ha.1
   rw[hp]at this
   exact this
  ·exact R8a hp ha.2 h
section
variable {P:Program} {ti:TypeId→Option TI} {eqs:TypeId→Bool} {fn:Func}
def Eeb (hS:Z6 P ti eqs) {D:Fd} {k:Nat} (hn:Nat.beq D.nt fn.ntmps=true) (hc:Zua P (D.cs k)) {X:Cx} (hP:X.P=P) (hx:X.nt=fn.ntmps) (hp:X.np=D.nv):Y6 X (D.n ti eqs k):=
 Crb hP ((Vh hn).trans hx.symm) hp.symm rfl rfl hS.tok hS.eq (λ _ _ h=>R7a hc h)
def Csb (hS:Z6 P ti eqs) {D:Fd} {k:Nat} (hn:Nat.beq D.nt fn.ntmps=true) (hc:Zua P (D.cs k)) {X:Cx} (hP:X.P=P) (hx:X.nt=fn.ntmps) (hp:X.np=D.nv):Fia X (D.n ti eqs k):=
 Zsa (Eeb hS hn hc hP hx hp) (by rw[hP];exact hS.mix)
def Xna {D:Fd} {k:Nat} {c:Code} {ids:List Nat} (h:(Lv c,ids.map λ l=>first (Ky l (bo fn)))=(ids.map λ l=>Ky l (bo fn),ids)) (hi:Zva P fn D ids) {X:Cx} (hP:X.P=P) (hx:X.nt=fn.ntmps) (hp:X.np=D.nv):Nx X (D.n ti eqs k) c:=by
 rw[Wb]at h
 refine Vga (b:=bo fn) ids h.1 h.2 λ l hl L hL=>?_
 have hL':(match lk D.ls l with|some p=>some (p.at k)|none=>none)=some L:=hL
 cases hp':lk D.ls l with
 |none=>rw[hp']at hL';cases hL'
 |some p=>
  rw[hp']at hL'
  cases hL'
  exact R8a hp' hi hl X hP hx hp k
@[reducible] def Eyb (ti:TypeId→Option TI) (eqs:TypeId→Bool) (fn:Func) (D:Fd) (l:Nat) (p:LF):Prop:=∀ k x,P1a (D.n ti eqs k) (p.at k) (Ky l (bo fn)) x=p.f (k+1) x
def mkL (hS:Z6 P ti eqs) {D:Fd} {l:Nat} {p:LF} (ids:List Nat) (hn:Nat.beq D.nt fn.ntmps=true) (hc:∀ k,Zua P (D.cs k)) (hi:Zva P fn D ids) (h:(Lv (Ky l (bo fn)),ids.map λ l=>first (Ky l (bo fn)))=(ids.map λ l=>Ky l (bo fn),ids)) (h0:∀ x,p.f 0 x=none) (hs:Eyb ti eqs fn D l p):LK P fn D l p:=
 λ X hP hx hp=>Zea (ins:=p.ins) (alts:=p.alts) (f:=p.f) (En':=D.n ti eqs) h0 hs (λ k=>Eeb hS hn (hc k) hP hx hp) (λ k=>Csb hS hn (hc k) hP hx hp) (λ k=>Xna h hi hP hx hp)
def Efb (fn:Func) (D:Fd) (en:Ent):Bool:=Nat.beq D.nt fn.ntmps&&(Nat.ble fn.ntmps 1000&&(Nat.ble en.nv fn.ntmps&&(Nat.beq en.nv D.nv&&(fn.body.isSome&&(!(fn.name == "runtime.NumGoroutine")&&Ioa en)))))
def mkS (hS:Z6 P ti eqs) {f:FuncId} {D:Fd} {k:Nat} {en:Ent} (ids:List Nat) (hf:P.funcs[f]? = some fn) (hc:Zua P (D.cs k)) (hi:Zva P fn D ids) (hk:Efb fn D en=true) (h:(Lv (bo fn),ids.map λ l=>first (Ky l (bo fn)))=(ids.map λ l=>Ky l (bo fn),ids))
  (hr:∀ x,P2a (D.n ti eqs k) (bo fn) fn.results.toList en x=en.run x):P5 P f en:=by
 unfold Efb at hk
 simp only[Va,Vv]at hk
 obtain⟨h1,h2,h3,h4,h5,h6,h7⟩:=hk
 have h4:=Vh h4
 have hb:fn.body=some (bo fn):=by
  unfold bo
  cases hb:fn.body with
  |none=>rw[hb]at h5;cases h5
  |some c=>rfl
 refine⟨⟨fn,hf,h6,by rw[hb];rfl⟩,Nga hf hb (Vm h2) (Vm h3) (λ X hP hx hp=>?_) (λ X hP hx hp=>?_) (λ X hP hx hp=>?_) h7 hr⟩
 ·exact Eeb hS h1 hc hP hx (hp.trans h4)
 ·exact Csb hS h1 hc hP hx (hp.trans h4)
 ·exact Xna h hi hP hx (hp.trans h4)
def Egb {keys Bnb:List Nat} (hk:∀ {T t},ti T=some t→T∈keys) (h1:(keys.all λ T=>(match ti T with|some t=>E9b P T t|none=>true)&&Td P ti T)=true)
  (h2:(Bnb.all λ T=>eqB P ti 9 T&&(match ti T with|some t=>t.ag|none=>false)&&!(P.eqGuardType P.depth T))=true) (he:eqs=λ T=>Bnb.contains T) (hm:P.follows .mixedOrders=true):Z6 P ti eqs∧∀ T,Td P ti T=true:=by
 refine⟨⟨λ T t h=>?_,λ T h=>?_,hm⟩,λ T=>?_⟩
 ·have h3:=Ys.1 h1 T (hk h)
  rw[Va,h]at h3
  exact Byb _ _ _ h3.1
 ·rw[he]at h
  have h3:=Ys.1 h2 T (List.elem_iff.1 h)
  simp only[Va,Vv]at h3
  exact⟨h3.1.1,h3.1.2,h3.2⟩
 ·cases h:ti T with
  |none=>unfold Td;rw[h]
  |some t=>
   have h3:=Ys.1 h1 T (hk h)
   rw[Va]at h3
   exact h3.2
end
end

end Go.Proofs.YtiiekghlhfbmmaaGreat.Vf
