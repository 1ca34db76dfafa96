import Derived.Test.YtiiekghlhfbmmaaGreatMai
import Derived.ChangeArms
import Derived.SizedLaws
import Derived.DataReads
import Derived.Laws.StructEq
import Derived.Below
set_option linter.all false
namespace Go.Proofs.YtiiekghlhfbmmaaGreat.Vf
open Go
open List (length getD)
open Int (toNat)
open Go.IntKind (wrap)
open BitVec (ofInt)
def Yi:=@List.take_length
def Zz:=@Bool.and_true
def J1b:=@List.all_cons
def Kcb:=@Option.bind_eq_some_iff
def Ktb:=@List.getElem_mem
def M2b:=@Bool.and_assoc

section
attribute [local irreducible] C H
def Ty.fit (ti:TypeId→Option TI):(t:Ty)→t.den→Prop
 |.i k,n=>(Lit.int k n).wf=true
 |.b,_=>True
 |.s,x=>x.size≤140737488351232
 |.sl e r,xs=>(∀ te,ti e=some te→xs.length*te.by_≤140737488351232)∧∀ x∈xs,r.fit ti x
 |.ow e r,xs=>(∀ te,ti e=some te→xs.length*te.by_≤140737488351232)∧∀ x∈xs,r.fit ti x
 |.pr x y,p=>x.fit ti p.1∧y.fit ti p.2
def Fjb (ti:TypeId→Option TI) (T:TypeId) (ty:Ty):Bool:=match ti T with
 |some t=>decide (t.ty=ty)
 |none=>false
def W5 (ti:TypeId→Option TI):List Field→Nat→Ty→Bool
 |[],_,_=>false
 |[f],o,ty=>Nat.beq f.offset o&&Fjb ti f.type ty
 |f::g::fs,o,.pr x y=>Nat.beq f.offset o&&Fjb ti f.type x&&W5 ti (g::fs) (o+x.sz) y
 |_,_,_=>false
def Ub (P:Program) (ti:TypeId→Option TI) (T:TypeId):Bool:=match ti T,P.underlying T with
 |none,_=>true
 |some t,some (.struct fs)=>t.ag&&W5 ti fs.toList 0 t.ty
 |some ⟨.sl e r,false,_,_⟩,some (.slice e')=>Nat.beq e e'&&Fjb ti e r
 |some ⟨.i k,false,_,_⟩,some (.int k')=>decide (k=k')
 |some ⟨.b,false,_,_⟩,some .bool=>true
 |some ⟨.s,false,_,_⟩,some .string=>true
 |_,_=>false
section
variable {H':Type} {enc:TypeId×Value→H'} {P:Program} {w:World} {base:Nat} {spare:Nat→Bool} {held:Bool} {ti:TypeId→Option TI}
def Rj {T:TypeId} {ty:Ty} (h:Fjb ti T ty=true):∃ t,ti T=some t∧t.ty=ty:=by
 unfold Fjb at h
 split at h
 ·rename_i t ht
  exact⟨t,ht,of_decide_eq_true h⟩
 ·cases h
def Uc {T:TypeId} {t:TI} (h:TOk P T t):P.cellsOf T=t.ty.sz:=by
 unfold Program.cellsOf
 rw[S6 h]
 rfl
def T4a {T:TypeId} {t:TI} (h:TOk P T t):P.bytesOf T=t.by_:=by
 obtain⟨i,h1,_,h2,_⟩:=h.info
 unfold Program.bytesOf
 rw[h1]
 exact h2
def T5a {α:Type} {R:α→List Value→Prop} {Fit:α→Prop} {k o n:Nat}:∀ (len:Nat),(∀ i,i<len→∃ x c,R x c∧Fit x∧c.length=n∧H9 w k (o+i*n) c)→
  ∃ (xs:List α) (cs:List Value),xs.length=len∧Rows R xs cs∧(∀ x∈xs,Fit x)∧cs.length=len*n∧H9 w k o cs
 |0,_=>⟨[],[],rfl,rfl,by simp,by simp,by intro j u hj;simp at hj⟩
 |len+1,h=>by
  obtain⟨xs,cs,h1,h2,h3,h4,h5⟩:=T5a len (λ i hi=>h i (by omega))
  obtain⟨x,c,g1,g2,g3,g4⟩:=h len (by omega)
  refine⟨xs++[x],cs++c,by simp[h1],Rows.append h2 ⟨c,[],by simp,g1,rfl⟩,?_,?_,?_⟩
  ·intro y hy
   rcases Vo.1 hy with hy|hy
   ·exact h3 y hy
   ·simp at hy;subst hy;exact g2
  ·rw[Ve,h4,g3,Za,Zk]
  ·intro j u hj
   by_cases hlt:j<cs.length
   ·rw[Ye hlt]at hj
    exact h5 j u hj
   ·rw[Yh (by omega)]at hj
    have:=g4 (j-cs.length) u hj
    rw[h4]at this hlt
    rwa [show o+len*n+(j-len*n)=o+j by omega]at this
def Xna {a:Addr} {n:Nat} {cs:List Value} (h:w.cells? base a n=some cs) (hn:0<n):a.spot=none∧a.block<w.heap.size∧cs.length=n∧H9 w a.block a.off cs:=by
 unfold World.cells? at h
 split at h
 ·have hl:=mapM_some_length h
  have hg:=λ i hi=>mapM_some_get h i i hi
  simp only[List.length_range]at hl
  have h0:w.cell? (a.add 0)=cs[0]? := hg 0 (by simp[hn])
  have hc0:∃ v,cs[0]? = some v:=⟨_,Vk (by omega)⟩
  obtain⟨v,hv⟩:=hc0
  rw[hv]at h0
  have hspot:a.spot=none∧a.block<w.heap.size:=by
   unfold World.cell? at h0
   split at h0
   ·rename_i c e f hb
    refine⟨?_,(Zu.1 hb).1⟩
    cases hs:a.spot with
    |none=>rfl
    |some s=>simp[Addr.add,hs]at h0
   ·cases h0
  refine⟨hspot.1,hspot.2,hl,λ j u hj=>?_⟩
  have hjl:j<n:=by have:=(Yn.1 hj).1;omega
  have:=hg j (by simp[hjl])
  rw[hj]at this
  obtain⟨b,off,sp⟩:=a
  have hsp:sp=none:=hspot.1
  subst hsp
  rw[Oc]at this
  exact this
 ·cases h
def Ana {T:TypeId}:∀ {ds:List (DataW H')} {m:Nat},m∈DataW.weightsAll P T ds↔∃ d∈ds,m∈d.weights P T
 |[],m=>by simp[DataW.weightsAll]
 |d::ds,m=>by
  simp only[DataW.weightsAll,Vo,Vl,Ana (ds:=ds)]
  constructor
  ·rintro (h|⟨d',h1,h2⟩)
   ·exact⟨d,.inl rfl,h⟩
   ·exact⟨d',.inr h1,h2⟩
  ·rintro⟨d',rfl|h1,h2⟩
   ·exact .inl h2
   ·exact .inr ⟨d',h1,h2⟩
def Fkb (enc:TypeId×Value→H') (P:Program) (w:World) (base:Nat) (spare:Nat→Bool) (held:Bool) (ti:TypeId→Option TI) (n:Nat):Prop:=
 ∀ T t cs y,ti T=some t→DataW.trod enc P w base spare held n T cs=some y→(∀ m∈y.1.weights P T,m≤140737488351232)→∃ X:t.ty.den,t.ty.rep P (λ k=>k<w.heap.size) w X cs∧t.ty.fit ti X
def Aoa (htok:∀ T t,ti T=some t→TOk P T t) {n:Nat} (ih:Fkb enc P w base spare held ti n) {cs:List Value}:∀ (fs:List Field) (o:Nat) (ty:Ty) (xs:List (DataW H'×List MemPlace)),W5 ti fs o ty=true→xs.length=fs.length→
  (∀ (i:Nat) (f:Field),fs[i]? = some f→DataW.trod enc P w base spare held n f.type ((cs.drop f.offset).take (P.cellsOf f.type))=xs[i]?)→(∀ m∈DataW.weightsEach P (fs.map (·.type)) (xs.map (·.1)),m≤140737488351232)→o+ty.sz≤cs.length→
  ∃ X:ty.den,ty.rep P (λ k=>k<w.heap.size) w X ((cs.drop o).take ty.sz)∧ty.fit ti X
 |[],o,ty,xs,hp,_,_,_,_=>by cases ty<;>simp[W5]at hp
 |[f],o,ty,xs,hp,hl,ht,hw,hs=>by
  simp only[W5,Va]at hp
  obtain⟨t,h1,h2⟩:=Rj hp.2
  have ho:f.offset=o:=Vj hp.1
  subst h2
  have e:=ht 0 f rfl
  cases xs with
  |nil=>simp at hl
  |cons y xs=>
   have e':DataW.trod enc P w base spare held n f.type ((cs.drop f.offset).take (P.cellsOf f.type))=some y:=by simpa using e
   rw[Uc (htok _ _ h1),ho]at e'
   exact ih f.type t _ y h1 e' (λ m hm=>hw m (by simp[DataW.weightsEach,hm]))
 |f::g::fs,o,ty,xs,hp,hl,ht,hw,hs=>by
  cases ty<;>first|(simp[W5]at hp;done)|skip
  rename_i x y
  simp only[W5,Va]at hp
  obtain⟨⟨h0,h1a⟩,hp⟩:=hp
  obtain⟨t,h1,h2⟩:=Rj h1a
  have ho:f.offset=o:=Vj h0
  subst h2
  have e:=ht 0 f rfl
  cases xs with
  |nil=>simp at hl
  |cons z xs=>
   have e':DataW.trod enc P w base spare held n f.type ((cs.drop f.offset).take (P.cellsOf f.type))=some z:=by simpa using e
   rw[Uc (htok _ _ h1),ho]at e'
   have hsz:o+(t.ty.sz+y.sz)≤cs.length:=hs
   obtain⟨X,r1,f1⟩:=ih f.type t _ z h1 e' (λ m hm=>hw m (by simp[DataW.weightsEach,hm]))
   obtain⟨Y,r2,f2⟩:=Aoa htok ih (g::fs) (o+t.ty.sz) y xs hp (by simpa using hl) (λ i f' hf'=>by have:=ht (i+1) f' hf';simpa using this) (λ m hm=>hw m (by
    simp only[Yg,DataW.weightsEach,Vo]
    exact .inr hm)) (by omega)
   refine⟨(X,Y),⟨_,_,?_,r1,r2⟩,f1,f2⟩
   show (cs.drop o).take (t.ty.sz+y.sz)=_
   rw[M3b,Yo]
def Ema (htok:∀ T t,ti T=some t→TOk P T t) (hcl:∀ T,Ub P ti T=true):∀ n,Fkb enc P w base spare held ti n
 |0=>by
  intro T t cs y _ h
  simp[DataW.trod]at h
 |n+1=>by
  intro T t cs y hT h hw
  have hc:=hcl T
  have hk:=htok T t hT
  unfold Ub at hc
  rw[hT]at hc
  split at hc
  ·rename_i e;cases e
  ·-- a struct
   rename_i t0 fs e1 hu
   cases e1
   simp only[Va]at hc
   obtain⟨xs,n',e1,rfl,hl,hxl,hx⟩:=DataW.trod_struct hu h
   have:n'=n:=by omega
   subst this
   rw[Uc hk]at hl
   have hw':∀ m∈DataW.weightsEach P (fs.toList.map (·.type)) (xs.map (·.1)),m≤140737488351232:=λ m hm=>hw m (by simp only[DataW.weights,hu];exact hm)
   obtain⟨X,r,f⟩:=Aoa htok (Ema htok hcl n') fs.toList 0 t.ty xs hc.2 (by simpa using hxl) (λ i f hf=>hx i f (by simpa using hf)) hw' (by omega)
   rw[Ya,← hl,Yi]at r
   exact⟨X,r,f⟩
  ·-- a slice
   rename_i e r by_ fo e' e1 hu
   cases e1
   simp only[Va]at hc
   obtain⟨te,hte,hty⟩:=Rj hc.2
   have he:e=e':=Vj hc.1
   subst he
   subst hty
   have hke:=htok e te hte
   have hsz:Bsa P e te.ty.sz:=S6 hke
   rcases DataW.trod_slice hu h with⟨rfl,rfl⟩|⟨a,len,cap,elems,rest,n',e1,rfl,rfl,hb,hl,hm,hlen,hel,hsp,hns⟩
   ·exact⟨[],⟨_,rfl,hsz,none,0,[],rfl,Vv _,rfl,λ h=>(h rfl).elim⟩,by simp,by simp⟩
   ·have:n'=n:=by omega
    subst this
    have hlw:(elems.map (·.1)).length+(rest.map (·.1)).length=elems.length+rest.length:=by simp
    have hw0:(elems.length+rest.length)*P.bytesOf e≤140737488351232:=hw _ (by simp only[DataW.weights,hu];simp)
    rw[T4a hke]at hw0
    rw[Uc hke]at hel
    have hpos:=Qu te.ty
    have each:∀ i,i<len→∃ x c,te.ty.rep P (λ k=>k<w.heap.size) w x c∧te.ty.fit ti x∧c.length=te.ty.sz∧((i=0→a.spot=none)∧a.block<w.heap.size)∧H9 w a.block (a.off+i*te.ty.sz) c:=by
     intro i hi
     have e1:=hel i hi
     rw[Vk (by omega)]at e1
     simp only[Kcb]at e1
     obtain⟨c,hc1,hc2⟩:=e1
     obtain⟨g1,g2,g3,g4⟩:=Xna hc1 hpos
     obtain⟨X,r1,f1⟩:=Ema htok hcl n' e te c _ hte hc2 (λ m hm=>hw m (by
      simp only[DataW.weights,hu,Vl,Vo]
      exact .inr (.inl (Ana.2 ⟨_,Yu (Ktb (l:=elems) (n:=i) (by omega)),hm⟩))))
     have hblk:(a.add (i*te.ty.sz)).block=a.block∧(a.add (i*te.ty.sz)).off=a.off+i*te.ty.sz:=by
      unfold Addr.add
      split
      ·rename_i h0;exact⟨rfl,by omega⟩
      ·exact⟨rfl,rfl⟩
     rw[hblk.1,hblk.2]at g4
     rw[hblk.1]at g2
     refine⟨X,c,r1,f1,g3,⟨λ h0=>?_,g2⟩,g4⟩
     subst h0
     rw[Jpb]at g1
     exact g1
    obtain⟨xs,cs,h1,h2,h3,h4,h5⟩:=T5a (w:=w) (k:=a.block) (o:=a.off) (n:=te.ty.sz) (R:=λ x c=>te.ty.rep P (λ k=>k<w.heap.size) w x c) (Fit:=te.ty.fit ti) len (λ i hi=>by
     obtain⟨x,c,q1,q2,q3,q4,q5⟩:=each i hi
     exact⟨x,c,q1,q2,q3,q5⟩)
    refine⟨xs,⟨_,rfl,hsz,some a,cap,cs,by rw[h1],by omega,h2,λ hne=>?_⟩,λ te' ht'=>?_,h3⟩
    ·have hpos:0<len:=by rw[← h1];cases xs with|nil=>exact(hne rfl).elim|cons=>simp
     obtain⟨x,c,q1,q2,q3,q4,q5⟩:=each 0 hpos
     refine⟨a.block,a.off,?_,q4.2,h5⟩
     obtain⟨b,off,sp⟩:=a
     have hsp:sp=none:=q4.1 rfl
     rw[hsp]
    ·rw[hte]at ht'
     cases ht'
     rw[h1,← hlen]
     exact Zv (Wo _ (Nat.le_add_right _ _)) hw0
  ·rename_i k by_ fo k' e1 hu
   cases e1
   have:k=k':=of_decide_eq_true hc
   subst this
   obtain⟨m,rfl,rfl,hwf⟩:=DataW.trod_int hu h
   exact⟨m,rfl,hwf⟩
  ·rename_i by_ fo e1 hu
   cases e1
   obtain⟨b,rfl,rfl⟩:=DataW.trod_bool hu h
   exact⟨b,rfl,trivial⟩
  ·rename_i by_ fo e1 hu
   cases e1
   obtain⟨s,rfl,rfl,hs⟩:=DataW.trod_string hu h
   refine⟨s,rfl,?_⟩
   have:=hw s.data.toList.length (by rw[show (DataW.lit (.string s.data.toList):DataW H').weights P T=[s.data.toList.length] from by simp only[DataW.weights]];exact Vt.2 rfl)
   have e:s.data.toList.length=s.size:=Zb
   rw[e]at this
   exact this
  ·cases hc
end
end

section
attribute [local irreducible] C H
def eq1:Lf→Lf→Option Bool
 |.sc (.int k x),.sc (.int k' y)=>if k=k' then some (x==y) else none
 |.sc (.bool x),.sc (.bool y)=>some (x==y)
 |.sc (.string x),.sc (.string y)=>some (x==y)
 |_,_=>none
def Xoa (a a':Lf) (l l':List Lf) {b:Bool} (h:Fe (a::l) (a'::l')=some b):∃ b1 b2,eq1 a a'=some b1∧Fe l l'=some b2∧b=(b1&&b2):=by
 unfold Fe at h
 split at h
 ·rename_i e _;cases e
 ·rename_i k x k' y e1 e2
  cases e1;cases e2
  by_cases hk:k=k'
  ·simp only[hk,decide_true,cond_true,Vg]at h
   exact⟨x==y,true,by simp only[eq1,hk,if_true],rfl,by simp[h]⟩
  ·simp[hk]at h
 ·rename_i x y e1 e2
  cases e1;cases e2
  simp only[Vg]at h
  exact⟨_,true,rfl,rfl,by simp[h]⟩
 ·rename_i x y e1 e2
  cases e1;cases e2
  simp only[Vg]at h
  exact⟨_,true,rfl,rfl,by simp[h]⟩
 ·rename_i k x l k' y l' _ e1 e2
  cases e1;cases e2
  by_cases hk:k=k'
  ·simp only[hk,decide_true,cond_true]at h
   split at h
   ·rename_i b2 hb
    simp only[Vg]at h
    exact⟨_,b2,by simp only[eq1,hk,if_true],hb,h.symm⟩
   ·cases h
  ·simp[hk]at h
 ·rename_i x l y l' _ e1 e2
  cases e1;cases e2
  split at h
  ·rename_i b2 hb
   simp only[Vg]at h
   exact⟨_,b2,rfl,hb,h.symm⟩
  ·cases h
 ·rename_i x l y l' _ e1 e2
  cases e1;cases e2
  split at h
  ·rename_i b2 hb
   simp only[Vg]at h
   exact⟨_,b2,rfl,hb,h.symm⟩
  ·cases h
 ·cases h
def Cza:∀ (l m l' m':List Lf) (b:Bool),l.length=l'.length→Fe (l++m) (l'++m')=some b→∃ b1 b2,Fe l l'=some b1∧Fe m m'=some b2∧b=(b1&&b2)
 |[],m,[],m',b,_,h=>⟨true,b,rfl,h,by simp⟩
 |[],_,_::_,_,_,hl,_=>by simp at hl
 |_::_,_,[],_,_,hl,_=>by simp at hl
 |a::l,m,a'::l',m',b,hl,h=>by
  obtain⟨b1,b2,h1,h2,rfl⟩:=Xoa a a' (l++m) (l'++m') h
  obtain⟨b3,b4,h3,h4,rfl⟩:=Cza l m l' m' b2 (by simpa using hl) h2
  refine⟨b1&&b3,b4,?_,h4,by simp[M2b]⟩
  cases a with
  |sc u=>
   cases a' with
   |sc u'=>
    cases u<;>first|(simp[eq1]at h1;done)|skip
    all_goals (cases u'<;>first|(simp[eq1]at h1;done)|skip)
    ·rename_i x y
     simp only[eq1,Vg]at h1
     cases l<;>cases l'<;>first|(simp at hl;done)|skip
     ·simp only[Fe,Vg]at h3
      simp only[Fe]
      rw[← h3,← h1,Zz]
     ·simp only[Fe,h3]
      rw[← h1]
    ·rename_i k x k' y
     simp only[eq1]at h1
     by_cases hk:k=k'
     ·rw[if_pos hk]at h1
      simp only[Vg]at h1
      cases l<;>cases l'<;>first|(simp at hl;done)|skip
      ·simp only[Fe,Vg]at h3
       simp only[Fe,hk,decide_true,cond_true]
       rw[← h3,← h1,Zz]
      ·simp only[Fe,hk,decide_true,cond_true,h3]
       rw[← h1]
     ·rw[if_neg hk]at h1;cases h1
    ·rename_i x y
     simp only[eq1,Vg]at h1
     cases l<;>cases l'<;>first|(simp at hl;done)|skip
     ·simp only[Fe,Vg]at h3
      simp only[Fe]
      rw[← h3,← h1,Zz]
     ·simp only[Fe,h3]
      rw[← h1]
   |_=>cases u<;>simp[eq1]at h1
  |_=>simp[eq1]at h1
def eqB (P:Program) (ti:TypeId→Option TI):Nat→TypeId→Bool
 |0,_=>false
 |n+1,T=>match ti T,P.underlying T with
  |some t,some (.struct fs)=>t.ag&&!(P.stoodInHeld T)&&W5 ti fs.toList 0 t.ty&&fs.toList.all (λ f => !(f.name == "_")&&eqB P ti n f.type)
  |some ⟨.i _,false,_,_⟩,some (.int _)=>true
  |some ⟨.b,false,_,_⟩,some .bool=>true
  |some ⟨.s,false,_,_⟩,some .string=>true
  |_,_=>false
section
variable {P:Program} {ti:TypeId→Option TI} {G:Nat→Prop} {w:World}
def Flb (P:Program) (ti:TypeId→Option TI) (G:Nat→Prop) (w:World) (n:Nat):Prop:=
 ∀ T t d (X Y:t.ty.den) (us vs:List Value) (x y:Value) (b:Bool) (w':World),n≤d→eqB P ti n T=true→ti T=some t→Nv (Mr P G w) (A8 t.ty X) us→Nv (Mr P G w) (A8 t.ty Y) vs→Fe (A8 t.ty X) (A8 t.ty Y)=some b→
  (if t.ag then x = .agg us.toArray else us=[x])→(if t.ag then y = .agg vs.toArray else vs=[y])→(Op.equalIn d T x y).run P w' = .ok b w'
def Y6 {T:TypeId} {t:TI} (hk:TOk P T t) {us:List Value} {off:Nat} (hl:off+t.ty.sz≤us.length) (w':World):
  ∃ u,(part T us.toArray off).run P w' = .ok u w'∧(if t.ag then u = .agg ((us.drop off).take t.ty.sz).toArray else (us.drop off).take t.ty.sz=[u]):=by
 obtain⟨d,hd,hagg⟩:=Jka hk
 cases ha:t.ag with
 |true=>
  rw[ha]at hagg
  refine⟨.agg (us.toArray.extract off (off+t.ty.sz)),?_,?_⟩
  ·unfold part
   simp only[Wf,Q7 hd hagg,Wd,if_true,Ms (S6 hk),Yd]
  ·simp only[if_true]
   congr 1
   apply Lkb
   rw[Array.toList_extract]
   simp[List.extract]
 |false=>
  rw[ha]at hagg
  have h1:=Rda hk ha
  have hlt:off<us.length:=by omega
  refine⟨us[off],?_,?_⟩
  ·unfold part
   simp only[Wf,Q7 hd hagg,Wd,Yb,if_false]
   have:us.toArray[off]? = some us[off]:=by simp[hlt]
   rw[this]
   rfl
  ·simp only[Yb,if_false]
   rw[h1,Ze hlt]
   rfl
def H6a (htok:∀ T t,ti T=some t→TOk P T t) {n:Nat} (ih:Flb P ti G w n) {d:Nat} (hd:n≤d) {us vs:List Value} (w':World):
  ∀ (fs:List Field) (o:Nat) (ty:Ty) (X Y:ty.den) (b:Bool),W5 ti fs o ty=true→fs.all (λ f => !(f.name == "_")&&eqB P ti n f.type)=true→o+ty.sz≤us.length→o+ty.sz≤vs.length→
   Nv (Mr P G w) (A8 ty X) ((us.drop o).take ty.sz)→Nv (Mr P G w) (A8 ty Y) ((vs.drop o).take ty.sz)→
   Fe (A8 ty X) (A8 ty Y)=some b→(Op.eqFields d us.toArray vs.toArray fs).run P w' = .ok b w'
 |[],o,ty,X,Y,b,hp,_,_,_,_,_,_=>by cases ty<;>simp[W5]at hp
 |[f],o,ty,X,Y,b,hp,ha,hl,hl',h0,h0',he=>by
  simp only[W5,Va]at hp
  simp only[J1b,Va,Vx,beq_eq_false_iff_ne]at ha
  obtain⟨⟨a1,a2⟩,_⟩:=ha
  obtain⟨t,h1,h2⟩:=Rj hp.2
  have ho:f.offset=o:=Vj hp.1
  subst h2
  subst ho
  obtain⟨x,hx1,hx2⟩:=Y6 (htok _ _ h1) hl w'
  obtain⟨y,hy1,hy2⟩:=Y6 (htok _ _ h1) hl' w'
  have hr:=ih f.type t d X Y _ _ x y b w' hd a2 h1 h0 h0' he hx2 hy2
  simp only[Op.eqFields,ne_eq,a1,not_false_eq_true,if_true,Wf,hx1,hy1,hr,Wd]
  cases b<;>rfl
 |f::g::fs,o,ty,X,Y,b,hp,ha,hl,hl',h0,h0',he=>by
  cases ty<;>first|(simp[W5]at hp;done)|skip
  rename_i tx tyy
  simp only[W5,Va]at hp
  obtain⟨⟨q0,q1⟩,hp⟩:=hp
  rw[J1b,Va]at ha
  obtain⟨ha0,ha⟩:=ha
  simp only[Va,Vx,beq_eq_false_iff_ne]at ha0
  obtain⟨a1,a2⟩:=ha0
  obtain⟨t,h1,h2⟩:=Rj q1
  have ho:f.offset=o:=Vj q0
  subst h2
  subst ho
  have hl2:f.offset+(t.ty.sz+tyy.sz)≤us.length:=hl
  have hl2':f.offset+(t.ty.sz+tyy.sz)≤vs.length:=hl'
  have he2:Fe (A8 t.ty X.1++A8 tyy X.2) (A8 t.ty Y.1++A8 tyy Y.2)=some b:=he
  have r0:Nv (Mr P G w) (A8 t.ty X.1++A8 tyy X.2) ((us.drop f.offset).take (t.ty.sz+tyy.sz)):=h0
  have r0':Nv (Mr P G w) (A8 t.ty Y.1++A8 tyy Y.2) ((vs.drop f.offset).take (t.ty.sz+tyy.sz)):=h0'
  have k1:=r0.take t.ty.sz
  have k2:=r0.drop t.ty.sz
  have k1':=r0'.take t.ty.sz
  have k2':=r0'.drop t.ty.sz
  have c1:=Js t.ty X.1
  have c1':=Js t.ty Y.1
  rw[← c1,K1b,c1,Jtb,Zw (by omega)]at k1
  rw[← c1',K1b,c1',Jtb,Zw (by omega)]at k1'
  have c2:∀ l:List Value,List.drop t.ty.sz (List.take (t.ty.sz+tyy.sz) l)=List.take tyy.sz (List.drop t.ty.sz l):=λ l=>by rw[Jub];congr 1;omega
  rw[c2,Yo]at k2 k2'
  rw[show List.drop t.ty.sz (A8 t.ty X.1++A8 tyy X.2)=A8 tyy X.2 by rw[← c1,Zm]]at k2
  rw[show List.drop t.ty.sz (A8 t.ty Y.1++A8 tyy Y.2)=A8 tyy Y.2 by rw[← c1',Zm]]at k2'
  obtain⟨b1,b2,e1,e2,rfl⟩:=Cza _ _ _ _ b (by rw[c1,c1']) he2
  obtain⟨x,hx1,hx2⟩:=Y6 (htok _ _ h1) (us:=us) (off:=f.offset) (by omega) w'
  obtain⟨y,hy1,hy2⟩:=Y6 (htok _ _ h1) (us:=vs) (off:=f.offset) (by omega) w'
  have hr:=ih f.type t d X.1 Y.1 _ _ x y b1 w' hd a2 h1 k1 k1' e1 hx2 hy2
  have hr2:=H6a htok ih hd w' (g::fs) (f.offset+t.ty.sz) tyy X.2 Y.2 b2 hp ha (by omega) (by omega) k2 k2' e2
  rw[Op.eqFields]
  simp only[ne_eq,a1,not_false_eq_true,if_true,Wf,hx1,hy1,hr,Wd]
  cases b1
  ·rfl
  ·simpa using hr2
def A3b (htok:∀ T t,ti T=some t→TOk P T t):∀ n,Flb P ti G w n
 |0=>by
  intro T t d X Y us vs x y b w' _ h
  simp[eqB]at h
 |n+1=>by
  intro T t d X Y us vs x y b w' hd h hT hl hl' he hx hy
  obtain⟨d,rfl⟩:∃ m,d=m+1:=⟨d-1,by omega⟩
  have one:∀ {us:List Value} {x:Value} {z:Lf},us=[x]→Nv (Mr P G w) [z] us→Mr P G w z x:=by
   intro us x z e h
   subst e
   cases h with
   |cons a h=>exact a
  unfold eqB at h
  rw[hT]at h
  split at h
  ·rename_i t0 fs e1 hu
   cases e1
   simp only[Va,Vx]at h
   obtain⟨⟨⟨h1,h2⟩,h3⟩,h4⟩:=h
   rw[h1]at hx hy
   simp only[if_true]at hx hy
   subst hx hy
   have hfs:P.fieldsOf T=fs:=by unfold Program.fieldsOf;rw[hu]
   rw[run_equalIn_struct w' d T _ _ (by rw[hfs];exact hu) h2,hfs]
   have e1:=hl.len
   have e2:=hl'.len
   rw[Js]at e1 e2
   exact H6a htok (A3b htok n) (by omega) w' fs.toList 0 t.ty X Y b h3 h4 (by omega) (by omega) (by rw[Ya,← e1,Yi];exact hl) (by rw[Ya,← e2,Yi];exact hl') he
  ·rename_i k by_ fo k' e1 hu
   cases e1
   simp only[Yb,if_false]at hx hy
   have hz:=(one hx hl).1
   have hz':=(one hy hl').1
   subst hz hz'
   have he':(X==Y)=b:=by simpa[A8,Fe] using he
   rw[← he']
   simp[Op.equalIn,run_underlying hu]
  ·rename_i by_ fo e1 hu
   cases e1
   simp only[Yb,if_false]at hx hy
   have hz:=(one hx hl).1
   have hz':=(one hy hl').1
   subst hz hz'
   have he':(X==Y)=b:=by simpa[A8,Fe] using he
   rw[← he']
   simp[Op.equalIn,run_underlying hu]
  ·rename_i by_ fo e1 hu
   cases e1
   simp only[Yb,if_false]at hx hy
   have hz:=(one hx hl).1
   have hz':=(one hy hl').1
   subst hz hz'
   have he':(X==Y)=b:=by simpa[A8,Fe] using he
   rw[← he']
   simp[Op.equalIn,run_underlying hu]
  ·cases h
end
def Fmb:∀ (t:Ty) (l l':List Lf) (x:t.den),Qz l=true→mkT t l=some (x,l')→l=A8 t x++l'∧Qz l'=true:=by
 intro t
 induction t with
 |pr p q ihp ihq=>
  intro l l' x h hm
  simp only[mkT]at hm
  split at hm
  ·rename_i y l1 h1
   split at hm
   ·rename_i z l2 h2
    cases hm
    obtain⟨e1,a1⟩:=ihp _ _ _ h h1
    obtain⟨e2,a2⟩:=ihq _ _ _ a1 h2
    refine⟨?_,a2⟩
    rw[e1,e2,← Vp]
    rfl
   ·cases hm
  ·cases hm
 |_=>
  intro l l' x h hm
  cases l with
  |nil=>simp[mkT]at hm
  |cons z l=>
   cases z<;>first|(simp[Qz]at h;done)|skip
   rename_i v
   cases v<;>first|(simp[mkT]at hm;done)|skip
   all_goals
    simp only[Qz]at h
    simp only[mkT]at hm
    first
     |(simp only[Vg,Wa]at hm;obtain⟨rfl,rfl⟩:=hm;exact⟨rfl,h⟩)
     |(
       rename_i k k' n
       by_cases hk:k=k'
       ·subst hk
        simp only[decide_true,cond_true,Vg,Wa]at hm
        obtain⟨rfl,rfl⟩:=hm
        exact⟨rfl,h⟩
       ·simp[hk]at hm)
def Hcb {P:Program} {ti:TypeId→Option TI} (htok:∀ T t,ti T=some t→TOk P T t) {T:TypeId} (h:eqB P ti 9 T=true) (hag:(match ti T with|some t=>t.ag|none=>false)=true) (hg:P.eqGuardType P.depth T=false) (G:Nat→Prop) (w w':World) (x y:Operand) (l l':List Lf) (us vs:List Value) (b:Bool)
  (h1:Nv (Mr P G w) l us) (h2:Nv (Mr P G w) l' vs) (he:Fe l l'=some b) (ha:Qz l=true) (ha':Qz l'=true) (hk:Q3 (ti T) l=true) (hk':Q3 (ti T) l'=true):
  (Op.equal T (.agg us.toArray) (.agg vs.toArray)).run P w' = .ok b w'∧(eqGuard .eql T x y (.agg us.toArray) (.agg vs.toArray)).run P w' = .ok () w'∧(eqGuard .neq T x y (.agg us.toArray) (.agg vs.toArray)).run P w' = .ok () w':=by
 refine⟨?_,run_eqGuard_agg w' _ T x y _ _ hg,run_eqGuard_agg w' _ T x y _ _ hg⟩
 unfold Q3 at hk hk'
 split at hk
 ·rename_i t hT
  rw[hT]at hk' hag
  simp only at hk' hag
  have key:∀ {l:List Lf},Qz l=true→(mkW t.ty l).isSome=true→∃ X,l=A8 t.ty X:=by
   intro l ha hk
   obtain⟨X,hX⟩:=Zi.1 hk
   unfold mkW at hX
   split at hX
   ·rename_i z hz
    cases hX
    obtain⟨e1,_⟩:=Fmb t.ty l [] _ ha hz
    exact⟨_,by rw[e1,Wq]⟩
   ·cases hX
  obtain⟨X,rfl⟩:=key ha hk
  obtain⟨Y,rfl⟩:=key ha' hk'
  exact A3b htok 9 T t Op.maxDepth X Y us vs _ _ b w' (by decide) h hT h1 h2 he (by rw[hag];rfl) (by rw[hag];rfl)
 ·cases hk
end

section
open Go.RowKit
attribute [local irreducible] C H
def Md:Code→List Code
 |.seq a b=>Md a++Md b
 |.cond _ a b=>Md a++Md b
 |.block _ c=>Md c
 |.loop c=>[c]
 |_=>[]
def T6a {X:Cx} {E:En}:∀ (c:Code),(∀ d∈Md c,∀ L,E.lp (first d)=some L→Gva X L d)→Ol X E c:=by
 intro c
 induction c with
 |seq a b iha ihb=>exact λ h=>⟨iha λ d hd=>h d (Wb _ hd),ihb λ d hd=>h d (Vq _ hd)⟩
 |cond x a b iha ihb=>exact λ h=>⟨iha λ d hd=>h d (Wb _ hd),ihb λ d hd=>h d (Vq _ hd)⟩
 |block i c ih=>exact λ h=>ih h
 |loop c ih=>exact λ h=>h c (by simp[Md])
 |_=>exact λ h=>trivial
def Xpa {X:Cx} {E:En} {c b:Code} (ids:List Nat) (h1:Md c=ids.map λ l=>Li l b) (h2:(ids.map λ l=>first (Li l b))=ids) (h3:∀ l∈ids,∀ L,E.lp l=some L→Gva X L (Li l b)):Ol X E c:=by
 refine T6a c λ d hd L hL=>?_
 rw[h1]at hd
 obtain⟨l,hl,rfl⟩:=Yw.1 hd
 have:first (Li l b)=l:=by
  have key:∀ (is:List Nat),(is.map λ l=>first (Li l b))=is→∀ l∈is,first (Li l b)=l:=by
   intro is
   induction is with
   |nil=>intro _ l hl;simp at hl
   |cons i is ih=>
    intro e l hl
    simp only[Yg,Yl]at e
    rcases Vl.1 hl with rfl|hl
    ·exact e.1
    ·exact ih e.2 l hl
  exact key ids h2 l hl
 rw[this]at hL
 exact h3 l hl L hL
def Fnb {P:Program} {X:Cx} {E:En} {ti:TypeId→Option TI} {eqs:TypeId→Bool} (hP:X.P=P) (h1:E.nt=X.nt) (h2:E.np=X.np) (h3:E.ti=ti) (h4:E.eq=eqs) (htok:∀ T t,ti T=some t→TOk P T t)
  (heq:∀ T,eqs T=true→eqB P ti 9 T=true∧(match ti T with|some t=>t.ag|none=>false)=true∧P.eqGuardType P.depth T=false) (hc:∀ f en,E.call f=some en→Ps P f en):Ada X E:=by
 refine⟨⟨h1,h2,λ T t h=>?_,λ T h G w w' x y l l' us vs b=>?_⟩,λ f en h=>?_⟩
 ·rw[hP];rw[h3]at h;exact htok T t h
 ·rw[hP,h3]
  rw[h4]at h
  obtain⟨e1,e2,e3⟩:=heq T h
  exact Hcb htok e1 e2 e3 G w w' x y l l' us vs b
 ·rw[hP];exact hc f en h
def Chb {t:Ty} : {ts:List Ty}→t.den→Den ts→Den (t::ts)
 |[],x,_=>x
 |_::_,x,y=>(x,y)
def H7a {t:Ty} {ts:List Ty} {x:t.den} {y:Den ts}:F9 (t::ts) (Chb x y)=A8 t x::F9 ts y:=by
 cases ts<;>rfl
inductive A4b (P:Program) (w:World):(ps:List Par)→Den (ps.map Par.ty)→List Value→Prop
 |nil:A4b P w [] () []
 |cons {ag:Bool} {t:Ty} {ps:List Par} {X:t.den} {Y:Den (ps.map Par.ty)} {u:Value} {us vs:List Value} (hn:N0 t=true) (hu:if ag then u = .agg vs.toArray else vs=[u])
   (hr:t.rep P (λ k=>k<w.heap.size) w X vs) (h:A4b P w ps Y us):A4b P w (.val ag t::ps) (Chb (t:=t) (ts:=ps.map Par.ty) X Y) (u::us)
def Xqa (w:World):Nat→Lab:=λ k=>if k<w.heap.size then .fz else .no
def Xra {P:Program} {w:World}:∀ {ps:List Par} {x:Den (ps.map Par.ty)} {us:List Value},A4b P w ps x us→us.length=ps.length:=by
 intro ps x us h
 induction h with
 |nil=>rfl
 |cons _ _ _ _ ih=>simp[ih]
def T7a {P:Program} {w:World} {rg:Nat→Nat×Nat} {nv:Nat} {hs:List Value}:∀ {ps:List Par} {x:Den (ps.map Par.ty)} {us:List Value} (i:Nat),A4b P w ps x us→Pr P (bare (Xqa w) w) rg nv hs i ps (F9 _ x) us:=by
 intro ps x us i h
 induction h generalizing i with
 |nil=>trivial
 |@cons ag t ps X Y u us vs hn hu hr h ih=>
  show Pr P (bare (Xqa w) w) rg nv hs i (.val ag t::ps) (F9 (t::ps.map Par.ty) (Chb X Y)) (u::us)
  rw[H7a]
  refine⟨⟨vs,hu,?_⟩,ih (i+1)⟩
  have h1:=Q6 (P:=P) (G:=λ k=>Xqa w k = .fz) (w:=w) t X vs (Ty.rep_mono (λ k hk=>by unfold Xqa;rw[if_pos hk]) (λ _ _=>rfl) t X vs hr)
  rw[A9a t X hn]
  exact Ac.ofRep (S:=bare (Xqa w) w) h1 _ _
def Xsa {P:Program} {f:FuncId} {en:Ent} (hs:Bub P f en) {w:World} {us:List Value} {x:Den (en.ps.map Par.ty)} (hc:A4b P w en.ps x us) (hnv:Nat.ble en.ps.length en.nv=true) {r:Den (en.rs.map Prod.snd++N6 en.ps)} (hr:en.run x=some r)
  (hrs:en.rs=[(.one,.b)]) (hl:∃ ls,F9 _ r=[.sc (.bool true)]::ls):Calls P f us.toArray w (λ e w'=>e = .returned (.bool true)∧Below w.heap.size w w'):=by
 have htk:us.take en.nv=us:=J9b (by rw[Xra hc];exact Vn hnv)
 have hcalls:=hs x r hr w (Xqa w) (λ _=>(0,0)) us (λ k hk=>by
  unfold Xqa at hk
  split at hk
  ·assumption
  ·exact(hk rfl).elim) (λ k b hk=>by
  unfold Xqa at hk
  split at hk<;>cases hk) (T7a 0 hc)
 rw[htk]at hcalls
 refine Vr hcalls ?_
 rintro e w' ⟨v,O',rfl,hF,_,hR,_⟩
 obtain⟨ls,hl⟩:=hl
 rw[hl]at hR
 rw[hrs]at hR
 obtain⟨l,ls',e1,h1⟩:=hR
 cases e1
 have h2:Ac P (bare O' w') (λ _ => .tm 1 []) 0 [.sc (.bool true)] [v]:=h1
 have hv:v = .bool true:=h2.1.1
 subst hv
 exact⟨rfl,hF.os,hF.tape,hF.out,hF.size,λ k hk=>(hF.fz k hk (by unfold Xqa;rw[if_pos hk])).2⟩
def Xta {H':Type} {enc:TypeId×Value→H'} {P:Program} {w:World} {base:Nat} {spare:Nat→Bool} {held:Bool} {ti:TypeId→Option TI} (htok:∀ T t,ti T=some t→TOk P T t) (hcl:∀ T,Ub P ti T=true)
  {T:TypeId} {t:TI} (hT:ti T=some t) {v:Value} {d:DataW H'} {p:List MemPlace} {b0:Nat} (hv:Value.okWide P w .any b0 T v) (h:DataW.Trod enc P w base spare held T v d p)
  {ts:List TypeId} {ds:List (DataW H')} (hw:(DataW.weightsEach P ts ds).all (· ≤ reachBytes)=true) {j:Nat} (hj:ts[j]? = some T) (hd:ds[j]? = some d):
  ∃ (X:t.ty.den) (vs:List Value),(if t.ag then v = .agg vs.toArray else vs=[v])∧t.ty.rep P (λ k=>k<w.heap.size) w X vs∧t.ty.fit ti X:=by
 obtain⟨n,hn⟩:=h
 obtain⟨X,r,f⟩:=Ema htok hcl n T t _ _ hT hn (λ m hm=>by
  have:=Yr.1 hw m (DataW.weights_mem_each hj hd m hm)
  exact of_decide_eq_true this)
 refine⟨X,_,?_,r,f⟩
 have hc:=hcl T
 unfold Ub at hc
 rw[hT]at hc
 unfold Value.okWide at hv
 split at hc
 ·rename_i e;cases e
 ·rename_i t0 fs e1 hu
  cases e1
  simp only[Va]at hc
  rw[hc.1]
  rw[hu]at hv
  obtain⟨cs,rfl,_⟩:=hv
  simp[Value.cells]
 all_goals first
  |(cases hc;done)
  |(rename_i hu;rw[hu]at hv;simp only[Cell.okWide,hu]at hv;rename_i e1;cases e1;simp only[Yb,if_false];have hsz:=Ty.rep_len _ _ _ r;cases v<;>first|(simp[Value.cells];done)|(simp only[Cell.ok,hu]at hv;done)|(simp[Cell.ok,hu]at hv;done))
end

section
open Go.RowKit
attribute [local irreducible] C H
def lk {α:Type}:List (Nat×α)→Nat→Option α
 |[],_=>none
 |(i,a)::l,n=>bif Nat.beq n i then some a else lk l n
structure LF where
 ins:Fta
 alts:List (Ex×Fta)
 f:Nat→ins.den→Option (W9a alts)
@[reducible] def LF.at (p:LF) (k:Nat):Lp:=⟨p.ins,p.alts,p.f k⟩
structure Fd where
 nt:Nat
 nv:Nat
 nm:List Nat
 res:List Nat
 cs:Nat→List (FuncId×Ent):=λ _=>[]
 ls:List (Nat×LF):=[]
 hint:List (Nat×Ty):=[]
 mv:List Nat:=[]
 gh:List (Nat×List Gh):=[]
 opn:List Nat:=[]
 sh:Bool:=false
 rf:Bool:=false
def Fd.n (D:Fd) (ti:TypeId→Option TI) (eqs:TypeId→Bool) (k:Nat):En:=
 ⟨D.nt,ti,eqs,D.nm.contains,D.res.contains,lk (D.cs k),λ l=>match lk D.ls l with|some p=>some (p.at k)|none=>none,D.nv,lk D.hint,D.mv.contains,λ n=>(lk D.gh n).getD [],D.opn.contains,λ _=>D.sh,D.rf⟩
def A5b {α:Type}:∀ {l:List (Nat×α)} {n:Nat} {a:α},lk l n=some a→n∈l.map Prod.fst
 |[],_,_,h=>by cases h
 |(i,b)::l,n,a,h=>by
  unfold lk at h
  cases hb:Nat.beq n i
  case true=>rw[Vj hb];simp
  rw[hb,cond_false]at h
  exact Vh _ (A5b h)
def Cib (P:Program):List (FuncId×Ent)→Prop
 |[]=>True
 |c::l=>Ps P c.1 c.2∧Cib P l
def T8a {P:Program}:∀ {l:List (FuncId×Ent)} {f:FuncId} {en:Ent},Cib P l→lk l f=some en→Ps P f en
 |[],_,_,_,h=>by cases h
 |(i,a)::l,f,en,hc,h=>by
  unfold lk at h
  cases hb:Nat.beq f i with
  |true=>
   rw[hb,cond_true]at h
   cases h
   rw[Vj hb]
   exact hc.1
  |false=>rw[hb,cond_false]at h;exact T8a hc.2 h
@[reducible] def bo (fn:Func):Code:=fn.body.getD .skip
structure Apa (P:Program) (ti:TypeId→Option TI) (eqs:TypeId→Bool):Prop where
 tok:∀ T t,ti T=some t→TOk P T t
 eq:∀ T,eqs T=true→eqB P ti 9 T=true∧(match ti T with|some t=>t.ag|none=>false)=true∧P.eqGuardType P.depth T=false
 mix:P.follows .mixedOrders=true
def LK (P:Program) (fn:Func) (D:Fd) (l:Nat) (p:LF):Prop:=∀ X:Cx,X.P=P→X.nt=fn.ntmps→X.np=D.nv→∀ k,Gva X (p.at k) (Li l (bo fn))
def Cjb (P:Program) (fn:Func) (D:Fd):List Nat→Prop
 |[]=>True
 |l::r=>(match lk D.ls l with|some p=>LK P fn D l p|none=>True)∧Cjb P fn D r
def T9a {P:Program} {fn:Func} {D:Fd} {l:Nat} {p:LF} (hp:lk D.ls l=some p):∀ {r:List Nat},Cjb P fn D r→l∈r→LK P fn D l p
 |[],_,h=>by cases h
 |i::r,ha,h=>by
  rcases Vl.1 h with rfl|h
  ·have:=ha.1
   rw[hp]at this
   exact this
  ·exact T9a hp ha.2 h
section
variable {P:Program} {ti:TypeId→Option TI} {eqs:TypeId→Bool} {fn:Func}
def Hdb (hS:Apa P ti eqs) {D:Fd} {k:Nat} (hn:Nat.beq D.nt fn.ntmps=true) (hc:Cib P (D.cs k)) {X:Cx} (hP:X.P=P) (hx:X.nt=fn.ntmps) (hp:X.np=D.nv):Ada X (D.n ti eqs k):=
 Fnb hP ((Vj hn).trans hx.symm) hp.symm rfl rfl hS.tok hS.eq (λ _ _ h=>T8a hc h)
def Fob (hS:Apa P ti eqs) {D:Fd} {k:Nat} (hn:Nat.beq D.nt fn.ntmps=true) (hc:Cib P (D.cs k)) {X:Cx} (hP:X.P=P) (hx:X.nt=fn.ntmps) (hp:X.np=D.nv):Gwa X (D.n ti eqs k):=
 Cgb (Hdb hS hn hc hP hx hp) (by rw[hP];exact hS.mix)
def A6b {D:Fd} {k:Nat} {c:Code} {ids:List Nat} (h:(Md c,ids.map λ l=>first (Li l (bo fn)))=(ids.map λ l=>Li l (bo fn),ids)) (hi:Cjb P fn D ids) {X:Cx} (hP:X.P=P) (hx:X.nt=fn.ntmps) (hp:X.np=D.nv):Ol X (D.n ti eqs k) c:=by
 rw[Wa]at h
 refine Xpa (b:=bo fn) ids h.1 h.2 λ l hl L hL=>?_
 have hL':(match lk D.ls l with|some p=>some (p.at k)|none=>none)=some L:=hL
 cases hp':lk D.ls l with
 |none=>rw[hp']at hL';cases hL'
 |some p=>
  rw[hp']at hL'
  cases hL'
  exact T9a hp' hi hl X hP hx hp k
@[reducible] def I1b (ti:TypeId→Option TI) (eqs:TypeId→Bool) (fn:Func) (D:Fd) (l:Nat) (p:LF):Prop:=∀ k x,R2a (D.n ti eqs k) (p.at k) (Li l (bo fn)) x=p.f (k+1) x
def mkL (hS:Apa P ti eqs) {D:Fd} {l:Nat} {p:LF} (ids:List Nat) (hn:Nat.beq D.nt fn.ntmps=true) (hc:∀ k,Cib P (D.cs k)) (hi:Cjb P fn D ids) (h:(Md (Li l (bo fn)),ids.map λ l=>first (Li l (bo fn)))=(ids.map λ l=>Li l (bo fn),ids)) (h0:∀ x,p.f 0 x=none) (hs:I1b ti eqs fn D l p):LK P fn D l p:=
 λ X hP hx hp=>C2b (ins:=p.ins) (alts:=p.alts) (f:=p.f) (En':=D.n ti eqs) h0 hs (λ k=>Hdb hS hn (hc k) hP hx hp) (λ k=>Fob hS hn (hc k) hP hx hp) (λ k=>A6b h hi hP hx hp)
def Heb (fn:Func) (D:Fd) (en:Ent):Bool:=Nat.beq D.nt fn.ntmps&&(Nat.ble fn.ntmps 1000&&(Nat.ble en.nv fn.ntmps&&(Nat.beq en.nv D.nv&&(fn.body.isSome&&(!(fn.name == "runtime.NumGoroutine")&&Jza en)))))
def mkS (hS:Apa P ti eqs) {f:FuncId} {D:Fd} {k:Nat} {en:Ent} (ids:List Nat) (hf:P.funcs[f]? = some fn) (hc:Cib P (D.cs k)) (hi:Cjb P fn D ids) (hk:Heb fn D en=true) (h:(Md (bo fn),ids.map λ l=>first (Li l (bo fn)))=(ids.map λ l=>Li l (bo fn),ids))
  (hr:∀ x,R3a (D.n ti eqs k) (bo fn) fn.results.toList en x=en.run x):Ps P f en:=by
 unfold Heb at hk
 simp only[Va,Vx]at hk
 obtain⟨h1,h2,h3,h4,h5,h6,h7⟩:=hk
 have h4:=Vj h4
 have hb:fn.body=some (bo fn):=by
  unfold bo
  cases hb:fn.body with
  |none=>rw[hb]at h5;cases h5
  |some c=>rfl
 refine⟨⟨fn,hf,h6,by rw[hb];rfl⟩,P9a hf hb (Vn h2) (Vn h3) (λ X hP hx hp=>?_) (λ X hP hx hp=>?_) (λ X hP hx hp=>?_) h7 hr⟩
 ·exact Hdb hS h1 hc hP hx (hp.trans h4)
 ·exact Fob hS h1 hc hP hx (hp.trans h4)
 ·exact A6b h hi hP hx (hp.trans h4)
def Hfb {keys Egb:List Nat} (hk:∀ {T t},ti T=some t→T∈keys) (h1:(keys.all λ T=>(match ti T with|some t=>H8b P T t|none=>true)&&Ub P ti T)=true)
  (h2:(Egb.all λ T=>eqB P ti 9 T&&(match ti T with|some t=>t.ag|none=>false)&&!(P.eqGuardType P.depth T))=true) (he:eqs=λ T=>Egb.contains T) (hm:P.follows .mixedOrders=true):Apa P ti eqs∧∀ T,Ub P ti T=true:=by
 refine⟨⟨λ T t h=>?_,λ T h=>?_,hm⟩,λ T=>?_⟩
 ·have h3:=Yr.1 h1 T (hk h)
  rw[Va,h]at h3
  exact Eub _ _ _ h3.1
 ·rw[he]at h
  have h3:=Yr.1 h2 T (List.elem_iff.1 h)
  simp only[Va,Vx]at h3
  exact⟨h3.1.1,h3.1.2,h3.2⟩
 ·cases h:ti T with
  |none=>unfold Ub;rw[h]
  |some t=>
   have h3:=Yr.1 h1 T (hk h)
   rw[Va]at h3
   exact h3.2
end
end

end Go.Proofs.YtiiekghlhfbmmaaGreat.Vf
