import Derived.Test.YtbbifgjgneefkaaMai
import Derived.ChangeArms
import Derived.SizedLaws
import Derived.DataReads
import Derived.Laws.StructEq
import Derived.Below
import Derived.Test.YtbbifgjgneefkaaMab
import Derived.Test.YtbbifgjgneefkaaProg
import Derived.KernelRfl
import Derived.IntWalk
set_option linter.all false
namespace Go.Proofs.Ytbbifgjgneefkaa.Vf
open Go
open List (length getD)
open Int (toNat)
open Go.IntKind (wrap)
open BitVec (ofInt)
def Ym:=@Bool.true_and
def Zi:=@Nat.pow_succ
def P7a:=@Option.bind_eq_some_iff
def Pia:=@List.take_length
def Pma:=@Int.tmod_eq_emod_of_nonneg
def Pva:=@Bool.false_and
def Pya:=@Bool.and_true
def Pza:=@List.all_cons
def Q3a:=@List.getElem_mem
def Q4a:=@BitVec.toNat_and
def Qda:=@Nat.mul_le_mul
def Qga:=@Nat.mul_comm

section
attribute [local irreducible] C H
def Ty.fit (ti:TypeId→Option TI):(t:Ty)→t.den→Prop
 |.i k,n=>(Lit.int k n).wf=true
 |.b,_=>True
 |.s,x=>x.size≤140737488351232
 |.sl e r,xs=>(∀ te,ti e=some te→xs.length*te.by_≤140737488351232)∧∀ x∈xs,r.fit ti x
 |.ow e r,xs=>(∀ te,ti e=some te→xs.length*te.by_≤140737488351232)∧∀ x∈xs,r.fit ti x
 |.pr x y,p=>x.fit ti p.1∧y.fit ti p.2
def M4a (ti:TypeId→Option TI) (T:TypeId) (ty:Ty):Bool:=match ti T with
 |some t=>decide (t.ty=ty)
 |none=>false
def Mg (ti:TypeId→Option TI):List Field→Nat→Ty→Bool
 |[],_,_=>false
 |[f],o,ty=>Nat.beq f.offset o&&M4a ti f.type ty
 |f::g::fs,o,.pr x y=>Nat.beq f.offset o&&M4a ti f.type x&&Mg ti (g::fs) (o+x.sz) y
 |_,_,_=>false
def Ln (P:Program) (ti:TypeId→Option TI) (T:TypeId):Bool:=match ti T,P.underlying T with
 |none,_=>true
 |some t,some (.struct fs)=>t.ag&&Mg ti fs.toList 0 t.ty
 |some ⟨.sl e r,false,_,_⟩,some (.slice e')=>Nat.beq e e'&&M4a ti e r
 |some ⟨.i k,false,_,_⟩,some (.int k')=>decide (k=k')
 |some ⟨.b,false,_,_⟩,some .bool=>true
 |some ⟨.s,false,_,_⟩,some .string=>true
 |_,_=>false
section
variable {H':Type} {enc:TypeId×Value→H'} {P:Program} {w:World} {base:Nat} {spare:Nat→Bool} {held:Bool} {ti:TypeId→Option TI}
def J9 {T:TypeId} {ty:Ty} (h:M4a ti T ty=true):∃ t,ti T=some t∧t.ty=ty:=by
 unfold M4a at h;split at h
 ·rename_i t ht;exact⟨t,ht,of_decide_eq_true h⟩
 ·cases h
def Lo {T:TypeId} {t:TI} (h:TOk P T t):P.cellsOf T=t.ty.sz:=by
 unfold Program.cellsOf;rw[Jg h];rfl
def Eaa {T:TypeId} {t:TI} (h:TOk P T t):P.bytesOf T=t.by_:=by
 obtain⟨i,h1,_,h2,_⟩:=h.info;unfold Program.bytesOf;rw[h1];exact h2
def Eba {α:Type} {R:α→List Value→Prop} {Fit:α→Prop} {k o n:Nat}:∀ (len:Nat),(∀ i,i<len→∃ x c,R x c∧Fit x∧c.length=n∧C8 w k (o+i*n) c)→
  ∃ (xs:List α) (cs:List Value),xs.length=len∧Rows R xs cs∧(∀ x∈xs,Fit x)∧cs.length=len*n∧C8 w k o cs
 |0,_=>⟨[],[],rfl,rfl,by simp,by simp,by intro j u hj;simp at hj⟩
 |len+1,h=>by
  obtain⟨xs,cs,h1,h2,h3,h4,h5⟩:=Eba len (λ i hi=>h i (by omega));obtain⟨x,c,g1,g2,g3,g4⟩:=h len (by omega);refine⟨xs++[x],cs++c,by simp[h1],Rows.append h2 ⟨c,[],by simp,g1,rfl⟩,?_,?_,?_⟩
  ·intro y hy;rcases Vm.1 hy with hy|hy
   ·exact h3 y hy
   ·simp at hy;subst hy;exact g2
  ·rw[Vh,h4,g3,Yg,Yk]
  ·intro j u hj
   by_cases hlt:j<cs.length
   ·rw[Yf hlt]at hj;exact h5 j u hj
   ·rw[Yd (by omega)]at hj;have:=g4 (j-cs.length) u hj;rw[h4]at this hlt;rwa [show o+len*n+(j-len*n)=o+j by omega]at this
def H6a {a:Addr} {n:Nat} {cs:List Value} (h:w.cells? base a n=some cs) (hn:0<n):a.spot=none∧a.block<w.heap.size∧cs.length=n∧C8 w a.block a.off cs:=by
 unfold World.cells? at h;split at h
 ·have hl:=mapM_some_length h;have hg:=λ i hi=>mapM_some_get h i i hi;simp only[List.length_range]at hl;have h0:w.cell? (a.add 0)=cs[0]? := hg 0 (by simp[hn]);have hc0:∃ v,cs[0]? = some v:=⟨_,Vp (by omega)⟩;obtain⟨v,hv⟩:=hc0;rw[hv]at h0
  have hspot:a.spot=none∧a.block<w.heap.size:=by
   unfold World.cell? at h0;split at h0
   ·rename_i c e f hb;refine⟨?_,(Yx.1 hb).1⟩
    cases hs:a.spot with
    |none=>rfl
    |some s=>simp[Addr.add,hs]at h0
   ·cases h0
  refine⟨hspot.1,hspot.2,hl,λ j u hj=>?_⟩
  have hjl:j<n:=by have:=(We.1 hj).1;omega
  have:=hg j (by simp[hjl]);rw[hj]at this;obtain⟨b,off,sp⟩:=a;have hsp:sp=none:=hspot.1;subst hsp;rw[Gv]at this;exact this
 ·cases h
def Oi {T:TypeId}:∀ {ds:List (DataW H')} {m:Nat},m∈DataW.weightsAll P T ds↔∃ d∈ds,m∈d.weights P T
 |[],m=>by simp[DataW.weightsAll]
 |d::ds,m=>by
  simp only[DataW.weightsAll,Vm,Vk,Oi (ds:=ds)];constructor
  ·rintro (h|⟨d',h1,h2⟩)
   ·exact⟨d,.inl rfl,h⟩
   ·exact⟨d',.inr h1,h2⟩
  ·rintro⟨d',rfl|h1,h2⟩
   ·exact .inl h2
   ·exact .inr ⟨d',h1,h2⟩
def M5a (enc:TypeId×Value→H') (P:Program) (w:World) (base:Nat) (spare:Nat→Bool) (held:Bool) (ti:TypeId→Option TI) (n:Nat):Prop:=
 ∀ T t cs y,ti T=some t→DataW.trod enc P w base spare held n T cs=some y→(∀ m∈y.1.weights P T,m≤140737488351232)→∃ X:t.ty.den,t.ty.rep P (λ k=>k<w.heap.size) w X cs∧t.ty.fit ti X
def Oj (htok:∀ T t,ti T=some t→TOk P T t) {n:Nat} (ih:M5a enc P w base spare held ti n) {cs:List Value}:∀ (fs:List Field) (o:Nat) (ty:Ty) (xs:List (DataW H'×List MemPlace)),Mg ti fs o ty=true→xs.length=fs.length→
  (∀ (i:Nat) (f:Field),fs[i]? = some f→DataW.trod enc P w base spare held n f.type ((cs.drop f.offset).take (P.cellsOf f.type))=xs[i]?)→(∀ m∈DataW.weightsEach P (fs.map (·.type)) (xs.map (·.1)),m≤140737488351232)→o+ty.sz≤cs.length→
  ∃ X:ty.den,ty.rep P (λ k=>k<w.heap.size) w X ((cs.drop o).take ty.sz)∧ty.fit ti X
 |[],o,ty,xs,hp,_,_,_,_=>by cases ty<;>simp[Mg]at hp
 |[f],o,ty,xs,hp,hl,ht,hw,hs=>by
  simp only[Mg,Va]at hp;obtain⟨t,h1,h2⟩:=J9 hp.2;have ho:f.offset=o:=Vb hp.1;subst h2;have e:=ht 0 f rfl
  cases xs with
  |nil=>simp at hl
  |cons y xs=>
   have e':DataW.trod enc P w base spare held n f.type ((cs.drop f.offset).take (P.cellsOf f.type))=some y:=by simpa using e
   rw[Lo (htok _ _ h1),ho]at e';exact ih f.type t _ y h1 e' (λ m hm=>hw m (by simp[DataW.weightsEach,hm]))
 |f::g::fs,o,ty,xs,hp,hl,ht,hw,hs=>by
  cases ty<;>first|(simp[Mg]at hp;done)|skip
  rename_i x y;simp only[Mg,Va]at hp;obtain⟨⟨h0,h1a⟩,hp⟩:=hp;obtain⟨t,h1,h2⟩:=J9 h1a;have ho:f.offset=o:=Vb h0;subst h2;have e:=ht 0 f rfl
  cases xs with
  |nil=>simp at hl
  |cons z xs=>
   have e':DataW.trod enc P w base spare held n f.type ((cs.drop f.offset).take (P.cellsOf f.type))=some z:=by simpa using e
   rw[Lo (htok _ _ h1),ho]at e';have hsz:o+(t.ty.sz+y.sz)≤cs.length:=hs;obtain⟨X,r1,f1⟩:=ih f.type t _ z h1 e' (λ m hm=>hw m (by simp[DataW.weightsEach,hm]))
   obtain⟨Y,r2,f2⟩:=Oj htok ih (g::fs) (o+t.ty.sz) y xs hp (by simpa using hl) (λ i f' hf'=>by have:=ht (i+1) f' hf';simpa using this) (λ m hm=>hw m (by
    simp only[Yc,DataW.weightsEach,Vm]
    exact .inr hm)) (by omega)
   refine⟨(X,Y),⟨_,_,?_,r1,r2⟩,f1,f2⟩;show (cs.drop o).take (t.ty.sz+y.sz)=_;rw[List.take_add,Wn]
def Rk (htok:∀ T t,ti T=some t→TOk P T t) (hcl:∀ T,Ln P ti T=true):∀ n,M5a enc P w base spare held ti n
 |0=>by
  intro T t cs y _ h;simp[DataW.trod]at h
 |n+1=>by
  intro T t cs y hT h hw;have hc:=hcl T;have hk:=htok T t hT;unfold Ln at hc;rw[hT]at hc;split at hc
  ·rename_i e;cases e
  ·-- a struct
   rename_i t0 fs e1 hu;cases e1;simp only[Va]at hc;obtain⟨xs,n',e1,rfl,hl,hxl,hx⟩:=DataW.trod_struct hu h
   have:n'=n:=by omega
   subst this;rw[Lo hk]at hl;have hw':∀ m∈DataW.weightsEach P (fs.toList.map (·.type)) (xs.map (·.1)),m≤140737488351232:=λ m hm=>hw m (by simp only[DataW.weights,hu];exact hm);obtain⟨X,r,f⟩:=Oj htok (Rk htok hcl n') fs.toList 0 t.ty xs hc.2 (by simpa using hxl) (λ i f hf=>hx i f (by simpa using hf)) hw' (by omega);rw[Wj,← hl,Pia]at r;exact⟨X,r,f⟩
  ·-- a slice
   rename_i e r by_ fo e' e1 hu;cases e1;simp only[Va]at hc;obtain⟨te,hte,hty⟩:=J9 hc.2;have he:e=e':=Vb hc.1;subst he;subst hty;have hke:=htok e te hte;have hsz:Nn P e te.ty.sz:=Jg hke;rcases DataW.trod_slice hu h with⟨rfl,rfl⟩|⟨a,len,cap,elems,rest,n',e1,rfl,rfl,hb,hl,hm,hlen,hel,hsp,hns⟩
   ·exact⟨[],⟨_,rfl,hsz,none,0,[],rfl,Vo _,rfl,λ h=>(h rfl).elim⟩,by simp,by simp⟩
   ·have:n'=n:=by omega
    subst this
    have hlw:(elems.map (·.1)).length+(rest.map (·.1)).length=elems.length+rest.length:=by simp
    have hw0:(elems.length+rest.length)*P.bytesOf e≤140737488351232:=hw _ (by simp only[DataW.weights,hu];simp);rw[Eaa hke]at hw0;rw[Lo hke]at hel;have hpos:=Iq te.ty
    have each:∀ i,i<len→∃ x c,te.ty.rep P (λ k=>k<w.heap.size) w x c∧te.ty.fit ti x∧c.length=te.ty.sz∧((i=0→a.spot=none)∧a.block<w.heap.size)∧C8 w a.block (a.off+i*te.ty.sz) c:=by
     intro i hi;have e1:=hel i hi;rw[Vp (by omega)]at e1;simp only[P7a]at e1;obtain⟨c,hc1,hc2⟩:=e1;obtain⟨g1,g2,g3,g4⟩:=H6a hc1 hpos
     obtain⟨X,r1,f1⟩:=Rk htok hcl n' e te c _ hte hc2 (λ m hm=>hw m (by
      simp only[DataW.weights,hu,Vk,Vm]
      exact .inr (.inl (Oi.2 ⟨_,Yn (Q3a (l:=elems) (n:=i) (by omega)),hm⟩))))
     have hblk:(a.add (i*te.ty.sz)).block=a.block∧(a.add (i*te.ty.sz)).off=a.off+i*te.ty.sz:=by
      unfold Addr.add;split
      ·rename_i h0;exact⟨rfl,by omega⟩
      ·exact⟨rfl,rfl⟩
     rw[hblk.1,hblk.2]at g4;rw[hblk.1]at g2;refine⟨X,c,r1,f1,g3,⟨λ h0=>?_,g2⟩,g4⟩;subst h0;rw[Zh]at g1;exact g1
    obtain⟨xs,cs,h1,h2,h3,h4,h5⟩:=Eba (w:=w) (k:=a.block) (o:=a.off) (n:=te.ty.sz) (R:=λ x c=>te.ty.rep P (λ k=>k<w.heap.size) w x c) (Fit:=te.ty.fit ti) len (λ i hi=>by
     obtain⟨x,c,q1,q2,q3,q4,q5⟩:=each i hi
     exact⟨x,c,q1,q2,q3,q5⟩)
    refine⟨xs,⟨_,rfl,hsz,some a,cap,cs,by rw[h1],by omega,h2,λ hne=>?_⟩,λ te' ht'=>?_,h3⟩
    ·have hpos:0<len:=by rw[← h1];cases xs with|nil=>exact(hne rfl).elim|cons=>simp
     obtain⟨x,c,q1,q2,q3,q4,q5⟩:=each 0 hpos;refine⟨a.block,a.off,?_,q4.2,h5⟩;obtain⟨b,off,sp⟩:=a;have hsp:sp=none:=q4.1 rfl;rw[hsp]
    ·rw[hte]at ht';cases ht';rw[h1,← hlen];exact Yp (Wa _ (Nat.le_add_right _ _)) hw0
  ·rename_i k by_ fo k' e1 hu;cases e1;have:k=k':=of_decide_eq_true hc;subst this;obtain⟨m,rfl,rfl,hwf⟩:=DataW.trod_int hu h;exact⟨m,rfl,hwf⟩
  ·rename_i by_ fo e1 hu;cases e1;obtain⟨b,rfl,rfl⟩:=DataW.trod_bool hu h;exact⟨b,rfl,trivial⟩
  ·rename_i by_ fo e1 hu;cases e1;obtain⟨s,rfl,rfl,hs⟩:=DataW.trod_string hu h;refine⟨s,rfl,?_⟩;have:=hw s.data.toList.length (by rw[show (DataW.lit (.string s.data.toList):DataW H').weights P T=[s.data.toList.length] from by simp only[DataW.weights]];exact Vz.2 rfl);have e:s.data.toList.length=s.size:=Yh;rw[e]at this;exact this
  ·cases hc
end
end

section
attribute [local irreducible] C H
def eq1:Lf→Lf→Option Bool
 |.sc (.int k x),.sc (.int k' y)=>if k=k' then some (x==y) else none
 |.sc (.bool x),.sc (.bool y)=>some (x==y)
 |.sc (.string x),.sc (.string y)=>some (x==y)
 |_,_=>none
def H7a (a a':Lf) (l l':List Lf) {b:Bool} (h:Bz (a::l) (a'::l')=some b):∃ b1 b2,eq1 a a'=some b1∧Bz l l'=some b2∧b=(b1&&b2):=by
 unfold Bz at h;split at h
 ·rename_i e _;cases e
 ·rename_i k x k' y e1 e2;cases e1;cases e2
  by_cases hk:k=k'
  ·simp only[hk,decide_true,cond_true,Vc]at h;exact⟨x==y,true,by simp only[eq1,hk,if_true],rfl,by simp[h]⟩
  ·simp[hk]at h
 ·rename_i x y e1 e2;cases e1;cases e2;simp only[Vc]at h;exact⟨_,true,rfl,rfl,by simp[h]⟩
 ·rename_i x y e1 e2;cases e1;cases e2;simp only[Vc]at h;exact⟨_,true,rfl,rfl,by simp[h]⟩
 ·rename_i k x l k' y l' _ e1 e2;cases e1;cases e2
  by_cases hk:k=k'
  ·simp only[hk,decide_true,cond_true]at h;split at h
   ·rename_i b2 hb;simp only[Vc]at h;exact⟨_,b2,by simp only[eq1,hk,if_true],hb,h.symm⟩
   ·cases h
  ·simp[hk]at h
 ·rename_i x l y l' _ e1 e2;cases e1;cases e2;split at h
  ·rename_i b2 hb;simp only[Vc]at h;exact⟨_,b2,rfl,hb,h.symm⟩
  ·cases h
 ·rename_i x l y l' _ e1 e2;cases e1;cases e2;split at h
  ·rename_i b2 hb;simp only[Vc]at h;exact⟨_,b2,rfl,hb,h.symm⟩
  ·cases h
 ·cases h
def Px:∀ (l m l' m':List Lf) (b:Bool),l.length=l'.length→Bz (l++m) (l'++m')=some b→∃ b1 b2,Bz l l'=some b1∧Bz m m'=some b2∧b=(b1&&b2)
 |[],m,[],m',b,_,h=>⟨true,b,rfl,h,by simp⟩
 |[],_,_::_,_,_,hl,_=>by simp at hl
 |_::_,_,[],_,_,hl,_=>by simp at hl
 |a::l,m,a'::l',m',b,hl,h=>by
  obtain⟨b1,b2,h1,h2,rfl⟩:=H7a a a' (l++m) (l'++m') h;obtain⟨b3,b4,h3,h4,rfl⟩:=Px l m l' m' b2 (by simpa using hl) h2;refine⟨b1&&b3,b4,?_,h4,by simp[Bool.and_assoc]⟩
  cases a with
  |sc u=>
   cases a' with
   |sc u'=>
    cases u<;>first|(simp[eq1]at h1;done)|skip
    all_goals (cases u'<;>first|(simp[eq1]at h1;done)|skip)
    ·rename_i x y;simp only[eq1,Vc]at h1
     cases l<;>cases l'<;>first|(simp at hl;done)|skip
     ·simp only[Bz,Vc]at h3;simp only[Bz];rw[← h3,← h1,Pya]
     ·simp only[Bz,h3];rw[← h1]
    ·rename_i k x k' y;simp only[eq1]at h1
     by_cases hk:k=k'
     ·rw[if_pos hk]at h1;simp only[Vc]at h1
      cases l<;>cases l'<;>first|(simp at hl;done)|skip
      ·simp only[Bz,Vc]at h3;simp only[Bz,hk,decide_true,cond_true];rw[← h3,← h1,Pya]
      ·simp only[Bz,hk,decide_true,cond_true,h3];rw[← h1]
     ·rw[if_neg hk]at h1;cases h1
    ·rename_i x y;simp only[eq1,Vc]at h1
     cases l<;>cases l'<;>first|(simp at hl;done)|skip
     ·simp only[Bz,Vc]at h3;simp only[Bz];rw[← h3,← h1,Pya]
     ·simp only[Bz,h3];rw[← h1]
   |_=>cases u<;>simp[eq1]at h1
  |_=>simp[eq1]at h1
def eqB (P:Program) (ti:TypeId→Option TI):Nat→TypeId→Bool
 |0,_=>false
 |n+1,T=>match ti T,P.underlying T with
  |some t,some (.struct fs)=>t.ag&&!(P.stoodInHeld T)&&Mg ti fs.toList 0 t.ty&&fs.toList.all (λ f => !(f.name == "_")&&eqB P ti n f.type)
  |some ⟨.i _,false,_,_⟩,some (.int _)=>true
  |some ⟨.b,false,_,_⟩,some .bool=>true
  |some ⟨.s,false,_,_⟩,some .string=>true
  |_,_=>false
section
variable {P:Program} {ti:TypeId→Option TI} {G:Nat→Prop} {w:World}
def M6a (P:Program) (ti:TypeId→Option TI) (G:Nat→Prop) (w:World) (n:Nat):Prop:=
 ∀ T t d (X Y:t.ty.den) (us vs:List Value) (x y:Value) (b:Bool) (w':World),n≤d→eqB P ti n T=true→ti T=some t→Gu (G6 P G w) (A4 t.ty X) us→Gu (G6 P G w) (A4 t.ty Y) vs→Bz (A4 t.ty X) (A4 t.ty Y)=some b→
  (if t.ag then x = .agg us.toArray else us=[x])→(if t.ag then y = .agg vs.toArray else vs=[y])→(Op.equalIn d T x y).run P w' = .ok b w'
def Nc {T:TypeId} {t:TI} (hk:TOk P T t) {us:List Value} {off:Nat} (hl:off+t.ty.sz≤us.length) (w':World):
  ∃ u,(part T us.toArray off).run P w' = .ok u w'∧(if t.ag then u = .agg ((us.drop off).take t.ty.sz).toArray else (us.drop off).take t.ty.sz=[u]):=by
 obtain⟨d,hd,hagg⟩:=Uk hk
 cases ha:t.ag with
 |true=>
  rw[ha]at hagg;refine⟨.agg (us.toArray.extract off (off+t.ty.sz)),?_,?_⟩
  ·unfold part;simp only[Vw,Ia hd hagg,Vv,if_true,G7 (Jg hk),Wl]
  ·simp only[if_true];congr 1;apply Pwa;rw[Array.toList_extract];simp[List.extract]
 |false=>
  rw[ha]at hagg;have h1:=Cha hk ha
  have hlt:off<us.length:=by omega
  refine⟨us[off],?_,?_⟩
  ·unfold part;simp only[Vw,Ia hd hagg,Vv,Wc,if_false]
   have:us.toArray[off]? = some us[off]:=by simp[hlt]
   rw[this];rfl
  ·simp only[Wc,if_false];rw[h1,Yi hlt];rfl
def Tg (htok:∀ T t,ti T=some t→TOk P T t) {n:Nat} (ih:M6a P ti G w n) {d:Nat} (hd:n≤d) {us vs:List Value} (w':World):
  ∀ (fs:List Field) (o:Nat) (ty:Ty) (X Y:ty.den) (b:Bool),Mg ti fs o ty=true→fs.all (λ f => !(f.name == "_")&&eqB P ti n f.type)=true→o+ty.sz≤us.length→o+ty.sz≤vs.length→
   Gu (G6 P G w) (A4 ty X) ((us.drop o).take ty.sz)→Gu (G6 P G w) (A4 ty Y) ((vs.drop o).take ty.sz)→
   Bz (A4 ty X) (A4 ty Y)=some b→(Op.eqFields d us.toArray vs.toArray fs).run P w' = .ok b w'
 |[],o,ty,X,Y,b,hp,_,_,_,_,_,_=>by cases ty<;>simp[Mg]at hp
 |[f],o,ty,X,Y,b,hp,ha,hl,hl',h0,h0',he=>by
  simp only[Mg,Va]at hp;simp only[Pza,Va,Wk,beq_eq_false_iff_ne]at ha;obtain⟨⟨a1,a2⟩,_⟩:=ha;obtain⟨t,h1,h2⟩:=J9 hp.2;have ho:f.offset=o:=Vb hp.1;subst h2;subst ho;obtain⟨x,hx1,hx2⟩:=Nc (htok _ _ h1) hl w';obtain⟨y,hy1,hy2⟩:=Nc (htok _ _ h1) hl' w';have hr:=ih f.type t d X Y _ _ x y b w' hd a2 h1 h0 h0' he hx2 hy2;simp only[Op.eqFields,ne_eq,a1,not_false_eq_true,if_true,Vw,hx1,hy1,hr,Vv]
  cases b<;>rfl
 |f::g::fs,o,ty,X,Y,b,hp,ha,hl,hl',h0,h0',he=>by
  cases ty<;>first|(simp[Mg]at hp;done)|skip
  rename_i tx tyy;simp only[Mg,Va]at hp;obtain⟨⟨q0,q1⟩,hp⟩:=hp;rw[Pza,Va]at ha;obtain⟨ha0,ha⟩:=ha;simp only[Va,Wk,beq_eq_false_iff_ne]at ha0;obtain⟨a1,a2⟩:=ha0;obtain⟨t,h1,h2⟩:=J9 q1;have ho:f.offset=o:=Vb q0;subst h2;subst ho;have hl2:f.offset+(t.ty.sz+tyy.sz)≤us.length:=hl;have hl2':f.offset+(t.ty.sz+tyy.sz)≤vs.length:=hl';have he2:Bz (A4 t.ty X.1++A4 tyy X.2) (A4 t.ty Y.1++A4 tyy Y.2)=some b:=he;have r0:Gu (G6 P G w) (A4 t.ty X.1++A4 tyy X.2) ((us.drop f.offset).take (t.ty.sz+tyy.sz)):=h0;have r0':Gu (G6 P G w) (A4 t.ty Y.1++A4 tyy Y.2) ((vs.drop f.offset).take (t.ty.sz+tyy.sz)):=h0';have k1:=r0.take t.ty.sz;have k2:=r0.drop t.ty.sz;have k1':=r0'.take t.ty.sz;have k2':=r0'.drop t.ty.sz;have c1:=Dw t.ty X.1;have c1':=Dw t.ty Y.1;rw[← c1,Oya,c1,Zm,Zf (by omega)]at k1;rw[← c1',Oya,c1',Zm,Zf (by omega)]at k1'
  have c2:∀ l:List Value,List.drop t.ty.sz (List.take (t.ty.sz+tyy.sz) l)=List.take tyy.sz (List.drop t.ty.sz l):=λ l=>by rw[Pfa];congr 1;omega
  rw[c2,Wn]at k2 k2';rw[show List.drop t.ty.sz (A4 t.ty X.1++A4 tyy X.2)=A4 tyy X.2 by rw[← c1,Yw]]at k2;rw[show List.drop t.ty.sz (A4 t.ty Y.1++A4 tyy Y.2)=A4 tyy Y.2 by rw[← c1',Yw]]at k2';obtain⟨b1,b2,e1,e2,rfl⟩:=Px _ _ _ _ b (by rw[c1,c1']) he2;obtain⟨x,hx1,hx2⟩:=Nc (htok _ _ h1) (us:=us) (off:=f.offset) (by omega) w';obtain⟨y,hy1,hy2⟩:=Nc (htok _ _ h1) (us:=vs) (off:=f.offset) (by omega) w';have hr:=ih f.type t d X.1 Y.1 _ _ x y b1 w' hd a2 h1 k1 k1' e1 hx2 hy2;have hr2:=Tg htok ih hd w' (g::fs) (f.offset+t.ty.sz) tyy X.2 Y.2 b2 hp ha (by omega) (by omega) k2 k2' e2;rw[Op.eqFields];simp only[ne_eq,a1,not_false_eq_true,if_true,Vw,hx1,hy1,hr,Vv];cases b1
  ·rfl
  ·simpa using hr2
def Ifa (htok:∀ T t,ti T=some t→TOk P T t):∀ n,M6a P ti G w n
 |0=>by
  intro T t d X Y us vs x y b w' _ h;simp[eqB]at h
 |n+1=>by
  intro T t d X Y us vs x y b w' hd h hT hl hl' he hx hy;obtain⟨d,rfl⟩:∃ m,d=m+1:=⟨d-1,by omega⟩
  have one:∀ {us:List Value} {x:Value} {z:Lf},us=[x]→Gu (G6 P G w) [z] us→G6 P G w z x:=by
   intro us x z e h;subst e
   cases h with
   |cons a h=>exact a
  unfold eqB at h;rw[hT]at h;split at h
  ·rename_i t0 fs e1 hu;cases e1;simp only[Va,Wk]at h;obtain⟨⟨⟨h1,h2⟩,h3⟩,h4⟩:=h;rw[h1]at hx hy;simp only[if_true]at hx hy;subst hx hy
   have hfs:P.fieldsOf T=fs:=by unfold Program.fieldsOf;rw[hu]
   rw[run_equalIn_struct w' d T _ _ (by rw[hfs];exact hu) h2,hfs];have e1:=hl.len;have e2:=hl'.len;rw[Dw]at e1 e2;exact Tg htok (Ifa htok n) (by omega) w' fs.toList 0 t.ty X Y b h3 h4 (by omega) (by omega) (by rw[Wj,← e1,Pia];exact hl) (by rw[Wj,← e2,Pia];exact hl') he
  ·rename_i k by_ fo k' e1 hu;cases e1;simp only[Wc,if_false]at hx hy;have hz:=(one hx hl).1;have hz':=(one hy hl').1;subst hz hz'
   have he':(X==Y)=b:=by simpa[A4,Bz] using he
   rw[← he'];simp[Op.equalIn,run_underlying hu]
  ·rename_i by_ fo e1 hu;cases e1;simp only[Wc,if_false]at hx hy;have hz:=(one hx hl).1;have hz':=(one hy hl').1;subst hz hz'
   have he':(X==Y)=b:=by simpa[A4,Bz] using he
   rw[← he'];simp[Op.equalIn,run_underlying hu]
  ·rename_i by_ fo e1 hu;cases e1;simp only[Wc,if_false]at hx hy;have hz:=(one hx hl).1;have hz':=(one hy hl').1;subst hz hz'
   have he':(X==Y)=b:=by simpa[A4,Bz] using he
   rw[← he'];simp[Op.equalIn,run_underlying hu]
  ·cases h
end
def M7a:∀ (t:Ty) (l l':List Lf) (x:t.den),Iu l=true→mkT t l=some (x,l')→l=A4 t x++l'∧Iu l'=true:=by
 intro t
 induction t with
 |pr p q ihp ihq=>
  intro l l' x h hm;simp only[mkT]at hm;split at hm
  ·rename_i y l1 h1;split at hm
   ·rename_i z l2 h2;cases hm;obtain⟨e1,a1⟩:=ihp _ _ _ h h1;obtain⟨e2,a2⟩:=ihq _ _ _ a1 h2;refine⟨?_,a2⟩;rw[e1,e2,← Vj];rfl
   ·cases hm
  ·cases hm
 |_=>
  intro l l' x h hm
  cases l with
  |nil=>simp[mkT]at hm
  |cons z l=>
   cases z<;>first|(simp[Iu]at h;done)|skip
   rename_i v
   cases v<;>first|(simp[mkT]at hm;done)|skip
   all_goals
    simp only[Iu]at h;simp only[mkT]at hm
    first
     |(simp only[Vc,Vu]at hm;obtain⟨rfl,rfl⟩:=hm;exact⟨rfl,h⟩)
     |(
       rename_i k k' n
       by_cases hk:k=k'
       ·subst hk;simp only[decide_true,cond_true,Vc,Vu]at hm;obtain⟨rfl,rfl⟩:=hm;exact⟨rfl,h⟩
       ·simp[hk]at hm)
def N9a {P:Program} {ti:TypeId→Option TI} (htok:∀ T t,ti T=some t→TOk P T t) {T:TypeId} (h:eqB P ti 9 T=true) (hag:(match ti T with|some t=>t.ag|none=>false)=true) (hg:P.eqGuardType P.depth T=false) (G:Nat→Prop) (w w':World) (x y:Operand) (l l':List Lf) (us vs:List Value) (b:Bool)
  (h1:Gu (G6 P G w) l us) (h2:Gu (G6 P G w) l' vs) (he:Bz l l'=some b) (ha:Iu l=true) (ha':Iu l'=true) (hk:I5 (ti T) l=true) (hk':I5 (ti T) l'=true):
  (Op.equal T (.agg us.toArray) (.agg vs.toArray)).run P w' = .ok b w'∧(eqGuard .eql T x y (.agg us.toArray) (.agg vs.toArray)).run P w' = .ok () w'∧(eqGuard .neq T x y (.agg us.toArray) (.agg vs.toArray)).run P w' = .ok () w':=by
 refine⟨?_,run_eqGuard_agg w' _ T x y _ _ hg,run_eqGuard_agg w' _ T x y _ _ hg⟩;unfold I5 at hk hk';split at hk
 ·rename_i t hT;rw[hT]at hk' hag;simp only at hk' hag
  have key:∀ {l:List Lf},Iu l=true→(mkW t.ty l).isSome=true→∃ X,l=A4 t.ty X:=by
   intro l ha hk;obtain⟨X,hX⟩:=P2a.1 hk;unfold mkW at hX;split at hX
   ·rename_i z hz;cases hX;obtain⟨e1,_⟩:=M7a t.ty l [] _ ha hz;exact⟨_,by rw[e1,Ye]⟩
   ·cases hX
  obtain⟨X,rfl⟩:=key ha hk;obtain⟨Y,rfl⟩:=key ha' hk';exact Ifa htok 9 T t Op.maxDepth X Y us vs _ _ b w' (by decide) h hT h1 h2 he (by rw[hag];rfl) (by rw[hag];rfl)
 ·cases hk
end

section
open Go.RowKit
attribute [local irreducible] C H
def Fx:Code→List Code
 |.seq a b=>Fx a++Fx b
 |.cond _ a b=>Fx a++Fx b
 |.block _ c=>Fx c
 |.loop c=>[c]
 |_=>[]
def Eca {X:Cx} {E:En}:∀ (c:Code),(∀ d∈Fx c,∀ L,E.lp (first d)=some L→T3 X L d)→Hc X E c:=by
 intro c
 induction c with
 |seq a b iha ihb=>exact λ h=>⟨iha λ d hd=>h d (Vt _ hd),ihb λ d hd=>h d (Vi _ hd)⟩
 |cond x a b iha ihb=>exact λ h=>⟨iha λ d hd=>h d (Vt _ hd),ihb λ d hd=>h d (Vi _ hd)⟩
 |block i c ih=>exact λ h=>ih h
 |loop c ih=>exact λ h=>h c (by simp[Fx])
 |_=>exact λ h=>trivial
def H8a {X:Cx} {E:En} {c b:Code} (ids:List Nat) (h1:Fx c=ids.map λ l=>F7 l b) (h2:(ids.map λ l=>first (F7 l b))=ids) (h3:∀ l∈ids,∀ L,E.lp l=some L→T3 X L (F7 l b)):Hc X E c:=by
 refine Eca c λ d hd L hL=>?_;rw[h1]at hd;obtain⟨l,hl,rfl⟩:=Za.1 hd
 have:first (F7 l b)=l:=by
  have key:∀ (is:List Nat),(is.map λ l=>first (F7 l b))=is→∀ l∈is,first (F7 l b)=l:=by
   intro is
   induction is with
   |nil=>intro _ l hl;simp at hl
   |cons i is ih=>
    intro e l hl;simp only[Yc,Wp]at e;rcases Vk.1 hl with rfl|hl
    ·exact e.1
    ·exact ih e.2 l hl
  exact key ids h2 l hl
 rw[this]at hL;exact h3 l hl L hL
def M8a {P:Program} {X:Cx} {E:En} {ti:TypeId→Option TI} {eqs:TypeId→Bool} (hP:X.P=P) (h1:E.nt=X.nt) (h2:E.np=X.np) (h3:E.ti=ti) (h4:E.eq=eqs) (htok:∀ T t,ti T=some t→TOk P T t)
  (heq:∀ T,eqs T=true→eqB P ti 9 T=true∧(match ti T with|some t=>t.ag|none=>false)=true∧P.eqGuardType P.depth T=false) (hc:∀ f en,E.call f=some en→Hk P f en):O8 X E:=by
 refine⟨⟨h1,h2,λ T t h=>?_,λ T h G w w' x y l l' us vs b=>?_⟩,λ f en h=>?_⟩
 ·rw[hP];rw[h3]at h;exact htok T t h
 ·rw[hP,h3];rw[h4]at h;obtain⟨e1,e2,e3⟩:=heq T h;exact N9a htok e1 e2 e3 G w w' x y l l' us vs b
 ·rw[hP];exact hc f en h
def K6a {t:Ty} : {ts:List Ty}→t.den→Den ts→Den (t::ts)
 |[],x,_=>x
 |_::_,x,y=>(x,y)
def Th {t:Ty} {ts:List Ty} {x:t.den} {y:Den ts}:Ar (t::ts) (K6a x y)=A4 t x::Ar ts y:=by
 cases ts<;>rfl
inductive Eda (P:Program) (w:World):(ps:List Par)→Den (ps.map Par.ty)→List Value→Prop
 |nil:Eda P w [] () []
 |cons {ag:Bool} {t:Ty} {ps:List Par} {X:t.den} {Y:Den (ps.map Par.ty)} {u:Value} {us vs:List Value} (hn:Gd t=true) (hu:if ag then u = .agg vs.toArray else vs=[u])
   (hr:t.rep P (λ k=>k<w.heap.size) w X vs) (h:Eda P w ps Y us):Eda P w (.val ag t::ps) (K6a (t:=t) (ts:=ps.map Par.ty) X Y) (u::us)
def H9a (w:World):Nat→Lab:=λ k=>if k<w.heap.size then .fz else .no
def Haa {P:Program} {w:World}:∀ {ps:List Par} {x:Den (ps.map Par.ty)} {us:List Value},Eda P w ps x us→us.length=ps.length:=by
 intro ps x us h
 induction h with
 |nil=>rfl
 |cons _ _ _ _ ih=>simp[ih]
def Eea {P:Program} {w:World} {rg:Nat→Nat×Nat} {nv:Nat} {hs:List Value}:∀ {ps:List Par} {x:Den (ps.map Par.ty)} {us:List Value} (i:Nat),Eda P w ps x us→Hj P (bare (H9a w) w) rg nv hs i ps (Ar _ x) us:=by
 intro ps x us i h
 induction h generalizing i with
 |nil=>trivial
 |@cons ag t ps X Y u us vs hn hu hr h ih=>
  show Hj P (bare (H9a w) w) rg nv hs i (.val ag t::ps) (Ar (t::ps.map Par.ty) (K6a X Y)) (u::us);rw[Th];refine⟨⟨vs,hu,?_⟩,ih (i+1)⟩;have h1:=I8 (P:=P) (G:=λ k=>H9a w k = .fz) (w:=w) t X vs (Ty.rep_mono (λ k hk=>by unfold H9a;rw[if_pos hk]) (λ _ _=>rfl) t X vs hr);rw[O3 t X hn];exact A5.ofRep (S:=bare (H9a w) w) h1 _ _
def Hba {P:Program} {f:FuncId} {en:Ent} (hs:Jia P f en) {w:World} {us:List Value} {x:Den (en.ps.map Par.ty)} (hc:Eda P w en.ps x us) (hnv:Nat.ble en.ps.length en.nv=true) {r:Den (en.rs.map Prod.snd++Eg en.ps)} (hr:en.run x=some r)
  (hrs:en.rs=[(.one,.b)]) (hl:∃ ls,Ar _ r=[.sc (.bool true)]::ls):Calls P f us.toArray w (λ e w'=>e = .returned (.bool true)∧Below w.heap.size w w'):=by
 have htk:us.take en.nv=us:=Zb (by rw[Haa hc];exact Vd hnv)
 have hcalls:=hs x r hr w (H9a w) (λ _=>(0,0)) us (λ k hk=>by
  unfold H9a at hk;split at hk
  ·assumption
  ·exact(hk rfl).elim) (λ k b hk=>by
  unfold H9a at hk
  split at hk<;>cases hk) (Eea 0 hc)
 rw[htk]at hcalls;refine Jm hcalls ?_;rintro e w' ⟨v,O',rfl,hF,_,hR,_⟩;obtain⟨ls,hl⟩:=hl;rw[hl]at hR;rw[hrs]at hR;obtain⟨l,ls',e1,h1⟩:=hR;cases e1;have h2:A5 P (bare O' w') (λ _ => .tm 1 []) 0 [.sc (.bool true)] [v]:=h1;have hv:v = .bool true:=h2.1.1;subst hv;exact⟨rfl,hF.os,hF.tape,hF.out,hF.size,λ k hk=>(hF.fz k hk (by unfold H9a;rw[if_pos hk])).2⟩
def Nd {H':Type} {enc:TypeId×Value→H'} {P:Program} {w:World} {base:Nat} {spare:Nat→Bool} {held:Bool} {ti:TypeId→Option TI} (htok:∀ T t,ti T=some t→TOk P T t) (hcl:∀ T,Ln P ti T=true)
  {T:TypeId} {t:TI} (hT:ti T=some t) {v:Value} {d:DataW H'} {p:List MemPlace} {b0:Nat} (hv:Value.okWide P w .any b0 T v) (h:DataW.Trod enc P w base spare held T v d p)
  {ts:List TypeId} {ds:List (DataW H')} (hw:(DataW.weightsEach P ts ds).all (· ≤ reachBytes)=true) {j:Nat} (hj:ts[j]? = some T) (hd:ds[j]? = some d):
  ∃ (X:t.ty.den) (vs:List Value),(if t.ag then v = .agg vs.toArray else vs=[v])∧t.ty.rep P (λ k=>k<w.heap.size) w X vs∧t.ty.fit ti X:=by
 obtain⟨n,hn⟩:=h
 obtain⟨X,r,f⟩:=Rk htok hcl n T t _ _ hT hn (λ m hm=>by
  have:=Ora.1 hw m (DataW.weights_mem_each hj hd m hm)
  exact of_decide_eq_true this)
 refine⟨X,_,?_,r,f⟩;have hc:=hcl T;unfold Ln at hc;rw[hT]at hc;unfold Value.okWide at hv;split at hc
 ·rename_i e;cases e
 ·rename_i t0 fs e1 hu;cases e1;simp only[Va]at hc;rw[hc.1];rw[hu]at hv;obtain⟨cs,rfl,_⟩:=hv;simp[Value.cells]
 all_goals first
  |(cases hc;done)
  |(rename_i hu;rw[hu]at hv;simp only[Cell.okWide,hu]at hv;rename_i e1;cases e1;simp only[Wc,if_false];have hsz:=Ty.rep_len _ _ _ r;cases v<;>first|(simp[Value.cells];done)|(simp only[Cell.ok,hu]at hv;done)|(simp[Cell.ok,hu]at hv;done))
end

section
open Go.RowKit
attribute [local irreducible] C H
def lk {α:Type}:List (Nat×α)→Nat→Option α
 |[],_=>none
 |(i,a)::l,n=>bif Nat.beq n i then some a else lk l n
structure LF where
 ins:Ru
 alts:List (Ex×Ru)
 f:Nat→ins.den→Option (Foa alts)
@[reducible] def LF.at (p:LF) (k:Nat):Lp:=⟨p.ins,p.alts,p.f k⟩
structure Fd where
 nt:Nat
 nv:Nat
 nm:List Nat
 res:List Nat
 cs:Nat→List (FuncId×Ent):=λ _=>[]
 ls:List (Nat×LF):=[]
 hint:List (Nat×Ty):=[]
 mv:List Nat:=[]
 gh:List (Nat×List Gh):=[]
 opn:List Nat:=[]
 sh:Bool:=false
 rf:Bool:=false
def Fd.n (D:Fd) (ti:TypeId→Option TI) (eqs:TypeId→Bool) (k:Nat):En:=
 ⟨D.nt,ti,eqs,D.nm.contains,D.res.contains,lk (D.cs k),λ l=>match lk D.ls l with|some p=>some (p.at k)|none=>none,D.nv,lk D.hint,D.mv.contains,λ n=>(lk D.gh n).getD [],D.opn.contains,λ _=>D.sh,D.rf⟩
def Iga {α:Type}:∀ {l:List (Nat×α)} {n:Nat} {a:α},lk l n=some a→n∈l.map Prod.fst
 |[],_,_,h=>by cases h
 |(i,b)::l,n,a,h=>by
  unfold lk at h;cases hb:Nat.beq n i
  case true=>rw[Vb hb];simp
  rw[hb,cond_false]at h;exact Ve _ (Iga h)
def K7a (P:Program):List (FuncId×Ent)→Prop
 |[]=>True
 |c::l=>Hk P c.1 c.2∧K7a P l
def Efa {P:Program}:∀ {l:List (FuncId×Ent)} {f:FuncId} {en:Ent},K7a P l→lk l f=some en→Hk P f en
 |[],_,_,_,h=>by cases h
 |(i,a)::l,f,en,hc,h=>by
  unfold lk at h
  cases hb:Nat.beq f i with
  |true=>
   rw[hb,cond_true]at h;cases h;rw[Vb hb];exact hc.1
  |false=>rw[hb,cond_false]at h;exact Efa hc.2 h
@[reducible] def bo (fn:Func):Code:=fn.body.getD .skip
structure Ol (P:Program) (ti:TypeId→Option TI) (eqs:TypeId→Bool):Prop where
 tok:∀ T t,ti T=some t→TOk P T t
 eq:∀ T,eqs T=true→eqB P ti 9 T=true∧(match ti T with|some t=>t.ag|none=>false)=true∧P.eqGuardType P.depth T=false
 mix:P.follows .mixedOrders=true
def LK (P:Program) (fn:Func) (D:Fd) (l:Nat) (p:LF):Prop:=∀ X:Cx,X.P=P→X.nt=fn.ntmps→X.np=D.nv→∀ k,T3 X (p.at k) (F7 l (bo fn))
def K8a (P:Program) (fn:Func) (D:Fd):List Nat→Prop
 |[]=>True
 |l::r=>(match lk D.ls l with|some p=>LK P fn D l p|none=>True)∧K8a P fn D r
def Ega {P:Program} {fn:Func} {D:Fd} {l:Nat} {p:LF} (hp:lk D.ls l=some p):∀ {r:List Nat},K8a P fn D r→l∈r→LK P fn D l p
 |[],_,h=>by cases h
 |i::r,ha,h=>by
  rcases Vk.1 h with rfl|h
  ·have:=ha.1;rw[hp]at this;exact this
  ·exact Ega hp ha.2 h
section
variable {P:Program} {ti:TypeId→Option TI} {eqs:TypeId→Bool} {fn:Func}
def Naa (hS:Ol P ti eqs) {D:Fd} {k:Nat} (hn:Nat.beq D.nt fn.ntmps=true) (hc:K7a P (D.cs k)) {X:Cx} (hP:X.P=P) (hx:X.nt=fn.ntmps) (hp:X.np=D.nv):O8 X (D.n ti eqs k):=
 M8a hP ((Vb hn).trans hx.symm) hp.symm rfl rfl hS.tok hS.eq (λ _ _ h=>Efa hc h)
def M9a (hS:Ol P ti eqs) {D:Fd} {k:Nat} (hn:Nat.beq D.nt fn.ntmps=true) (hc:K7a P (D.cs k)) {X:Cx} (hP:X.P=P) (hx:X.nt=fn.ntmps) (hp:X.np=D.nv):T4 X (D.n ti eqs k):=
 K5a (Naa hS hn hc hP hx hp) (by rw[hP];exact hS.mix)
def Iha {D:Fd} {k:Nat} {c:Code} {ids:List Nat} (h:(Fx c,ids.map λ l=>first (F7 l (bo fn)))=(ids.map λ l=>F7 l (bo fn),ids)) (hi:K8a P fn D ids) {X:Cx} (hP:X.P=P) (hx:X.nt=fn.ntmps) (hp:X.np=D.nv):Hc X (D.n ti eqs k) c:=by
 rw[Vu]at h;refine H8a (b:=bo fn) ids h.1 h.2 λ l hl L hL=>?_;have hL':(match lk D.ls l with|some p=>some (p.at k)|none=>none)=some L:=hL
 cases hp':lk D.ls l with
 |none=>rw[hp']at hL';cases hL'
 |some p=>
  rw[hp']at hL';cases hL';exact Ega hp' hi hl X hP hx hp k
@[reducible] def Nxa (ti:TypeId→Option TI) (eqs:TypeId→Bool) (fn:Func) (D:Fd) (l:Nat) (p:LF):Prop:=∀ k x,C2a (D.n ti eqs k) (p.at k) (F7 l (bo fn)) x=p.f (k+1) x
def mkL (hS:Ol P ti eqs) {D:Fd} {l:Nat} {p:LF} (ids:List Nat) (hn:Nat.beq D.nt fn.ntmps=true) (hc:∀ k,K7a P (D.cs k)) (hi:K8a P fn D ids) (h:(Fx (F7 l (bo fn)),ids.map λ l=>first (F7 l (bo fn)))=(ids.map λ l=>F7 l (bo fn),ids)) (h0:∀ x,p.f 0 x=none) (hs:Nxa ti eqs fn D l p):LK P fn D l p:=
 λ X hP hx hp=>Jra (ins:=p.ins) (alts:=p.alts) (f:=p.f) (En':=D.n ti eqs) h0 hs (λ k=>Naa hS hn (hc k) hP hx hp) (λ k=>M9a hS hn (hc k) hP hx hp) (λ k=>Iha h hi hP hx hp)
def Nba (fn:Func) (D:Fd) (en:Ent):Bool:=Nat.beq D.nt fn.ntmps&&(Nat.ble fn.ntmps 1000&&(Nat.ble en.nv fn.ntmps&&(Nat.beq en.nv D.nv&&(fn.body.isSome&&(!(fn.name == "runtime.NumGoroutine")&&V3 en)))))
def mkS (hS:Ol P ti eqs) {f:FuncId} {D:Fd} {k:Nat} {en:Ent} (ids:List Nat) (hf:P.funcs[f]? = some fn) (hc:K7a P (D.cs k)) (hi:K8a P fn D ids) (hk:Nba fn D en=true) (h:(Fx (bo fn),ids.map λ l=>first (F7 l (bo fn)))=(ids.map λ l=>F7 l (bo fn),ids))
  (hr:∀ x,C4a (D.n ti eqs k) (bo fn) fn.results.toList en x=en.run x):Hk P f en:=by
 unfold Nba at hk;simp only[Va,Wk]at hk;obtain⟨h1,h2,h3,h4,h5,h6,h7⟩:=hk;have h4:=Vb h4
 have hb:fn.body=some (bo fn):=by
  unfold bo
  cases hb:fn.body with
  |none=>rw[hb]at h5;cases h5
  |some c=>rfl
 refine⟨⟨fn,hf,h6,by rw[hb];rfl⟩,Aua hf hb (Vd h2) (Vd h3) (λ X hP hx hp=>?_) (λ X hP hx hp=>?_) (λ X hP hx hp=>?_) h7 hr⟩
 ·exact Naa hS h1 hc hP hx (hp.trans h4)
 ·exact M9a hS h1 hc hP hx (hp.trans h4)
 ·exact Iha h hi hP hx (hp.trans h4)
def Nca {keys L4a:List Nat} (hk:∀ {T t},ti T=some t→T∈keys) (h1:(keys.all λ T=>(match ti T with|some t=>N3a P T t|none=>true)&&Ln P ti T)=true)
  (h2:(L4a.all λ T=>eqB P ti 9 T&&(match ti T with|some t=>t.ag|none=>false)&&!(P.eqGuardType P.depth T))=true) (he:eqs=λ T=>L4a.contains T) (hm:P.follows .mixedOrders=true):Ol P ti eqs∧∀ T,Ln P ti T=true:=by
 refine⟨⟨λ T t h=>?_,λ T h=>?_,hm⟩,λ T=>?_⟩
 ·have h3:=Ora.1 h1 T (hk h);rw[Va,h]at h3;exact Lga _ _ _ h3.1
 ·rw[he]at h;have h3:=Ora.1 h2 T (List.elem_iff.1 h);simp only[Va,Wk]at h3;exact⟨h3.1.1,h3.1.2,h3.2⟩
 ·cases h:ti T with
  |none=>unfold Ln;rw[h]
  |some t=>
   have h3:=Ora.1 h1 T (hk h);rw[Va]at h3;exact h3.2
end
end

section
open Go.Proofs
@[reducible] def t0:Ty := .sl 5 (.i .u8)
@[reducible] def t1:Ty := .ow 5 (.i .u8)
@[reducible] def t2:Ty := .pr .s (.i .u64)
@[reducible] def t3:Ty := .pr .s t0
@[reducible] def t4:Ty := .pr .s t1
@[reducible] def t5:Ty := .sl 80 t3
@[reducible] def t6:Ty := .sl 65 t3
@[reducible] def t7:Ty := .ow 65 t4
@[reducible] def t8:Ty := .ow 65 t3
@[reducible] def t9:Ty := .pr (.i .i64) (.pr (.i .i64) (.i .i64))
@[reducible] def t10:Ty := .pr t0 (.pr (.i .i64) .b)
@[reducible] def t11:Ty := .pr (.i .i64) (.pr (.i .i64) (.pr .b (.i .u8)))
@[reducible] def t12:Ty := .pr t9 (.pr .b t0)
@[reducible] def t13:Ty := .pr t9 (.pr .b t1)
@[reducible] def t14:Ty := .pr t5 t5
@[reducible] def t15:Ty := .pr t6 t6
@[reducible] def t16:Ty := .pr t7 t7
@[reducible] def t17:Ty := .pr t8 t8
def tiL:List (Nat×TI):=[(2,⟨(.i .i64),false,8,[]⟩),
 (3,⟨(.i .i64),false,8,[]⟩),
 (4,⟨.b,false,1,[]⟩),
 (5,⟨(.i .u8),false,1,[]⟩),
 (6,⟨(.i .u8),false,1,[]⟩),
 (7,⟨t11,true,24,[(0,1,false),(1,1,false),(2,1,false),(3,1,false)]⟩),
 (8,⟨t11,true,24,[(0,1,false),(1,1,false),(2,1,false),(3,1,false)]⟩),
 (9,⟨.s,false,16,[]⟩),
 (10,⟨.s,false,16,[]⟩),
 (11,⟨.s,false,16,[]⟩),
 (12,⟨(.i .u64),false,8,[]⟩),
 (13,⟨t2,true,24,[(0,1,false),(1,1,false)]⟩),
 (14,⟨t2,true,24,[(0,1,false),(1,1,false)]⟩),
 (21,⟨(.i .i32),false,4,[]⟩),
 (22,⟨t5,false,24,[]⟩),
 (23,⟨t14,true,48,[(0,1,false),(1,1,false)]⟩),
 (24,⟨t14,true,48,[(0,1,false),(1,1,false)]⟩),
 (25,⟨t0,false,24,[]⟩),
 (27,⟨t6,false,24,[]⟩),
 (28,⟨t15,true,48,[(0,1,false),(1,1,false)]⟩),
 (29,⟨t15,true,48,[(0,1,false),(1,1,false)]⟩),
 (41,⟨t9,true,24,[(0,1,false),(1,1,false),(2,1,false)]⟩),
 (42,⟨t9,true,24,[(0,1,false),(1,1,false),(2,1,false)]⟩),
 (43,⟨t12,true,56,[(0,3,true),(3,1,false),(4,1,false)]⟩),
 (44,⟨t12,true,56,[(0,3,true),(3,1,false),(4,1,false)]⟩),
 (48,⟨t9,true,24,[(0,1,false),(1,1,false),(2,1,false)]⟩),
 (49,⟨t12,true,56,[(0,3,true),(3,1,false),(4,1,false)]⟩),
 (50,⟨t12,true,56,[(0,3,true),(3,1,false),(4,1,false)]⟩),
 (64,⟨t3,true,40,[(0,1,false),(1,1,false)]⟩),
 (65,⟨t3,true,40,[(0,1,false),(1,1,false)]⟩),
 (80,⟨t3,true,40,[(0,1,false),(1,1,false)]⟩),
 (93,⟨(.i .u64),false,8,[]⟩),
 (95,⟨t10,true,40,[(0,1,false),(1,1,false),(2,1,false)]⟩),
 (96,⟨t10,true,40,[(0,1,false),(1,1,false),(2,1,false)]⟩),
 (108,⟨(.i .u32),false,4,[]⟩),
 (114,⟨(.i .u8),false,1,[]⟩),
 (115,⟨(.i .u8),false,1,[]⟩),
 (118,⟨(.i .i32),false,4,[]⟩),
 (119,⟨(.i .i32),false,4,[]⟩)]
def ti:TypeId→Option TI:=lk tiL
def L4a:List Nat:=[41,42,48]
def eqs:TypeId→Bool:=λ T=>L4a.contains T
def sK:Ol Try.prog ti eqs∧∀ T,Ln Try.prog ti T=true:=Nca (P:=Try.prog) (ti:=ti) (eqs:=eqs) (keys:=tiL.map Prod.fst) (L4a:=L4a) Iga (by kernel_rfl) (by kernel_rfl) rfl (by kernel_rfl)
def sO:Ol Try.prog ti eqs:=sK.1
def Mya:∀ T t,ti T=some t→TOk Try.prog T t:=sO.tok
def Mza:∀ T,Ln Try.prog ti T=true:=sK.2
abbrev CK:=Hk Try.prog
abbrev LL:=LK Try.prog
abbrev AC:=K7a Try.prog
def mS {f:FuncId} {fn:Func} (D:Fd) (k:Nat) {en:Ent} (ids:List Nat) (hf:Try.prog.funcs[f]? = some fn) (hc:AC (D.cs k)) (hi:K8a Try.prog fn D ids) (h:(Nba fn D en,Fx (bo fn),ids.map λ l=>first (F7 l (bo fn)))=(true,ids.map λ l=>F7 l (bo fn),ids):=by kernel_rfl) (hr:∀ x,C4a (D.n ti eqs k) (bo fn) fn.results.toList en x=en.run x:=by intro x;kernel_rfl):CK f en:=mkS sO ids hf hc hi (congrArg Prod.fst h) (congrArg Prod.snd h) hr
def mL {fn:Func} {D:Fd} {l:Nat} {p:LF} (ids:List Nat) (hc:∀ k,AC (D.cs k)) (hi:K8a Try.prog fn D ids) (h:(Nat.beq D.nt fn.ntmps,Fx (F7 l (bo fn)),ids.map λ l=>first (F7 l (bo fn)))=(true,ids.map λ l=>F7 l (bo fn),ids):=by kernel_rfl) (h0:∀ x,p.f 0 x=none:=by intro _;rfl) (hs:Nxa ti eqs fn D l p:=by intro k x;kernel_rfl):LL fn D l p:=mkL sO ids (congrArg Prod.fst h) hc hi (congrArg Prod.snd h) h0 hs
def Cz.e (k:Nat):Ent:=⟨2,[(.val false t0),(.val false (.i .i64))],[(.one,(.i .i64))],λ x=>Cz x.1 x.2⟩
def Cz.d:Fd := { nt:=12,nv:=2,nm:=[0,1,2,3],res:=[4],rf:=true }
def Cz.s (k:Nat):CK 41 (Cz.e k):=mS Cz.d k [] Try.func41 trivial trivial
def E3.e (k:Nat):Ent:=⟨2,[(.val true t3),(.val false (.i .i64))],[(.one,(.i .i64))],λ x=>E3 x.1 x.2⟩
def E3.d:Fd := { nt:=19,nv:=2,nm:=[0,1,2,3],res:=[4],cs:=λ k=>[(41,Cz.e k)],rf:=true }
def E3.s (k:Nat):CK 55 (E3.e k):=mS E3.d k [] Try.func55 ⟨Cz.s k,trivial⟩ trivial
def Ay.e (k:Nat):Ent:=⟨2,[(.val false t5),(.val false (.i .i64))],[(.one,(.i .i64))],λ x=>Ay k x.1 x.2⟩
def C9.p:LF:=⟨⟨[],[(0,t5),(1,(.i .i64)),(5,(.i .i64))]⟩,[(.ret,⟨[],[(4,(.i .i64))]⟩),((.exit 0),⟨[],[(1,(.i .i64))]⟩)],λ k x=>C9 k x.1 x.2.1 x.2.2⟩
def Ay.d:Fd := { nt:=27,nv:=2,nm:=[0,1,2,3,5],res:=[4],cs:=λ k=>[(55,E3.e k)],ls:=[(5,C9.p)],rf:=true }
def Ay.a (k:Nat):AC (Ay.d.cs k):=⟨E3.s k,trivial⟩
def C9.s:LL Try.f24 Ay.d 5 C9.p:=mL [] Ay.a trivial
def Ay.s (k:Nat):CK 24 (Ay.e k):=mS Ay.d k [5] Try.func24 (Ay.a k) ⟨C9.s,trivial⟩
def Em.e (k:Nat):Ent:=⟨2,[(.val true t14),(.val false (.i .i64))],[(.one,(.i .i64))],λ x=>Em k x.1 x.2⟩
def Em.d:Fd := { nt:=18,nv:=2,nm:=[0,1,2,3],res:=[4],cs:=λ k=>[(24,Ay.e k)],rf:=true }
def Em.s (k:Nat):CK 6 (Em.e k):=mS Em.d k [] Try.func6 ⟨Ay.s k,trivial⟩ trivial
def C1.e (k:Nat):Ent:=⟨1,[(.val false t0)],[(.one,t1)],λ x=>C1 k x⟩
def C0.p:LF:=⟨⟨[],[(0,t0),(3,t1),(4,(.i .i64))]⟩,[((.exit 0),⟨[],[(3,t1)]⟩)],λ k x=>C0 k x.1 x.2.1 x.2.2⟩
def C1.d:Fd := { nt:=22,nv:=1,nm:=[0,1,3,4],res:=[2],ls:=[(3,C0.p)],rf:=true }
def C0.s:LL Try.f9 C1.d 3 C0.p:=mL [] (λ _=>trivial) trivial
def C1.s (k:Nat):CK 9 (C1.e k):=mS C1.d k [3] Try.func9 trivial ⟨C0.s,trivial⟩
def E4.e (k:Nat):Ent:=⟨1,[(.val true t3)],[(.agg,t4)],λ x=>E4 k x⟩
def E4.d:Fd := { nt:=12,nv:=1,nm:=[0,1,3],res:=[],cs:=λ k=>[(9,C1.e k)],mv:=[11],rf:=true }
def E4.s (k:Nat):CK 57 (E4.e k):=mS E4.d k [] Try.func57 ⟨C1.s k,trivial⟩ trivial
def Az.e (k:Nat):Ent:=⟨1,[(.val false t5)],[(.one,t7)],λ x=>Az k x⟩
def Bo.p:LF:=⟨⟨[],[(0,t5),(3,t7),(4,(.i .i64))]⟩,[((.exit 0),⟨[],[(3,t7)]⟩)],λ k x=>Bo k x.1 x.2.1 x.2.2⟩
def Az.d:Fd := { nt:=23,nv:=1,nm:=[0,1,3,4],res:=[2],cs:=λ k=>[(57,E4.e k)],ls:=[(3,Bo.p)],hint:=[(7,t4)],rf:=true }
def Az.a (k:Nat):AC (Az.d.cs k):=⟨E4.s k,trivial⟩
def Bo.s:LL Try.f28 Az.d 3 Bo.p:=mL [] Az.a trivial
def Az.s (k:Nat):CK 28 (Az.e k):=mS Az.d k [3] Try.func28 (Az.a k) ⟨Bo.s,trivial⟩
def Dc.e (k:Nat):Ent:=⟨1,[(.val true t14)],[(.agg,t16)],λ x=>Dc k x⟩
def Dc.d:Fd := { nt:=13,nv:=1,nm:=[0,1,3],res:=[],cs:=λ k=>[(28,Az.e k)],mv:=[12],rf:=true }
def Dc.s (k:Nat):CK 8 (Dc.e k):=mS Dc.d k [] Try.func8 ⟨Az.s k,trivial⟩ trivial
def C3.e (k:Nat):Ent:=⟨2,[(.val false t0),(.val false t0)],[(.one,.b)],λ x=>C3 k x.1 x.2⟩
def C2.p:LF:=⟨⟨[],[(0,t0),(1,t0),(5,(.i .i64))]⟩,[(.ret,⟨[],[(4,.b)]⟩),((.exit 0),⟨[],[]⟩)],λ k x=>C2 k x.1 x.2.1 x.2.2⟩
def C3.d:Fd := { nt:=26,nv:=2,nm:=[0,1,2,3,5],res:=[4],ls:=[(4,C2.p)],rf:=true }
def C2.s:LL Try.f12 C3.d 4 C2.p:=mL [] (λ _=>trivial) trivial
def C3.s (k:Nat):CK 12 (C3.e k):=mS C3.d k [4] Try.func12 trivial ⟨C2.s,trivial⟩
def E5.e (k:Nat):Ent:=⟨2,[(.val true t3),(.val true t3)],[(.one,.b)],λ x=>E5 k x.1 x.2⟩
def E5.d:Fd := { nt:=16,nv:=2,nm:=[0,1,2,3],res:=[4],cs:=λ k=>[(12,C3.e k)],rf:=true }
def E5.s (k:Nat):CK 61 (E5.e k):=mS E5.d k [] Try.func61 ⟨C3.s k,trivial⟩ trivial
def B0.e (k:Nat):Ent:=⟨2,[(.val false t6),(.val false t6)],[(.one,.b)],λ x=>B0 k x.1 x.2⟩
def Bp.p:LF:=⟨⟨[],[(0,t6),(1,t6),(5,(.i .i64))]⟩,[(.ret,⟨[],[(4,.b)]⟩),((.exit 0),⟨[],[]⟩)],λ k x=>Bp k x.1 x.2.1 x.2.2⟩
def B0.d:Fd := { nt:=27,nv:=2,nm:=[0,1,2,3,5],res:=[4],cs:=λ k=>[(61,E5.e k)],ls:=[(4,Bp.p)],rf:=true }
def B0.a (k:Nat):AC (B0.d.cs k):=⟨E5.s k,trivial⟩
def Bp.s:LL Try.f35 B0.d 4 Bp.p:=mL [] B0.a trivial
def B0.s (k:Nat):CK 35 (B0.e k):=mS B0.d k [4] Try.func35 (B0.a k) ⟨Bp.s,trivial⟩
def Dd.e (k:Nat):Ent:=⟨2,[(.val true t15),(.val true t15)],[(.one,.b)],λ x=>Dd k x.1 x.2⟩
def Dd.d:Fd := { nt:=17,nv:=2,nm:=[0,1,2,3],res:=[4],cs:=λ k=>[(35,B0.e k)],rf:=true }
def Dd.s (k:Nat):CK 11 (Dd.e k):=mS Dd.d k [] Try.func11 ⟨B0.s k,trivial⟩ trivial
def B5.e (k:Nat):Ent:=⟨2,[(.io false t1),(.val false (.i .i64))],[(.one,(.i .i64))],λ x=>B5 k x.1 x.2⟩
def Bb.p:LF:=⟨⟨[(0,(.io 3001000))],[(1,(.i .i64)),(5,(.i .i64)),(3001000,t1)]⟩,[((.exit 0),⟨[],[(1,(.i .i64)),(3001000,t1)]⟩)],λ k x=>Bb k x.1 x.2.1 x.2.2⟩
def B5.d:Fd := { nt:=20,nv:=2,nm:=[0,1,2,3,5],res:=[4],ls:=[(2,Bb.p)],rf:=true }
def Bb.s:LL Try.f14 B5.d 2 Bb.p:=mL [] (λ _=>trivial) trivial
def B5.s (k:Nat):CK 14 (B5.e k):=mS B5.d k [2] Try.func14 trivial ⟨Bb.s,trivial⟩
def B8.e (k:Nat):Ent:=⟨1,[(.val false (.i .i64))],[(.one,.s)],λ x=>B8 k x⟩
def Bq.p:LF:=⟨⟨[],[(0,(.i .i64)),(3,.s)]⟩,[((.exit 0),⟨[],[(3,.s)]⟩)],λ k x=>Bq k x.1 x.2⟩
def B8.d:Fd := { nt:=20,nv:=1,nm:=[0,1,3],res:=[2],ls:=[(4,Bq.p)],rf:=true }
def Bq.s:LL Try.f62 B8.d 4 Bq.p:=mL [] (λ _=>trivial) trivial
def B8.s (k:Nat):CK 62 (B8.e k):=mS B8.d k [4] Try.func62 trivial ⟨Bq.s,trivial⟩
def An.e (k:Nat):Ent:=⟨2,[(.io false t7),(.val false (.i .i64))],[(.one,(.i .i64))],λ x=>An k x.1 x.2⟩
def B1.p:LF:=⟨⟨[(0,(.io 3001000))],[(1,(.i .i64)),(5,(.i .i64)),(3001000,t7)]⟩,[((.exit 0),⟨[],[(1,(.i .i64)),(3001000,t7)]⟩)],λ k x=>B1 k x.1 x.2.1 x.2.2⟩
def An.d:Fd := { nt:=28,nv:=2,nm:=[0,1,2,3,5],res:=[4],cs:=λ k=>[(14,B5.e k),(62,B8.e k)],ls:=[(2,B1.p)],gh:=[(1000003,[.cl 3001000])],opn:=[22],rf:=true }
def An.a (k:Nat):AC (An.d.cs k):=⟨B5.s k,B8.s k,trivial⟩
def B1.s:LL Try.f36 An.d 2 B1.p:=mL [] An.a trivial
def An.s (k:Nat):CK 36 (An.e k):=mS An.d k [2] Try.func36 (An.a k) ⟨B1.s,trivial⟩
def Cf.e (k:Nat):Ent:=⟨2,[(.io true t16),(.val false (.i .i64))],[(.one,(.i .i64))],λ x=>Cf k x.1 x.2⟩
def Cf.d:Fd := { nt:=14,nv:=2,nm:=[0,1,2,3],res:=[4],cs:=λ k=>[(36,An.e k)],mv:=[0],rf:=true }
def Cf.s (k:Nat):CK 13 (Cf.e k):=mS Cf.d k [] Try.func13 ⟨An.s k,trivial⟩ trivial
def Ca.e (k:Nat):Ent:=⟨2,[(.val false t0),(.val false (.i .i64))],[(.one,(.i .i64))],λ x=>Ca k x.1 x.2⟩
def Bc.p:LF:=⟨⟨[],[(0,t0),(1,(.i .i64)),(5,(.i .i64))]⟩,[(.ret,⟨[],[(4,(.i .i64))]⟩),((.exit 0),⟨[],[(1,(.i .i64))]⟩)],λ k x=>Bc k x.1 x.2.1 x.2.2⟩
def Ca.d:Fd := { nt:=22,nv:=2,nm:=[0,1,2,3,5],res:=[4],ls:=[(2,Bc.p)],rf:=true }
def Bc.s:LL Try.f63 Ca.d 2 Bc.p:=mL [] (λ _=>trivial) trivial
def Ca.s (k:Nat):CK 63 (Ca.e k):=mS Ca.d k [2] Try.func63 trivial ⟨Bc.s,trivial⟩
def Ao.e (k:Nat):Ent:=⟨2,[(.val false t6),(.val false (.i .i64))],[(.one,(.i .i64))],λ x=>Ao k x.1 x.2⟩
def B2.p:LF:=⟨⟨[],[(0,t6),(1,(.i .i64)),(5,(.i .i64))]⟩,[(.ret,⟨[],[(4,(.i .i64))]⟩),((.exit 0),⟨[],[(1,(.i .i64))]⟩)],λ k x=>B2 k x.1 x.2.1 x.2.2⟩
def Ao.d:Fd := { nt:=32,nv:=2,nm:=[0,1,2,3,5],res:=[4],cs:=λ k=>[(62,B8.e k),(63,Ca.e k)],ls:=[(2,B2.p)],rf:=true }
def Ao.a (k:Nat):AC (Ao.d.cs k):=⟨B8.s k,Ca.s k,trivial⟩
def B2.s:LL Try.f37 Ao.d 2 B2.p:=mL [] Ao.a trivial
def Ao.s (k:Nat):CK 37 (Ao.e k):=mS Ao.d k [2] Try.func37 (Ao.a k) ⟨B2.s,trivial⟩
def Cg.e (k:Nat):Ent:=⟨2,[(.val true t15),(.val false (.i .i64))],[(.one,(.i .i64))],λ x=>Cg k x.1 x.2⟩
def Cg.d:Fd := { nt:=18,nv:=2,nm:=[0,1,2,3],res:=[4],cs:=λ k=>[(37,Ao.e k)],rf:=true }
def Cg.s (k:Nat):CK 15 (Cg.e k):=mS Cg.d k [] Try.func15 ⟨Ao.s k,trivial⟩ trivial
def Eo.e (k:Nat):Ent:=⟨2,[(.val true t12),(.val false (.i .i64))],[(.one,(.i .i64))],λ x=>Eo x.1 x.2⟩
def Eo.d:Fd := { nt:=12,nv:=2,nm:=[0,1,2,3],res:=[4],cs:=λ k=>[(41,Cz.e k)],rf:=true }
def Eo.s (k:Nat):CK 18 (Eo.e k):=mS Eo.d k [] Try.func18 ⟨Cz.s k,trivial⟩ trivial
def Bd.e (k:Nat):Ent:=⟨1,[(.val false t6)],[(.one,t8)],λ x=>Bd k x⟩
def B3.p:LF:=⟨⟨[],[(0,t6),(3,t8),(4,(.i .i64))]⟩,[((.exit 0),⟨[],[(3,t8)]⟩)],λ k x=>B3 k x.1 x.2.1 x.2.2⟩
def Bd.d:Fd := { nt:=29,nv:=1,nm:=[0,1,3,4],res:=[2],ls:=[(3,B3.p)] }
def B3.s:LL Try.f56 Bd.d 3 B3.p:=mL [] (λ _=>trivial) trivial
def Bd.s (k:Nat):CK 56 (Bd.e k):=mS Bd.d k [3] Try.func56 trivial ⟨B3.s,trivial⟩
def A9.e (k:Nat):Ent:=⟨1,[(.val true t15)],[(.agg,t17)],λ x=>A9 k x⟩
def A9.d:Fd := { nt:=10,nv:=1,nm:=[0,1],res:=[],cs:=λ k=>[(56,Bd.e k)] }
def A9.s (k:Nat):CK 25 (A9.e k):=mS A9.d k [] Try.func25 ⟨Bd.s k,trivial⟩ trivial
def De.e (k:Nat):Ent:=⟨3,[(.val false t6),(.val false .s),(.val false t0)],[(.one,t8)],λ x=>De k x.1 x.2.1 x.2.2⟩
def As.p:LF:=⟨⟨[(9,(.bp 9 0 0)),(10999,(.hd 2))],[(0,t6),(1,.s),(7,t8),(8,.b),(10,(.i .i64)),(10000,.s),(10001,t0)]⟩,[((.exit 0),⟨[(9,(.bp 9 0 0)),(10999,(.hd 2))],[(7,t8),(8,.b),(10000,.s),(10001,t0)]⟩)],λ k x=>As k x.1 x.2.1 x.2.2.1 x.2.2.2.1 x.2.2.2.2.1 x.2.2.2.2.2.1 x.2.2.2.2.2.2⟩
def De.d:Fd := { nt:=59,nv:=3,nm:=[0,1,2,3,4,5,7,8,9,10],res:=[6],ls:=[(5,As.p)] }
def As.s:LL Try.f26 De.d 5 As.p:=mL [] (λ _=>trivial) trivial
def De.s (k:Nat):CK 26 (De.e k):=mS De.d k [5] Try.func26 trivial ⟨As.s,trivial⟩
def Da.e (k:Nat):Ent:=⟨3,[(.val false (.i .i64)),(.val false (.i .i64)),(.val false (.i .i64))],[(.one,.b)],λ x=>Da x.1 x.2.1 x.2.2⟩
def Da.d:Fd := { nt:=15,nv:=3,nm:=[0,1,2,3,4,5],res:=[6] }
def Da.s (k:Nat):CK 66 (Da.e k):=mS Da.d k [] Try.func66 trivial trivial
def Av.e (k:Nat):Ent:=⟨1,[(.val false .s)],[(.one,.b)],λ x=>Av k x⟩
def B6.p:LF:=⟨⟨[],[(0,.s),(3,(.i .i64))]⟩,[(.ret,⟨[],[(2,.b)]⟩),((.exit 0),⟨[],[(0,.s)]⟩)],λ k x=>B6 k x.1 x.2⟩
def Av.d:Fd := { nt:=38,nv:=1,nm:=[0,1,3,4],res:=[2],cs:=λ k=>[(66,Da.e k)],ls:=[(2,B6.p)] }
def Av.a (k:Nat):AC (Av.d.cs k):=⟨Da.s k,trivial⟩
def B6.s:LL Try.f43 Av.d 2 B6.p:=mL [] Av.a trivial
def Av.s (k:Nat):CK 43 (Av.e k):=mS Av.d k [2] Try.func43 (Av.a k) ⟨B6.s,trivial⟩
def C4.e (k:Nat):Ent:=⟨1,[(.val false t6)],[(.one,.b)],λ x=>C4 k x⟩
def Cb.p:LF:=⟨⟨[],[(0,t6),(3,(.i .i64))]⟩,[(.ret,⟨[],[(2,.b)]⟩),((.exit 0),⟨[],[(0,t6)]⟩)],λ k x=>Cb k x.1 x.2⟩
def C4.d:Fd := { nt:=47,nv:=1,nm:=[0,1,3],res:=[2],cs:=λ k=>[(43,Av.e k)],ls:=[(2,Cb.p)] }
def C4.a (k:Nat):AC (C4.d.cs k):=⟨Av.s k,trivial⟩
def Cb.s:LL Try.f65 C4.d 2 Cb.p:=mL [] C4.a trivial
def C4.s (k:Nat):CK 65 (C4.e k):=mS C4.d k [2] Try.func65 (C4.a k) ⟨Cb.s,trivial⟩
def Cv.e (k:Nat):Ent:=⟨1,[(.val true t15)],[(.one,.b)],λ x=>Cv k x⟩
def Cv.d:Fd := { nt:=11,nv:=1,nm:=[0,1],res:=[2],cs:=λ k=>[(65,C4.e k)] }
def Cv.s (k:Nat):CK 42 (Cv.e k):=mS Cv.d k [] Try.func42 ⟨C4.s k,trivial⟩ trivial
def Cj.e (k:Nat):Ent:=⟨3,[(.val true t15),(.val true t17),(.val false .s)],[(.agg,t17),(.one,.b)],λ x=>Cj k x.1 x.2.1 x.2.2⟩
def Cj.d:Fd := { nt:=24,nv:=3,nm:=[0,1,2,3,4,5],res:=[7],cs:=λ k=>[(25,A9.e k),(42,Cv.e k),(43,Av.e k)],mv:=[23] }
def Cj.s (k:Nat):CK 27 (Cj.e k):=mS Cj.d k [] Try.func27 ⟨A9.s k,Cv.s k,Av.s k,trivial⟩ trivial
def Bj.e (k:Nat):Ent:=⟨3,[(.val true t15),(.val false .s),(.val false t0)],[(.agg,t17),(.one,.b)],λ x=>Bj k x.1 x.2.1 x.2.2⟩
def Bj.d:Fd := { nt:=23,nv:=3,nm:=[0,1,2,3,4,5,8],res:=[7],cs:=λ k=>[(25,A9.e k),(26,De.e k),(27,Cj.e k)] }
def Bj.s (k:Nat):CK 7 (Bj.e k):=mS Bj.d k [] Try.func7 ⟨A9.s k,De.s k,Cj.s k,trivial⟩ trivial
def Fg.e (k:Nat):Ent:=⟨2,[(.val false t6),(.val false .s)],[(.one,(.i .i64))],λ x=>Fg k x.1 x.2⟩
def Di.p:LF:=⟨⟨[],[(0,t6),(1,.s),(5,(.i .i64))]⟩,[(.ret,⟨[],[(4,(.i .i64))]⟩),((.exit 0),⟨[],[]⟩)],λ k x=>Di k x.1 x.2.1 x.2.2⟩
def Fg.d:Fd := { nt:=20,nv:=2,nm:=[0,1,2,3,5],res:=[4],ls:=[(2,Di.p)] }
def Di.s:LL Try.f64 Fg.d 2 Di.p:=mL [] (λ _=>trivial) trivial
def Fg.s (k:Nat):CK 64 (Fg.e k):=mS Fg.d k [2] Try.func64 trivial ⟨Di.s,trivial⟩
def Bx.e (k:Nat):Ent:=⟨2,[(.val true t15),(.val false .s)],[(.one,t1),(.one,.b)],λ x=>Bx k x.1 x.2⟩
def Bx.d:Fd := { nt:=22,nv:=2,nm:=[0,1,2,3,6],res:=[4,5],cs:=λ k=>[(64,Fg.e k)] }
def Bx.s (k:Nat):CK 38 (Bx.e k):=mS Bx.d k [] Try.func38 ⟨Fg.s k,trivial⟩ trivial
def Ej.e (k:Nat):Ent:=⟨2,[(.val false t6),(.val false .s)],[(.one,t8)],λ x=>Ej k x.1 x.2⟩
def Cs.p:LF:=⟨⟨[],[(0,t6),(1,.s),(5,t8),(6,(.i .i64))]⟩,[((.exit 0),⟨[],[(5,t8)]⟩)],λ k x=>Cs k x.1 x.2.1 x.2.2.1 x.2.2.2⟩
def Ej.d:Fd := { nt:=29,nv:=2,nm:=[0,1,2,3,5,6],res:=[4],ls:=[(3,Cs.p)] }
def Cs.s:LL Try.f39 Ej.d 3 Cs.p:=mL [] (λ _=>trivial) trivial
def Ej.s (k:Nat):CK 39 (Ej.e k):=mS Ej.d k [3] Try.func39 trivial ⟨Cs.s,trivial⟩
def B9.e (k:Nat):Ent:=⟨2,[(.val true t15),(.val false .s)],[(.agg,t17),(.one,.b)],λ x=>B9 k x.1 x.2⟩
def B9.d:Fd := { nt:=35,nv:=2,nm:=[0,1,2,3,6,7,8],res:=[5],cs:=λ k=>[(25,A9.e k),(26,De.e k),(27,Cj.e k),(38,Bx.e k),(39,Ej.e k)] }
def B9.s (k:Nat):CK 16 (B9.e k):=mS B9.d k [] Try.func16 ⟨A9.s k,De.s k,Cj.s k,Bx.s k,Ej.s k,trivial⟩ trivial
def Dj.e (k:Nat):Ent:=⟨1,[(.val true t9)],[(.one,.b)],λ x=>Dj x⟩
def Dj.d:Fd := { nt:=16,nv:=1,nm:=[0,1],res:=[2],cs:=λ k=>[(66,Da.e k)] }
def Dj.s (k:Nat):CK 67 (Dj.e k):=mS Dj.d k [] Try.func67 ⟨Da.s k,trivial⟩ trivial
def C5.e (k:Nat):Ent:=⟨1,[(.val true t12)],[(.one,.b)],λ x=>C5 x⟩
def C5.d:Fd := { nt:=23,nv:=1,nm:=[0,1],res:=[2],cs:=λ k=>[(67,Dj.e k)] }
def C5.s (k:Nat):CK 44 (C5.e k):=mS C5.d k [] Try.func44 ⟨Dj.s k,trivial⟩ trivial
def Be.e (k:Nat):Ent:=⟨2,[(.val false t0),(.val false (.i .i64))],[(.one,t1)],λ x=>Be k x.1 x.2⟩
def B7.p:LF:=⟨⟨[],[(1,(.i .i64)),(5,t1)]⟩,[((.exit 0),⟨[],[(1,(.i .i64)),(5,t1)]⟩)],λ k x=>B7 k x.1 x.2⟩
def Be.d:Fd := { nt:=29,nv:=2,nm:=[0,1,2,3,5],res:=[4],ls:=[(6,B7.p)] }
def B7.s:LL Try.f71 Be.d 6 B7.p:=mL [] (λ _=>trivial) trivial
def Be.s (k:Nat):CK 71 (Be.e k):=mS Be.d k [6] Try.func71 trivial ⟨B7.s,trivial⟩
def Dk.e (k:Nat):Ent:=⟨2,[(.val false t0),(.val false .s)],[(.one,t1)],λ x=>Dk k x.1 x.2⟩
def Dk.d:Fd := { nt:=11,nv:=2,nm:=[0,1,2,3],res:=[4],cs:=λ k=>[(71,Be.e k)] }
def Dk.s (k:Nat):CK 70 (Dk.e k):=mS Dk.d k [] Try.func70 ⟨Be.s k,trivial⟩ trivial
def Dl.e (k:Nat):Ent:=⟨2,[(.val false t0),(.val true t9)],[(.one,t1)],λ x=>Dl k x.1 x.2⟩
def Dl.d:Fd := { nt:=15,nv:=2,nm:=[0,1,2,3],res:=[4],cs:=λ k=>[(71,Be.e k)] }
def Dl.s (k:Nat):CK 72 (Dl.e k):=mS Dl.d k [] Try.func72 ⟨Be.s k,trivial⟩ trivial
def Ep.e (k:Nat):Ent:=⟨1,[(.val false .b)],[(.one,(.i .i64))],λ x=>Ep x⟩
def Ep.d:Fd := { nt:=4,nv:=1,nm:=[0,1],res:=[2] }
def Ep.s (k:Nat):CK 73 (Ep.e k):=mS Ep.d k [] Try.func73 trivial trivial
def Fu.e (k:Nat):Ent:=⟨1,[(.val false t0)],[(.one,(.i .i64))],λ x=>Fu k x⟩
def Dy.p:LF:=⟨⟨[],[(0,t0),(3,(.i .i64)),(4,(.i .i64)),(5,(.i .i64))]⟩,[((.exit 2),⟨[],[(0,t0),(3,(.i .i64)),(4,(.i .i64))]⟩)],λ k x=>Dy k x.1 x.2.1 x.2.2.1 x.2.2.2⟩
def E8.p:LF:=⟨⟨[],[(0,t0),(3,(.i .i64)),(4,(.i .i64))]⟩,[((.exit 0),⟨[],[(3,(.i .i64))]⟩)],λ k x=>E8 k x.1 x.2.1 x.2.2⟩
def Fu.d:Fd := { nt:=34,nv:=1,nm:=[0,1,3,4,5,6],res:=[2],ls:=[(7,Dy.p),(3,E8.p)] }
def Dy.s:LL Try.f74 Fu.d 7 Dy.p:=mL [] (λ _=>trivial) trivial
def E8.s:LL Try.f74 Fu.d 3 E8.p:=mL [7] (λ _=>trivial) ⟨Dy.s,trivial⟩
def Fu.s (k:Nat):CK 74 (Fu.e k):=mS Fu.d k [3] Try.func74 trivial ⟨E8.s,trivial⟩
def Bu.e (k:Nat):Ent:=⟨1,[(.val true t12)],[(.one,t1)],λ x=>Bu k x⟩
def Bu.d:Fd := { nt:=37,nv:=1,nm:=[0,1,3,4],res:=[2],cs:=λ k=>[(44,C5.e k),(70,Dk.e k),(71,Be.e k),(72,Dl.e k),(73,Ep.e k),(74,Fu.e k)] }
def Bu.s (k:Nat):CK 47 (Bu.e k):=mS Bu.d k [] Try.func47 ⟨C5.s k,Dk.s k,Be.s k,Dl.s k,Ep.s k,Fu.s k,trivial⟩ trivial
def Bf.e (k:Nat):Ent:=⟨2,[(.val false t0),(.val false (.i .i64))],[(.one,(.i .i64)),(.one,(.i .i64)),(.one,.b)],λ x=>Bf k x.1 x.2⟩
def Bt.p:LF:=⟨⟨[],[(0,t0),(1,(.i .i64)),(7,(.i .i64)),(8,(.i .i64))]⟩,[(.ret,⟨[],[(4,(.i .i64)),(5,(.i .i64)),(6,.b)]⟩),((.exit 0),⟨[],[]⟩)],λ k x=>Bt k x.1 x.2.1 x.2.2.1 x.2.2.2⟩
def Bf.d:Fd := { nt:=64,nv:=2,nm:=[0,1,2,3,7,8,9],res:=[4,5,6],ls:=[(3,Bt.p)] }
def Bt.s:LL Try.f83 Bf.d 3 Bt.p:=mL [] (λ _=>trivial) trivial
def Bf.s (k:Nat):CK 83 (Bf.e k):=mS Bf.d k [3] Try.func83 trivial ⟨Bt.s,trivial⟩
def C6.e (k:Nat):Ent:=⟨2,[(.val false t0),(.val false (.i .i64))],[(.agg,t9),(.one,(.i .i64)),(.one,.b)],λ x=>C6 k x.1 x.2⟩
def C6.d:Fd := { nt:=49,nv:=2,nm:=[0,1,2,3,7,8,9,10,11,12,13,14,15],res:=[5,6],cs:=λ k=>[(83,Bf.e k)] }
def C6.s (k:Nat):CK 82 (C6.e k):=mS C6.d k [] Try.func82 ⟨Bf.s k,trivial⟩ trivial
def Dm.e (k:Nat):Ent:=⟨2,[(.val false t0),(.val false (.i .i64))],[(.one,.s),(.one,(.i .i64)),(.one,.b)],λ x=>Dm k x.1 x.2⟩
def Dm.d:Fd := { nt:=37,nv:=2,nm:=[0,1,2,3,7,8,9],res:=[4,5,6],cs:=λ k=>[(83,Bf.e k)] }
def Dm.s (k:Nat):CK 84 (Dm.e k):=mS Dm.d k [] Try.func84 ⟨Bf.s k,trivial⟩ trivial
def Dn.e (k:Nat):Ent:=⟨1,[(.val false t0)],[(.agg,t13),(.one,.b)],λ x=>Dn k x⟩
def Dn.d:Fd := { nt:=76,nv:=1,nm:=[0,1,4,5,6,7,8,9,10,11,12,13],res:=[3],cs:=λ k=>[(44,C5.e k),(47,Bu.e k),(82,C6.e k),(83,Bf.e k),(84,Dm.e k)],mv:=[75] }
def Dn.s (k:Nat):CK 68 (Dn.e k):=mS Dn.d k [] Try.func68 ⟨C5.s k,Bu.s k,C6.s k,Bf.s k,Dm.s k,trivial⟩ trivial
def Fn.e (k:Nat):Ent:=⟨2,[(.val true t15),(.val false .s)],[(.agg,t13),(.one,(.i .i64))],λ x=>Fn k x.1 x.2⟩
def Fn.d:Fd := { nt:=28,nv:=2,nm:=[0,1,2,3,6,7,8,9],res:=[5],cs:=λ k=>[(38,Bx.e k),(68,Dn.e k)],mv:=[27] }
def Fn.s (k:Nat):CK 45 (Fn.e k):=mS Fn.d k [] Try.func45 ⟨Bx.s k,Dn.s k,trivial⟩ trivial
def Co.e (k:Nat):Ent:=⟨2,[(.val true t9),(.val true t9)],[(.one,.b)],λ x=>Co x.1 x.2⟩
def Co.d:Fd := { nt:=32,nv:=2,nm:=[0,1,2,3],res:=[4] }
def Co.s (k:Nat):CK 69 (Co.e k):=mS Co.d k [] Try.func69 trivial trivial
def Ev.e (k:Nat):Ent:=⟨2,[(.val true t12),(.val true t12)],[(.one,.b)],λ x=>Ev x.1 x.2⟩
def Ev.d:Fd := { nt:=10,nv:=2,nm:=[0,1,2,3],res:=[4],cs:=λ k=>[(69,Co.e k)] }
def Ev.s (k:Nat):CK 46 (Ev.e k):=mS Ev.d k [] Try.func46 ⟨Co.s k,trivial⟩ trivial
def Fh.e (k:Nat):Ent:=⟨4,[(.val true t15),(.val false .s),(.val true t12),(.val false .b)],[(.agg,t17),(.one,(.i .i64))],λ x=>Fh k x.1 x.2.1 x.2.2.1 x.2.2.2⟩
def Fh.d:Fd := { nt:=82,nv:=4,nm:=[0,1,2,3,4,5,6,7,10,11,12,13,14,15],res:=[9],cs:=λ k=>[(7,Bj.e k),(16,B9.e k),(25,A9.e k),(42,Cv.e k),(43,Av.e k),(44,C5.e k),(45,Fn.e k),(46,Ev.e k),(47,Bu.e k)],mv:=[58,81] }
def Fh.s (k:Nat):CK 19 (Fh.e k):=mS Fh.d k [] Try.func19 ⟨Bj.s k,B9.s k,A9.s k,Cv.s k,Av.s k,C5.s k,Fn.s k,Ev.s k,Bu.s k,trivial⟩ trivial
def E6.e (k:Nat):Ent:=⟨1,[(.val true t9)],[(.agg,t9)],λ x=>E6 x⟩
def E6.d:Fd := { nt:=14,nv:=1,nm:=[0,1,3],res:=[],rf:=true }
def E6.s (k:Nat):CK 48 (E6.e k):=mS E6.d k [] Try.func48 trivial trivial
def D5.e (k:Nat):Ent:=⟨1,[(.val true t12)],[(.agg,t13)],λ x=>D5 k x⟩
def D5.d:Fd := { nt:=16,nv:=1,nm:=[0,1,3],res:=[],cs:=λ k=>[(9,C1.e k),(48,E6.e k)],mv:=[15],rf:=true }
def D5.s (k:Nat):CK 20 (D5.e k):=mS D5.d k [] Try.func20 ⟨C1.s k,E6.s k,trivial⟩ trivial
def Am.e (k:Nat):Ent:=⟨1,[(.val false t0)],[(.one,t1)],λ x=>Am x⟩
def Am.d:Fd := { nt:=5,nv:=1,nm:=[0,1],res:=[2] }
def Am.s (k:Nat):CK 34 (Am.e k):=mS Am.d k [] Try.func34 trivial trivial
def Aq.e (k:Nat):Ent:=⟨1,[(.val false t6)],[(.one,t7)],λ x=>Aq k x⟩
def Bg.p:LF:=⟨⟨[],[(3,t7),(6,t6),(7,(.i .i64)),(8,(.i .i64))]⟩,[((.exit 0),⟨[],[(3,t7)]⟩)],λ k x=>Bg k x.1 x.2.1 x.2.2.1 x.2.2.2⟩
def Aq.d:Fd := { nt:=23,nv:=1,nm:=[0,1,3,4,5],res:=[2],cs:=λ k=>[(34,Am.e k)],ls:=[(3,Bg.p)],hint:=[(19,t4),(20,t4)] }
def Aq.a (k:Nat):AC (Aq.d.cs k):=⟨Am.s k,trivial⟩
def Bg.s:LL Try.f58 Aq.d 3 Bg.p:=mL [] Aq.a trivial
def Aq.s (k:Nat):CK 58 (Aq.e k):=mS Aq.d k [3] Try.func58 (Aq.a k) ⟨Bg.s,trivial⟩
def A6.e (k:Nat):Ent:=⟨1,[(.val true t15)],[(.agg,t16)],λ x=>A6 k x⟩
def A6.d:Fd := { nt:=10,nv:=1,nm:=[0,1],res:=[],cs:=λ k=>[(58,Aq.e k)] }
def A6.s (k:Nat):CK 29 (A6.e k):=mS A6.d k [] Try.func29 ⟨Aq.s k,trivial⟩ trivial
def G3.e (k:Nat):Ent:=⟨3,[(.val false (.i .i64)),(.val false (.i .i64)),(.val false (.i .i64))],[(.one,.b)],λ x=>G3 x.1 x.2.1 x.2.2⟩
def G3.d:Fd := { nt:=15,nv:=3,nm:=[0,1,2,3,4,5],res:=[6] }
def G3.s (k:Nat):CK 60 (G3.e k):=mS G3.d k [] Try.func60 trivial trivial
def Ap.e (k:Nat):Ent:=⟨1,[(.val false .s)],[(.one,.b)],λ x=>Ap k x⟩
def Ad.p:LF:=⟨⟨[],[(0,.s),(3,(.i .i64))]⟩,[(.ret,⟨[],[(2,.b)]⟩),((.exit 0),⟨[],[(0,.s)]⟩)],λ k x=>Ad k x.1 x.2⟩
def Ap.d:Fd := { nt:=45,nv:=1,nm:=[0,1,3,4],res:=[2],cs:=λ k=>[(60,G3.e k)],ls:=[(2,Ad.p)] }
def Ap.a (k:Nat):AC (Ap.d.cs k):=⟨G3.s k,trivial⟩
def Ad.s:LL Try.f31 Ap.d 2 Ad.p:=mL [] Ap.a trivial
def Ap.s (k:Nat):CK 31 (Ap.e k):=mS Ap.d k [2] Try.func31 (Ap.a k) ⟨Ad.s,trivial⟩
def Bm.e (k:Nat):Ent:=⟨1,[(.val false t6)],[(.one,.b)],λ x=>Bm k x⟩
def Br.p:LF:=⟨⟨[],[(0,t6),(5,t6),(6,(.i .i64)),(7,(.i .i64))]⟩,[(.ret,⟨[],[(2,.b)]⟩),((.exit 0),⟨[],[(0,t6)]⟩)],λ k x=>Br k x.1 x.2.1 x.2.2.1 x.2.2.2⟩
def Bm.d:Fd := { nt:=41,nv:=1,nm:=[0,1,3,4],res:=[2],cs:=λ k=>[(31,Ap.e k)],ls:=[(2,Br.p)] }
def Bm.a (k:Nat):AC (Bm.d.cs k):=⟨Ap.s k,trivial⟩
def Br.s:LL Try.f59 Bm.d 2 Br.p:=mL [] Bm.a trivial
def Bm.s (k:Nat):CK 59 (Bm.e k):=mS Bm.d k [2] Try.func59 (Bm.a k) ⟨Br.s,trivial⟩
def C7.e (k:Nat):Ent:=⟨1,[(.val true t15)],[(.one,.b)],λ x=>C7 k x⟩
def C7.d:Fd := { nt:=11,nv:=1,nm:=[0,1],res:=[2],cs:=λ k=>[(59,Bm.e k)] }
def C7.s (k:Nat):CK 30 (C7.e k):=mS C7.d k [] Try.func30 ⟨Bm.s k,trivial⟩ trivial
def Fa.e (k:Nat):Ent:=⟨2,[(.val false t7),(.val true t4)],[(.one,t7)],λ x=>Fa k x.1 x.2⟩
def E9.p:LF:=⟨⟨[(3,(.bp 3 0 0)),(4999,(.hd 2))],[(0,t7),(5,(.i .i64)),(4000,.s),(4001,t1)]⟩,[((.exit 0),⟨[(3,(.bp 3 0 0)),(4999,(.hd 2))],[(0,t7),(5,(.i .i64)),(4000,.s),(4001,t1)]⟩)],λ k x=>E9 k x.1 x.2.1 x.2.2.1 x.2.2.2⟩
def Fa.d:Fd := { nt:=33,nv:=2,nm:=[0,1,2,3,5],res:=[4],ls:=[(2,E9.p)],hint:=[(25,t4),(27,t4),(28,t4),(32,t4)],gh:=[(4,[.sp 0 5 2900])] }
def E9.s:LL Try.f32 Fa.d 2 E9.p:=mL [] (λ _=>trivial) trivial
def Fa.s (k:Nat):CK 32 (Fa.e k):=mS Fa.d k [2] Try.func32 trivial ⟨E9.s,trivial⟩
def Fj.e (k:Nat):Ent:=⟨2,[(.val false t6),(.val false .s)],[(.one,(.i .i64))],λ x=>Fj k x.1 x.2⟩
def Ew.p:LF:=⟨⟨[],[(1,.s),(7,t6),(8,(.i .i64)),(9,(.i .i64))]⟩,[(.ret,⟨[],[(4,(.i .i64))]⟩),((.exit 0),⟨[],[]⟩)],λ k x=>Ew k x.1 x.2.1 x.2.2.1 x.2.2.2⟩
def Fj.d:Fd := { nt:=20,nv:=2,nm:=[0,1,2,3,5,6],res:=[4],ls:=[(2,Ew.p)] }
def Ew.s:LL Try.f40 Fj.d 2 Ew.p:=mL [] (λ _=>trivial) trivial
def Fj.s (k:Nat):CK 40 (Fj.e k):=mS Fj.d k [2] Try.func40 trivial ⟨Ew.s,trivial⟩
def Ek.e (k:Nat):Ent:=⟨2,[(.val false t7),(.val false .s)],[(.one,t7)],λ x=>Ek k x.1 x.2⟩
def Ek.d:Fd := { nt:=21,nv:=2,nm:=[0,1,2,3,5],res:=[4],cs:=λ k=>[(40,Fj.e k)],hint:=[(15,t4),(20,t4)],gh:=[(4,[.sp 0 5 2900])] }
def Ek.s (k:Nat):CK 33 (Ek.e k):=mS Ek.d k [] Try.func33 ⟨Fj.s k,trivial⟩ trivial
def Bl.e (k:Nat):Ent:=⟨3,[(.val true t15),(.val false .s),(.val false t0)],[(.agg,t16),(.one,.b)],λ x=>Bl k x.1 x.2.1 x.2.2⟩
def Bl.d:Fd := { nt:=42,nv:=3,nm:=[0,1,2,3,4,5,8],res:=[7],cs:=λ k=>[(29,A6.e k),(30,C7.e k),(31,Ap.e k),(32,Fa.e k),(33,Ek.e k),(34,Am.e k)],mv:=[24,41] }
def Bl.s (k:Nat):CK 10 (Bl.e k):=mS Bl.d k [] Try.func10 ⟨A6.s k,C7.s k,Ap.s k,Fa.s k,Ek.s k,Am.s k,trivial⟩ trivial
def Ba.e (k:Nat):Ent:=⟨2,[(.val true t15),(.val false .s)],[(.agg,t16),(.one,.b)],λ x=>Ba k x.1 x.2⟩
def Ba.d:Fd := { nt:=50,nv:=2,nm:=[0,1,2,3,6,7],res:=[5],cs:=λ k=>[(29,A6.e k),(30,C7.e k),(31,Ap.e k),(32,Fa.e k),(33,Ek.e k),(34,Am.e k),(40,Fj.e k)],mv:=[18,49] }
def Ba.s (k:Nat):CK 17 (Ba.e k):=mS Ba.d k [] Try.func17 ⟨A6.s k,C7.s k,Ap.s k,Fa.s k,Ek.s k,Am.s k,Fj.s k,trivial⟩ trivial
def Dp.e (k:Nat):Ent:=⟨1,[(.val true t9)],[(.one,.b)],λ x=>Dp x⟩
def Dp.d:Fd := { nt:=16,nv:=1,nm:=[0,1],res:=[2],cs:=λ k=>[(60,G3.e k)] }
def Dp.s (k:Nat):CK 75 (Dp.e k):=mS Dp.d k [] Try.func75 ⟨G3.s k,trivial⟩ trivial
def D6.e (k:Nat):Ent:=⟨1,[(.val true t12)],[(.one,.b)],λ x=>D6 x⟩
def D6.d:Fd := { nt:=23,nv:=1,nm:=[0,1],res:=[2],cs:=λ k=>[(75,Dp.e k)] }
def D6.s (k:Nat):CK 49 (D6.e k):=mS D6.d k [] Try.func49 ⟨Dp.s k,trivial⟩ trivial
def D7.e (k:Nat):Ent:=⟨2,[(.val true t15),(.val false .s)],[(.one,t1),(.one,.b)],λ x=>D7 k x.1 x.2⟩
def D7.d:Fd := { nt:=20,nv:=2,nm:=[0,1,2,3,6],res:=[4,5],cs:=λ k=>[(34,Am.e k),(40,Fj.e k)] }
def D7.s (k:Nat):CK 50 (D7.e k):=mS D7.d k [] Try.func50 ⟨Am.s k,Fj.s k,trivial⟩ trivial
def Bw.e (k:Nat):Ent:=⟨2,[(.val false t1),(.val false (.i .i64))],[(.one,t1)],λ x=>Bw k x.1 x.2⟩
def Cp.p:LF:=⟨⟨[],[(0,t1),(1,(.i .i64))]⟩,[((.exit 0),⟨[],[(0,t1),(1,(.i .i64))]⟩)],λ k x=>Cp k x.1 x.2⟩
def Bw.d:Fd := { nt:=24,nv:=2,nm:=[0,1,2,3],res:=[4],ls:=[(2,Cp.p)] }
def Cp.s:LL Try.f87 Bw.d 2 Cp.p:=mL [] (λ _=>trivial) trivial
def Bw.s (k:Nat):CK 87 (Bw.e k):=mS Bw.d k [2] Try.func87 trivial ⟨Cp.s,trivial⟩
def Dq.e (k:Nat):Ent:=⟨2,[(.val false t1),(.val false .s)],[(.one,t1)],λ x=>Dq k x.1 x.2⟩
def Dq.d:Fd := { nt:=11,nv:=2,nm:=[0,1,2,3],res:=[4],cs:=λ k=>[(87,Bw.e k)] }
def Dq.s (k:Nat):CK 79 (Dq.e k):=mS Dq.d k [] Try.func79 ⟨Bw.s k,trivial⟩ trivial
def Gt.e (k:Nat):Ent:=⟨1,[(.val false .b)],[(.one,(.i .i64))],λ x=>Gt x⟩
def Gt.d:Fd := { nt:=4,nv:=1,nm:=[0,1],res:=[2] }
def Gt.s (k:Nat):CK 88 (Gt.e k):=mS Gt.d k [] Try.func88 trivial trivial
def D8.e (k:Nat):Ent:=⟨3,[(.val false t1),(.val true t9),(.val false .b)],[(.one,t1)],λ x=>D8 k x.1 x.2.1 x.2.2⟩
def D8.d:Fd := { nt:=20,nv:=3,nm:=[0,1,2,3,4,5],res:=[6],cs:=λ k=>[(87,Bw.e k),(88,Gt.e k)] }
def D8.s (k:Nat):CK 80 (D8.e k):=mS D8.d k [] Try.func80 ⟨Bw.s k,Gt.s k,trivial⟩ trivial
def Fv.e (k:Nat):Ent:=⟨1,[(.val false t0)],[(.one,(.i .i64))],λ x=>Fv k x⟩
def Dz.p:LF:=⟨⟨[],[(3,(.i .u32)),(7,t0),(8,(.i .i64)),(9,(.i .i64)),(17,(.i .i64))]⟩,[((.exit 2),⟨[],[(3,(.i .u32)),(7,t0),(8,(.i .i64)),(9,(.i .i64))]⟩)],λ k x=>Dz k x.1 x.2.1 x.2.2.1 x.2.2.2.1 x.2.2.2.2⟩
def Ea.p:LF:=⟨⟨[],[(3,(.i .u32)),(7,t0),(8,(.i .i64)),(9,(.i .i64))]⟩,[((.exit 0),⟨[],[(3,(.i .u32))]⟩)],λ k x=>Ea k x.1 x.2.1 x.2.2.1 x.2.2.2⟩
def Fv.d:Fd := { nt:=32,nv:=1,nm:=[0,1,3,4,5,6],res:=[2],ls:=[(7,Dz.p),(3,Ea.p)] }
def Dz.s:LL Try.f81 Fv.d 7 Dz.p:=mL [] (λ _=>trivial) trivial
def Ea.s:LL Try.f81 Fv.d 3 Ea.p:=mL [7] (λ _=>trivial) ⟨Dz.s,trivial⟩
def Fv.s (k:Nat):CK 81 (Fv.e k):=mS Fv.d k [3] Try.func81 trivial ⟨Ea.s,trivial⟩
def Bv.e (k:Nat):Ent:=⟨1,[(.val true t12)],[(.one,t1)],λ x=>Bv k x⟩
def Bv.d:Fd := { nt:=33,nv:=1,nm:=[0,1,3,4],res:=[2],cs:=λ k=>[(49,D6.e k),(79,Dq.e k),(80,D8.e k),(81,Fv.e k)] }
def Bv.s (k:Nat):CK 53 (Bv.e k):=mS Bv.d k [] Try.func53 ⟨D6.s k,Dq.s k,D8.s k,Fv.s k,trivial⟩ trivial
def Cw.e (k:Nat):Ent:=⟨2,[(.val false t0),(.val false (.i .i64))],[(.one,(.i .i64)),(.one,(.i .i64)),(.one,.b)],λ x=>Cw k x.1 x.2⟩
def Cc.p:LF:=⟨⟨[],[(0,t0),(1,(.i .i64)),(7,(.i .i64)),(8,(.i .i64))]⟩,[(.ret,⟨[],[(4,(.i .i64)),(5,(.i .i64)),(6,.b)]⟩),((.exit 0),⟨[],[]⟩)],λ k x=>Cc k x.1 x.2.1 x.2.2.1 x.2.2.2⟩
def Cw.d:Fd := { nt:=57,nv:=2,nm:=[0,1,2,3,7,8,9],res:=[4,5,6],ls:=[(3,Cc.p)] }
def Cc.s:LL Try.f89 Cw.d 3 Cc.p:=mL [] (λ _=>trivial) trivial
def Cw.s (k:Nat):CK 89 (Cw.e k):=mS Cw.d k [3] Try.func89 trivial ⟨Cc.s,trivial⟩
def B4.e (k:Nat):Ent:=⟨1,[(.ptr t10 t10)],[(.one,(.i .i64))],λ x=>B4 k x⟩
def B4.d:Fd := { nt:=35,nv:=1,nm:=[0,1,3,4,5],res:=[2],cs:=λ k=>[(89,Cw.e k)] }
def B4.s (k:Nat):CK 85 (B4.e k):=mS B4.d k [] Try.func85 ⟨Cw.s k,trivial⟩ trivial
def Bh.e (k:Nat):Ent:=⟨1,[(.ptr t10 t10)],[(.agg,t9),(.one,.b)],λ x=>Bh k x⟩
def Bh.d:Fd := { nt:=31,nv:=1,nm:=[0,1,4,5],res:=[3],cs:=λ k=>[(85,B4.e k)] }
def Bh.s (k:Nat):CK 76 (Bh.e k):=mS Bh.d k [] Try.func76 ⟨B4.s k,trivial⟩ trivial
def Dr.e (k:Nat):Ent:=⟨2,[(.val false t0),(.val false (.i .i64))],[(.one,.s),(.one,(.i .i64)),(.one,.b)],λ x=>Dr k x.1 x.2⟩
def Dr.d:Fd := { nt:=37,nv:=2,nm:=[0,1,2,3,7,8,9],res:=[4,5,6],cs:=λ k=>[(89,Cw.e k)] }
def Dr.s (k:Nat):CK 86 (Dr.e k):=mS Dr.d k [] Try.func86 ⟨Cw.s k,trivial⟩ trivial
def Ax.e (k:Nat):Ent:=⟨1,[(.ptr t10 t10)],[(.one,.s)],λ x=>Ax k x⟩
def Ax.d:Fd := { nt:=35,nv:=1,nm:=[0,1,3,4,5],res:=[2],cs:=λ k=>[(86,Dr.e k)] }
def Ax.s (k:Nat):CK 77 (Ax.e k):=mS Ax.d k [] Try.func77 ⟨Dr.s k,trivial⟩ trivial
def Ds.e (k:Nat):Ent:=⟨1,[(.val false t0)],[(.agg,t12),(.one,.b)],λ x=>Ds k x⟩
def Ds.d:Fd := { nt:=41,nv:=1,nm:=[0,1,4,5,6],res:=[3],cs:=λ k=>[(53,Bv.e k),(76,Bh.e k),(77,Ax.e k)] }
def Ds.s (k:Nat):CK 51 (Ds.e k):=mS Ds.d k [] Try.func51 ⟨Bv.s k,Bh.s k,Ax.s k,trivial⟩ trivial
def Cq.e (k:Nat):Ent:=⟨2,[(.val true t9),(.val true t9)],[(.one,.b)],λ x=>Cq x.1 x.2⟩
def Cq.d:Fd := { nt:=32,nv:=2,nm:=[0,1,2,3],res:=[4] }
def Cq.s (k:Nat):CK 78 (Cq.e k):=mS Cq.d k [] Try.func78 trivial trivial
def Ey.e (k:Nat):Ent:=⟨2,[(.val true t12),(.val true t12)],[(.one,.b)],λ x=>Ey x.1 x.2⟩
def Ey.d:Fd := { nt:=10,nv:=2,nm:=[0,1,2,3],res:=[4],cs:=λ k=>[(78,Cq.e k)] }
def Ey.s (k:Nat):CK 52 (Ey.e k):=mS Ey.d k [] Try.func52 ⟨Cq.s k,trivial⟩ trivial
def Ez.e (k:Nat):Ent:=⟨4,[(.val true t15),(.val false .s),(.val true t12),(.val false .b)],[(.agg,t16),(.one,(.i .i64))],λ x=>Ez k x.1 x.2.1 x.2.2.1 x.2.2.2⟩
def Ez.d:Fd := { nt:=82,nv:=4,nm:=[0,1,2,3,4,5,6,7,10,11,12,13,14,15,16,17,18,19],res:=[9],cs:=λ k=>[(10,Bl.e k),(17,Ba.e k),(29,A6.e k),(30,C7.e k),(31,Ap.e k),(49,D6.e k),(50,D7.e k),(51,Ds.e k),(52,Ey.e k),(53,Bv.e k)],mv:=[67,79,80] }
def Ez.s (k:Nat):CK 21 (Ez.e k):=mS Ez.d k [] Try.func21 ⟨Bl.s k,Ba.s k,A6.s k,C7.s k,Ap.s k,D6.s k,D7.s k,Ds.s k,Ey.s k,Bv.s k,trivial⟩ trivial
def Dt.e (k:Nat):Ent:=⟨2,[(.val true t9),(.val true t9)],[(.one,.b)],λ x=>Dt x.1 x.2⟩
def Dt.d:Fd := { nt:=20,nv:=2,nm:=[0,1,2,3],res:=[4],rf:=true }
def Dt.s (k:Nat):CK 54 (Dt.e k):=mS Dt.d k [] Try.func54 trivial trivial
def Eb.e (k:Nat):Ent:=⟨2,[(.val true t12),(.val true t12)],[(.one,.b)],λ x=>Eb k x.1 x.2⟩
def Eb.d:Fd := { nt:=22,nv:=2,nm:=[0,1,2,3],res:=[4],cs:=λ k=>[(12,C3.e k),(54,Dt.e k)],rf:=true }
def Eb.s (k:Nat):CK 22 (Eb.e k):=mS Eb.d k [] Try.func22 ⟨C3.s k,Dt.s k,trivial⟩ trivial
def Ct.e (k:Nat):Ent:=⟨2,[(.io true t13),(.val false (.i .i64))],[(.one,(.i .i64))],λ x=>Ct k x.1 x.2⟩
def Ct.d:Fd := { nt:=10,nv:=2,nm:=[0,1,2,3],res:=[4],cs:=λ k=>[(14,B5.e k)],mv:=[0],rf:=true }
def Ct.s (k:Nat):CK 23 (Ct.e k):=mS Ct.d k [] Try.func23 ⟨B5.s k,trivial⟩ trivial
def Cd.e (k:Nat):Ent:=⟨4,[(.val true t14),(.val false .s),(.val true t12),(.val false .b)],[(.one,.b)],λ x=>Cd k x.1 x.2.1 x.2.2.1 x.2.2.2⟩
def Cd.d:Fd := { nt:=132,nv:=4,nm:=[0,1,2,3,4,5,6,7,9,10,11,12,13,14,15,16,17,18,19,20],res:=[8],cs:=λ k=>[(6,Em.e k),(8,Dc.e k),(11,Dd.e k),(13,Cf.e k),(15,Cg.e k),(18,Eo.e k),(19,Fh.e k),(20,D5.e k),(21,Ez.e k),(22,Eb.e k),(23,Ct.e k)],rf:=true }
def Cd.s (k:Nat):CK 5 (Cd.e k):=mS Cd.d k [] Try.func5 ⟨Em.s k,Dc.s k,Dd.s k,Cf.s k,Cg.s k,Eo.s k,Fh.s k,D5.s k,Ez.s k,Eb.s k,Ct.s k,trivial⟩ trivial
end

def Tot {α:Type} (f:Nat→Option α) (Q:α→Prop):Prop:=∃ r K,(∀ k,K≤k→f k=some r)∧Q r
section
variable {α β:Type} {f g:Nat→Option α} {Q Q':α→Prop}
def Tot.mono (h:Tot f Q) (hq:∀ a,Q a→Q' a):Tot f Q':=by
 obtain⟨r,K,h1,h2⟩:=h;exact⟨r,K,h1,hq r h2⟩
def Oea {a:α} (h:Q a):Tot (λ _=>some a) Q:=⟨a,0,λ _ _=>rfl,h⟩
def Opa {o:Option α} {a:α} (e:o=some a) (h:Q a):Tot (λ _=>o) Q:=⟨a,0,λ _ _=>e,h⟩
def Ofa {h:Nat→α→Option β} {R:β→Prop} (hf:Tot f Q) (hh:∀ a,Q a→Tot (λ k=>h k a) R):Tot (λ k=>(f k).bind (h k)) R:=by
 obtain⟨a,K,h1,h2⟩:=hf;obtain⟨b,L,h3,h4⟩:=hh a h2;exact⟨b,max K L,λ k hk=>by show (f k).bind (h k)=_;rw[h1 k (by omega)];exact h3 k (by omega),h4⟩
def Oha {c:Bool} (hc:c=true) (h:Tot f Q):Tot (λ k=>cond c (f k) (g k)) Q:=by subst hc;exact h
def Oga {c:Bool} (hc:c=false) (h:Tot g Q):Tot (λ k=>cond c (f k) (g k)) Q:=by subst hc;exact h
def Oka {c:Bool} (h1:c=true→Tot f Q) (h2:c=false→Tot g Q):Tot (λ k=>cond c (f k) (g k)) Q:=by
 cases hc:c with
 |true=>exact h1 hc
 |false=>exact h2 hc
def Oia {p:Prop} [Decidable p] (hp:p) (h:Tot f Q):Tot (λ k=>cond (decide p) (f k) (g k)) Q:=Oha (decide_eq_true hp) h
def Oja {p:Prop} [Decidable p] (hp:¬ p) (h:Tot g Q):Tot (λ k=>cond (decide p) (f k) (g k)) Q:=Oga (decide_eq_false hp) h
def Ola {p:Prop} [Decidable p] (h1:p→Tot f Q) (h2:¬ p→Tot g Q):Tot (λ k=>cond (decide p) (f k) (g k)) Q:=
 Oka (λ h=>h1 (of_decide_eq_true h)) (λ h=>h2 (of_decide_eq_false h))
def Oma {m n:Nat} (hp:m≤n) (h:Tot f Q):Tot (λ k=>cond (Nat.ble m n) (f k) (g k)) Q:=Oha (Yq hp) h
def Ooa {v:α} {h:Nat→α→Option β} {R:β→Prop} (hf:Tot f (λ r=>r=v)) (hh:Tot (λ k=>h k v) R):Tot (λ k=>(f k).bind (h k)) R:=
 Ofa hf (by rintro r rfl;exact hh)
def Tot.succ (h:Tot (λ k=>f (k+1)) Q):Tot f Q:=by
 obtain⟨r,K,h1,h2⟩:=h;exact⟨r,K+1,λ k hk=>by obtain⟨m,rfl⟩:∃ m,k=m+1:=⟨k-1,by omega⟩;exact h1 m (by omega),h2⟩
def Tot.and (h:Tot f Q) (h':Tot f Q'):Tot f (λ a=>Q a∧Q' a):=by
 obtain⟨r,K,h1,h2⟩:=h;obtain⟨r',K',h1',h2'⟩:=h'
 have e:r=r':=by
  have a1:=h1 (max K K') (by omega);have a2:=h1' (max K K') (by omega);rw[a1]at a2;exact Q5a a2
 subst e;exact⟨r,K,h1,h2,h2'⟩
def Tot.law {f:Nat→Option Bool} (h:Tot f (λ b=>b=true)):∃ k,f k=some true:=by
 obtain⟨r,K,h1,h2⟩:=h;subst h2;exact⟨K,h1 K (Vo _)⟩
end
def w64 {n:Int} (h1 : -9223372036854775808≤n) (h2:n≤9223372036854775807):wrap .i64 n=n:=Go.IntWalk.i64_in n ⟨h1,h2⟩
def Eha (n:Int):0≤wrap .u8 n∧wrap .u8 n≤255:=by
 simp only[wrap,IntKind.signed,IntKind.bits];simp;omega

def Aw (l:List Int):Prop:=∀ x∈l,0≤x∧x≤255
abbrev Stp:=Int×Int×Int
abbrev Row:=ByteArray×Stp×Bool×Int
abbrev Fil:=Stp×Bool×List Int

def Ti:∀ (a:List UInt8),Op.bytesLess a a=false
 |[]=>rfl
 |a::l=>by simp[Op.bytesLess,Ti l]
def Z4:∀ (a b c:List UInt8),Op.bytesLess a b=true→Op.bytesLess b c=true→Op.bytesLess a c=true
 |_,[],_,h,_=>by simp[Op.bytesLess]at h
 |_,_::_,[],_,h=>by simp[Op.bytesLess]at h
 |[],_::_,_::_,_,_=>rfl
 |a::x,b::y,c::z,h1,h2=>by
  simp only[Op.bytesLess,Owa,Va,decide_eq_true_eq,beq_iff_eq]at h1 h2 ⊢;rcases h1 with h1|⟨rfl,h1⟩
  ·rcases h2 with h2|⟨rfl,h2⟩
   ·exact .inl (UInt8.lt_trans h1 h2)
   ·exact .inl h1
  ·rcases h2 with h2|⟨rfl,h2⟩
   ·exact .inl h2
   ·exact .inr ⟨rfl,Z4 x y z h1 h2⟩
def Iia:∀ (a b:List UInt8),Op.bytesLess a b=false→Op.bytesLess b a=false→a=b
 |[],[],_,_=>rfl
 |[],_::_,h,_=>by simp[Op.bytesLess]at h
 |_::_,[],_,h=>by simp[Op.bytesLess]at h
 |a::x,b::y,h1,h2=>by
  simp only[Op.bytesLess,Bool.or_eq_false_iff,Bool.and_eq_false_iff,decide_eq_false_iff_not]at h1 h2
  have hab:a=b:=by
   have h3:=UInt8.not_lt.1 h1.1;have h4:=UInt8.not_lt.1 h2.1;exact UInt8.le_antisymm h4 h3
  subst hab;rw[Iia x y (h1.2.resolve_left (by simp)) (h2.2.resolve_left (by simp))]
def tlt (a b:ByteArray):Bool:=Op.bytesLess a.toList b.toList
def teq (a b:ByteArray):Bool:=a.toList==b.toList
def Py {a b:ByteArray} (h:a.toList=b.toList):a=b:=by
 rw[ByteArray.toList_eq,ByteArray.toList_eq]at h;obtain⟨⟨x⟩⟩:=a;obtain⟨⟨y⟩⟩:=b;simp only at h;rw[h]
def Ij {a b:ByteArray}:teq a b=true↔a=b:=by
 unfold teq;rw[beq_iff_eq];exact⟨Py,λ h=>by rw[h]⟩
def Mh (a:ByteArray):tlt a a=false:=Ti _
def Om {a b c:ByteArray} (h:tlt a b=true) (h':tlt b c=true):tlt a c=true:=Z4 _ _ _ h h'
def K9a {a b:ByteArray} (h:tlt a b=false) (h':tlt b a=false):a=b:=Py (Iia _ _ h h')
def Eia {a b:ByteArray} (h:tlt a b=true):tlt b a=false:=by
 cases hb:tlt b a
 ·rfl
 have:=Om h hb;rw[Mh]at this;cases this
def sle (a b:Stp):Bool:=cond (a.1 != b.1) (decide (a.1<b.1)) (cond (a.2.1 != b.2.1) (decide (a.2.1<b.2.1)) (decide (a.2.2<b.2.2)))
def Hca (a b:Stp):Co a b=some (sle a b):=by
 unfold Co sle
 cases a.1 != b.1<;>cases a.2.1 != b.2.1<;>rfl
def Hda (a b:Stp):Cq a b=some (sle a b):=by
 unfold Cq sle
 cases a.1 != b.1<;>cases a.2.1 != b.2.1<;>rfl
def Nda (a b:Row):Bool:=cond (!((a.2.1.1==b.2.1.1)&&((a.2.1.2.1==b.2.1.2.1)&&(a.2.1.2.2==b.2.1.2.2)))) (sle a.2.1 b.2.1) (cond (!(a.2.2.1==b.2.2.1)) b.2.2.1 (decide (a.2.2.2<b.2.2.2)))
def Fs {α:Type} {l:List α} {i:Nat} {d:α} (h:i<l.length):l.drop i=l.getD i d::l.drop (i+1):=by
 rw[Yi h,Vn,Vp h];rfl

section
open Go
end

def inR (n lo hi:Int):Bool:=decide (n≥lo)&&decide (n≤hi)
def Ija (n lo hi:Int):G3 n lo hi=some (inR n lo hi):=by
 unfold G3 inR
 cases decide (n≥lo)<;>rfl
def Eja (n lo hi:Int):Da n lo hi=some (inR n lo hi):=by
 unfold Da inR
 cases decide (n≥lo)<;>rfl
def Kaa {n lo hi:Int}:inR n lo hi=true↔lo≤n∧n≤hi:=by
 unfold inR;simp
def Lq (c:Int):Bool:=inR c 97 122||(inR c 48 57||(!(c != 45)||(!(c != 95)||!(c != 47))))
def Hq (s:ByteArray):Prop:=s.size≤4611686018427387904
def Ik (s:ByteArray):s.data.toList.length=s.size:=Yh
def Eka (s:ByteArray) (i:Int):0≤bt s i∧bt s i≤255:=by
 unfold bt;have:=(s.data.toList.getD i.toNat 0).toNat_lt;omega
def Maa (s:ByteArray) (i:Nat) (h:i<s.size):bt s (i:Int)=((s.data.toList[i]'(by rw[Ik];exact h)).toNat:Int):=by
 unfold bt;rw[Vq,Vn,Vp (by rw[Ik];exact h)];rfl
def bOk (b:UInt8):Bool:=Lq (b.toNat:Int)
def W3 (s:ByteArray) (hs:Hq s):∀ (n i:Nat),s.size-i=n→i≤s.size→
  Tot (λ k=>Ad k s (i:Int)) (λ r=>r=bif (s.data.toList.drop i).all bOk then .inr s else .inl false):=by
 unfold Hq at hs;have hsz:=Ik s;intro n
 induction n with
 |zero=>
  intro i hn hi;refine Tot.succ ?_;simp only[Ad];refine Oja (by omega) (Oea ?_);rw[Wo (by omega)];rfl
 |succ n ih=>
  intro i hn hi
  have hlt:i<s.size:=by omega
  refine Tot.succ ?_;simp only[Ad];refine Oia (by omega) (Oia (by omega) (Oia (by omega) ?_));rw[w64 (n:=(i:Int)+1) (by omega) (by omega)]
  have hb:bOk (s.data.toList[i]'(by omega))=Lq (bt s (i:Int)):=by rw[Maa s i hlt];rfl
  rw[Yi (by omega),Pza,hb];generalize bt s (i:Int)=c;have h1:=ih (i+1) (by omega) (by omega)
  have e:(((i+1:Nat)):Int)=(i:Int)+1:=by omega
  rw[e]at h1
  cases hc:Lq c with
  |true=>
   rw[Ym];refine h1.mono (λ r hr=>hr) |> λ h=>?_;obtain⟨r,K,h2,h3⟩:=h;refine⟨r,K,λ k hk=>?_,h3⟩;rw[← h2 k hk];unfold Lq inR at hc
   revert hc
   cases decide (c≥97)<;>cases decide (c≤122)<;>cases decide (c≥48)<;>cases decide (c≤57)<;>cases (c != 45)<;>cases (c != 95)<;>cases (c != 47)<;>first|(intro _;rfl)|(intro hc;cases hc)
  |false=>
   rw[Pva];refine⟨.inl false,0,λ k _=>?_,rfl⟩;unfold Lq inR at hc
   revert hc
   cases decide (c≥97)<;>cases decide (c≤122)<;>cases decide (c≥48)<;>cases decide (c≤57)<;>cases (c != 45)<;>cases (c != 95)<;>cases (c != 47)<;>first|(intro _;rfl)|(intro hc;cases hc)
def W4 (s:ByteArray) (hs:Hq s):∀ (n i:Nat),s.size-i=n→i≤s.size→
  Tot (λ k=>B6 k s (i:Int)) (λ r=>r=bif (s.data.toList.drop i).all bOk then .inr s else .inl false):=by
 unfold Hq at hs;have hsz:=Ik s;intro n
 induction n with
 |zero=>
  intro i hn hi;refine Tot.succ ?_;simp only[B6];refine Oja (by omega) (Oea ?_);rw[Wo (by omega)];rfl
 |succ n ih=>
  intro i hn hi
  have hlt:i<s.size:=by omega
  have hbb:=Eka s (i:Int);refine Tot.succ ?_;simp only[B6];refine Oia (by omega) (Oia (by omega) (Oia (by omega) ?_));rw[w64 (n:=(i:Int)+1) (by omega) (by omega),w64 (n:=bt s (i:Int)) (by omega) (by omega)]
  have hb:bOk (s.data.toList[i]'(by omega))=Lq (bt s (i:Int)):=by rw[Maa s i hlt];rfl
  rw[Yi (by omega),Pza,hb];generalize bt s (i:Int)=c;have h1:=ih (i+1) (by omega) (by omega)
  have e:(((i+1:Nat)):Int)=(i:Int)+1:=by omega
  rw[e]at h1;simp only[Eja,Vy]
  cases hc:Lq c with
  |true=>
   rw[Ym];obtain⟨r,K,h2,h3⟩:=h1;refine⟨r,K,λ k hk=>?_,h3⟩;rw[← h2 k hk];unfold Lq at hc
   revert hc
   cases inR c 97 122<;>cases inR c 48 57<;>cases (c != 45)<;>cases (c != 95)<;>cases (c != 47)<;>first|(intro _;rfl)|(intro hc;cases hc)
  |false=>
   rw[Pva];refine⟨.inl false,0,λ k _=>?_,rfl⟩;unfold Lq at hc
   revert hc
   cases inR c 97 122<;>cases inR c 48 57<;>cases (c != 45)<;>cases (c != 95)<;>cases (c != 47)<;>first|(intro _;rfl)|(intro hc;cases hc)
def Db (s:ByteArray):Bool:=s.data.toList.all bOk&&inR (s.size:Int) 1 20
def Nf (s:ByteArray) (hs:Hq s):Tot (λ k=>Ap k s) (λ r=>r=Db s):=by
 unfold Ap Db;refine Ooa (W3 s hs _ 0 rfl (Wh _)) ?_;rw[Wj]
 cases s.data.toList.all bOk with
 |true=>exact Opa (a:=inR (s.size:Int) 1 20) (by simp only[cond_true,Sum.elim_inr,Ija,Vy]) (by rw[Ym])
 |false=>exact Oea rfl
def Rl (s:ByteArray) (hs:Hq s):Tot (λ k=>Av k s) (λ r=>r=Db s):=by
 unfold Av Db;refine Ooa (W4 s hs _ 0 rfl (Wh _)) ?_;rw[Wj]
 cases s.data.toList.all bOk with
 |true=>exact Opa (a:=inR (s.size:Int) 1 20) (by simp only[cond_true,Sum.elim_inr,Eja,Vy]) (by rw[Ym])
 |false=>exact Oea rfl
def Ja (s:Stp):Bool:=inR s.1 0 1000000000&&(inR s.2.1 0 1000000&&inR s.2.2 0 20)
def Ela (s:Stp):Dp s=some (Ja s):=by
 unfold Dp Ja;simp only[Ija,Vy]
 cases inR s.1 0 1000000000<;>cases inR s.2.1 0 1000000<;>rfl
def Ema (s:Stp):Dj s=some (Ja s):=by
 unfold Dj Ja;simp only[Eja,Vy]
 cases inR s.1 0 1000000000<;>cases inR s.2.1 0 1000000<;>rfl
def Du {α:Type} {l:List α} {i:Nat} {d:α} (h1:i<l.length):l.getD i d∈l:=by
 rw[Vn,Vp h1];exact Q3a h1
def mx (a b:Row):Row:=bif Nda a b then b else a

def Rt:Nat→Nat→List Int
 |0,n=>[(n:Int)]
 |f+1,n=>if n≤127 then [(n:Int)] else ((n % 128+128:Nat):Int)::Rt f (n/128)
def U5 (n:Nat):List Int:=Rt 4 n
def P6:Nat→Nat→Nat→List Int→Option (Nat×Nat)
 |0,_,_,_=>none
 |_+1,_,_,[]=>none
 |f+1,k,acc,x::l=>if 128≤x then P6 f (k+1) (acc+x.toNat % 128*128 ^ k) l
  else if (x=0∧0<k)∨1000000000<acc+x.toNat % 128*128 ^ k then none else some (acc+x.toNat % 128*128 ^ k,k+1)
def Il (l:List Int) (p:Nat):Option (Nat×Nat):=match P6 5 0 0 (l.drop p) with
 |some (n,c)=>some (n,p+c)
 |none=>none
def Ena:∀ (f n:Nat),(Rt f n).length≤f+1∧0<(Rt f n).length
 |0,n=>by simp[Rt]
 |f+1,n=>by
  unfold Rt;split
  ·simp
  ·have:=Ena f (n/128);simp only[Vg];omega
def Kj:∀ (f k acc:Nat) (l:List Int) (n c:Nat),Aw l→P6 f k acc l=some (n,c)→acc<128 ^ k→k<c∧c≤k+f∧c-k≤l.length∧n≤1000000000
 |0,_,_,_,_,_,_,h,_=>by simp[P6]at h
 |_+1,_,_,[],_,_,_,h,_=>by simp[P6]at h
 |f+1,k,acc,x::l,n,c,hb,h,ha=>by
  have hx:=hb x (by simp);unfold P6 at h;split at h
  ·have h1:acc+x.toNat % 128*128 ^ k<128 ^ (k+1):=by
    have h2:x.toNat % 128≤127:=by omega
    have h3:=Wa (128 ^ k) h2;rw[Zi];omega
   have:=Kj f (k+1) _ l n c (λ y hy=>hb y (Ve _ hy)) h h1;simp only[Vg];omega
  ·split at h
   ·cases h
   ·simp only[Vc,Vu]at h;obtain⟨rfl,rfl⟩:=h;simp only[Vg];omega
def Eoa:∀ (f k acc:Nat) (l:List Int) (n c:Nat),Aw l→P6 (f+1) k acc l=some (n,c)→acc<128 ^ k→∃ m,n=acc+m*128 ^ k∧l=Rt f m++l.drop (c-k)∧(m=0→c=k+1∧(0<k→False))∧m<128 ^ (f+1)
 |0,k,acc,[],n,c,hb,h,ha=>by simp[P6]at h
 |_+1,k,acc,[],n,c,hb,h,ha=>by simp[P6]at h
 |0,k,acc,x::l,n,c,hb,h,ha=>by
  have hx:=hb x (by simp);unfold P6 at h;split at h
  ·simp[P6]at h
  ·rename_i h128;split at h
   ·cases h
   ·rename_i hz;simp only[Vc,Vu]at h;obtain⟨rfl,rfl⟩:=h;have hm:x.toNat % 128=x.toNat:=Q2a (by omega);refine⟨x.toNat,by rw[hm],?_,λ h0=>⟨rfl,λ hk=>hz (.inl ⟨by omega,hk⟩)⟩,by omega⟩;rw[show k+1-k=1 by omega];show x::l=[((x.toNat:Nat):Int)]++l;rw[show ((x.toNat:Nat):Int)=x by omega];rfl
 |f+1,k,acc,x::l,n,c,hb,h,ha=>by
  have hx:=hb x (by simp);have hb':Aw l:=λ y hy=>hb y (Ve _ hy);unfold P6 at h;split at h
  ·rename_i h128
   have h1:acc+x.toNat % 128*128 ^ k<128 ^ (k+1):=by
    have h2:x.toNat % 128≤127:=by omega
    have h3:=Wa (128 ^ k) h2;rw[Zi];omega
   obtain⟨m,e1,e2,e3,e4⟩:=Eoa f (k+1) _ l n c hb' h h1;have hbd:=Kj (f+1) (k+1) _ l n c hb' h h1;have hm0:m≠0:=λ h0=>(e3 h0).2 (by omega);refine⟨x.toNat % 128+m*128,?_,?_,λ h0=>by omega,?_⟩
   ·rw[e1,Zi,Yg]
    have:m*128*128 ^ k=m*(128 ^ k*128):=by rw[Nat.mul_assoc,Qga 128]
    omega
   ·unfold Rt;rw[if_neg (by omega),show (x.toNat % 128+m*128)/128=m by omega,show (x.toNat % 128+m*128) % 128=x.toNat % 128 by omega,show c-k=(c-(k+1))+1 by omega,List.drop_succ_cons,List.cons_append,← e2];congr 1;omega
   ·rw[Zi];omega
  ·rename_i h128;split at h
   ·cases h
   ·rename_i hz;simp only[Vc,Vu]at h;obtain⟨rfl,rfl⟩:=h;have hm:x.toNat % 128=x.toNat:=Q2a (by omega)
    have hp:128≤128 ^ (f+1+1):=by
     have:=Nat.pow_le_pow_right (show 0<128 by decide) (show 1≤f+1+1 by omega)
     simpa using this
    refine⟨x.toNat,by rw[hm],?_,λ h0=>⟨rfl,λ hk=>hz (.inl ⟨by omega,hk⟩)⟩,by omega⟩;rw[show k+1-k=1 by omega];unfold Rt;rw[if_pos (by omega)];show x::l=[((x.toNat:Nat):Int)]++l;rw[show ((x.toNat:Nat):Int)=x by omega];rfl
def Kk {l:List Int} {p n q:Nat} (hb:Aw l) (h:Il l p=some (n,q)):l.drop p=U5 n++l.drop q∧n≤1000000000∧p<q∧q≤l.length:=by
 unfold Il at h;split at h
 ·rename_i m c hd;simp only[Vc,Vu]at h;obtain⟨rfl,rfl⟩:=h;have hb':Aw (l.drop p):=λ y hy=>hb y (Zk hy);have hbd:=Kj 5 0 0 _ _ _ hb' hd (by decide);obtain⟨m',e1,e2,_,_⟩:=Eoa 4 0 0 _ _ _ hb' hd (by decide)
  have e3:m=m':=by rw[e1];simp
  subst e3;rw[Vx]at hbd;refine⟨?_,hbd.2.2.2,by omega,by omega⟩;rw[Pga,Wn]at e2;exact e2
 ·cases h
def O6a (i:Nat) (hi:i<5):(2:Int) ^ (min (toNat (wrap .i64 (7*(i:Int)))) (IntKind.bits .i64))=((128 ^ i:Nat):Int):=by
 have:i=0∨i=1∨i=2∨i=3∨i=4:=by omega
 rcases this with rfl|rfl|rfl|rfl|rfl<;>decide
def Nea (i:Nat) (hi:i<5):(2:Int) ^ (min (toNat (wrap .u64 (wrap .i64 (7*(i:Int))))) (IntKind.bits .i64))=((128 ^ i:Nat):Int):=by
 have:i=0∨i=1∨i=2∨i=3∨i=4:=by omega
 rcases this with rfl|rfl|rfl|rfl|rfl<;>decide
def sh7 (i:Nat) (hi:i<5):¬ (wrap .i64 (7*(i:Int))<0)∧¬ (wrap .u64 (wrap .i64 (7*(i:Int)))<0):=by
 have:i=0∨i=1∨i=2∨i=3∨i=4:=by omega
 rcases this with rfl|rfl|rfl|rfl|rfl<;>decide
def I1 (i:Nat) (hi:i≤5):128 ^ i≤34359738368:=by
 have:=Nat.pow_le_pow_right (show 0<128 by decide) hi
 simpa using this
def Lr (n:Nat) (h:n<18446744073709551616):(ofInt (IntKind.bits .i64) (n:Int)).toNat=n:=by
 rw[BitVec.toNat_ofInt];show ((n:Int) % ((2 ^ 64:Nat):Int)).toNat=n;rw[Int.emod_eq_of_lt (by omega) (by omega)];exact Vq n
def Ika (n:Nat) (h:n<9223372036854775808):wrap .i64 ((ofInt (IntKind.bits .i64) (n:Int) &&& ofInt (IntKind.bits .i64) 127).toNat)=((n % 128:Nat):Int):=by
 rw[Q4a,Lr n (by omega),show (ofInt (IntKind.bits .i64) 127).toNat=127 from by decide,show (127:Nat)=2 ^ 7-1 from rfl,Nat.and_two_pow_sub_one_eq_mod];exact w64 (by omega) (by omega)
def Z5 (a m i:Nat) (ha:a<128 ^ i) (hm:m<128) (hi:i<5):wrap .i64 ((ofInt (IntKind.bits .i64) (a:Int) ||| ofInt (IntKind.bits .i64) ((m*128 ^ i:Nat):Int)).toNat)=((a+m*128 ^ i:Nat):Int):=by
 have hp:=I1 i (by omega);have hmul:m*128 ^ i≤127*34359738368:=Qda (by omega) hp;rw[BitVec.toNat_or,Lr a (by omega),Lr _ (by omega),Nat.or_comm]
 have e:(128:Nat) ^ i=2 ^ (7*i):=by rw[Nat.pow_mul]
 have h2:=Nat.two_pow_add_eq_or_of_lt (i:=7*i) (b:=a) (by rw[← e];exact ha) m;rw[← e,Qga]at h2;rw[← h2,Zd];exact w64 (by omega) (by omega)
def W5 (l:List Int) (p:Int):Int×Int×Bool:=if p<0 then (0,0,false) else match Il l p.toNat with
 |some (n,q)=>((n:Int),(q:Int),true)
 |none=>(0,0,false)
def N0a (p:Nat):Option (Nat×Nat)→Int×Int×Bool
 |some (n,c)=>((n:Int),((p+c:Nat):Int),true)
 |none=>(0,0,false)
def On (r:Sum (Int×Int×Bool) Unit):Int×Int×Bool:=Sum.elim (λ y=>y) (λ _=>(0,0,false)) r
def Tj {l:List Int} {p:Nat} (h:p<l.length):l.drop p=l.getD p 0::l.drop (p+1):=Fs h
def B2a (l:List Int) (hb:Aw l) (hl:l.length≤1000000000000) (p:Nat) (hp:p≤1000000000000):∀ (f i acc:Nat),f+i=5→acc<128 ^ i→
  Tot (λ k=>Cc k l (p:Int) (acc:Int) (i:Int)) (λ r=>On r=N0a p (P6 f i acc (l.drop (p+i)))):=by
 intro f
 induction f with
 |zero=>
  intro i acc hi ha;refine Tot.succ ?_;simp only[Cc];exact Oja (by omega) (Oea rfl)
 |succ f ih=>
  intro i acc hi ha
  have hi5:i<5:=by omega
  refine Tot.succ ?_;simp only[Cc];refine Oia (by omega) (Oia (by omega) ?_);rw[w64 (n:=(l.length:Int)-(i:Int)) (by omega) (by omega),w64 (n:=(p:Int)+(i:Int)) (by omega) (by omega),show toNat ((p:Int)+(i:Int))=p+i by omega];refine Ola (λ h=>?_) (λ h=>?_)
  ·have hlt:p+i<l.length:=by omega
   refine Oia (by omega) (Oia (by omega) ?_);have hx:=hb (l.getD (p+i) 0) (Du hlt);rw[Tj hlt,O6a i hi5]
   have he:P6 (f+1) i acc (l.getD (p+i) 0::l.drop (p+i+1))=if 128≤l.getD (p+i) 0 then P6 f (i+1) (acc+(l.getD (p+i) 0).toNat % 128*128 ^ i) (l.drop (p+i+1)) else if (l.getD (p+i) 0=0∧0<i)∨1000000000<acc+(l.getD (p+i) 0).toNat % 128*128 ^ i then none else some (acc+(l.getD (p+i) 0).toNat % 128*128 ^ i,i+1):=rfl
   rw[he];generalize l.getD (p+i) 0=x at hx ⊢;obtain⟨v,rfl⟩:∃ v:Nat,x=(v:Int):=⟨x.toNat,by omega⟩;rw[Vq];have hp1:=I1 i (by omega);have hmul:v % 128*128 ^ i≤127*34359738368:=Qda (by omega) hp1;rw[w64 (n:=(v:Int)) (by omega) (by omega)]
   have e1:Int.tmod (v:Int) 128*((128 ^ i:Nat):Int)=((v % 128*128 ^ i:Nat):Int):=by
    rw[Pma (by omega)]
    push_cast
    rfl
   rw[e1,w64 (n:=((v % 128*128 ^ i:Nat):Int)) (by omega) (by omega),← Int.natCast_add,w64 (n:=((acc+v % 128*128 ^ i:Nat):Int)) (by omega) (by omega),w64 (n:=(i:Int)+1) (by omega) (by omega),w64 (n:=(p:Int)+(i:Int)+1) (by omega) (by omega)];refine Oja (sh7 i hi5).1 ?_;refine Ola (λ h128=>?_) (λ h128=>?_)
   ·rw[if_pos (by omega)]
    have h1:acc+v % 128*128 ^ i<128 ^ (i+1):=by
     have h2:v % 128≤127:=by omega
     have h3:=Wa (128 ^ i) h2;rw[Zi];omega
    have:=ih (i+1) (acc+v % 128*128 ^ i) (by omega) h1;rw[show p+(i+1)=p+i+1 by omega]at this;exact this
   ·rw[if_neg (by omega)]
    have big:Tot (λ _:Nat=>cond (decide (((acc+v % 128*128 ^ i:Nat):Int) > 1000000000)) (some (Sum.inl ((0:Int),(0:Int),false))) (some (Sum.inl (((acc+v % 128*128 ^ i:Nat):Int),(p:Int)+(i:Int)+1,true))):Nat→Option (Sum (Int×Int×Bool) Unit))
      (λ r=>On r=if 1000000000<acc+v % 128*128 ^ i then (0,0,false) else (((acc+v % 128*128 ^ i:Nat):Int),((p+(i+1):Nat):Int),true)):=by
     refine Ola (λ hbig=>?_) (λ hbig=>?_)
     ·rw[if_pos (by omega)];exact Oea rfl
     ·rw[if_neg (by omega)];refine Oea ?_;show (_,_,_)=_;rw[show (p:Int)+(i:Int)+1=((p+(i+1):Nat):Int) by omega]
    have goal:∀ c:Prop,[Decidable c]→(if c∨1000000000<acc+v % 128*128 ^ i then none else some (acc+v % 128*128 ^ i,i+1))=if c then none else if 1000000000<acc+v % 128*128 ^ i then (none:Option (Nat×Nat)) else some (acc+v % 128*128 ^ i,i+1):=by
     intro c _
     by_cases h1:c<;>by_cases h2:1000000000<acc+v % 128*128 ^ i<;>simp[h1,h2]
    rw[goal]
    have fin:(N0a p (if 1000000000<acc+v % 128*128 ^ i then (none:Option (Nat×Nat)) else some (acc+v % 128*128 ^ i,i+1)))=if 1000000000<acc+v % 128*128 ^ i then (0,0,false) else (((acc+v % 128*128 ^ i:Nat):Int),((p+(i+1):Nat):Int),true):=by
     split<;>rfl
    refine Oka (λ h0=>?_) (λ h0=>?_)
    ·have hv:v=0:=by
      have:=beq_iff_eq.1 h0;omega
     refine Ola (λ hi0=>?_) (λ hi0=>?_)
     ·rw[if_pos ⟨by omega,by omega⟩];exact Oea rfl
     ·rw[if_neg (by omega),fin];exact big
    ·have hv:v≠0:=by
      intro e;subst e;simp at h0
     rw[if_neg (by omega),fin];exact big
  ·refine Oea ?_;rw[Wo (by omega)];rfl
def Epa (l:List Int) (hb:Aw l) (hl:l.length≤1000000000000) (p:Int) (hp:p≤1000000000000):Tot (λ k=>Cw k l p) (λ r=>r=W5 l p):=by
 unfold Cw W5
 by_cases h0:p<0
 ·rw[if_pos h0];refine Ofa (Q:=λ r=>r = .inr ()) ?_ ?_
  ·refine Tot.succ ?_;simp only[Cc];exact Oia (by omega) (Oja (by omega) (Oea rfl))
  ·rintro r rfl;exact Oea rfl
 ·rw[if_neg h0];obtain⟨n,rfl⟩:∃ n:Nat,p=(n:Int):=⟨p.toNat,by omega⟩;rw[Vq];refine Ofa (B2a l hb hl n (by omega) 5 0 0 rfl (by decide)) ?_;intro r hr;unfold Il;rw[Yt]at hr
  have hr':On r=(match (match P6 5 0 0 (l.drop n) with|some (m,c)=>some (m,n+c)|none=>none) with|some (m,q)=>((m:Int),(q:Int),true)|none=>((0:Int),(0:Int),false)):=by
   rw[hr]
   cases P6 5 0 0 (l.drop n) with
   |none=>rfl
   |some mc=>rfl
  rw[← hr']
  cases r with
  |inl y=>exact Oea rfl
  |inr z=>exact Oea rfl

end Go.Proofs.Ytbbifgjgneefkaa.Vf
