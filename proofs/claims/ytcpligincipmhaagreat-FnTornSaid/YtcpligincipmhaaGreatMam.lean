import Derived.Test.YtcpligincipmhaaGreatMal
set_option linter.all false
namespace Go.Proofs.YtcpligincipmhaaGreat.Vf
open Go
open List (length getD)
open Int (toNat)
open Go.IntKind (wrap)
open BitVec (ofInt)
def Zf:=@List.mem_range
def Akb:=@List.pairwise_singleton
def Bnb:=@List.drop_append_of_le_length
def Bob:=@List.take_append_of_le_length
def Bpb:=@List.getElem_map
def Cpb:=@List.all_append
def Ctb:=@Bool.or_false

def F2a (v:BitVec 32) (b:Int):BitVec 32:=(v ^^^ ofInt 32 b)*16777619#32
def J1a (x:ByteArray):Nat→BitVec 32
 |0=>2166136261#32
 |n+1=>F2a (J1a x n) (bt x (n:Int))
def T0a (x:ByteArray):Nat:=(J1a x x.size).toNat
def Zfa (v:BitVec 32):wrap .u32 ((v.toNat:Int)*16777619)=((v*16777619#32).toNat:Int):=by
 rw[IntKind.wrap_u32,BitVec.toNat_mul];show (v.toNat:Int)*16777619 % 4294967296=((v.toNat*16777619 % 4294967296:Nat):Int);omega
def Qya (x:ByteArray) (hx:x.size≤1000000000):Tot (λ k=>Hy k x) (λ r=>r=(T0a x:Int)):=by
 unfold Hy
 refine Zha (Q:=λ r=>r=(T0a x:Int)) ?_ (by
  rintro r rfl;have:=(J1a x x.size).isLt
  exact Zga (w64 (n:=(T0a x:Int)) (by omega) (by show ((J1a x x.size).toNat:Int)≤_;omega)))
 refine Zpa (L:=λ k i (s:Int)=>Gc k x s i) (Q:=λ r=>r=(T0a x:Int)) x.size (λ j s=>s=((J1a x j).toNat:Int)) ?_ ?_ 0 _ (Vu _) rfl
 ·rintro s rfl;simp (disch:=omega) only [Gc,dF];exact Zga rfl
 ·rintro j s hj rfl next;have hb:=M6a x (j:Int);have e1:wrap .u32 (bt x (j:Int))=bt x (j:Int):=Ccb _ ⟨by omega,by omega⟩;simp (disch:=omega) only [Gc,dT,w64,e1,Yla (J1a x j) _ (bt x (j:Int)) rfl,Zfa];exact next _ rfl
def Ou (r:Rng) (x:ByteArray):List Int:=r.2.getD (T0a x % r.2.length) []
def Yra (a b:Nat):Int.tmod (a:Int) (b:Int)=((a % b:Nat):Int):=by
 rw[Zva (by omega)];exact(Int.natCast_emod _ _).symm
def Sc (r:Rng) (x:ByteArray) (hr:RBd r) (hx:x.size≤1000000000):Tot (λ k=>B6 k r x) (λ y=>y=Ou r x):=by
 have hrl:=hr.1;unfold B6
 by_cases h0:r.2.length=0
 ·refine Zja (by rw[h0];rfl) (Zga ?_);unfold Ou;rw[Xs h0];rfl
 ·have hm:=Cub (T0a x) (show 0<r.2.length by omega);refine Zia (by rw[beq_eq_false_iff_ne];omega) (Zha (Q:=λ y=>y=((T0a x % r.2.length:Nat):Int)) ?_ ?_)
  ·unfold Hg;refine Zla (by omega) (Zsa (Qya x hx) ?_);exact Zla (by omega) (Zga (Yra _ _))
  ·rintro y rfl;simp (disch:=omega) only [dT,Vj];have hp:=hr.2 _ (A3 (d:=[]) hm);rw[Rc _ (by omega)];exact Zga rfl
def Qza {r:Rng} {l:List Dev} (h:Gw r l=true) (x:ByteArray):Ou r x∈r.2:=by
 obtain⟨_,_,h3,_⟩:=Bp.1 h;exact A3 (d:=[]) (Cub _ (by omega))
def Qu {r:Rng} {l:List Dev} (h:Gw r l=true) (x:ByteArray):(Ou r x).Nodup∧((Ou r x).length:Int)=r.1∧∀ id∈Ou r x,∃ d,Ia l id=some d:=(Bp.1 h).2.2.2 _ (Qza h x)
def hoA (p zs:List Int) (z:Bool) (l:List Dev):List Int:=(l.filter λ d => !(Jj p d.1)&&(Jj zs d.2.1==z)).map (·.1)
def Kz (r:Rng) (l:List Dev) (x:ByteArray):List Int:=hoA (Ou r x) (Ff (Ou r x) l) false l++hoA (Ou r x) (Ff (Ou r x) l) true l
def A4a (p zs:List Int) (z:Bool) (l:List Dev):(hoA p zs z l).length≤l.length:=by
 unfold hoA;rw[Vz];exact List.length_filter_le _ _
def R0a (p zs:List Int) (z:Bool) (d:Dev) (l:List Dev):hoA p zs z (d::l)=bif !(Jj p d.1)&&(Jj zs d.2.1==z) then d.1::hoA p zs z l else hoA p zs z l:=by
 unfold hoA;rw[Zya]
 cases !(Jj p d.1)&&(Jj zs d.2.1==z)<;>rfl
def R1a (r:Rng) (l:List Dev) (x:ByteArray) (h:Gw r l=true) (hx:x.size≤1000000000):Tot (λ k=>Cj k r l x) (λ y=>y=Kz r l x):=by
 obtain⟨h1,h2,_,_⟩:=Bp.1 h;obtain⟨_,p2,_⟩:=Qu h x;obtain⟨_,_,_,h12⟩:=D7.1 h1;have hz:=U1 (Ou r x) l;unfold Cj Kz;refine Zsa (Sc r x (Ka h) hx) ?_;generalize Ou r x=p at *;refine Zsa (Cka p l (by omega) (by omega)) ?_;generalize Ff p l=zs at *;have m1:=A4a p zs false l;have m2:=A4a p zs true l;refine Zha (Q:=λ y=>y=(hoA p zs false l,hoA p zs true l)) ?_ (by rintro y rfl;exact Zoa (by dsimp only;omega) (Zga rfl));refine Zpa (L:=λ k i (s:List Int×List Int)=>C4 k p zs s.1 s.2 l (l.length:Int) i) (Q:=λ y=>y=(hoA p zs false l,hoA p zs true l)) l.length (λ j s=>s.1++hoA p zs false (l.drop j)=hoA p zs false l∧s.2++hoA p zs true (l.drop j)=hoA p zs true l) ?_ ?_ 0 ([],[]) (Nat.zero_le _) ⟨rfl,rfl⟩
 ·rintro s ⟨e1,e2⟩;rw[Yk]at e1 e2;simp (disch:=omega) only [C4,dF];refine Zga ?_;rw[← e1,← e2];show _=(s.1++[],s.2++[]);rw[Wp,Wp]
 ·rintro j ⟨s1,s2⟩ hj ⟨e1,e2⟩ next;dsimp only at e1 e2 next ⊢;have g1:=congrArg length e1;have g2:=congrArg length e2;rw[List.length_append]at g1 g2;rw[Bs (d:=Kg) hj,R0a]at e1 e2;obtain⟨d,ed⟩:∃ d:Dev,l.getD j Kg=d:=⟨_,rfl⟩;rw[ed]at e1 e2;have e0:l.getD j ((0:Int),((0:Int),(0:Int)))=d:=ed;simp (disch:=omega) only [C4,dT,Int.toNat_natCast,w64,e0];refine Zsa (Oo p d.1 (by omega)) ?_
  cases hp:Jj p d.1 with
  |true=>
   rw[hp]at e1 e2;exact Zja rfl (next (s1,s2) ⟨e1,e2⟩)
  |false=>
   refine Zia rfl (Zsa (Oo zs d.2.1 (by omega)) ?_)
   cases hz':Jj zs d.2.1 with
   |true=>
    rw[hp,hz']at e1 e2;exact Zja rfl (Zoa (by simp only[Vh,Vs];omega) (next (s1,s2++[d.1]) ⟨e1,by rw[← e2];simp⟩))
   |false=>
    rw[hp,hz']at e1 e2;exact Zia rfl (Zoa (by simp only[Vh,Vs];omega) (next (s1++[d.1],s2) ⟨by rw[← e1];simp,e2⟩))

section
variable {R:Type} {L:Nat→Int→Option (Sum Bool R)}
def O7 (p:Nat→Bool) (n:Nat):(List.range (n+1)).all p=((List.range n).all p&&p n):=by
 rw[Byb,Cpb,Atb,List.all_nil,B9b]
def Uo (p:Nat→Bool) (n:Nat):(List.range (n+1)).any p=((List.range n).any p||p n):=by
 rw[Byb,List.any_append,Cdb,List.any_nil,Ctb]
def Uq {p:Nat→Bool} {m n:Nat} (h:m≤n) (hn:(List.range n).all p=true):(List.range m).all p=true:=by
 rw[Wg]at hn ⊢;exact λ x hx=>hn x (Zf.2 (by have:=Zf.1 hx;omega))
def Zqa (n:Nat) (p:Nat→Bool) (e:R) (hend:Tot (λ k=>L (k+1) (n:Int)) (λ r=>r = .inr e))
  (F2a:∀ j,j<n→∀ (Q:Sum Bool R→Prop),(p j=false→Q (.inl false))→(p j=true→Tot (λ k=>L k ((j:Int)+1)) Q)→Tot (λ k=>L (k+1) (j:Int)) Q):
  Tot (λ k=>L k 0) (λ r=>r=bif (List.range n).all p then .inr e else .inl false):=by
 refine Zpa (L:=λ k i (_:Unit)=>L k i) (Q:=λ r=>r=bif (List.range n).all p then .inr e else .inl false) n (λ j _=>(List.range j).all p=true) ?_ ?_ 0 () (Vu _) rfl
 ·intro _ h;rw[h];exact hend
 ·intro j _ hj h next;refine F2a j hj _ (λ hp=>?_) (λ hp=>next () (by rw[O7,h,hp];rfl));cases hc:(List.range n).all p
  ·rfl
  have:=Uq (show j+1≤n by omega) hc;rw[O7,hp,Ze]at this;cases this
def Zra (n:Nat) (p:Nat→Bool) (e:R) (hend:Tot (λ k=>L (k+1) (n:Int)) (λ r=>r = .inr e))
  (F2a:∀ j,j<n→∀ (Q:Sum Bool R→Prop),(p j=true→Q (.inl true))→(p j=false→Tot (λ k=>L k ((j:Int)+1)) Q)→Tot (λ k=>L (k+1) (j:Int)) Q):
  Tot (λ k=>L k 0) (λ r=>r=bif (List.range n).any p then .inl true else .inr e):=by
 refine Zpa (L:=λ k i (_:Unit)=>L k i) (Q:=λ r=>r=bif (List.range n).any p then .inl true else .inr e) n (λ j _=>(List.range j).any p=false) ?_ ?_ 0 () (Vu _) rfl
 ·intro _ h;rw[h];exact hend
 ·intro j _ hj h next;refine F2a j hj _ (λ hp=>?_) (λ hp=>next () (by rw[Uo,h,hp];rfl));rw[Zz.2 ⟨j,Zf.2 hj,hp⟩];rfl
end
def Px {α:Type} (l:List α) (d:α) (p:α→Bool):l.all p=(List.range l.length).all λ j=>p (l.getD j d):=by
 rw[Arb,Wg,Wg];constructor
 ·intro h j hj;exact h _ (A3 (Zf.1 hj))
 ·intro h x hx;obtain⟨j,hj,rfl⟩:=Yq.1 hx;have:=h j (Zf.2 hj);rwa [Vb,Ve hj,Wh]at this
def U4 {α:Type} (l:List α) (d:α) (p:α→Bool):l.any p=(List.range l.length).any λ j=>p (l.getD j d):=by
 rw[Arb,Zz,Zz];constructor
 ·rintro⟨x,hx,h⟩;obtain⟨j,hj,rfl⟩:=Yq.1 hx;exact⟨j,Zf.2 hj,by rwa [Vb,Ve hj,Wh]⟩
 ·rintro⟨j,hj,h⟩;exact⟨_,A3 (Zf.1 hj),h⟩
abbrev Wri:=ByteArray×Fil×Bool
abbrev Wld:=List Dev×Rng×List Nod×Stp×List Wri×List ByteArray
def A5a:Wri:=((⟨#[]⟩:ByteArray),((((0:Int),((0:Int),(0:Int))),(false,[])),false))
def Py (l:List ByteArray):Bool:=(List.range l.length).all λ j=>Bc (l.getD j Ki)&&(decide (j=0)||tlt (l.getD (j-1) Ki) (l.getD j Ki))
def F3a (c:Stp) (w:Wri):Bool:=Bc w.1&&(Dw w.2.1&&!(sle c w.2.1.1))
def R2a (c:Stp) (l:List Wri):Bool:=l.all (F3a c)&&decide ((l.length:Int)≤200)
def O8 (l:List Dev) (ns:List Nod):Bool:=((ns.length:Int)==(l.length:Int))&&(List.range ns.length).all λ j=>((ns.getD j Bb).1==(l.getD j Kg).1)&&J0 (ns.getD j Bb)
def Ov (w:Wld):Bool:=Gw w.2.1 w.1&&(O8 w.1 w.2.2.1&&(Gr w.2.2.2.1&&(R2a w.2.2.2.1 w.2.2.2.2.1&&Py w.2.2.2.2.2)))
def WIn (w:Wld):Prop:=RBd w.2.1∧w.1.length≤2000000∧(w.2.2.1.length≤2000000∧∀ n∈w.2.2.1,NIn n)∧(w.2.2.2.2.1.length≤2000000∧∀ x∈w.2.2.2.2.1,L8 x.1)∧(w.2.2.2.2.2.length≤2000000∧∀ s∈w.2.2.2.2.2,L8 s)
def R3a (w:Wld) (hw:WIn w):Tot (λ k=>Ci k w) (λ r=>r=R2a w.2.2.2.1 w.2.2.2.2.1):=by
 obtain⟨_,_,_,⟨h1,h2⟩,_⟩:=hw;unfold Ci R2a
 refine Zha (Q:=λ r=>r=bif w.2.2.2.2.1.all (F3a w.2.2.2.1) then .inr w else .inl false) ?_ (by
  rintro r rfl
  cases w.2.2.2.2.1.all (F3a w.2.2.2.1)<;>exact Zga rfl)
 rw[Px _ A5a];refine Zqa (L:=λ k i=>Db k w.2.2.2.2.1 (w.2.2.2.2.1.length:Int) i w) _ _ w ?_ ?_
 ·simp (disch:=omega) only [Db,dF];exact Zga rfl
 ·intro j hj Q no yes;have hs:=h2 _ (A3 (d:=A5a) hj);obtain⟨x,ex⟩:∃ x:Wri,w.2.2.2.2.1.getD j A5a=x:=⟨_,rfl⟩;rw[ex]at hs;simp only[ex]at no yes;have e0:w.2.2.2.2.1.getD j ((⟨#[]⟩:ByteArray),((((0:Int),((0:Int),(0:Int))),(false,[])),false))=x:=ex;simp (disch:=omega) only [Db,dT,Vj,w64,e0,S5,Pp,Vt];unfold F3a at no yes;refine Zsa (Ju x.1 hs) ?_;refine Zma (λ hc=>Zga (no ?_)) (λ h3=>Zma (λ hc=>Zga (no ?_)) (λ h4=>Zma (λ hc=>Zga (no ?_)) (λ h5=>yes ?_)))
  ·rw[Vy]at hc;rw[hc];rfl
  ·rw[Vy]at hc;rw[hc,Zwa,Ze]
  ·rw[hc,Zk,Ze,Ze]
  ·rw[Ye]at h3 h4;rw[h3,h4,h5];rfl
def Csa (w:Wld) (hw:WIn w):Tot (λ k=>C1 k w.2.2.2.2.2 (w.2.2.2.2.2.length:Int) 0 w) (λ r=>r=bif Py w.2.2.2.2.2 then .inr () else .inl false):=by
 obtain⟨_,_,_,_,h1,h2⟩:=hw;unfold Py;refine Zqa (L:=λ k i=>C1 k w.2.2.2.2.2 (w.2.2.2.2.2.length:Int) i w) _ _ () ?_ ?_
 ·simp (disch:=omega) only [C1,dF];exact Zga rfl
 ·intro j hj Q no yes;have hs:=h2 _ (A3 (d:=Ki) hj);have e0:∀ i,w.2.2.2.2.2.getD i (⟨#[]⟩:ByteArray)=w.2.2.2.2.2.getD i Ki:=λ _=>rfl;simp (disch:=omega) only [C1,dT,Vj,w64,e0];refine Zsa (Ju _ hs) ?_;refine Zma (λ hc=>Zga (no ?_)) (λ h3=>Zna (λ h0=>?_) (λ h0=>yes ?_))
  ·rw[Vy]at hc;rw[hc];rfl
  ·simp (disch:=omega) only [dT,w64,show toNat ((j:Int)-1)=j-1 by omega];rw[Ye]at h3;rw[h3,decide_eq_false (show ¬ j=0 by omega),Ajb,Wn]at no yes;refine Zma (λ hc=>Zga (no ?_)) (λ h4=>yes ?_)
   ·rw[Vy]at hc;exact hc
   ·rw[Ye]at h4;exact h4
  ·rw[Ye]at h3;rw[h3,decide_eq_true (show j=0 by omega)];rfl
def F4a (w:Wld) (hw:WIn w) (hl:w.2.2.1.length=w.1.length):Tot (λ k=>Dd k w.2.2.1 (w.2.2.1.length:Int) 0 w) (λ r=>r=bif O8 w.1 w.2.2.1 then .inr w else .inl false):=by
 obtain⟨_,_,⟨h1,h2⟩,_⟩:=hw;unfold O8;rw[show ((w.2.2.1.length:Int)==(w.1.length:Int))=true by rw[beq_iff_eq];omega,Wn];refine Zqa (L:=λ k i=>Dd k w.2.2.1 (w.2.2.1.length:Int) i w) _ _ w ?_ ?_
 ·simp (disch:=omega) only [Dd,dF];exact Zga rfl
 ·intro j hj Q no yes;have hs:=h2 _ (A3 (d:=Bb) hj);obtain⟨x,ex⟩:∃ x:Nod,w.2.2.1.getD j Bb=x:=⟨_,rfl⟩;rw[ex]at hs no yes;have e0:w.2.2.1.getD j ((0:Int),(([],[]),([],[])))=x:=ex;have e1:w.1.getD j ((0:Int),((0:Int),(0:Int)))=w.1.getD j Kg:=rfl;simp (disch:=omega) only [Dd,dT,Vj,w64,e0,e1];refine Zma (λ hc=>Zga (no ?_)) (λ h3=>Zha (Pv x hs) ?_)
  ·rw[bne,Vy]at hc;rw[hc];rfl
  ·rw[bne,Ye]at h3;rw[h3,Wn]at no yes;rintro b rfl;refine Zma (λ hc=>Zga (no ?_)) (λ h4=>yes ?_)
   ·rw[Vy]at hc;exact hc
   ·rw[Ye]at h4;exact h4
def U5 (w:Wld) (hw:WIn w):Tot (λ k=>B9 k w) (λ r=>r=Ov w):=by
 unfold B9 Ov;refine Zsa (Qqa w.2.1 w.1 hw.1 (by have:=hw.2.1;omega)) ?_;cases hr:Gw w.2.1 w.1
 ·exact Zja rfl (Zga rfl)
 refine Zia rfl ?_;rw[Wn]
 by_cases hl:w.2.2.1.length=w.1.length
 ·refine Zia (by rw[bne,hl,beq_self_eq_true];rfl) ?_;simp only[Pr,Vt];cases hs:Gr w.2.2.2.1
  ·exact Zja rfl (Zga (by rw[Zwa,Ze]))
  refine Zia rfl (Zsa (R3a w hw) ?_);cases hws:R2a w.2.2.2.1 w.2.2.2.2.1
  ·exact Zja rfl (Zga (by rw[Zwa,Ze,Ze]))
  refine Zia rfl (Zsa (F4a w hw hl) ?_);cases O8 w.1 w.2.2.1
  ·exact Zga rfl
  refine Zsa (Csa w hw) ?_
  cases Py w.2.2.2.2.2<;>exact Zga rfl
 ·have hn:((w.2.2.1.length:Int)==(w.1.length:Int))=false:=by rw[beq_eq_false_iff_ne];omega
  refine Zja (by rw[bne,hn];rfl) (Zga ?_);unfold O8;rw[hn];rfl

def atN:List Nod→Int→Nat→List Int
 |[],_,_=>[]
 |n::ns,id,i=>bif n.1==id then (i:Int)::atN ns id (i+1) else atN ns id (i+1)
def Hga (n:Nod) (ns:List Nod) (id:Int) (i:Nat):atN (n::ns) id i=bif n.1==id then (i:Int)::atN ns id (i+1) else atN ns id (i+1):=rfl
def whr (ns:List Nod) (ids:List Int):List Int:=ids.flatMap λ id=>atN ns id 0
def F5a (id:Int):∀ (ns:List Nod) (i:Nat),(atN ns id i).length≤ns.length
 |[],_=>Vv _
 |n::ns,i=>by
  unfold atN;have:=F5a id ns (i+1);cases n.1==id
  ·rw[cond_false,Vh];omega
  ·rw[cond_true,Vh,Vh];omega
def Nea (ns:List Nod):∀ (ids:List Int),(whr ns ids).length≤ids.length*ns.length
 |[]=>Vu _
 |id::ids=>by
  have h1:=F5a id ns 0;have h2:=Nea ns ids;unfold whr at h2 ⊢;rw[Beb,Vi,Vh,Nat.succ_mul];omega
def Sd {ns:List Nod} {ids:List Int} (h1:ns.length≤2000000) (h2:ids.length≤2000000):(whr ns ids).length≤4000000000000:=
 Zt (Nea ns ids) (Nat.mul_le_mul h2 h1)
def Se (ns:List Nod) (id:Int) (ids:List Int):whr ns (id::ids)=atN ns id 0++whr ns ids:=Beb
def V4a (ns:List Nod) (a b:List Int):whr ns (a++b)=whr ns a++whr ns b:=List.flatMap_append
def Ur (w:Wld) (id:Int) (a b c:List Int) (m i0:Int) (out:List Int) (h1:w.2.2.1.length≤2000000) (ho:out.length≤4000000000000):
  Tot (λ k=>Cp k out id a m i0 w.2.2.1 (w.2.2.1.length:Int) 0 w) (λ r=>r=(out++atN w.2.2.1 id 0,a,m,i0,w)):=by
 have m1:=F5a id w.2.2.1 0;refine Zpa (L:=λ k i (s:List Int)=>Cp k s id a m i0 w.2.2.1 (w.2.2.1.length:Int) i w) (Q:=λ r=>r=(out++atN w.2.2.1 id 0,a,m,i0,w)) w.2.2.1.length (λ j s=>s++atN (w.2.2.1.drop j) id j=out++atN w.2.2.1 id 0) ?_ ?_ 0 out (Vu _) rfl
 ·intro s h;rw[Yk]at h;simp (disch:=omega) only [Cp,dF];refine Zga ?_;rw[← h];show _=(s++[],a,m,i0,w);rw[Wp]
 ·intro j s hj h next;have g:=congrArg length h;rw[Vi,Vi]at g;rw[Bs (d:=Bb) hj,Hga]at h;obtain⟨x,ex⟩:∃ x:Nod,w.2.2.1.getD j Bb=x:=⟨_,rfl⟩;rw[ex]at h;have e0:w.2.2.1.getD j ((0:Int),(([],[]),([],[])))=x:=ex;simp (disch:=omega) only [Cp,dT,Vj,w64,e0]
  cases hx:x.1==id with
  |true=>
   rw[hx,cond_true]at h;refine Zja rfl (Zoa (by simp only[Vh,Vs];omega) (next (s++[(j:Int)]) ?_));rw[← h,Vo];rfl
  |false=>
   rw[hx,cond_false]at h;refine Zia rfl (next s h)
def Ow (w:Wld) (ids:List Int) (h1:w.2.2.1.length≤2000000) (h2:ids.length≤2000000):Tot (λ k=>Ca k w ids) (λ r=>r=whr w.2.2.1 ids):=by
 have m1:=Sd h1 h2;unfold Ca;refine Zha (Q:=λ r=>r=whr w.2.2.1 ids) ?_ (by rintro r rfl;exact Zga rfl);refine Zpa (L:=λ k i (s:List Int)=>E3 k s ids (ids.length:Int) i w) (Q:=λ r=>r=whr w.2.2.1 ids) ids.length (λ j s=>s++whr w.2.2.1 (ids.drop j)=whr w.2.2.1 ids) ?_ ?_ 0 [] (Vu _) rfl
 ·intro s h;rw[Yk]at h;simp (disch:=omega) only [E3,dF];refine Zga ?_;rw[← h];exact(Wp s).symm
 ·intro j s hj h next;have g:=congrArg length h;rw[Vi]at g;rw[Bs (d:=0) hj,Se]at h;simp (disch:=omega) only [E3,dT,Vj,w64];refine Zsa (Ur w (ids.getD j 0) ids [] [] (ids.length:Int) (j:Int) s h1 (by omega)) ?_;simp (disch:=omega) only [w64];exact next _ (by rw[Vo];exact h)
def Qv (id:Int):∀ (ns:List Nod) (i:Nat) (x:Int),x∈atN ns id i↔∃ j,j<ns.length∧(ns.getD j Bb).1=id∧x=((i+j:Nat):Int)
 |[],i,x=>by simp[atN]
 |n::ns,i,x=>by
  have ih:=Qv id ns (i+1) x
  have tl:(∃ j,j<(n::ns).length∧((n::ns).getD j Bb).1=id∧x=((i+j:Nat):Int))↔(n.1=id∧x=(i:Int))∨x∈atN ns id (i+1):=by
   rw[ih];constructor
   ·rintro⟨j,h1,h2,h3⟩
    cases j with
    |zero=>exact .inl ⟨h2,by omega⟩
    |succ j=>exact .inr ⟨j,by simpa using h1,by simpa using h2,by omega⟩
   ·rintro (⟨h1,h2⟩|⟨j,h1,h2,h3⟩)
    ·exact⟨0,by simp,h1,by omega⟩
    ·exact⟨j+1,by simpa using h1,by simpa using h2,by omega⟩
  rw[tl,Hga]
  cases hx:n.1==id with
  |true=>
   rw[cond_true,Vl,eq_of_beq hx];simp
  |false=>
   rw[cond_false];have:=beq_eq_false_iff_ne.1 hx;simp[this]
def U6 {ns:List Nod} {ids:List Int} {x:Int}:x∈whr ns ids↔∃ j,j<ns.length∧(ns.getD j Bb).1∈ids∧x=(j:Int):=by
 unfold whr;rw[List.mem_flatMap];constructor
 ·rintro⟨id,h1,h2⟩;obtain⟨j,h3,h4,h5⟩:=(Qv _ _ _ _).1 h2;exact⟨j,h3,h4 ▸ h1,by omega⟩
 ·rintro⟨j,h3,h4,h5⟩;exact⟨_,h4,(Qv _ _ _ _).2 ⟨j,h3,rfl,by omega⟩⟩
def Bi (w:Wld) (x:ByteArray):List Int:=whr w.2.2.1 (Ou w.2.1 x++Kz w.2.1 w.1 x)
def Z6a:ByteArray:=⟨#[108,105,115,116]⟩
def H8 (w:Wld):List Int:=whr w.2.2.1 (Ou w.2.1 Z6a)
def Sf {r:Rng} (hr:RBd r) (x:ByteArray):(Ou r x).length≤2000000:=by
 unfold Ou
 by_cases hm:T0a x % r.2.length<r.2.length
 ·exact hr.2 _ (A3 (d:=[]) hm)
 ·rw[Vb,Zo (by omega)];exact Vu _
def Rf (r:Rng) (l:List Dev) (x:ByteArray):(Kz r l x).length≤l.length+l.length:=by
 unfold Kz;rw[Vi];have h1:=A4a (Ou r x) (Ff (Ou r x) l) false l;have h2:=A4a (Ou r x) (Ff (Ou r x) l) true l;omega
def Cta (w:Wld) (x:ByteArray) (h:Gw w.2.1 w.1=true) (hn:w.2.2.1.length≤2000000) (hx:x.size≤1000000000):Tot (λ k=>Br k w x) (λ r=>r=(Bi w x,w)):=by
 have h5:=(Bp.1 h).2.1;have p2:=(Qu h x).2.1;have h12:=(D7.1 (Bp.1 h).1).2.2.2;have hh:=Rf w.2.1 w.1 x;unfold Br Bi;refine Zsa (Sc _ x (Ka h) hx) ?_;refine Zsa (R1a _ _ x h hx) ?_;refine Zoa (by omega) (Zsa (Ow w _ hn (by rw[Vi];omega)) ?_);exact Zga rfl
def U7 (w:Wld) (hr:RBd w.2.1) (hn:w.2.2.1.length≤2000000):Tot (λ k=>Ek k w) (λ r=>r=H8 w):=by
 unfold Ek;refine Zsa (Sc _ Z6a hr (by decide)) ?_;refine Zsa (Ow w _ hn (Sf hr _)) ?_;exact Zga rfl
def quo (n:Int):Int:=n/2+1
def Ysa {n:Int} (h0:0≤n):Int.tdiv n 2=n/2:=Avb h0
def V5a {n:Int} (h0:0≤n) (h1:n≤1000000000):H2 n=some (quo n):=by
 unfold H2 quo;rw[Ysa h0,w64 (n:=n/2) (by omega) (by omega),w64 (n:=n/2+1) (by omega) (by omega)]
def rch (l:List Int) (i:Nat):Int:=bif decide (i<l.length)&&inR (l.getD i 0) 1 3 then l.getD i 0 else 0
def F6a (l:List Int) (i:Nat):D5 l (i:Int)=some (rch l i):=by
 unfold D5 rch
 by_cases h:i<l.length
 ·simp (disch:=omega) only [dT,Vj,Ku,Vt];rw[decide_eq_true h,Wn]
  cases inR (l.getD i 0) 1 3<;>rfl
 ·rw[dF (by omega),decide_eq_false h];rfl

def A6a (a b:Fil):Bool:=((a.1.1==b.1.1)&&((a.1.2.1==b.1.2.1)&&(a.1.2.2==b.1.2.2)))&&((a.2.1==b.2.1)&&((I4 a.2.2).toList==(I4 b.2.2).toList))
def Nfa (a b:Fil):Fv a b=some (A6a a b):=by
 unfold Fv A6a
 cases (a.1.1==b.1.1)&&((a.1.2.1==b.1.2.1)&&(a.1.2.2==b.1.2.2))<;>cases a.2.1==b.2.1<;>rfl
def Cua {a b:Fil} (ha:Ax a.2.2) (hb:Ax b.2.2):A6a a b=true↔a=b:=by
 unfold A6a;rw[Tu ha hb];obtain⟨⟨a1,a2,a3⟩,a4,a5⟩:=a;obtain⟨⟨b1,b2,b3⟩,b4,b5⟩:=b;simp only[Va,beq_iff_eq,decide_eq_true_iff,Vw]
def Nga (ws:List Wri) (s:ByteArray) (f:Fil):Bool:=ws.any λ x=>teq x.1 s&&A6a x.2.1 f
def Nha (w:Wld) (s:ByteArray) (f:Fil) (h:w.2.2.2.2.1.length≤2000000):Tot (λ k=>C0 k w s f) (λ r=>r=Nga w.2.2.2.2.1 s f):=by
 unfold C0 Nga
 refine Zha (Q:=λ r=>r=bif w.2.2.2.2.1.any (λ x=>teq x.1 s&&A6a x.2.1 f) then .inl true else .inr ()) ?_ (by
  rintro r rfl
  cases w.2.2.2.2.1.any (λ x=>teq x.1 s&&A6a x.2.1 f)<;>exact Zga rfl)
 rw[U4 _ A5a];refine Zra (L:=λ k i=>C6 k s w.2.2.2.2.1 (w.2.2.2.2.1.length:Int) i f) _ _ () ?_ ?_
 ·simp (disch:=omega) only [C6,dF];exact Zga rfl
 ·intro j hj Q yes no;obtain⟨x,ex⟩:∃ x:Wri,w.2.2.2.2.1.getD j A5a=x:=⟨_,rfl⟩;simp only[ex]at no yes;have e0:w.2.2.2.2.1.getD j ((⟨#[]⟩:ByteArray),((((0:Int),((0:Int),(0:Int))),(false,[])),false))=x:=ex;simp (disch:=omega) only [C6,dT,Vj,w64,e0,Nfa,Vt];refine Zma (λ h1=>Zma (λ h2=>Zga (yes ?_)) (λ h2=>no ?_)) (λ h1=>no ?_)
  ·show ((x.1.toList==s.toList)&&A6a x.2.1 f)=true;rw[h1,h2];rfl
  ·rw[h2,Ze]
  ·show ((x.1.toList==s.toList)&&A6a x.2.1 f)=false;rw[h1];rfl
def Nia (ws:List Wri) (e:Nmd):Bool:=match La e.2 with
 |none=>true
 |some f=>Nga ws e.1 f
def Nt (w:Wld):Bool:=(List.range w.2.2.1.length).all λ j=>(w.2.2.1.getD j Bb).2.1.1.all (Nia w.2.2.2.2.1)&&(w.2.2.1.getD j Bb).2.1.2.all (Nia w.2.2.2.2.1)
def F7a (w:Wld) (hw:WIn w):Tot (λ k=>Cg k w) (λ r=>r=Nt w):=by
 obtain⟨_,_,⟨h1,h2⟩,⟨h3,_⟩,_⟩:=hw;unfold Cg Nt
 refine Zha (Q:=λ r=>r=bif (List.range w.2.2.1.length).all (λ j=>(w.2.2.1.getD j Bb).2.1.1.all (Nia w.2.2.2.2.1)&&(w.2.2.1.getD j Bb).2.1.2.all (Nia w.2.2.2.2.1)) then .inr () else .inl false) ?_ (by
  rintro r rfl
  cases (List.range w.2.2.1.length).all (λ j=>(w.2.2.1.getD j Bb).2.1.1.all (Nia w.2.2.2.2.1)&&(w.2.2.1.getD j Bb).2.1.2.all (Nia w.2.2.2.2.1))<;>exact Zga rfl)
 refine Zqa (L:=λ k i=>E6 k w.2.2.1 (w.2.2.1.length:Int) i w) _ _ () ?_ ?_
 ·simp (disch:=omega) only [E6,dF];exact Zga rfl
 ·intro j hj Q no yes;have hm:=h2 _ (A3 (d:=Bb) hj);obtain⟨x,ex⟩:∃ x:Nod,w.2.2.1.getD j Bb=x:=⟨_,rfl⟩;rw[ex]at hm no yes;have e0:w.2.2.1.getD j ((0:Int),(([],[]),([],[])))=x:=ex;obtain⟨⟨⟨⟨f1,f2⟩,_⟩,l1,l2⟩,b1,b2⟩:=hm.1;have n0:([]:List (ByteArray×(List Int))).length=0:=rfl;simp (disch:=omega) only [E6,dT,Vj,w64,e0,Wk];refine Zoa (by rw[n0];omega) (Zoa (by omega) ?_);rw[← Cpb]at no yes;have hf:Qaa (x.2.1.1++x.2.1.2):=⟨by rw[Vi];omega,λ y hy=>(Vm.1 hy).elim (f1.2 y) (f2.2 y)⟩;have hb:LB (x.2.1.1++x.2.1.2):=λ y hy=>(Vm.1 hy).elim (b1 y) (b2 y)
  have hl:(x.2.1.1++x.2.1.2).length≤4000000:=by rw[Vi];omega
  generalize x.2.1.1++x.2.1.2=l at *;refine Zha (Q:=λ r=>r=bif l.all (Nia w.2.2.2.2.1) then .inr (w.2.2.1,(w.2.2.1.length:Int),(j:Int),w) else .inl false) ?_ ?_
  ·rw[Px _ Hl];refine Zqa (L:=λ k i=>Di k w.2.2.1 (w.2.2.1.length:Int) (j:Int) l (l.length:Int) i w) _ _ (w.2.2.1,(w.2.2.1.length:Int),(j:Int),w) ?_ ?_
   ·simp (disch:=omega) only [Di,dF];exact Zga rfl
   ·intro j hj Q no yes;have hm:=A3 (d:=Hl) hj;obtain⟨x,ex⟩:∃ x:Nmd,l.getD j Hl=x:=⟨_,rfl⟩;rw[ex]at hm;simp only[ex]at no yes;have e0:l.getD j ((⟨#[]⟩:ByteArray),[])=x:=ex;simp (disch:=omega) only [Di,dT,Vj,w64,e0];refine Zsa (Jc x.2 (hb x hm) (hf.2 x hm)) ?_;unfold Nia at no yes;unfold Tt
    cases hg:La x.2 with
    |none=>rw[hg]at yes;exact Zia rfl (yes rfl)
    |some f=>
     rw[hg]at yes no;refine Zja rfl (Zsa (Nha w x.1 f h3) ?_);exact Zta (λ hc=>Zga (no hc)) yes
  ·rintro r rfl;cases hc:l.all (Nia w.2.2.2.2.1)
   ·exact Zga (no hc)
   simp (disch:=omega) only [cond_true,B5b,w64];exact yes hc

def R4a (a b:Row):Bool:=(a.1==b.1)&&((a.2.1.1==b.2.1.1)&&((a.2.1.2.1==b.2.1.2.1)&&((a.2.1.2.2==b.2.1.2.2)&&((a.2.2.1==b.2.2.1)&&(a.2.2.2==b.2.2.2)))))
def Cva {a b:Row}:R4a a b=true↔a=b:=by
 unfold R4a;obtain⟨a0,⟨a1,a2,a3⟩,a4,a5⟩:=a;obtain⟨b0,⟨b1,b2,b3⟩,b4,b5⟩:=b;simp only[Y8,Va,beq_iff_eq,Vw,G9];constructor
 ·rintro⟨h0,h1,h2,h3,h4,h5⟩;exact⟨h0,⟨h1,h2,h3⟩,h4,h5⟩
 ·rintro⟨h0,⟨h1,h2,h3⟩,h4,h5⟩;exact⟨h0,h1,h2,h3,h4,h5⟩
def Lc (ws:List Wri) (r:Row):Bool:=ws.any λ x=>R4a (Qr x.1 x.2.1) r
def Qw (w:Wld):Bool:=(List.range w.2.2.1.length).all λ j=>(w.2.2.1.getD j Bb).2.2.1.all (Lc w.2.2.2.2.1)&&(w.2.2.1.getD j Bb).2.2.2.all (Lc w.2.2.2.2.1)
def Yta:Row:=((⟨#[]⟩:ByteArray),(((0:Int),((0:Int),(0:Int))),(false,(0:Int))))
def A7a (w:Wld) (ns:List Nod) (n m:Int) (l:List Row) (len i:Int) (r0:Row) (h:w.2.2.2.2.1.length≤2000000):Tot (λ k=>Cz k false ns n m l len i w.2.2.2.2.1 (w.2.2.2.2.1.length:Int) 0 w r0) (λ r=>r=(Lc w.2.2.2.2.1 r0,ns,n,m,l,len,i,w)):=by
 refine Zpa (L:=λ k i' (s:Bool)=>Cz k s ns n m l len i w.2.2.2.2.1 (w.2.2.2.2.1.length:Int) i' w r0) (Q:=λ r=>r=(Lc w.2.2.2.2.1 r0,ns,n,m,l,len,i,w)) w.2.2.2.2.1.length (λ j s=>(s||(w.2.2.2.2.1.drop j).any λ x=>R4a (Qr x.1 x.2.1) r0)=Lc w.2.2.2.2.1 r0) ?_ ?_ 0 false (Vu _) (Ajb _)
 ·intro s hs;rw[Yk,List.any_nil,Ctb]at hs;simp (disch:=omega) only [Cz,dF];exact Zga (by rw[hs])
 ·intro j s hj hs next
  cases s with
  |true=>
   rw[C5b]at hs;simp (disch:=omega) only [Cz,dT,w64,cond_true];exact next true (by rw[C5b];exact hs)
  |false=>
   rw[Bs (d:=A5a) hj,Cdb,Ajb]at hs;obtain⟨x,ex⟩:∃ x:Wri,w.2.2.2.2.1.getD j A5a=x:=⟨_,rfl⟩;rw[ex]at hs;have e0:w.2.2.2.2.1.getD j ((⟨#[]⟩:ByteArray),((((0:Int),((0:Int),(0:Int))),(false,[])),false))=x:=ex;simp (disch:=omega) only [Cz,dT,Vj,w64,e0,cond_false,Gn,Vt];exact next _ hs
def J2a (w:Wld) (hw:WIn w):Tot (λ k=>Cu k w) (λ r=>r=Qw w):=by
 obtain⟨_,_,⟨h1,h2⟩,⟨h3,_⟩,_⟩:=hw;unfold Cu Qw
 refine Zha (Q:=λ r=>r=bif (List.range w.2.2.1.length).all (λ j=>(w.2.2.1.getD j Bb).2.2.1.all (Lc w.2.2.2.2.1)&&(w.2.2.1.getD j Bb).2.2.2.all (Lc w.2.2.2.2.1)) then .inr () else .inl false) ?_ (by
  rintro r rfl
  cases (List.range w.2.2.1.length).all (λ j=>(w.2.2.1.getD j Bb).2.2.1.all (Lc w.2.2.2.2.1)&&(w.2.2.1.getD j Bb).2.2.2.all (Lc w.2.2.2.2.1))<;>exact Zga rfl)
 refine Zqa (L:=λ k i=>F6 k w.2.2.1 (w.2.2.1.length:Int) i w) _ _ () ?_ ?_
 ·simp (disch:=omega) only [F6,dF];exact Zga rfl
 ·intro j hj Q no yes;have hm:=h2 _ (A3 (d:=Bb) hj);obtain⟨x,ex⟩:∃ x:Nod,w.2.2.1.getD j Bb=x:=⟨_,rfl⟩;rw[ex]at hm no yes;have e0:w.2.2.1.getD j ((0:Int),(([],[]),([],[])))=x:=ex;obtain⟨_,f1,f2⟩:=hm;have g1:=f1.1;have g2:=f2.1
  have ec:Ac x.2.2.1=some x.2.2.1:=by
   unfold Ac;rw[bT (by simp only[Vs];omega),Wk]
  simp (disch:=omega) only [F6,dT,Vj,w64,e0,ec,Vt];refine Zoa (by omega) ?_;rw[← Cpb]at no yes
  have hl:(x.2.2.1++x.2.2.2).length≤4000000:=by rw[Vi];omega
  generalize x.2.2.1++x.2.2.2=l at *;refine Zha (Q:=λ r=>r=bif l.all (Lc w.2.2.2.2.1) then .inr (w.2.2.1,(w.2.2.1.length:Int),(j:Int),w) else .inl false) ?_ ?_
  ·rw[Px _ Yta];refine Zqa (L:=λ k i=>F5 k w.2.2.1 (w.2.2.1.length:Int) (j:Int) l (l.length:Int) i w) _ _ (w.2.2.1,(w.2.2.1.length:Int),(j:Int),w) ?_ ?_
   ·simp (disch:=omega) only [F5,dF];exact Zga rfl
   ·intro i hi Q no yes;have e1:l.getD i ((⟨#[]⟩:ByteArray),(((0:Int),((0:Int),(0:Int))),(false,(0:Int))))=l.getD i Yta:=rfl;simp (disch:=omega) only [F5,dT,Vj,e1];refine Zsa (A7a w _ _ _ l _ _ (l.getD i Yta) h3) ?_;simp (disch:=omega) only [w64];exact Zta (λ hc=>Zga (no hc)) yes
  ·rintro r rfl;cases hc:l.all (Lc w.2.2.2.2.1)
   ·exact Zga (no hc)
   simp (disch:=omega) only [cond_true,B5b,w64];exact yes hc
def F8a (s:ByteArray) (st:Stp) (n:Nod):Bool:=match gt n.2.1.2 s with
 |none=>false
 |some b=>match La b with
  |none=>false
  |some f => !(sle f.1 st)
def Nja (w:Wld) (x:Wri):Bool := !x.2.2||(Ofa w.2.2.2.2.2 x.1||w.2.2.1.any (F8a x.1 x.2.1.1))
def J3a (w:Wld):Bool:=w.2.2.2.2.1.all (Nja w)
def V6a (l:List Nmd) (s:ByteArray):(Jfa l s<0∧gt l s=none)∨∃ i:Nat,Jfa l s=(i:Int)∧i<l.length∧gt l s=some (l.getD i Hl).2:=by
 unfold Jfa gt
 cases h:fnd l s with
 |none=>exact .inl ⟨by decide,rfl⟩
 |some i=>
  obtain⟨hi,_⟩:=A9b.1 h;exact .inr ⟨i,rfl,hi,rfl⟩
def Nka (w:Wld) (hw:WIn w) (s:ByteArray) (st:Stp):Tot (λ k=>G0 k w s st) (λ r=>r=w.2.2.1.any (F8a s st)):=by
 obtain⟨_,_,⟨h1,h2⟩,⟨h3,_⟩,_⟩:=hw;unfold G0
 refine Zha (Q:=λ r=>r=bif w.2.2.1.any (F8a s st) then .inl true else .inr ()) ?_ (by
  rintro r rfl
  cases w.2.2.1.any (F8a s st)<;>exact Zga rfl)
 rw[U4 _ Bb];refine Zra (L:=λ k i=>Ef k s w.2.2.1 (w.2.2.1.length:Int) i st) _ _ () ?_ ?_
 ·simp (disch:=omega) only [Ef,dF];exact Zga rfl
 ·intro j hj Q yes no;have hm:=h2 _ (A3 (d:=Bb) hj);obtain⟨x,ex⟩:∃ x:Nod,w.2.2.1.getD j Bb=x:=⟨_,rfl⟩;rw[ex]at hm no yes;have e0:w.2.2.1.getD j ((0:Int),(([],[]),([],[])))=x:=ex;obtain⟨⟨⟨⟨f1,f2⟩,_⟩,l1,l2⟩,b1,b2⟩:=hm.1;simp (disch:=omega) only [Ef,dT,Vj,w64,e0];unfold F8a at yes no;refine Zsa (R8 x.2.1.2 s f2.1) ?_;rcases V6a x.2.1.2 s with⟨hn,hg⟩|⟨i,e,hi,hg⟩
  ·rw[hg]at no;exact Zka hn (no rfl)
  ·rw[e];have hm:=A3 (d:=Hl) hi;obtain⟨y,ey⟩:∃ y:Nmd,x.2.1.2.getD i Hl=y:=⟨_,rfl⟩;rw[ey]at hm hg;rw[hg]at no yes;have e2:x.2.1.2.getD i ((⟨#[]⟩:ByteArray),[])=y:=ey;refine Zla (by omega) ?_;simp (disch:=omega) only [dT,Vj,e2];refine Zsa (Jc y.2 (b2 y hm) (f2.2 y hm)) ?_;unfold Tt
   cases hy:La y.2 with
   |none=>simp only[hy]at no;exact Zia rfl (no trivial)
   |some f=>
    simp only[hy]at no yes;simp only[Pp,Vt];exact Zja rfl (Zma (λ hc=>Zga (yes hc)) (λ hc=>no hc))
def R5a (l:List ByteArray) (s:ByteArray) (hl:l.length≤1000000000):Tot (λ k=>G3 k l s) (λ r=>r=Ofa l s):=by
 unfold G3 Ofa
 refine Zha (Q:=λ r=>r=bif l.any (λ y=>teq y s) then .inl true else .inr ()) ?_ (by
  rintro r rfl
  cases l.any (λ y=>teq y s)<;>exact Zga rfl)
 rw[U4 _ Ki];refine Zra (L:=λ k i=>E7 k s l (l.length:Int) i) _ _ () ?_ ?_
 ·simp (disch:=omega) only [E7,dF];exact Zga rfl
 ·intro j hj Q yes no;have e0:l.getD j (⟨#[]⟩:ByteArray)=l.getD j Ki:=rfl;simp (disch:=omega) only [E7,dT,Vj,w64,e0];exact Zma (λ hc=>Zga (yes hc)) (λ hc=>no hc)
def R6a (w:Wld) (hw:WIn w):Tot (λ k=>Gv k w) (λ r=>r=J3a w):=by
 have hw':=hw;obtain⟨_,_,⟨h1,h2⟩,⟨h3,_⟩,h5,_⟩:=hw';unfold Gv J3a
 refine Zha (Q:=λ r=>r=bif w.2.2.2.2.1.all (Nja w) then .inr () else .inl false) ?_ (by
  rintro r rfl
  cases w.2.2.2.2.1.all (Nja w)<;>exact Zga rfl)
 rw[Px _ A5a];refine Zqa (L:=λ k i=>Fh k w.2.2.2.2.1 (w.2.2.2.2.1.length:Int) i w) _ _ () ?_ ?_
 ·simp (disch:=omega) only [Fh,dF];exact Zga rfl
 ·intro j hj Q no yes;obtain⟨x,ex⟩:∃ x:Wri,w.2.2.2.2.1.getD j A5a=x:=⟨_,rfl⟩;rw[ex]at no yes;have e0:w.2.2.2.2.1.getD j ((⟨#[]⟩:ByteArray),((((0:Int),((0:Int),(0:Int))),(false,[])),false))=x:=ex;simp (disch:=omega) only [Fh,dT,Vj,w64,e0];unfold Nja at no yes;refine Zma (λ hk=>?_) (λ hk=>yes (by rw[hk];rfl));rw[hk,Zk,Ajb]at no yes;refine Zsa (R5a _ x.1 (by omega)) ?_;refine Zma (λ hh=>?_) (λ hh=>yes (by rw[Ye]at hh;rw[hh,C5b]));rw[Vy]at hh;rw[hh,Ajb]at no yes;refine Zsa (Nka w hw x.1 x.2.1.1) ?_;refine Zma (λ hc=>Zga (no ?_)) (λ hc=>yes ?_)
  ·rw[Vy]at hc;exact hc
  ·rw[Ye]at hc;exact hc
def Nu (w:Wld):Bool:=(List.range w.2.2.2.2.1.length).all λ j => !(sle w.2.2.2.1 (w.2.2.2.2.1.getD j A5a).2.1.1)&&(decide (j=0)||sle (w.2.2.2.2.1.getD (j-1) A5a).2.1.1 (w.2.2.2.2.1.getD j A5a).2.1.1)
def F9a (w:Wld) (hw:WIn w):Tot (λ k=>Dq k w) (λ r=>r=Nu w):=by
 obtain⟨_,_,_,⟨h3,_⟩,h5,_⟩:=hw;unfold Dq Nu;generalize hP:(λ j => !(sle w.2.2.2.1 (w.2.2.2.2.1.getD j A5a).2.1.1)&&(decide (j=0)||sle (w.2.2.2.2.1.getD (j-1) A5a).2.1.1 (w.2.2.2.2.1.getD j A5a).2.1.1))=P
 refine Zha (Q:=λ r=>r=bif (List.range w.2.2.2.2.1.length).all P then .inr () else .inl false) ?_ (by
  rintro r rfl
  cases (List.range w.2.2.2.2.1.length).all P<;>exact Zga rfl)
 refine Zqa (L:=λ k i=>Dj k w.2.2.2.2.1 (w.2.2.2.2.1.length:Int) i w) _ _ () ?_ ?_
 ·simp (disch:=omega) only [Dj,dF];exact Zga rfl
 ·intro j hj Q no yes;subst hP;dsimp only at no yes;have e0:∀ i,w.2.2.2.2.1.getD i ((⟨#[]⟩:ByteArray),((((0:Int),((0:Int),(0:Int))),(false,[])),false))=w.2.2.2.2.1.getD i A5a:=λ _=>rfl;simp (disch:=omega) only [Dj,dT,Int.toNat_natCast,w64,e0,Pp,Option.bind_some];refine Zma (λ hc=>Zga (no (by rw[hc];rfl))) (λ hc=>?_);rw[hc,Bool.not_false,Bool.true_and]at no yes;refine Zna (λ h0=>?_) (λ h0=>yes (by rw[decide_eq_true (show j=0 by omega)];rfl));simp (disch:=omega) only [dT,w64,show toNat ((j:Int)-1)=j-1 by omega];rw[decide_eq_false (show ¬ j=0 by omega),Bool.false_or]at no yes;refine Zma (λ hc=>Zga (no ?_)) (λ hc=>yes ?_)
  ·rw[Vy]at hc;exact hc
  ·rw[Ye]at hc;exact hc
def R7a (w:Wld):Int:=bif Ov w then (bif Nt w then (bif Qw w then (bif J3a w then (bif Nu w then 0 else 5) else 4) else 3) else 2) else 1
def Hha (w:Wld) (hw:WIn w):Tot (λ k=>Hz k w) (λ r=>r=R7a w):=by
 unfold Hz R7a;refine Zsa (U5 w hw) ?_;cases Ov w
 ·exact Zja rfl (Zga rfl)
 refine Zia rfl (Zsa (F7a w hw) ?_);cases Nt w
 ·exact Zja rfl (Zga rfl)
 refine Zia rfl (Zsa (J2a w hw) ?_);cases Qw w
 ·exact Zja rfl (Zga rfl)
 refine Zia rfl (Zsa (R6a w hw) ?_);cases J3a w
 ·exact Zja rfl (Zga rfl)
 refine Zia rfl (Zsa (F9a w hw) ?_)
 cases Nu w with
 |false=>exact Zja rfl (Zga rfl)
 |true=>exact Zia rfl (Zga rfl)

def run {α:Type} (st:α→Nat→α) (n:Nat) (a:α):α:=(List.range n).foldl st a
def Jl {α:Type} (st:α→Nat→α) (n:Nat) (a:α):run st (n+1) a=st (run st n a) n:=by
 unfold run;rw[Byb,Bfb];rfl
def R8a {α:Type} (st:α→Nat→α) (a:α):run st 0 a=a:=rfl
def R9a {α:Type} {st:α→Nat→α} {a:α} {j n:Nat} (hj:j≤n) (h:∀ i,st (run st j a) i=run st j a):run st n a=run st j a:=by
 obtain⟨m,rfl⟩:=Nat.exists_eq_add_of_le hj
 induction m with
 |zero=>rfl
 |succ m ih=>rw[← Zg,Jl,ih (by omega),h]
def Je {α:Type} {st:α→Nat→α} (P:Nat→α→Prop) {n:Nat} {a:α} (h0:P 0 a) (hs:∀ j b,j<n→P j b→P (j+1) (st b j)):P n (run st n a):=by
 have:∀ m,m≤n→P m (run st m a):=by
  intro m
  induction m with
  |zero=>intro _;exact h0
  |succ m ih=>intro hm;rw[Jl];exact hs m _ (by omega) (ih (by omega))
 exact this n (Vv _)
def NS (ns:List Nod):Prop:=ns.length≤2000000∧∀ n∈ns,NG n
def NS.set {ns:List Nod} (h:NS ns) {i:Nat} {n:Nod} (hn:NG n):NS (ns.set i n):=⟨by rw[Wa];exact h.1,λ m hm=>by
 rcases Ys hm with hm|rfl
 ·exact h.2 m hm
 ·exact hn⟩
def NS.get {ns:List Nod} (h:NS ns) {i:Nat} (hi:i<ns.length):NG (ns.getD i Bb):=h.2 _ (A3 hi)
abbrev wN (w:Wld) (ns:List Nod):Wld:=(w.1,w.2.1,ns,w.2.2.2)
def I3 (c:Stp) (t d:Int):Stp:=bif decide (t≤c.1) then (bif Gr (c.1,c.2.1+1,d) then (c.1,c.2.1+1,d) else c) else (bif Gr (t,0,d) then (t,0,d) else c)
def A8a {c:Stp} (hc:Gr c=true) (t d:Int):Gr (I3 c t d)=true∧(I3 c t d=c∨sle c (I3 c t d)=true):=by
 unfold I3
 by_cases h:t≤c.1
 ·rw[decide_eq_true h,cond_true]
  cases hs:Gr (c.1,c.2.1+1,d) with
  |true=>exact⟨hs,.inr (N8.2 (.inr ⟨rfl,.inl (by show c.2.1<c.2.1+1;omega)⟩))⟩
  |false=>exact⟨hc,.inl rfl⟩
 ·rw[decide_eq_false h,cond_false]
  cases hs:Gr (t,0,d) with
  |true=>exact⟨hs,.inr (N8.2 (.inl (by show c.1<t;omega)))⟩
  |false=>exact⟨hc,.inl rfl⟩
def wst (R:Int) (rc:List Int) (s:ByteArray) (f:Fil) (cs:List Int) (a:List Nod×Int×Int) (j:Nat):List Nod×Int×Int:=
 bif decide (a.2.1<R) then (bif rch rc j==0 then a else
  (a.1.set (cs.getD j 0).toNat (Oz (a.1.getD (cs.getD j 0).toNat Bb) s f (rch rc j != 3)).1,a.2.1+1,
   bif rch rc j==1&&((Oz (a.1.getD (cs.getD j 0).toNat Bb) s f (rch rc j != 3)).2==0||(Oz (a.1.getD (cs.getD j 0).toNat Bb) s f (rch rc j != 3)).2==1) then a.2.2+1 else a.2.2))
 else a
def wrN (w:Wld) (s:ByteArray) (f:Fil) (rc:List Int):List Nod×Int×Int:=run (wst w.2.1.1 rc s f (Bi w s)) (Bi w s).length (w.2.2.1,0,0)
def O9 (w:Wld) (s:ByteArray) (f:Fil) (rc:List Int):Int×Wld:=
 (bif decide ((wrN w s f rc).2.2≥quo w.2.1.1) then 0 else 1,(w.1,w.2.1,(wrN w s f rc).1,w.2.2.2.1,w.2.2.2.2.1++[(s,f,decide ((wrN w s f rc).2.2≥quo w.2.1.1))],w.2.2.2.2.2))
def Jf {w:Wld} {s:ByteArray} {x:Int} (h:x∈Bi w s):0≤x∧x<(w.2.2.1.length:Int):=by
 obtain⟨j,h1,_,rfl⟩:=U6.1 h;omega
def Xka {R:Int} {rc:List Int} {s:ByteArray} {f:Fil} {cs:List Int} {a:List Nod×Int×Int} {j m:Nat} (hs:Bc s=true) (hf:Dw f=true) (h:NS a.1∧a.1.length=m∧(0≤a.2.1∧a.2.1≤j)∧0≤a.2.2∧a.2.2≤j) (hc:(cs.getD j 0).toNat<m):
  let b:=wst R rc s f cs a j
  NS b.1∧b.1.length=m∧(0≤b.2.1∧b.2.1≤((j+1:Nat):Int))∧0≤b.2.2∧b.2.2≤((j+1:Nat):Int):=by
 obtain⟨h1,h2,h3,h4,h5⟩:=h;intro b;have hb:b=wst R rc s f cs a j:=rfl;unfold wst at hb;cases hR:decide (a.2.1<R)
 ·rw[hR,cond_false]at hb;rw[hb];exact⟨h1,h2,⟨h3.1,by omega⟩,h4,by omega⟩
 rw[hR,cond_true]at hb;cases hr:rch rc j==0
 case true=>rw[hr,cond_true]at hb;rw[hb];exact⟨h1,h2,⟨h3.1,by omega⟩,h4,by omega⟩
 rw[hr,cond_false]at hb;rw[hb];refine⟨h1.set (Mra (h1.get (by omega)) hs hf),by rw[List.length_set];exact h2,⟨by dsimp only;omega,by dsimp only;omega⟩,?_⟩;dsimp only;cases rch rc j==1&&((Oz (a.1.getD (cs.getD j 0).toNat Bb) s f (rch rc j != 3)).2==0||(Oz (a.1.getD (cs.getD j 0).toNat Bb) s f (rch rc j != 3)).2==1)
 ·exact⟨h4,by rw[cond_false];omega⟩
 ·exact⟨by rw[cond_true];omega,by rw[cond_true];omega⟩
def ask (w:Wld) (s:ByteArray) (f:Fil) (t:Int) (rc:List Int):Int×Wld:=
 bif !(Bc s) then (2,w) else bif decide ((f.2.2.length:Int) > 200) then (2,w) else bif !(inR t 0 1000000000) then (2,w) else
 bif (w.2.2.2.2.1.length:Int)==200 then (3,w) else
 bif (I3 w.2.2.2.1 t 0).1==w.2.2.2.1.1&&((I3 w.2.2.2.1 t 0).2.1==w.2.2.2.1.2.1&&(I3 w.2.2.2.1 t 0).2.2==w.2.2.2.1.2.2) then (3,w) else
 O9 (w.1,w.2.1,w.2.2.1,I3 w.2.2.2.1 t 0,w.2.2.2.2) s (I3 w.2.2.2.1 t 0,f.2) rc
def pst (src:Int) (s:ByteArray) (f:Fil) (rc ps:List Int) (a:List Nod×Bool×Bool) (j:Nat):List Nod×Bool×Bool:=
 bif ps.getD j 0==src then (a.1,true,a.2.2) else bif rch rc j != 1 then (a.1,a.2.1,false) else
  (a.1.set (ps.getD j 0).toNat ((a.1.getD (ps.getD j 0).toNat Bb).1,(keep (a.1.getD (ps.getD j 0).toNat Bb).2.1 s f true).1,(a.1.getD (ps.getD j 0).toNat Bb).2.2),a.2.1,
   bif (keep (a.1.getD (ps.getD j 0).toNat Bb).2.1 s f true).2 != 0&&(keep (a.1.getD (ps.getD j 0).toNat Bb).2.1 s f true).2 != 1 then false else a.2.2)
def J7 (w:Wld) (s:ByteArray):List Int:=whr w.2.2.1 (Ou w.2.1 s)
def puN (w:Wld) (i:Nat) (s:ByteArray) (rc:List Int):List Nod×Bool×Bool:=run (pst (i:Int) s (lkD (w.2.2.1.getD i Bb).2.1 s).1 rc (J7 w s)) (J7 w s).length (w.2.2.1,false,true)
def Z7a (n:Nod) (s:ByteArray):Nod:=(n.1,(syD (rmD n.2.1 s).1 s).1,n.2.2)
def A9a (w:Wld) (i:Nat) (s:ByteArray) (rc:List Int):Bool×Wld:=bif (lkD (w.2.2.1.getD i Bb).2.1 s).2 != 0 then (false,w) else
 (true,wN w (bif (puN w i s rc).2.2&&!(puN w i s rc).2.1 then (puN w i s rc).1.set i (Z7a ((puN w i s rc).1.getD i Bb) s) else (puN w i s rc).1))
def T1a {n:Nod} (hn:NG n) {s:ByteArray} (hs:Bc s=true):NG (Z7a n s):=A3a hn (Xca (Xda hn.g) hs)
def Faa {n:Nod} (hn:NG n) {s:ByteArray} {f:Fil} {sure:Bool}:NG (n.1,(keep n.2.1 s f sure).1,n.2.2):=A3a hn (Sta hn.g)
def T2a {src:Int} {s:ByteArray} {f:Fil} {rc ps:List Int} {a:List Nod×Bool×Bool} {j m:Nat} (h:NS a.1∧a.1.length=m) (hc:(ps.getD j 0).toNat<m):NS (pst src s f rc ps a j).1∧(pst src s f rc ps a j).1.length=m:=by
 unfold pst;cases ps.getD j 0==src
 case true=>exact h
 cases rch rc j != 1 with
 |true=>exact h
 |false=>exact⟨h.1.set (Faa (h.1.get (by have:=h.2;omega))),by rw[cond_false,cond_false,Wa];exact h.2⟩
def Pz {w:Wld} {s:ByteArray} {x:Int} (h:x∈J7 w s):0≤x∧x<(w.2.2.1.length:Int):=by
 obtain⟨j,h1,_,rfl⟩:=U6.1 h;omega
def Nla {w:Wld} {s:ByteArray} (hr:Gw w.2.1 w.1=true) (hn:w.2.2.1.length≤2000000):(J7 w s).length≤4000000000000:=Sd hn (Sf (Ka hr) s)
def Xla {w:Wld} {i:Nat} {s:ByteArray} {rc:List Int} (hn:NS w.2.2.1):NS (puN w i s rc).1∧(puN w i s rc).1.length=w.2.2.1.length:=
 Je (λ _ (b:List Nod×Bool×Bool)=>NS b.1∧b.1.length=w.2.2.1.length) ⟨hn,rfl⟩ (λ j b hj hb=>T2a hb (by have:=Pz (A3 (d:=0) hj);omega))

def tk (n:Nod) (l:List Row):Bool×Nod:=bif decide ((C2a n.2.2.1 l).length > 60) then (false,n) else (true,(n.1,n.2.1,C2a n.2.2.1 l,n.2.2.2))
def Yua {n:Nod} {l:List Row} (hn:NG n) (hl:I1 l=true):NG (tk n l).2:=by
 obtain⟨h1,h2,h3,h4,h5⟩:=Cf.1 hn.1;unfold tk
 by_cases h:(C2a n.2.2.1 l).length > 60
 ·rw[decide_eq_true h];exact hn
 ·rw[decide_eq_false h];exact⟨Cf.2 ⟨h1,h2,h3,Eva h4 hl (by omega),h5⟩,hn.2⟩
def gst (src:Int) (l:List Row) (self:Bool) (rc ls:List Int) (a:List Nod×Bool) (j:Nat):List Nod×Bool:=
 bif ls.getD j 0==src&&!self then a else bif rch rc j != 1 then (a.1,false) else
  (a.1.set (ls.getD j 0).toNat (tk (a.1.getD (ls.getD j 0).toNat Bb) l).2,bif (tk (a.1.getD (ls.getD j 0).toNat Bb) l).1 then a.2 else false)
def Ke (w:Wld) (src:Int) (l:List Row) (self:Bool) (rc:List Int):List Nod×Bool:=run (gst src l self rc (H8 w)) (H8 w).length (w.2.2.1,true)
def T3a {src:Int} {l:List Row} {self:Bool} {rc ls:List Int} {a:List Nod×Bool} {j m:Nat} (hl:I1 l=true) (h:NS a.1∧a.1.length=m) (hc:(ls.getD j 0).toNat<m):NS (gst src l self rc ls a j).1∧(gst src l self rc ls a j).1.length=m:=by
 unfold gst;cases ls.getD j 0==src&&!self
 case true=>exact h
 cases rch rc j != 1 with
 |true=>exact h
 |false=>exact⟨h.1.set (Yua (h.1.get (by have:=h.2;omega)) hl),by rw[cond_false,cond_false,Wa];exact h.2⟩
def Lz {w:Wld} {x:Int} (h:x∈H8 w):0≤x∧x<(w.2.2.1.length:Int):=by
 obtain⟨j,h1,_,rfl⟩:=U6.1 h;omega
def U8 {w:Wld} (hr:RBd w.2.1) (hn:w.2.2.1.length≤2000000):(H8 w).length≤4000000000000:=Sd hn (Sf hr _)
def Hia {w:Wld} {src:Int} {l:List Row} {self:Bool} {rc:List Int} (hl:I1 l=true) (hn:NS w.2.2.1):NS (Ke w src l self rc).1∧(Ke w src l self rc).1.length=w.2.2.1.length:=
 Je (λ _ (b:List Nod×Bool)=>NS b.1∧b.1.length=w.2.2.1.length) ⟨hn,rfl⟩ (λ j b hj hb=>T3a hl hb (by have:=Lz (A3 (d:=0) hj);omega))
def J4a {r:Row} (h:L9 r=true):I1 [r]=true:=Iz.2 ⟨Akb _ _,λ x hx=>by rw[Vq.1 hx];exact h,by simp⟩
def Qx:I1 []=true:=Iz.2 ⟨List.Pairwise.nil,(λ _ hx=>nomatch hx),Vu _⟩
def Nma (n:Nod):Nod:=(n.1,n.2.1,[],n.2.2.2)
def Yva (n:Nod) (q:List Row):Nod:=(n.1,n.2.1,n.2.2.1,q)
def Hja {n:Nod} (hn:NG n):NG (Nma n):=by
 obtain⟨h1,h2,h3,h4,h5⟩:=Cf.1 hn.1;exact⟨Cf.2 ⟨h1,h2,h3,Qx,h5⟩,hn.2⟩
def T4a {n:Nod} {q:List Row} (hn:NG n) (h:∀ r∈q,L9 r=true) (hl:q.length≤60):NG (Yva n q):=by
 obtain⟨h1,h2,h3,h4,h5⟩:=Cf.1 hn.1;exact⟨Cf.2 ⟨h,h2,h3,h4,hl⟩,hn.2⟩
def Nw (w:Wld) (i:Nat) (rc:List Int):List Nod×Bool:=Ke w (i:Int) (w.2.2.1.getD i Bb).2.2.1 false rc
def Cwa (w:Wld) (i:Nat) (rc:List Int):Bool×Wld:=bif ((w.2.2.1.getD i Bb).2.2.1.length:Int)==0 then (false,w) else
 (true,wN w (bif (Nw w i rc).2&&!(Jj (H8 (wN w (Nw w i rc).1)) (i:Int)) then (Nw w i rc).1.set i (Nma ((Nw w i rc).1.getD i Bb)) else (Nw w i rc).1))
def Q0 (w:Wld) (i:Nat) (rc:List Int):List Nod×Bool:=Ke w (i:Int) ((w.2.2.1.getD i Bb).2.2.2.take 1) true rc
def Cxa (w:Wld) (i:Nat) (rc:List Int):Bool×Wld:=bif ((w.2.2.1.getD i Bb).2.2.2.length:Int)==0 then (false,w) else
 (true,wN w (bif (Q0 w i rc).2 then (Q0 w i rc).1.set i (Yva ((Q0 w i rc).1.getD i Bb) ((w.2.2.1.getD i Bb).2.2.2.drop 1)) else (Q0 w i rc).1))
def Ox {q:List Row} (h:∀ r∈q,L9 r=true):I1 (q.take 1)=true:=by
 cases q with
 |nil=>exact Qx
 |cons r q=>exact J4a (h r Yd)
def Nna:∀ (k:Nat) (l:List ByteArray) (s:ByteArray),k<l.length→∃ j,j≤k∧(Vya l k s).2=j∧(Vya l k s).1.set j s=l.take j++s::((l.take k).drop j++l.drop (k+1))∧(∀ y∈(l.take k).drop j,tlt s y=true)∧(0<j→tlt s (l.getD (j-1) Ki)=false)
 |0,l,s,hk=>by
  refine⟨0,Vv _,rfl,?_,λ y hy=>by simp at hy,λ h=>by omega⟩
  cases l with
  |nil=>simp at hk
  |cons x l=>rfl
 |k+1,l,s,hk=>by
  unfold Vya
  cases hc:tlt s (l.getD k Ki) with
  |false=>
   rw[cond_false];refine⟨k+1,Vv _,rfl,?_,λ y hy=>?_,λ _=>hc⟩
   ·rw[Ayb,B3b,Zza,Wk];exact A7b .. |>.trans (if_pos hk)
   ·rw[Ayb,B3b,Zza]at hy;cases hy
  |true=>
   rw[cond_true];obtain⟨j,h1,h2,h3,h4,h5⟩:=Nna k (l.set (k+1) (l.getD k Ki)) s (by rw[Wa];omega)
   have t1:(l.set (k+1) (l.getD k Ki)).take j=l.take j:=by rw[Bub (by omega)]
   have t2:(l.set (k+1) (l.getD k Ki)).take k=l.take k:=by rw[Bub (by omega)]
   have t3:(l.set (k+1) (l.getD k Ki)).drop (k+1)=l.getD k Ki::l.drop (k+2):=by
    rw[Zd (by rw[Wa];exact hk),List.getElem_set_self,List.drop_set_of_lt (by omega)]
   have t4:l.take (k+1)=l.take k++[l.getD k Ki]:=by
    rw[Yj (by omega),Vb,Ve (by omega),Wh]
   have hlk:(l.take k).length=k:=by rw[Vp];omega
   rw[t1,t2,t3]at h3;rw[t2]at h4;refine⟨j,by omega,h2,?_,λ y hy=>?_,λ h=>?_⟩
   ·rw[h3,t4,Bnb (by omega),Vo];rfl
   ·rw[t4,Bnb (by omega)]at hy;rcases Vm.1 hy with hy|hy
    ·exact h4 y hy
    ·rw[Vq.1 hy];exact hc
   ·have:=h5 h;rwa [Vb,Awb (by omega),← Vb]at this
def X1 {l:List ByteArray} {s:ByteArray}:∃ j,j≤l.length∧Y4a l s=l.take j++s::l.drop j∧(∀ y∈l.drop j,tlt s y=true)∧(0<j→tlt s (l.getD (j-1) Ki)=false):=by
 obtain⟨j,h1,h2,h3,h4,h5⟩:=Nna l.length (l++[s]) s (by simp)
 have t1:(l++[s]).take l.length=l:=by rw[Bob (Vv _),Zv]
 have t2:(l++[s]).drop (l.length+1)=[]:=Bbb (by simp);have t3:(l++[s]).take j=l.take j:=Bob h1;rw[t1]at h4;rw[t1,t2,t3,Wp]at h3;refine⟨j,h1,?_,h4,λ h=>?_⟩
 ·unfold Y4a;rw[h2,h3]
 ·have:=h5 h;rwa [Vb,Yh (by omega),← Vb]at this
def spl (l:List ByteArray) (s:ByteArray):List ByteArray:=bif Ofa l s then l else Y4a l s
def U9 {l:List ByteArray} {s y:ByteArray}:y∈spl l s↔y=s∨y∈l:=by
 unfold spl
 cases h:Ofa l s with
 |true=>
  have:=A2a.1 h;exact⟨.inr,λ h=>h.elim (λ e=>e ▸ this) id⟩
 |false=>
  obtain⟨j,_,e,_⟩:=X1 (l:=l) (s:=s);rw[cond_false,e,Vm,Vl]
  conv=>rhs;rw[← Wi j l,Vm]
  constructor
  ·rintro (h|h|h)
   ·exact .inr (.inl h)
   ·exact .inl h
   ·exact .inr (.inr h)
  ·rintro (h|h|h)
   ·exact .inr (.inl h)
   ·exact .inl h
   ·exact .inr (.inr h)
def Qy {l:List ByteArray} {s:ByteArray} (h:TS l):TS (spl l s):=by
 unfold spl;cases hh:Ofa l s
 case true=>exact h
 have hn:s∉l:=λ c=>by rw[A2a.2 c]at hh;cases hh
 obtain⟨j,h1,e,h4,h5⟩:=X1 (l:=l) (s:=s);rw[cond_false,e]
 have hs:∀ y∈l.take j,tlt y s=true:=by
  intro y hy
  by_cases hj:0<j
  ·have hlast:l.getD (j-1) Ki∈l:=A3 (by omega)
   have hlt:tlt (l.getD (j-1) Ki) s=true:=by
    cases hc:tlt (l.getD (j-1) Ki) s with
    |true=>rfl
    |false=>exact absurd (Ti hc (h5 hj) ▸ hlast) hn
   obtain⟨i,hi,rfl⟩:=Yq.1 hy;rw[Vp]at hi;rw[Aub]
   by_cases hij:i=j-1
   ·subst hij;rwa [Vb,Ve (by omega),Wh]at hlt
   ·have:=Yp.1 h i (j-1) (by omega) (by omega) (by omega);rw[Vb,Ve (by omega),Wh]at hlt;exact Iq this hlt
  ·rw[show j=0 by omega,Zza]at hy;cases hy
 have hd:TS (l.drop j):=h.sublist (List.drop_sublist _ _);have ht:TS (l.take j):=h.sublist (Cbb _ _)
 exact Za.2 ⟨ht,Wd.2 ⟨h4,hd⟩,λ a ha b hb=>by
  rcases Vl.1 hb with rfl|hb
  ·exact hs a ha
  ·exact Iq (hs a ha) (h4 b hb)⟩

abbrev Evt:=Int×Int×ByteArray×List Int×Int×List Int
def Y5a (e:Evt):Prop:=L8 e.2.2.1∧e.2.2.2.1.length≤1000000000∧(-9223372036854775808≤e.2.2.2.2.1∧e.2.2.2.2.1≤9223372036854775807)∧e.2.2.2.2.2.length≤4000000000000
def Hh (l:List Int):List Bool:=l.map (· == 1)
def crN (n:Nod) (kp:List Bool):Nod:=(n.1,Kj n.2.1 kp,n.2.2)
def Xma {n:Nod} {kp:List Bool} (hn:NG n):NG (crN n kp):=A3a hn (N7a hn.g)
def Raa (w:Wld) (i:Nat) (s:ByteArray) (b:Int):Bool×Wld:=bif (Cha (w.2.2.1.getD i Bb) s b).2 then (true,(w.1,w.2.1,w.2.2.1.set i (Cha (w.2.2.1.getD i Bb) s b).1,w.2.2.2.1,w.2.2.2.2.1,spl w.2.2.2.2.2 s)) else (false,w)
def Mj (w:Wld) (e:Evt) (i:Nat):Bool×Wld:=
 bif e.1==3 then A9a w i e.2.2.1 e.2.2.2.2.2 else bif e.1==4 then Cwa w i e.2.2.2.2.2 else bif e.1==5 then Cxa w i e.2.2.2.2.2 else
 bif e.1==6 then (true,wN w (w.2.2.1.set i (Yqa (w.2.2.1.getD i Bb)).1)) else
 bif e.1==7 then (true,wN w (w.2.2.1.set i (crN (w.2.2.1.getD i Bb) (Hh e.2.2.2.2.2)))) else Raa w i e.2.2.1 e.2.2.2.2.1
def Us (w:Wld) (i wt:Int):Bool×Wld:=bif !(inR i 0 ((w.1.length:Int)-1)) then (false,w) else bif !(inR wt 1 1000) then (false,w) else
 (decide ((Cpa w.2.1 (wgt w.1 i.toNat wt)).2≥0),(wgt w.1 i.toNat wt,(Cpa w.2.1 (wgt w.1 i.toNat wt)).1,w.2.2))
def Noa (r:Int×Wld):Bool×Wld:=bif r.1 != 2 then (r.1 != 3,r.2) else (false,r.2)
def doW (w:Wld) (e:Evt):Bool×Wld:=
 bif e.1==1 then Noa (ask w e.2.2.1 ((0,0,0),false,e.2.2.2.1) e.2.2.2.2.1 e.2.2.2.2.2) else
 bif e.1==2 then Noa (ask w e.2.2.1 ((0,0,0),true,[]) e.2.2.2.2.1 e.2.2.2.2.2) else
 bif e.1==3||(e.1==4||(e.1==5||(e.1==6||(e.1==7||e.1==8)))) then (bif inR e.2.1 0 ((w.2.2.1.length:Int)-1) then Mj w e e.2.1.toNat else (false,w)) else
 bif e.1==9 then Us w e.2.1 e.2.2.2.2.1 else (false,w)

def X2 {a b c:Stp} (h1:sle a b=false) (h2:sle b c=false):sle a c=false:=by
 cases h:sle a c
 ·rfl
 have n1:¬ _:=λ k=>by rw[N8.2 k]at h1;cases h1
 have n2:¬ _:=λ k=>by rw[N8.2 k]at h2;cases h2
 have h3:=N8.1 h;omega
def Ua {a b:Stp} (h:sle a b=true):sle b a=false:=by
 cases h':sle b a
 ·rfl
 have h1:=N8.1 h;have h2:=N8.1 h';omega
def Afa (ws:List Wri):Prop:=∀ x∈ws,Bc x.1=true∧Dw x.2.1=true∧Ax x.2.1.2.2
def IsW (ws:List Wri) (s:ByteArray) (f:Fil):Prop:=∃ x∈ws,x.1=s∧x.2.1=f
def EO (ws:List Wri) (sp:List ByteArray) (s:ByteArray) (b:List Int):Prop:=∃ f,IsW ws s f∧(b=Hf f∨(s∈sp∧∃ n,n<8*(Hf f).length∧b=Jd (Hf f) n))
def ED (ws:List Wri) (sp:List ByteArray) (d:Dsk) (s:ByteArray):Prop:=
 (∀ b,gt d.1 s=some b→EO ws sp s b)∧(∀ b,gt d.2 s=some b→EO ws sp s b)∧
 (s∉sp→∀ b f,gt d.2 s=some b→La b=some f→∃ b' f',gt d.1 s=some b'∧La b'=some f'∧sle f'.1 f.1=false)
def DI (ws:List Wri) (sp:List ByteArray) (d:Dsk):Prop:=∀ s,ED ws sp d s
def HD (d:Dsk) (s:ByteArray) (st:Stp):Prop:=∃ b f,gt d.2 s=some b∧La b=some f∧sle f.1 st=false
def MO (sp:List ByteArray) (d d':Dsk):Prop:=∀ s,s∉sp→∀ st,HD d s st→HD d' s st
def IsW.good {ws:List Wri} (hw:Afa ws) {s:ByteArray} {f:Fil} (h:IsW ws s f):Bc s=true∧Dw f=true∧Ax f.2.2:=by
 obtain⟨x,hx,rfl,rfl⟩:=h;exact hw x hx
def EO.get {ws:List Wri} {sp:List ByteArray} (hw:Afa ws) {s:ByteArray} {b:List Int} (h:EO ws sp s b) {f:Fil} (hf:La b=some f):IsW ws s f∧b=Hf f:=by
 obtain⟨g,h1,h2⟩:=h;obtain⟨_,g2,g3⟩:=h1.good hw;rcases h2 with rfl|⟨_,n,hn,rfl⟩
 ·rw[Pu g2 g3]at hf;cases hf;exact⟨h1,rfl⟩
 ·rw[Qva g2 hn]at hf;cases hf
def EO.fine {ws:List Wri} {sp:List ByteArray} (hw:Afa ws) {s:ByteArray} {b:List Int} (h:EO ws sp s b) (hs:s∉sp):∃ f,La b=some f∧IsW ws s f:=by
 obtain⟨g,h1,h2⟩:=h;obtain⟨_,g2,g3⟩:=h1.good hw;rcases h2 with rfl|⟨h,_⟩
 ·exact⟨g,Pu g2 g3,h1⟩
 ·exact absurd h hs
def EO.mono {ws ws':List Wri} {sp sp':List ByteArray} (h1:∀ x∈ws,x∈ws') (h2:∀ s∈sp,s∈sp') {s:ByteArray} {b:List Int} (h:EO ws sp s b):EO ws' sp' s b:=by
 obtain⟨g,⟨x,hx,e⟩,h3⟩:=h;refine⟨g,⟨x,h1 x hx,e⟩,?_⟩;rcases h3 with h3|⟨h3,h4⟩
 ·exact .inl h3
 ·exact .inr ⟨h2 s h3,h4⟩
def ED.mono {ws ws':List Wri} {sp sp':List ByteArray} (h1:∀ x∈ws,x∈ws') (h2:∀ s∈sp,s∈sp') {d:Dsk} {s:ByteArray} (h:ED ws sp d s):ED ws' sp' d s:=
 ⟨λ b hb=>(h.1 b hb).mono h1 h2,λ b hb=>(h.2.1 b hb).mono h1 h2,λ hs=>h.2.2 (λ c=>hs (h2 s c))⟩
def DI.mono {ws ws':List Wri} {sp sp':List ByteArray} (h1:∀ x∈ws,x∈ws') (h2:∀ s∈sp,s∈sp') {d:Dsk} (h:DI ws sp d):DI ws' sp' d:=λ s=>(h s).mono h1 h2
def ED.same {ws:List Wri} {sp:List ByteArray} {d d':Dsk} {s:ByteArray} (h:ED ws sp d s) (e1:gt d'.1 s=gt d.1 s) (e2:gt d'.2 s=gt d.2 s):ED ws sp d' s:=by
 unfold ED;rw[e1,e2];exact h
def HD.same {d d':Dsk} {s:ByteArray} {st:Stp} (h:HD d s st) (e2:gt d'.2 s=gt d.2 s):HD d' s st:=by
 unfold HD;rw[e2];exact h
def MO.refl (sp:List ByteArray) (d:Dsk):MO sp d d:=λ _ _ _ h=>h
def MO.trans {sp:List ByteArray} {a b c:Dsk} (h1:MO sp a b) (h2:MO sp b c):MO sp a c:=λ s hs st h=>h2 s hs st (h1 s hs st h)
def Npa {s:ByteArray} {st:Stp} {n:Nod}:F8a s st n=true↔HD n.2.1 s st:=by
 unfold F8a HD
 cases h:gt n.2.1.2 s with
 |none=>exact⟨λ c=>(by cases c),λ ⟨b,f,c,_⟩=>(by cases c)⟩
 |some b=>
  dsimp only
  cases h2:La b with
  |none=>exact⟨λ c=>(by cases c),λ ⟨b',f,c,c2,_⟩=>(by cases c;rw[h2]at c2;cases c2)⟩
  |some f=>
   dsimp only;rw[Bool.not_eq_true'];exact⟨λ c=>⟨b,f,rfl,h2,c⟩,λ ⟨b',f',c,c2,c3⟩=>(by cases c;rw[h2]at c2;cases c2;exact c3)⟩
section
variable {ws:List Wri} {sp:List ByteArray} {d:Dsk} {s:ByteArray}
def ED.ge (h:ED ws sp d s) (hs:s∉sp) {st:Stp} (hh:HD d s st):∃ b f,gt d.1 s=some b∧La b=some f∧sle f.1 st=false:=by
 obtain⟨b,f,h1,h2,h3⟩:=hh;obtain⟨b',f',h4,h5,h6⟩:=h.2.2 hs b f h1 h2;exact⟨b',f',h4,h5,X2 h6 h3⟩
def V7a (hd:Ce d=true) (h:DI ws sp d):DI ws sp (d.1,sy d s):=by
 intro t
 by_cases ht:s=t
 ·subst ht
  have e:gt (sy d s) s=gt d.1 s:=by rw[Eta hd,if_pos rfl]
  refine⟨(h s).1,λ b hb=>(h s).1 b (by rw[← e];exact hb),λ hs b f hb hf=>⟨b,f,by rw[← e];exact hb,hf,Ls _⟩⟩
 ·exact(h t).same rfl (by show gt (sy d s) t=_;rw[Eta hd,if_neg ht])
def Xna (hd:Ce d=true) (h:DI ws sp d):MO sp d (d.1,sy d s):=by
 intro t ht st hh
 by_cases hst:s=t
 ·subst hst;obtain⟨b,f,h1,h2,h3⟩:=(h s).ge ht hh;exact⟨b,f,by show gt (sy d s) s=_;rw[Eta hd,if_pos rfl,h1],h2,h3⟩
 ·exact hh.same (by show gt (sy d s) t=_;rw[Eta hd,if_neg hst])
def Ywa (hw:Afa ws) (hd:Ce d=true) (h:DI ws sp d) {f:Fil} (hf:IsW ws s f) (hn:∀ o,old d s=some o→sle o.1 f.1=true):DI ws sp (wr d.1 s (Hf f),d.2):=by
 intro t
 by_cases ht:s=t
 ·subst ht
  have e:gt (wr d.1 s (Hf f)) s=some (Hf f):=by rw[Ita (J6 hd),if_pos rfl]
  obtain⟨_,g2,g3⟩:=hf.good hw;refine⟨λ b hb=>?_,(h s).2.1,λ hs b g hb hg=>⟨Hf f,f,e,Pu g2 g3,?_⟩⟩
  ·rw[show gt (wr d.1 s (Hf f)) s=some b from hb]at e;cases e;exact⟨f,hf,.inl rfl⟩
  ·obtain⟨b',f',k1,k2,k3⟩:=(h s).2.2 hs b g hb hg;have:=hn f' (by unfold old;rw[k1];exact k2);exact X2 (Ua this) k3
 ·exact(h t).same (by show gt (wr d.1 s (Hf f)) t=_;rw[Ita (J6 hd),if_neg ht]) rfl
def Nqa (hw:Afa ws) (hd:DG d) (h:DI ws sp d) {f:Fil} {sure:Bool} (hf:IsW ws s f):DI ws sp (keep d s f sure).1∧MO sp d (keep d s f sure).1:=by
 obtain⟨g1,g2,g3⟩:=hf.good hw;rw[Tx hd.1 g1 g2];rcases Wx (f:=f) (sure:=sure) hd g1 with k|⟨o,_,_,k,hg,h3⟩|⟨h1,h2,k,hg,h3⟩
 ·rw[k];exact⟨h,MO.refl _ _⟩
 ·rcases h3 with⟨_,h3⟩|⟨_,h3⟩
  ·rw[h3];exact⟨h,MO.refl _ _⟩
  ·rw[h3];exact⟨V7a hd.1 h,Xna hd.1 h⟩
 ·have hw':=Ywa hw hd.1 h hf h1;rcases h3 with⟨_,h3⟩|⟨_,h3⟩
  ·rw[h3];exact⟨hw',λ t _ st hh=>hh.same rfl⟩
  ·rw[h3];exact⟨V7a h2.1 hw',(show MO sp d (wr d.1 s (Hf f),d.2) from λ t _ st hh=>hh.same rfl).trans (Xna h2.1 hw')⟩
def Nra (hw:Afa ws) (hd:DG d) {f:Fil} (hf:IsW ws s f) (hc:(keep d s f true).2=0∨(keep d s f true).2=1):HD (keep d s f true).1 s f.1:=by
 obtain⟨g1,g2,g3⟩:=hf.good hw;rw[Tx hd.1 g1 g2]at hc ⊢;obtain⟨o,g,b,ho,_,e,h1,h2,h3⟩:=Mqa hd g1 g2 g3 hc;rw[e];exact⟨b,g,by show gt (sy o s) s=_;rw[Eta ho.1,if_pos rfl,h1],h2,h3⟩
def V8a (hd:DG d) (h:DI ws sp d) (kp:List Bool):DI ws sp (Kj d kp):=by
 intro t;rcases N8a (d:=d) (kp:=kp) t with e|⟨e1,e2⟩
 ·rw[e];exact h t
 ·unfold ED;rw[e1]
  have eo:∀ b,gt (Kj d kp).1 t=some b→EO ws sp t b:=by
   intro b hb;rcases e2 with e2|e2
   ·exact(h t).1 b (by rw[← e2];exact hb)
   ·exact(h t).2.1 b (by rw[← e2];exact hb)
  exact⟨eo,eo,λ _ b f hb hf=>⟨b,f,hb,hf,Ls _⟩⟩
def V9a (hd:DG d) (h:DI ws sp d) (kp:List Bool):MO sp d (Kj d kp):=by
 intro t ht st hh;rcases N8a (d:=d) (kp:=kp) t with e|⟨e1,e2⟩
 ·rw[e];exact hh
 ·unfold HD;rw[e1];rcases e2 with e2|e2
  ·rw[e2];exact(h t).ge ht hh
  ·rw[e2];exact hh
def Rba (hw:Afa ws) (hd:DG d) (h:DI ws sp d):DI ws sp (Kd d).1∧MO sp d (Kd d).1:=by
 obtain⟨_,hc⟩:=U3 d.1 (d,0) hd;have hc':∀ t,(t∈Aea d.1→gt (Kd d).1.1 t=none∧gt (Kd d).1.2 t=none)∧(t∉Aea d.1→gt (Kd d).1.1 t=gt d.1 t∧gt (Kd d).1.2 t=gt d.2 t):=hc
 have hb:∀ t,t∈Aea d.1→t∈sp:=by
  intro t ht;obtain⟨b,h1,h2⟩:=(Qxa hd.1).1 ht
  by_cases hs:t∈sp
  ·exact hs
  ·obtain⟨f,hf,_⟩:=((h t).1 b h1).fine hw hs;rw[hf]at h2;cases h2
 constructor
 ·intro t
  by_cases ht:t∈Aea d.1
  ·obtain⟨e1,e2⟩:=(hc' t).1 ht;unfold ED;rw[e1,e2];exact⟨λ b hb=>(by cases hb),λ b hb=>(by cases hb),λ _ b f hb=>(by cases hb)⟩
  ·obtain⟨e1,e2⟩:=(hc' t).2 ht;exact(h t).same e1 e2
 ·intro t ht st hh;exact hh.same ((hc' t).2 (λ c=>ht (hb t c))).2
def Xoa (hd:DG d) (h:DI ws sp d) (hs:Bc s=true):DI ws sp (syD (rmD d s).1 s).1∧∀ t,t≠s→∀ st,HD d t st→HD (syD (rmD d s).1 s).1 t st:=by
 have hr:DI ws sp (rmD d s).1∨True := .inr trivial;unfold rmD
 cases hg:gt d.1 s with
 |none=>
  have e:(bif (none:Option (List Int)).isSome then ((cut d.1 s,d.2),true) else (d,false)).1=d:=rfl;rw[e];unfold syD
  by_cases hl:(sy d s).length≤60
  ·rw[decide_eq_true hl];exact⟨V7a hd.1 h,λ t ht st hh=>hh.same (by show gt (sy d s) t=_;rw[Eta hd.1,if_neg (B7b ht)])⟩
  ·rw[decide_eq_false hl];exact⟨h,λ t ht st hh=>hh⟩
 |some b=>
  have e:(bif (some b:Option (List Int)).isSome then ((cut d.1 s,d.2),true) else (d,false)).1=(cut d.1 s,d.2):=rfl;rw[e];have hd':Ce (cut d.1 s,d.2)=true:=Dy.2 ⟨Ra (Dy.1 hd.1).1,(Dy.1 hd.1).2⟩
  have e1:∀ t,gt (cut d.1 s) t=if s=t then none else gt d.1 t:=λ t=>Rb (J6 hd.1)
  have e2:∀ t,gt (sy (cut d.1 s,d.2) s) t=if s=t then none else gt d.2 t:=λ t=>by
   rw[Eta hd']
   by_cases hst:s=t
   ·rw[if_pos hst,if_pos hst];show gt (cut d.1 s) s=none;rw[e1,if_pos rfl]
   ·rw[if_neg hst,if_neg hst]
  have hlen:(sy (cut d.1 s,d.2) s).length≤60:=by
   have:sy (cut d.1 s,d.2) s=cut d.2 s:=by
    unfold sy;have:=e1 s;rw[if_pos rfl]at this;rw[show gt (cut d.1 s,d.2).1 s=none from this]
   rw[this];exact Zt Tq.length_le (Az.1 (Dy.1 hd.1).2).2.2
  unfold syD;rw[decide_eq_true hlen];constructor
  ·intro t;show ED ws sp (cut d.1 s,sy (cut d.1 s,d.2) s) t
   by_cases hst:s=t
   ·unfold ED;dsimp only;rw[e1,e2,if_pos hst,if_pos hst];exact⟨λ b hb=>(by cases hb),λ b hb=>(by cases hb),λ _ b f hb=>(by cases hb)⟩
   ·exact(h t).same (by show gt (cut d.1 s) t=_;rw[e1,if_neg hst]) (by show gt (sy (cut d.1 s,d.2) s) t=_;rw[e2,if_neg hst])
  ·intro t ht st hh;exact hh.same (by show gt (sy (cut d.1 s,d.2) s) t=_;rw[e2,if_neg (B7b ht)])
def Xpa (hw:Afa ws) (hd:DG d) (h:DI ws sp d) {n:Int} (hl:(lkD d s).2=0) (hr:(Z4 d s n).2=true) (sp':List ByteArray) (hsp:∀ t,t∈sp'↔t=s∨t∈sp):DI ws sp' (Z4 d s n).1∧MO sp' d (Z4 d s n).1∧∃ f,IsW ws s f:=by
 obtain⟨b,hb,hf⟩:=Lx.1 (show lkD d s=((lkD d s).1,0) by rw[← hl]);obtain⟨hW,e⟩:=((h s).1 b hb).get hw hf;have hsub:∀ t∈sp,t∈sp':=λ t ht=>(hsp t).2 (.inr ht);generalize (lkD d s).1=f at *;unfold Z4 at hr ⊢;rw[hb]at hr ⊢;dsimp only at hr ⊢;cases hin:inR n 0 (8*(b.length:Int)-1)
 ·rw[hin]at hr;cases hr
 rw[cond_true];obtain⟨n0,n1⟩:=Dl.1 hin
 have hn:n.toNat<8*(Hf f).length:=by rw[← e];omega
 have e1:∀ t,gt (wr d.1 s (Jd b n.toNat)) t=if s=t then some (Jd b n.toNat) else gt d.1 t:=λ t=>Ita (J6 hd.1)
 have e2:∀ t,gt (bif decide (gt d.2 s=some b) then wr d.2 s (Jd b n.toNat) else d.2) t=if s=t∧gt d.2 s=some b then some (Jd b n.toNat) else gt d.2 t:=by
  intro t
  by_cases hg:gt d.2 s=some b
  ·rw[decide_eq_true hg,cond_true,Ita (Lb hd.1)]
   by_cases hst:s=t
   ·rw[if_pos hst,if_pos ⟨hst,hg⟩]
   ·rw[if_neg hst,if_neg (λ c=>hst c.1)]
  ·rw[decide_eq_false hg,cond_false,if_neg (λ c=>hg c.2)]
 have hflip:EO ws sp' s (Jd b n.toNat):=⟨f,hW,.inr ⟨(hsp s).2 (.inl rfl),n.toNat,hn,by rw[e]⟩⟩;refine⟨λ t=>?_,λ t ht st hh=>?_,f,hW⟩
 ·by_cases hst:s=t
  ·subst hst;refine⟨λ x hx=>?_,λ x hx=>?_,λ c=>absurd ((hsp s).2 (.inl rfl)) c⟩
   ·have:=e1 s;rw[if_pos rfl]at this;rw[show gt (wr d.1 s (Jd b n.toNat)) s=some x from hx]at this;cases this;exact hflip
   ·have:=e2 s;rw[show gt (bif decide (gt d.2 s=some b) then wr d.2 s (Jd b n.toNat) else d.2) s=some x from hx]at this
    by_cases hg:gt d.2 s=some b
    ·rw[if_pos ⟨rfl,hg⟩]at this;cases this;exact hflip
    ·rw[if_neg (λ c=>hg c.2)]at this;exact((h s).2.1 x this.symm).mono (λ _ h=>h) hsub
  ·refine((h t).mono (λ _ h=>h) hsub).same ?_ ?_
   ·show gt (wr d.1 s (Jd b n.toNat)) t=_;rw[e1,if_neg hst]
   ·show gt (bif decide (gt d.2 s=some b) then wr d.2 s (Jd b n.toNat) else d.2) t=_;rw[e2,if_neg (λ c=>hst c.1)]
 ·have hst:s≠t:=λ c=>ht ((hsp t).2 (.inl c.symm));exact hh.same (by show gt (bif decide (gt d.2 s=some b) then wr d.2 s (Jd b n.toNat) else d.2) t=_;rw[e2,if_neg (λ c=>hst c.1)])
end

def NI (ws:List Wri) (sp:List ByteArray) (n:Nod):Prop:=NG n∧DI ws sp n.2.1∧(∀ r∈n.2.2.1,Lc ws r=true)∧∀ r∈n.2.2.2,Lc ws r=true
def KN (ns:List Nod) (s:ByteArray) (st:Stp):Prop:=∃ i,i<ns.length∧HD (ns.getD i Bb).2.1 s st
def MS (sp:List ByteArray) (ns ns':List Nod):Prop:=∀ s,s∉sp→∀ st,KN ns s st→KN ns' s st
def Ub {ws:List Wri} {r:Row}:Lc ws r=true↔∃ x∈ws,Qr x.1 x.2.1=r:=by
 unfold Lc;rw[Zz];exact⟨λ ⟨x,h1,h2⟩=>⟨x,h1,Cva.1 h2⟩,λ ⟨x,h1,h2⟩=>⟨x,h1,Cva.2 h2⟩⟩
def X3 {ws ws':List Wri} (h:∀ x∈ws,x∈ws') {r:Row} (hr:Lc ws r=true):Lc ws' r=true:=by
 obtain⟨x,h1,h2⟩:=Ub.1 hr;exact Ub.2 ⟨x,h x h1,h2⟩
def Rca {ws:List Wri} {s:ByteArray} {f:Fil} (h:IsW ws s f):Lc ws (Qr s f)=true:=by
 obtain⟨x,h1,rfl,rfl⟩:=h;exact Ub.2 ⟨x,h1,rfl⟩
def NI.mono {ws ws':List Wri} {sp sp':List ByteArray} (h1:∀ x∈ws,x∈ws') (h2:∀ s∈sp,s∈sp') {n:Nod} (h:NI ws sp n):NI ws' sp' n:=
 ⟨h.1,h.2.1.mono h1 h2,λ r hr=>X3 h1 (h.2.2.1 r hr),λ r hr=>X3 h1 (h.2.2.2 r hr)⟩
def NR (ws:List Wri) (sp:List ByteArray) (ns ns':List Nod):Prop:=(∀ n∈ns',NI ws sp n)∧ns'.map (·.1)=ns.map (·.1)∧MS sp ns ns'
def NR.refl {ws:List Wri} {sp:List ByteArray} {ns:List Nod} (h:∀ n∈ns,NI ws sp n):NR ws sp ns ns:=⟨h,rfl,λ _ _ _ h=>h⟩
def NR.len {ws:List Wri} {sp:List ByteArray} {ns ns':List Nod} (h:NR ws sp ns ns'):ns'.length=ns.length:=by
 have:=congrArg length h.2.1;rwa [Vz,Vz]at this
def Ib {α:Type} {l:List α} {i j:Nat} {x d:α} (hj:j<l.length):(l.set i x).getD j d=if i=j then x else l.getD j d:=by
 rw[Vb,List.getElem?_set]
 by_cases h:i=j
 ·subst h;rw[if_pos rfl,if_pos rfl,if_pos hj];rfl
 ·rw[if_neg h,if_neg h,Vb]
def Fba {ns:List Nod} {i:Nat} {n:Nod} (hi:i<ns.length) (h:n.1=(ns.getD i Bb).1):(ns.set i n).map (·.1)=ns.map (·.1):=by
 refine Cgb (by simp) (λ j h1 h2=>?_);rw[Vz,Wa]at h1;rw[Bpb,Bpb,Chb]
 by_cases hij:i=j
 ·subst hij;rw[if_pos rfl,h,Vb,Ve hi];rfl
 ·rw[if_neg hij]
def NR.set {ws:List Wri} {sp:List ByteArray} {ns ns':List Nod} (h:NR ws sp ns ns') {i:Nat} (hi:i<ns'.length) {n:Nod} (h1:NI ws sp n) (h2:n.1=(ns'.getD i Bb).1) (h3:MO sp (ns'.getD i Bb).2.1 n.2.1):NR ws sp ns (ns'.set i n):=by
 obtain⟨g1,g2,g3⟩:=h;refine⟨λ m hm=>?_,by rw[Fba hi h2,g2],λ s hs st hk=>?_⟩
 ·rcases Ys hm with hm|rfl
  ·exact g1 m hm
  ·exact h1
 ·obtain⟨j,hj,hd⟩:=g3 s hs st hk;refine⟨j,by rw[Wa];exact hj,?_⟩;rw[Ib hj]
  by_cases hij:i=j
  ·subst hij;rw[if_pos rfl];exact h3 s hs st hd
  ·rw[if_neg hij];exact hd
section
variable {ws:List Wri} {sp:List ByteArray} {n:Nod} {s:ByteArray} {f:Fil}
def Vaa (hw:Afa ws) (h:NI ws sp n) (hf:IsW ws s f) (sure:Bool):NI ws sp (Oz n s f sure).1∧(Oz n s f sure).1.1=n.1∧MO sp n.2.1 (Oz n s f sure).1.2.1:=by
 obtain⟨g1,g2,g3⟩:=hf.good hw;obtain⟨h1,h2,h3,h4⟩:=h;have hg:=Mra (sure:=sure) h1 g1 g2;obtain⟨k1,k2⟩:=Nqa (sure:=sure) hw h1.g h2 hf;unfold Oz at hg ⊢;cases hq:(n.2.2.2.length:Int)==60
 case true=>exact⟨⟨h1,h2,h3,h4⟩,rfl,MO.refl _ _⟩
 rw[hq]at hg;refine⟨⟨hg,k1,h3,?_⟩,rfl,k2⟩
 show ∀ r∈bif (keep n.2.1 s f sure).2==0&&sure then n.2.2.2++[Qr s f] else n.2.2.2,Lc ws r=true
 cases (keep n.2.1 s f sure).2==0&&sure
 ·exact h4
 intro r hr;rcases Vm.1 hr with hr|hr
 ·exact h4 r hr
 ·rw[Vq.1 hr];exact Rca hf
def Vba (hw:Afa ws) (h:NI ws sp n) (hf:IsW ws s f) (hc:(Oz n s f true).2=0∨(Oz n s f true).2=1):HD (Oz n s f true).1.2.1 s f.1:=by
 unfold Oz at hc ⊢
 cases hq:((n.2.2.2.length:Int)==60) with
 |true=>rw[hq]at hc;rcases hc with hc|hc<;>cases hc
 |false=>rw[hq]at hc;exact Nra hw h.1.g hf hc
def Yxa (h:NI ws sp n) {l:List Row} (hl:I1 l=true) (hr:∀ r∈l,Lc ws r=true):NI ws sp (tk n l).2∧(tk n l).2.1=n.1∧(tk n l).2.2.1=n.2.1:=by
 obtain⟨h1,h2,h3,h4⟩:=h;have hg:=Yua h1 hl;unfold tk at hg ⊢;cases hq:decide ((C2a n.2.2.1 l).length > 60)
 case true=>exact⟨⟨h1,h2,h3,h4⟩,rfl,rfl⟩
 rw[hq]at hg;exact⟨⟨hg,h2,λ r hr'=>(Gxa hr').elim (h3 r) (hr r),h4⟩,rfl,rfl⟩
end
def Xqa {ws:List Wri} {sp:List ByteArray} {ns:List Nod} {R:Int} {rc:List Int} {s:ByteArray} {f:Fil} {cs:List Int} {a:List Nod×Int×Int} {j:Nat} (hw:Afa ws) (hf:IsW ws s f)
  (h:NR ws sp ns a.1∧(s∉sp→a.2.2≥1→KN a.1 s f.1)∧a.2.2≥0) (hc:(cs.getD j 0).toNat<ns.length):
  NR ws sp ns (wst R rc s f cs a j).1∧(s∉sp→(wst R rc s f cs a j).2.2≥1→KN (wst R rc s f cs a j).1 s f.1)∧(wst R rc s f cs a j).2.2≥0:=by
 obtain⟨h1,h2,h3⟩:=h;unfold wst;cases decide (a.2.1<R)
 ·exact⟨h1,h2,h3⟩
 cases rch rc j==0
 case true=>exact⟨h1,h2,h3⟩
 rw[cond_true,cond_false]
 have hi:(cs.getD j 0).toNat<a.1.length:=by rw[h1.len];exact hc
 generalize (cs.getD j 0).toNat=i at *;have hn:=h1.1 _ (A3 (d:=Bb) hi);obtain⟨p1,p2,p3⟩:=Vaa hw hn hf (rch rc j != 3);refine⟨h1.set hi p1 p2 p3,λ hs hg=>?_,?_⟩
 ·cases hr:rch rc j==1&&((Oz (a.1.getD i Bb) s f (rch rc j != 3)).2==0||(Oz (a.1.getD i Bb) s f (rch rc j != 3)).2==1) with
  |true=>
   rw[Va,Zp,beq_iff_eq,beq_iff_eq,beq_iff_eq]at hr
   have e:(rch rc j != 3)=true:=by rw[hr.1];rfl
   rw[e]at hr ⊢;refine⟨i,by rw[Wa];exact hi,?_⟩;rw[Ib hi,if_pos rfl];exact Vba hw hn hf hr.2
  |false=>
   rw[hr]at hg;obtain⟨m,hm,hd⟩:=h2 hs hg;refine⟨m,by rw[Wa];exact hm,?_⟩;rw[Ib hm]
   by_cases hij:i=m
   ·subst hij;rw[if_pos rfl];exact p3 s hs _ hd
   ·rw[if_neg hij];exact hd
 ·dsimp only;cases rch rc j==1&&((Oz (a.1.getD i Bb) s f (rch rc j != 3)).2==0||(Oz (a.1.getD i Bb) s f (rch rc j != 3)).2==1)
  ·exact h3
  ·rw[cond_true];omega
def Xra {ws:List Wri} {sp:List ByteArray} {w:Wld} {rc:List Int} {s:ByteArray} {f:Fil} (hw:Afa ws) (hf:IsW ws s f) (hn:∀ n∈w.2.2.1,NI ws sp n):
  NR ws sp w.2.2.1 (wrN w s f rc).1∧(s∉sp→(wrN w s f rc).2.2≥1→KN (wrN w s f rc).1 s f.1)∧(wrN w s f rc).2.2≥0:=
 Je (λ _ (a:List Nod×Int×Int)=>NR ws sp w.2.2.1 a.1∧(s∉sp→a.2.2≥1→KN a.1 s f.1)∧a.2.2≥0) ⟨NR.refl hn,λ _ h=>absurd h (show ¬ (0:Int)≥1 by omega),Abb _⟩
  (λ j b hj hb=>Xqa hw hf hb (by have:=Jf (A3 (d:=0) hj);omega))
def Xsa {ws:List Wri} {sp:List ByteArray} {ns:List Nod} {rc:List Int} {s:ByteArray} {f:Fil} {ps:List Int} {a:List Nod×Bool×Bool} {src j:Nat} (hw:Afa ws) (hf:IsW ws s f) (hsrc:src<ns.length)
  (h:NR ws sp ns a.1∧(a.2.1=false→a.1.getD src Bb=ns.getD src Bb∧(a.2.2=true→0<j→∃ i,i≠src∧i<ns.length∧HD (a.1.getD i Bb).2.1 s f.1))) (hc:(ps.getD j 0).toNat<ns.length) (hc0:0≤ps.getD j 0):
  NR ws sp ns (pst (src:Int) s f rc ps a j).1∧((pst (src:Int) s f rc ps a j).2.1=false→(pst (src:Int) s f rc ps a j).1.getD src Bb=ns.getD src Bb∧((pst (src:Int) s f rc ps a j).2.2=true→0<j+1→∃ i,i≠src∧i<ns.length∧HD ((pst (src:Int) s f rc ps a j).1.getD i Bb).2.1 s f.1)):=by
 obtain⟨h1,h2⟩:=h;unfold pst;cases hz:ps.getD j 0==(src:Int)
 case true=>exact⟨h1,λ c=>by cases c⟩
 have hne:(ps.getD j 0).toNat≠src:=by
  have:=beq_eq_false_iff_ne.1 hz;omega
 cases hr:rch rc j != 1
 case true=>exact⟨h1,λ c=>⟨(h2 c).1,λ c'=>by cases c'⟩⟩
 rw[cond_false,cond_false]
 have hi:(ps.getD j 0).toNat<a.1.length:=by rw[h1.len];exact hc
 generalize (ps.getD j 0).toNat=i at *;have hn:=h1.1 _ (A3 (d:=Bb) hi);obtain⟨k1,k2⟩:=Nqa (sure:=true) hw hn.1.g hn.2.1 hf;refine⟨h1.set hi ⟨Faa hn.1,k1,hn.2.2⟩ rfl k2,λ c=>⟨?_,λ c' _=>?_⟩⟩
 ·show (a.1.set i _).getD src Bb=_;rw[Ib (by rw[h1.len];exact hsrc),if_neg hne];exact(h2 c).1
 ·refine⟨i,hne,hc,?_⟩;show HD ((a.1.set i _).getD i Bb).2.1 s f.1;rw[Ib hi,if_pos rfl];refine Nra hw hn.1.g hf ?_
  cases hk:(keep (a.1.getD i Bb).2.1 s f true).2 != 0&&(keep (a.1.getD i Bb).2.1 s f true).2 != 1 with
  |true=>
   have:(bif (keep (a.1.getD i Bb).2.1 s f true).2 != 0&&(keep (a.1.getD i Bb).2.1 s f true).2 != 1 then false else a.2.2)=true:=c';rw[hk]at this;cases this
  |false=>
   rw[Clb,bne,bne,Ye,Ye,beq_iff_eq,beq_iff_eq]at hk;exact hk
def Xta {ws:List Wri} {sp:List ByteArray} {w:Wld} {rc:List Int} {s:ByteArray} {i:Nat} (hw:Afa ws) (hn:∀ n∈w.2.2.1,NI ws sp n) (hi:i<w.2.2.1.length) (hf:IsW ws s (lkD (w.2.2.1.getD i Bb).2.1 s).1):
  NR ws sp w.2.2.1 (puN w i s rc).1∧((puN w i s rc).2.1=false→(puN w i s rc).1.getD i Bb=w.2.2.1.getD i Bb∧((puN w i s rc).2.2=true→0<(J7 w s).length→∃ j,j≠i∧j<w.2.2.1.length∧HD ((puN w i s rc).1.getD j Bb).2.1 s (lkD (w.2.2.1.getD i Bb).2.1 s).1.1)):=
 Je (λ n (a:List Nod×Bool×Bool)=>NR ws sp w.2.2.1 a.1∧(a.2.1=false→a.1.getD i Bb=w.2.2.1.getD i Bb∧(a.2.2=true→0<n→∃ j,j≠i∧j<w.2.2.1.length∧HD (a.1.getD j Bb).2.1 s (lkD (w.2.2.1.getD i Bb).2.1 s).1.1))) ⟨NR.refl hn,λ _=>⟨rfl,λ _ c=>absurd c (Nat.lt_irrefl _)⟩⟩
  (λ j b hj hb=>Xsa hw hf hi hb (by have:=Pz (A3 (d:=0) hj);omega) (Pz (A3 (d:=0) hj)).1)
def Nsa {w:Wld} {s:ByteArray} (hr:Gw w.2.1 w.1=true) (hid:w.2.2.1.map (·.1)=w.1.map (·.1)):0<(J7 w s).length:=by
 obtain⟨_,p2,p3⟩:=Qu hr s;have h5:=(Bp.1 hr).2.1;obtain⟨id,hidm⟩:=Bmb (l:=Ou w.2.1 s) (by omega);have:=Ky.1 (p3 id hidm);rw[← hid]at this;obtain⟨n,hn,rfl⟩:=Yt.1 this;obtain⟨j,hj,rfl⟩:=Yq.1 hn;have hm:(j:Int)∈J7 w s:=U6.2 ⟨j,hj,by rw[Vb,Ve hj];exact hidm,rfl⟩;exact A3b hm
def Hka {ws:List Wri} {sp:List ByteArray} {w:Wld} {rc:List Int} {s:ByteArray} {i:Nat} (hw:Afa ws) (hn:∀ n∈w.2.2.1,NI ws sp n) (hi:i<w.2.2.1.length) (hr:Gw w.2.1 w.1=true) (hid:w.2.2.1.map (·.1)=w.1.map (·.1)):
  ∃ ns,(A9a w i s rc).2=wN w ns∧NR ws sp w.2.2.1 ns:=by
 have hni:=hn _ (A3 (d:=Bb) hi);unfold A9a;cases hl:(lkD (w.2.2.1.getD i Bb).2.1 s).2 != 0
 case true=>exact⟨w.2.2.1,rfl,NR.refl hn⟩
 rw[bne,Ye,beq_iff_eq]at hl;obtain⟨b,hb,hg⟩:=Lx.1 (show lkD (w.2.2.1.getD i Bb).2.1 s=((lkD (w.2.2.1.getD i Bb).2.1 s).1,0) from by rw[← hl]);have hf:IsW ws s (lkD (w.2.2.1.getD i Bb).2.1 s).1:=(((hni.2.1 s).1 b hb).get hw hg).1;obtain⟨h1,h2⟩:=Xta (rc:=rc) hw hn hi hf;refine⟨_,rfl,?_⟩;cases hc:(puN w i s rc).2.2&&!(puN w i s rc).2.1
 ·exact h1
 rw[Va,Vy]at hc;obtain⟨h3,h4⟩:=h2 hc.2;obtain⟨j,hj,hjl,hd⟩:=h4 hc.1 (Nsa hr hid);rw[cond_true,h3];obtain⟨g1,_,_⟩:=hf.good hw
 have hi':i<(puN w i s rc).1.length:=by rw[h1.len];exact hi
 obtain⟨o1,o2⟩:=Xoa (s:=s) hni.1.g hni.2.1 g1;refine⟨λ m hm=>?_,by rw[Fba hi' (by rw[h3];rfl),h1.2.1],λ t ht st hk=>?_⟩
 ·rcases Ys hm with hm|rfl
  ·exact h1.1 m hm
  ·exact⟨T1a hni.1 g1,o1,hni.2.2⟩
 ·obtain⟨m,hm,hh⟩:=h1.2.2 t ht st hk
  by_cases hmi:m=i
  ·subst hmi;rw[h3]at hh
   by_cases hts:t=s
   ·subst hts;obtain⟨b',f',e1,e2,e3⟩:=(hni.2.1 t).ge ht hh;rw[hb]at e1;cases e1;rw[hg]at e2;cases e2;obtain⟨c,g,k1,k2,k3⟩:=hd;refine⟨j,by rw[Wa,h1.len];exact hjl,?_⟩;rw[Ib (by rw[h1.len];exact hjl),if_neg (B7b hj)];exact⟨c,g,k1,k2,X2 k3 e3⟩
   ·refine⟨m,by rw[Wa];exact hm,?_⟩;rw[Ib hm,if_pos rfl];exact o2 t hts st hh
  ·refine⟨m,by rw[Wa];exact hm,?_⟩;rw[Ib hm,if_neg (B7b hmi)];exact hh
def Hla {ws:List Wri} {sp:List ByteArray} {w:Wld} {src:Int} {l:List Row} {self:Bool} {rc:List Int} (hn:∀ n∈w.2.2.1,NI ws sp n) (hl:I1 l=true) (hr:∀ r∈l,Lc ws r=true):NR ws sp w.2.2.1 (Ke w src l self rc).1:=by
 refine Je (λ _ (a:List Nod×Bool)=>NR ws sp w.2.2.1 a.1) (NR.refl hn) (λ j b hj hb=>?_);have hc:=Lz (A3 (d:=0) hj);unfold gst;cases (H8 w).getD j 0==src&&!self
 case true=>exact hb
 cases rch rc j != 1
 case true=>exact hb
 have hi:((H8 w).getD j 0).toNat<b.1.length:=by rw[hb.len];omega
 obtain⟨t1,t2,t3⟩:=Yxa (hb.1 _ (A3 (d:=Bb) hi)) hl hr;exact hb.set hi t1 t2 (by rw[t3];exact MO.refl _ _)
def Rda {ws:List Wri} {sp:List ByteArray} {w:Wld} {rc:List Int} {i:Nat} (hn:∀ n∈w.2.2.1,NI ws sp n) (hi:i<w.2.2.1.length):∃ ns,(Cwa w i rc).2=wN w ns∧NR ws sp w.2.2.1 ns:=by
 have hni:=hn _ (A3 (d:=Bb) hi);have hl:=(Cf.1 hni.1.1).2.2.2.1;unfold Cwa;cases ((w.2.2.1.getD i Bb).2.2.1.length:Int)==0
 case true=>exact⟨w.2.2.1,rfl,NR.refl hn⟩
 refine⟨_,rfl,?_⟩;have hg:NR ws sp w.2.2.1 (Nw w i rc).1:=Hla hn hl hni.2.2.1;cases (Nw w i rc).2&&!(Jj (H8 (wN w (Nw w i rc).1)) (i:Int))
 ·exact hg
 have hi':i<(Nw w i rc).1.length:=by rw[hg.len];exact hi
 have hm:=hg.1 _ (A3 (d:=Bb) hi');exact hg.set hi' ⟨Hja hm.1,hm.2.1,(λ _ h=>nomatch h),hm.2.2.2⟩ rfl (MO.refl _ _)
def Rea {ws:List Wri} {sp:List ByteArray} {w:Wld} {rc:List Int} {i:Nat} (hn:∀ n∈w.2.2.1,NI ws sp n) (hi:i<w.2.2.1.length):∃ ns,(Cxa w i rc).2=wN w ns∧NR ws sp w.2.2.1 ns:=by
 have hni:=hn _ (A3 (d:=Bb) hi);obtain⟨hq,_,_,_,hq60⟩:=Cf.1 hni.1.1;unfold Cxa;cases ((w.2.2.1.getD i Bb).2.2.2.length:Int)==0
 case true=>exact⟨w.2.2.1,rfl,NR.refl hn⟩
 refine⟨_,rfl,?_⟩;have hg:NR ws sp w.2.2.1 (Q0 w i rc).1:=Hla hn (Ox hq) (λ r hr=>hni.2.2.2 r (Adb hr));cases (Q0 w i rc).2
 ·exact hg
 have hi':i<(Q0 w i rc).1.length:=by rw[hg.len];exact hi
 have hm:=hg.1 _ (A3 (d:=Bb) hi');exact hg.set hi' ⟨T4a hm.1 (λ r hr=>hq r (Zl hr)) (by rw[We];omega),hm.2.1,hm.2.2.1,λ r hr=>hni.2.2.2 r (Zl hr)⟩ rfl (MO.refl _ _)

structure WI (w:Wld):Prop where
 ring:Gw w.2.1 w.1=true
 ids:w.2.2.1.map (·.1)=w.1.map (·.1)
 nodes:∀ n∈w.2.2.1,NI w.2.2.2.2.1 w.2.2.2.2.2 n
 clk:Gr w.2.2.2.1=true
 wlen:w.2.2.2.2.1.length≤200
 wok:Afa w.2.2.2.2.1
 wge:∀ x∈w.2.2.2.2.1,sle w.2.2.2.1 x.2.1.1=false
 asc:w.2.2.2.2.1.Pairwise (λ a b=>sle a.2.1.1 b.2.1.1=true)
 kept:∀ x∈w.2.2.2.2.1,x.2.2=true→x.1∉w.2.2.2.2.2→KN w.2.2.1 x.1 x.2.1.1
 sps:TS w.2.2.2.2.2
 spw:∀ s∈w.2.2.2.2.2,∃ x∈w.2.2.2.2.1,x.1=s
theorem Yya:LawfulBEq ByteArray := { eq_of_beq:=λ {a b} h=>G9.1 (by rw[← Y8];exact h),rfl:=λ {a}=>by rw[Y8];exact G9.2 rfl }
def Cya:∀ (p q:List ByteArray),p.Nodup→(∀ x∈p,x∈q)→p.length≤q.length
 |[],_,_,_=>Vu _
 |x::p,q,h,hs=>by
  haveI:=Yya;obtain⟨h1,h2⟩:=Yn.1 h;have hx:=hs x Yd;have hlen:(q.erase x).length=q.length-1:=B6b hx;have hpos:=A3b hx;have:=Cya p (q.erase x) h2 (λ y hy=>(Brb (λ c=>by subst c;exact h1 hy)).2 (hs y (Vg _ hy)));rw[Vh];omega
namespace WI
variable {w:Wld}
def splen (h:WI w):w.2.2.2.2.2.length≤200:=by
 have hn:w.2.2.2.2.2.Nodup:=h.sps.imp (λ {a b} hab e=>by subst e;rw[Gy]at hab;cases hab)
 have:=Cya _ (w.2.2.2.2.1.map (·.1)) hn (λ s hs=>by
  obtain⟨x,hx,e⟩:=h.spw s hs
  exact Yt.2 ⟨x,hx,e⟩)
 rw[Vz]at this;have:=h.wlen;omega
def nlen (h:WI w):w.2.2.1.length=w.1.length:=by
 have:=congrArg length h.ids;rwa [Vz,Vz]at this
def dlen (h:WI w):1≤w.1.length∧w.1.length≤12:=(D7.1 (Bp.1 h.ring).1).2.2
def ns (h:WI w):NS w.2.2.1:=⟨by have:=h.nlen;have:=h.dlen;omega,λ n hn=>(h.nodes n hn).1⟩
def win (h:WI w):WIn w:=by
 have h1:=h.nlen;have h2:=h.dlen;have h3:=h.wlen;have h4:=h.splen;refine⟨Ka h.ring,by omega,⟨by omega,λ n hn=>Z5 (h.nodes n hn).1⟩,⟨by omega,λ x hx=>Hb (h.wok x hx).1⟩,by omega,λ s hs=>?_⟩;obtain⟨x,hx,e⟩:=h.spw s hs;rw[← e];exact Hb (h.wok x hx).1
def other (h:WI w) {ns:List Nod} (hn:NR w.2.2.2.2.1 w.2.2.2.2.2 w.2.2.1 ns):WI (wN w ns):=
 ⟨h.ring,hn.2.1.trans h.ids,hn.1,h.clk,h.wlen,h.wok,h.wge,h.asc,λ x hx hk hs=>hn.2.2 _ hs _ (h.kept x hx hk hs),h.sps,h.spw⟩
def other' (h:WI w) {r:Bool×Wld} (hr:∃ ns,r.2=wN w ns∧NR w.2.2.2.2.1 w.2.2.2.2.2 w.2.2.1 ns):WI r.2:=by
 obtain⟨ns,e,hn⟩:=hr;rw[e];exact h.other hn
def write (h:WI w) {s:ByteArray} {f:Fil} {rc:List Int} (hs:Bc s=true) (hf:Dw f=true) (hb:Ax f.2.2) (hc:sle w.2.2.2.1 f.1=true) (hl:w.2.2.2.2.1.length<200):WI (O9 (w.1,w.2.1,w.2.2.1,f.1,w.2.2.2.2) s f rc).2:=by
 obtain⟨g1,g2,g3⟩:=Xra (ws:=w.2.2.2.2.1++[(s,f,decide ((wrN (w.1,w.2.1,w.2.2.1,f.1,w.2.2.2.2) s f rc).2.2≥quo w.2.1.1))]) (sp:=w.2.2.2.2.2) (w:=(w.1,w.2.1,w.2.2.1,f.1,w.2.2.2.2)) (rc:=rc) (s:=s) (f:=f)
  (λ x hx=>by
   rcases Vm.1 hx with hx|hx
   ·exact h.wok x hx
   ·rw[Vq.1 hx];exact⟨hs,hf,hb⟩)
  ⟨_,Vm.2 (.inr (Vq.2 rfl)),rfl,rfl⟩
  (λ n hn=>(h.nodes n hn).mono (λ x hx=>Vm.2 (.inl hx)) (λ _ h=>h))
 unfold O9;generalize wrN (w.1,w.2.1,w.2.2.1,f.1,w.2.2.2.2) s f rc=a at *
 have hq:quo w.2.1.1≥1:=by
  have:=(Bp.1 h.ring).2.1;unfold quo;omega
 exact {
  ring:=h.ring
  ids:=g1.2.1.trans h.ids
  nodes:=g1.1
  clk:=(Ha.1 hf).1
  wlen:=by show (w.2.2.2.2.1++[_]).length≤200;rw[Vi];simp only[Vh,Vs];omega
  wok:=λ x hx=>by
   rcases Vm.1 hx with hx|hx
   ·exact h.wok x hx
   ·rw[Vq.1 hx];exact⟨hs,hf,hb⟩
  wge:=λ x hx=>by
   rcases Vm.1 hx with hx|hx
   ·exact X2 (Ua hc) (h.wge x hx)
   ·rw[Vq.1 hx];exact Ls _
  asc:=Za.2 ⟨h.asc,Akb _ _,λ x hx y hy=>by
   rw[Vq.1 hy];have:=h.wge x hx;cases hxy:sle x.2.1.1 f.1
   case true=>rfl
   have:=X2 this hxy;rw[this]at hc
   cases hc⟩
  kept:=λ x hx hk hsp=>by
   rcases Vm.1 hx with hx|hx
   ·exact g1.2.2 _ hsp _ (h.kept x hx hk hsp)
   ·rw[Vq.1 hx]at hk hsp ⊢;have hk':a.2.2≥quo w.2.1.1:=of_decide_eq_true hk;exact g2 hsp (by omega)
  sps:=h.sps
  spw:=λ s hs=>by
   obtain⟨x,hx,e⟩:=h.spw s hs
   exact⟨x,Vm.2 (.inl hx),e⟩ }
def ask (h:WI w) {s:ByteArray} {f:Fil} {t:Int} {rc:List Int} (hb:Ax f.2.2) (hd:f.2.1=true→f.2.2=[]):WI (ask w s f t rc).2:=by
 unfold Vf.ask;cases hs:Bc s
 ·exact h
 rw[Zk,cond_false]
 by_cases hl:(f.2.2.length:Int) > 200
 ·rw[decide_eq_true hl];exact h
 ·rw[decide_eq_false hl,cond_false];cases inR t 0 1000000000
  ·exact h
  rw[Zk,cond_false];cases hw:(w.2.2.2.2.1.length:Int)==200
  case true=>exact h
  rw[cond_false];have hw':=beq_eq_false_iff_ne.1 hw;have hwl:=h.wlen;obtain⟨n1,n2⟩:=A8a h.clk t 0;cases he:(I3 w.2.2.2.1 t 0).1==w.2.2.2.1.1&&((I3 w.2.2.2.1 t 0).2.1==w.2.2.2.1.2.1&&(I3 w.2.2.2.1 t 0).2.2==w.2.2.2.1.2.2)
  case true=>exact h
  rw[cond_false]
  have hlt:sle w.2.2.2.1 (I3 w.2.2.2.1 t 0)=true:=by
   rcases n2 with n2|n2
   ·rw[n2,beq_self_eq_true,beq_self_eq_true,beq_self_eq_true]at he;cases he
   ·exact n2
  exact h.write (f:=(I3 w.2.2.2.1 t 0,f.2)) hs (Ha.2 ⟨n1,by show f.2.2.length≤200;omega,hd⟩) hb hlt (by omega)
def rot (h:WI w) {i:Nat} (hi:i<w.2.2.1.length) {s:ByteArray} {b:Int}:WI (Raa w i s b).2:=by
 have hni:=h.nodes _ (A3 (d:=Bb) hi);unfold Raa;cases hr:(Cha (w.2.2.1.getD i Bb) s b).2
 ·exact h
 have hg:=Sua (s:=s) (b:=b) hni.1;unfold Cha at hr hg ⊢;cases hc:J0 (w.2.2.1.getD i Bb)&&((lkD (w.2.2.1.getD i Bb).2.1 s).2==0&&(Z4 (w.2.2.1.getD i Bb).2.1 s b).2)
 ·rw[hc]at hr;cases hr
 rw[hc]at hg;rw[Va,Va,beq_iff_eq]at hc;obtain⟨d1,d2,f,hf⟩:=Xpa h.wok hni.1.g hni.2.1 hc.2.1 hc.2.2 (spl w.2.2.2.2.2 s) (λ t=>U9);have hsub:∀ t∈w.2.2.2.2.2,t∈spl w.2.2.2.2.2 s:=λ t ht=>U9.2 (.inr ht)
 have hN:NR w.2.2.2.2.1 (spl w.2.2.2.2.2 s) w.2.2.1 (w.2.2.1.set i ((w.2.2.1.getD i Bb).1,(Z4 (w.2.2.1.getD i Bb).2.1 s b).1,(w.2.2.1.getD i Bb).2.2)):=
  (NR.refl (λ n hn=>(h.nodes n hn).mono (λ _ h=>h) hsub)).set hi ⟨hg,d1,hni.2.2⟩ rfl d2
 exact {
  ring:=h.ring
  ids:=hN.2.1.trans h.ids
  nodes:=hN.1
  clk:=h.clk
  wlen:=h.wlen
  wok:=h.wok
  wge:=h.wge
  asc:=h.asc
  kept:=λ x hx hk hs=>hN.2.2 _ hs _ (h.kept x hx hk (λ c=>hs (hsub _ c)))
  sps:=Qy h.sps
  spw:=λ t ht=>by
   rcases U9.1 ht with rfl|ht
   ·obtain⟨x,hx,e,_⟩:=hf;exact⟨x,hx,e⟩
   ·exact h.spw t ht }
def node (h:WI w) {i:Nat} (hi:i<w.2.2.1.length) {e:Evt}:WI (Mj w e i).2:=by
 have hni:=h.nodes _ (A3 (d:=Bb) hi);unfold Mj;cases e.1==3
 case true=>exact h.other' (Hka h.wok h.nodes hi h.ring h.ids)
 cases e.1==4
 case true=>exact h.other' (Rda h.nodes hi)
 cases e.1==5
 case true=>exact h.other' (Rea h.nodes hi)
 cases e.1==6 with
 |true=>
  obtain⟨c1,c2⟩:=Rba h.wok hni.1.g hni.2.1;exact h.other ((NR.refl h.nodes).set hi ⟨Sza hni.1,c1,hni.2.2⟩ rfl c2)
 |false=>
  cases e.1==7 with
  |true=>exact h.other ((NR.refl h.nodes).set hi ⟨Xma hni.1,V8a hni.1.g hni.2.1 _,hni.2.2⟩ rfl (V9a hni.1.g hni.2.1 _))
  |false=>exact h.rot hi
def weigh (h:WI w) {i t:Int}:WI (Us w i t).2:=by
 unfold Us;cases h1:inR i 0 ((w.1.length:Int)-1)
 ·exact h
 cases h2:inR t 1 1000
 ·exact h
 obtain⟨i0,i1⟩:=Dl.1 h1;obtain⟨w0,w1⟩:=Dl.1 h2;exact⟨(S9 (Sa h.ring (by omega) w0 w1)).1,h.ids.trans (Z9 _ _ _).symm,h.nodes,h.clk,h.wlen,h.wok,h.wge,h.asc,h.kept,h.sps,h.spw⟩
def ev (h:WI w) {e:Evt} (hb:Ax e.2.2.2.1):WI (doW w e).2:=by
 have ae:∀ {q:Int×Wld},WI q.2→WI (Noa q).2:=λ {q} hq=>by
  unfold Noa
  cases q.1 != 2<;>exact hq
 unfold doW;cases e.1==1
 case true=>exact ae (h.ask hb (λ c=>by cases c))
 cases e.1==2
 case true=>exact ae (h.ask Tw (λ _=>rfl))
 cases e.1==3||(e.1==4||(e.1==5||(e.1==6||(e.1==7||e.1==8)))) with
 |true=>
  cases hi:inR e.2.1 0 ((w.2.2.1.length:Int)-1)
  ·exact h
  have:=Dl.1 hi;exact h.node (by omega)
 |false=>
  cases e.1==9 with
  |true=>exact h.weigh
  |false=>exact h
def Nta {ws:List Wri} (hw:Afa ws) {s:ByteArray} {f:Fil} (hf:Ax f.2.2):Nga ws s f=true↔IsW ws s f:=by
 unfold Nga IsW;rw[Zz];constructor
 ·rintro⟨x,hx,h⟩;rw[Va]at h;exact⟨x,hx,G9.1 h.1,(Cua (hw x hx).2.2 hf).1 h.2⟩
 ·rintro⟨x,hx,h1,h2⟩;exact⟨x,hx,by rw[Va];exact⟨G9.2 h1,(Cua (hw x hx).2.2 hf).2 h2⟩⟩
def rightB (h:WI w):Ov w=true:=by
 have h2:=h.dlen;have hl:=h.nlen;unfold Ov
 have a1:O8 w.1 w.2.2.1=true:=by
  unfold O8;rw[show ((w.2.2.1.length:Int)==(w.1.length:Int))=true by rw[beq_iff_eq];omega,Wn,Wg];intro j hj;have hj':=Zf.1 hj;rw[Va,beq_iff_eq];refine⟨?_,(h.nodes _ (A3 (d:=Bb) hj')).1.1⟩
  have e1:(w.2.2.1.getD j Bb).1=(w.2.2.1.map (·.1)).getD j 0:=by
   rw[Vb,Vb,Zw,Ve hj'];rfl
  have e2:(w.1.getD j Kg).1=(w.1.map (·.1)).getD j 0:=by
   rw[Vb,Vb,Zw,Ve (by omega)];rfl
  rw[e1,e2,h.ids]
 have a2:R2a w.2.2.2.1 w.2.2.2.2.1=true:=by
  unfold R2a;rw[Va,Wg];refine⟨λ x hx=>?_,decide_eq_true (by have:=h.wlen;omega)⟩;unfold F3a;rw[(h.wok x hx).1,(h.wok x hx).2.1,h.wge x hx];rfl
 have a3:Py w.2.2.2.2.2=true:=by
  unfold Py;rw[Wg];intro j hj;have hj':=Zf.1 hj;rw[Va,Zp];refine⟨?_,?_⟩
  ·obtain⟨x,hx,e⟩:=h.spw _ (A3 (d:=Ki) hj');rw[← e];exact(h.wok x hx).1
  ·by_cases h0:j=0
   ·exact .inl (decide_eq_true h0)
   ·right;have:=Yp.1 h.sps (j-1) j (by omega) hj' (by omega);rwa [Vb,Vb,Ve hj',Ve (by omega)]
 rw[h.ring,a1,h.clk,a2,a3];rfl
def writtenT (h:WI w):Nt w=true:=by
 unfold Nt;rw[Wg];intro j hj;obtain⟨hg,hd,_⟩:=h.nodes _ (A3 (d:=Bb) (Zf.1 hj));rw[Va,Wg,Wg]
 have one:∀ e:Nmd,EO w.2.2.2.2.1 w.2.2.2.2.2 e.1 e.2→Nia w.2.2.2.2.1 e=true:=by
  intro e he;unfold Nia
  cases hf:La e.2 with
  |none=>rfl
  |some f=>exact(Nta h.wok (Eqa hf).2.1).2 (he.get h.wok hf).1
 exact⟨λ e he=>one e ((hd e.1).1 e.2 (Mma (J6 hg.g.1) he)),λ e he=>one e ((hd e.1).2.1 e.2 (Mma (Lb hg.g.1) he))⟩
def listedT (h:WI w):Qw w=true:=by
 unfold Qw;rw[Wg];intro j hj;obtain⟨_,_,h1,h2⟩:=h.nodes _ (A3 (d:=Bb) (Zf.1 hj));rw[Va,Wg,Wg];exact⟨h1,h2⟩
def keptT (h:WI w):J3a w=true:=by
 unfold J3a;rw[Wg];intro x hx;unfold Nja;cases hk:x.2.2
 ·rfl
 cases hs:Ofa w.2.2.2.2.2 x.1
 case true=>rfl
 obtain⟨i,hi,hh⟩:=h.kept x hx hk (λ c=>by rw[A2a.2 c]at hs;cases hs);rw[Zz.2 ⟨_,A3 hi,Npa.2 hh⟩];rfl
def stampedT (h:WI w):Nu w=true:=by
 unfold Nu;rw[Wg];intro j hj;have hj':=Zf.1 hj;rw[Va,Zp,Vy];refine⟨h.wge _ (A3 hj'),?_⟩
 by_cases h0:j=0
 ·exact .inl (decide_eq_true h0)
 ·right;have:=Yp.1 h.asc (j-1) j (by omega) hj' (by omega);rwa [Vb,Vb,Ve hj',Ve (by omega)]
def safe (h:WI w):R7a w=0:=by
 unfold R7a;rw[h.rightB,h.writtenT,h.listedT,h.keptT,h.stampedT];rfl
end WI

def Z8a (l:List Dev) (last:Int):Prop:=l.Pairwise (λ a b=>a.1<b.1)∧∀ d∈l,(0≤d.1∧d.1≤last)∧(0≤d.2.1∧d.2.1≤20)∧1≤d.2.2∧d.2.2≤1000
def Nua (z:Int) (hz:1≤z∧z≤20):∀ (n:Nat) (i:Int) (l:List Dev) (last:Int) (c:Cur),i=n→n≤6→Th c→Z8a l last→0≤last→last+2*n≤12→l.length+n≤6→
  Tot (λ k=>Ez k l z last i c) (λ r=>(∃ last,Z8a r.1 last∧last≤20)∧r.1.length=l.length+n∧Th r.2):=by
 intro n
 induction n with
 |zero=>
  rintro i l last c rfl _ hc h h0 h1 _;refine Tot.succ ?_;simp (disch:=omega) only [Ez,dF];exact Zga ⟨⟨last,h,by omega⟩,rfl,hc⟩
 |succ n ih=>
  rintro i l last c rfl hn hc h h0 h1 hl;refine Tot.succ ?_;simp (disch:=omega) only [Ez,dT];obtain⟨x,c1,e1,hx,k1⟩:=Y5 c hc [1,1,2] (by decide) (by decide);obtain⟨y,c2,e2,y0,y1,_,k2⟩:=Ns c1 k1 z (by omega);obtain⟨v,c3,e3,hv,k3⟩:=Y5 c2 k2 [1,1,1,2,10,100] (by decide) (by decide);have y1:=y1 (by omega)
  have hx':1≤x∧x≤2:=by
   simp only[Vl,B0b,or_false]at hx;omega
  have hv':1≤v∧v≤1000:=by
   simp only[Vl,B0b,or_false]at hv;omega
  refine Zsa (Zua (Q:=λ r=>r=(x,c1)) e1 rfl) ?_;refine Zsa (Zua (Q:=λ r=>r=(y,c2)) e2 rfl) ?_;refine Zsa (Zua (Q:=λ r=>r=(v,c3)) e3 rfl) ?_;simp (disch:=omega) only [w64];refine Zoa (by simp only[Vh,Vs];omega) ?_;refine(ih _ (l++[(last+x,y,v)]) (last+x) c3 (by omega) (by omega) k3 ⟨?_,?_⟩ (by omega) (by omega) (by rw[Vi];simp only[Vh,Vs];omega)).mono ?_
  ·refine Za.2 ⟨h.1,Akb _ _,λ a ha b hb=>?_⟩;rw[Vq.1 hb];have:=(h.2 a ha).1.2;show a.1<last+x;omega
  ·intro d hd;rcases Vm.1 hd with hd|hd
   ·obtain⟨⟨a1,a2⟩,a3⟩:=h.2 d hd;exact⟨⟨a1,by omega⟩,a3⟩
   ·rw[Vq.1 hd];exact⟨⟨by show 0≤last+x;omega,Abb _⟩,⟨y0,by show y≤20;omega⟩,hv'⟩
  ·rintro r ⟨g1,g2,g3⟩;refine⟨g1,?_,g3⟩;rw[g2,Vi];simp only[Vh,Vs];omega
def J5a (c:Cur) (hc:Th c):Tot (λ k=>Eh k c) (λ r=>H6 r.1=true∧(2≤r.1.length∧r.1.length≤6)∧Th r.2):=by
 unfold Eh;obtain⟨x,c1,e1,x0,x1,_,k1⟩:=Ns c hc 4 (by decide);obtain⟨y,c2,e2,y0,y1,_,k2⟩:=Ns c1 k1 5 (by decide);have x1:=x1 (by decide);have y1:=y1 (by decide);refine Zsa (Zua (Q:=λ r=>r=(x,c1)) e1 rfl) ?_;refine Zsa (Zua (Q:=λ r=>r=(y,c2)) e2 rfl) ?_;simp (disch:=omega) only [w64];refine Zha (Nua (1+x) (by omega) (2+y).toNat (2+y) [] 0 c2 (by omega) (by omega) k2 ⟨List.Pairwise.nil,λ d hd=>(nomatch hd)⟩ (Int.le_refl _) (by omega) (by simp only[List.length_nil];omega)) ?_;rintro r ⟨⟨last,g1,g2⟩,g3,g4⟩;rw[List.length_nil]at g3;exact Zga ⟨D7.2 ⟨g1.1,λ d hd=>Ir.2 ⟨⟨(g1.2 d hd).1.1,by have:=(g1.2 d hd).1.2;omega⟩,(g1.2 d hd).2⟩,by dsimp only;omega,by dsimp only;omega⟩,⟨by dsimp only;omega,by dsimp only;omega⟩,g4⟩
abbrev Oga:Wld:=(([]:List Dev),((0:Int),([]:List (List Int))),([]:List Nod),((0:Int),((0:Int),(0:Int))),([]:List Wri),([]:List ByteArray))
def Ut (d:Dev):Nod:=(d.1,([],[]),[],[])
def X4 (l:List Dev) (parts reps:Int):Wld:=(l,(build l parts reps).1,l.map Ut,(0,0,0),[],[])
def Vca {ws:List Wri} {sp:List ByteArray} {l:List Dev} (h:H6 l=true) {d:Dev} (hd:d∈l):NI ws sp (Ut d):=by
 obtain⟨⟨i0,i1⟩,_⟩:=Ir.1 ((D7.1 h).2.1 d hd);refine⟨⟨Cf.2 ⟨(λ r hr=>nomatch hr),⟨i0,i1⟩,dg0.1,Qx,Vu _⟩,dg0.2⟩,λ s=>⟨λ b hb=>?_,λ b hb=>?_,λ _ b f hb=>?_⟩,(λ r hr=>nomatch hr),(λ r hr=>nomatch hr)⟩
 ·rw[show gt (Ut d).2.1.1 s=none from rfl]at hb;cases hb
 ·rw[show gt (Ut d).2.1.2 s=none from rfl]at hb;cases hb
 ·rw[show gt (Ut d).2.1.2 s=none from rfl]at hb;cases hb
def Fca {l:List Dev} {parts reps:Int} (hb:(build l parts reps).2=true):WI (X4 l parts reps):=by
 obtain⟨h1,h2,_,_⟩:=S8 hb
 exact {
  ring:=h2
  ids:=by show (l.map Ut).map (·.1)=_;rw[Apb];rfl
  nodes:=λ n hn=>by
   obtain⟨d,hd,rfl⟩:=Yt.1 hn;exact Vca h1 hd
  clk:=rfl
  wlen:=Vu _
  wok:=λ x hx=>nomatch hx
  wge:=λ x hx=>nomatch hx
  asc:=List.Pairwise.nil
  kept:=λ x hx=>nomatch hx
  sps:=List.Pairwise.nil
  spw:=λ s hs=>nomatch hs }

def WIm (m:Nat) (w:Wld):Prop:=RBd w.2.1∧w.1.length≤2000000∧(w.2.2.1.length≤2000000∧∀ n∈w.2.2.1,NIn n)∧(w.2.2.2.2.1.length≤m∧∀ x∈w.2.2.2.2.1,L8 x.1∧x.2.1.2.2.length≤2000000∧Ax x.2.1.2.2)∧(w.2.2.2.2.2.length≤m∧∀ s∈w.2.2.2.2.2,L8 s)
def WIm.win {m:Nat} {w:Wld} (h:WIm m w) (hm:m≤2000000):WIn w:=by
 obtain⟨h1,h2,⟨h3,h4⟩,⟨h5,h6⟩,h7,h8⟩:=h;exact⟨h1,h2,⟨h3,h4⟩,⟨by omega,λ x hx=>(h6 x hx).1⟩,by omega,h8⟩
def WI.wim {w:Wld} (h:WI w):WIm 200 w:=by
 have hi:=h.win;have h2:=h.dlen;have h1:=h.nlen;exact⟨hi.1,hi.2.1,hi.2.2.1,⟨h.wlen,λ x hx=>⟨Hb (h.wok x hx).1,by have:=(Ha.1 (h.wok x hx).2.1).2.1;omega,(h.wok x hx).2.2⟩⟩,h.splen,hi.2.2.2.2.2⟩

end Go.Proofs.YtcpligincipmhaaGreat.Vf
