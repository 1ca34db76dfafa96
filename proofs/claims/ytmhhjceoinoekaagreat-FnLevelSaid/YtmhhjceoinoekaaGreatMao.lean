import Derived.Test.YtmhhjceoinoekaaGreatMan
set_option linter.all false
namespace Go.Proofs.YtmhhjceoinoekaaGreat.Vf
open Go
open List (length getD)
open Int (toNat)
open Go.IntKind (wrap)
open BitVec (ofInt)
def Zc:=@List.mem_range
def J5b:=@Bool.or_false
def K3b:=@List.pairwise_singleton
def Kgb:=@List.drop_append_of_le_length
def Khb:=@List.take_append_of_le_length
def Lhb:=@List.all_append
def Ljb:=@List.any_append
def Lkb:=@List.any_nil

def Cja (v:BitVec 32) (b:Int):BitVec 32:=(v ^^^ ofInt 32 b)*16777619#32
def Cka (x:ByteArray):Nat→BitVec 32
 |0=>2166136261#32
 |n+1=>Cja (Cka x n) (bt x (n:Int))
def O4a (x:ByteArray):Nat:=(Cka x x.size).toNat
def Hyb (v:BitVec 32):wrap .u32 ((v.toNat:Int)*16777619)=((v*16777619#32).toNat:Int):=by
 rw[IntKind.wrap_u32,BitVec.toNat_mul]
 show (v.toNat:Int)*16777619 % 4294967296=((v.toNat*16777619 % 4294967296:Nat):Int)
 omega
def Hzb (v:BitVec 32):wrap .i64 ((ofInt (IntKind.bits .i64) ((v.toNat:Int)*16777619) &&& ofInt (IntKind.bits .i64) 4294967295).toNat)=((v*16777619#32).toNat:Int):=by
 have h:=v.isLt
 rw[Job,show (v.toNat:Int)*16777619=((v.toNat*16777619:Nat):Int) by omega,Rw _ (by omega),show (ofInt (IntKind.bits .i64) 4294967295).toNat=2 ^ 32-1 from by decide,Kdb,BitVec.toNat_mul]
 show wrap .i64 ((v.toNat*16777619 % 4294967296:Nat):Int)=((v.toNat*16777619 % 4294967296:Nat):Int)
 exact w64 (by omega) (by omega)
def Yya (x:ByteArray) (hx:x.size≤1000000000):Tot (λ k=>Lz k x) (λ r=>r=(O4a x:Int)):=by
 unfold Lz
 refine I1b (Q:=λ r=>r=(O4a x:Int)) ?_ (by
  rintro r rfl
  have:=(Cka x x.size).isLt
  exact I0b (w64 (n:=(O4a x:Int)) (by omega) (by show ((Cka x x.size).toNat:Int)≤_;omega)))
 refine I9b (L:=λ k i (s:Int)=>Jm k x s i) (Q:=λ r=>r=(O4a x:Int)) x.size (λ j s=>s=((Cka x j).toNat:Int)) ?_ ?_ 0 _ (Vs _) rfl
 ·rintro s rfl
  simp (disch:=omega) only [Jm,dF]
  exact I0b rfl
 ·rintro j s hj rfl next
  have hb:=B1a x (j:Int)
  have e1:wrap .u32 (bt x (j:Int))=bt x (j:Int):=L4b _ ⟨by omega,by omega⟩
  simp (disch:=omega) only [Jm,dT,w64,e1,H9b (Cka x j) _ (bt x (j:Int)) rfl,Hyb]
  exact next _ rfl
def Yza (x:ByteArray) (hx:x.size≤1000000000):Tot (λ k=>Ly k x) (λ r=>r=(O4a x:Int)):=by
 unfold Ly
 refine I1b (Q:=λ r=>r=(O4a x:Int)) ?_ (by rintro r rfl;exact I0b rfl)
 refine I9b (L:=λ k i (s:Int)=>Jg k x s i) (Q:=λ r=>r=(O4a x:Int)) x.size (λ j s=>s=((Cka x j).toNat:Int)) ?_ ?_ 0 _ (Vs _) rfl
 ·rintro s rfl
  simp (disch:=omega) only [Jg,dF]
  exact I0b rfl
 ·rintro j s hj rfl next
  have hb:=B1a x (j:Int)
  have hx:wrap .i64 ((ofInt (IntKind.bits .i64) ((Cka x j).toNat:Int) ^^^ ofInt (IntKind.bits .i64) (bt x (j:Int))).toNat)=((Cka x j ^^^ ofInt 32 (bt x (j:Int))).toNat:Int):=by
   have:=Gpb (Cka x j) (ofInt 32 (bt x (j:Int)))
   rwa [← Nla hb]at this
  simp (disch:=omega) only [Jg,dT,w64,hx,Hzb]
  exact next _ rfl
def R9 (r:Rng) (x:ByteArray):List Int:=r.2.getD (O4a x % r.2.length) []
def Fwb (a b:Nat):Int.tmod (a:Int) (b:Int)=((a % b:Nat):Int):=by
 rw[Imb (by omega)]
 exact(Int.natCast_emod _ _).symm
def Fia (r:Rng) (x:ByteArray) (hr:RBd r) (hx:x.size≤1000000000):Tot (λ k=>C1 k r x) (λ y=>y=R9 r x):=by
 have hrl:=hr.1
 unfold C1
 by_cases h0:r.2.length=0
 ·refine I3b (by rw[h0];rfl) (I0b ?_)
  unfold R9
  rw[Wn h0]
  rfl
 ·have hm:=Llb (O4a x) (show 0<r.2.length by omega)
  refine I2b (by rw[beq_eq_false_iff_ne];omega) (I1b (Q:=λ y=>y=((O4a x % r.2.length:Nat):Int)) ?_ ?_)
  ·unfold L8
   refine I5b (by omega) (Icb (Yya x hx) ?_)
   exact I5b (by omega) (I0b (Fwb _ _))
  ·rintro y rfl
   simp (disch:=omega) only [dT,Vb]
   have hp:=hr.2 _ (A3 (d:=[]) hm)
   rw[Xm _ (by omega)]
   exact I0b rfl
def A1a (r:Rng) (x:ByteArray) (hr:RBd r) (hx:x.size≤1000000000):Tot (λ k=>Bb k r x) (λ y=>y=R9 r x):=by
 have hrl:=hr.1
 unfold Bb
 by_cases h0:r.2.length=0
 ·refine I3b (by rw[h0];rfl) (I0b ?_)
  unfold R9
  rw[Wn h0]
  rfl
 ·have hm:=Llb (O4a x) (show 0<r.2.length by omega)
  refine I2b (by rw[beq_eq_false_iff_ne];omega) (I1b (Q:=λ y=>y=((O4a x % r.2.length:Nat):Int)) ?_ ?_)
  ·unfold L7
   refine I5b (by omega) (Icb (Yza x hx) ?_)
   exact I5b (by omega) (I0b (Fwb _ _))
  ·rintro y rfl
   have hp:=hr.2 _ (A3 (d:=[]) hm)
   simp (disch:=omega) only [dT,Vb]
   exact I8b (by simp only[Vk];omega) (I0b rfl)
def Z0a {r:Rng} {l:List Dev} (h:Jo r l=true) (x:ByteArray):R9 r x∈r.2:=by
 obtain⟨_,_,h3,_⟩:=C4.1 h
 exact A3 (d:=[]) (Llb _ (by omega))
def Bra {r:Rng} {l:List Dev} (h:Jo r l=true) (x:ByteArray):(R9 r x).Nodup∧((R9 r x).length:Int)=r.1∧∀ id∈R9 r x,∃ d,La l id=some d:=(C4.1 h).2.2.2 _ (Z0a h x)
def Q2a (r:Rng) (x:ByteArray) (id:Int) (hr:RBd r) (hx:x.size≤1000000000):Tot (λ k=>Hm k r x id) (λ y=>y=Mb (R9 r x) id):=by
 unfold Hm
 refine Icb (Fia r x hr hx) ?_
 have hp:(R9 r x).length≤2000000:=by
  unfold R9
  by_cases hm:O4a x % r.2.length<r.2.length
  ·exact hr.2 _ (A3 (d:=[]) hm)
  ·rw[Vc,Za (by omega)];exact Vs _
 exact I1b (F9a _ _ (by omega)) (by rintro b rfl;exact I0b rfl)
def hoA (p zs:List Int) (z:Bool) (l:List Dev):List Int:=(l.filter λ d => !(Mb p d.1)&&(Mb zs d.2.1==z)).map (·.1)
def Sr (r:Rng) (l:List Dev) (x:ByteArray):List Int:=hoA (R9 r x) (Km (R9 r x) l) false l++hoA (R9 r x) (Km (R9 r x) l) true l
def Fja (p zs:List Int) (z:Bool) (l:List Dev):(hoA p zs z l).length≤l.length:=by
 unfold hoA
 rw[Wd]
 exact List.length_filter_le _ _
def Z1a (p zs:List Int) (z:Bool) (d:Dev) (l:List Dev):hoA p zs z (d::l)=bif !(Mb p d.1)&&(Mb zs d.2.1==z) then d.1::hoA p zs z l else hoA p zs z l:=by
 unfold hoA
 rw[Zz]
 cases !(Mb p d.1)&&(Mb zs d.2.1==z)<;>rfl
def Bsa (p zs:List Int) (l:List Dev) (hp:p.length≤2000000) (hz:zs.length≤2000000) (hl:l.length≤2000000) (out:List Int) (ho:out.length≤5000000) (t:Int):Tot (λ k=>C5 k l p zs out t 0) (λ y=>y=(l,p,zs,out++hoA p zs (t==1) l,t)):=by
 have m1:=Fja p zs (t==1) l
 refine I9b (L:=λ k i (s:List Int)=>C5 k l p zs s t i) (Q:=λ y=>y=(l,p,zs,out++hoA p zs (t==1) l,t)) l.length (λ j s=>s++hoA p zs (t==1) (l.drop j)=out++hoA p zs (t==1) l) ?_ ?_ 0 out (Vs _) rfl
 ·rintro s e1
  rw[We]at e1
  simp (disch:=omega) only [C5,dF]
  refine I0b ?_
  rw[← e1]
  show _=(l,p,zs,s++[],t)
  rw[Xs]
 ·rintro j s hj e1 next
  have g1:=congrArg length e1
  rw[Ve,Ve]at g1
  rw[Ai (d:=Nv) hj,Z1a]at e1
  obtain⟨d,ed⟩:∃ d:Dev,l.getD j Nv=d:=⟨_,rfl⟩
  rw[ed]at e1
  have e0:l.getD j ((0:Int),((0:Int),(0:Int)))=d:=ed
  simp (disch:=omega) only [C5,dT,Vb,w64,e0]
  refine Icb (Tm p d.1 (by omega)) ?_
  cases hp':Mb p d.1 with
  |true=>
   rw[hp']at e1
   exact I2b rfl (next s e1)
  |false=>
   rw[hp']at e1
   refine I3b rfl (Icb (Tm zs d.2.1 (by omega)) ?_)
   cases hz':Mb zs d.2.1==(t==1) with
   |true=>
    rw[hz']at e1
    exact I3b rfl (I8b (by simp only[Vd,Vk];omega) (next (s++[d.1]) (by rw[← e1];simp)))
   |false=>
    rw[hz']at e1
    exact I2b rfl (next s e1)
def Z2a (r:Rng) (l:List Dev) (x:ByteArray) (h:Jo r l=true) (hx:x.size≤1000000000):Tot (λ k=>Ca k r l x) (λ y=>y=Sr r l x):=by
 obtain⟨h1,h2,_,_⟩:=C4.1 h
 obtain⟨_,p2,_⟩:=Bra h x
 obtain⟨_,_,_,h12⟩:=Fl.1 h1
 have hz:=Boa (R9 r x) l
 unfold Ca Sr
 refine Icb (A1a r x (Mv h) hx) ?_
 generalize R9 r x=p at *
 refine Icb (Iaa p l (by omega) (by omega)) ?_
 generalize Km p l=zs at *
 have m1:=Fja p zs false l
 refine I1b (Q:=λ y=>y=hoA p zs false l++hoA p zs true l) ?_ (by rintro y rfl;exact I0b rfl)
 refine Tot.succ ?_
 simp (disch:=omega) only [Ek,dT]
 refine Icb (Bsa p zs l (by omega) (by omega) (by omega) [] (by simp) 0) ?_
 refine Tot.succ ?_
 simp (disch:=omega) only [Ek,dT,w64,Vy]
 refine Icb (Bsa p zs l (by omega) (by omega) (by omega) (hoA p zs false l) (by omega) 1) ?_
 refine Tot.succ ?_
 simp (disch:=omega) only [Ek,dF,w64]
 exact I0b rfl

section
variable {R:Type} {L:Nat→Int→Option (Sum Bool R)}
def T6 (p:Nat→Bool) (n:Nat):(List.range (n+1)).all p=((List.range n).all p&&p n):=by
 rw[Krb,Lhb,J3b,List.all_nil,Iib]
def Cla (p:Nat→Bool) (n:Nat):(List.range (n+1)).any p=((List.range n).any p||p n):=by
 rw[Krb,Ljb,Jeb,Lkb,J5b]
def Cma {p:Nat→Bool} {m n:Nat} (h:m≤n) (hn:(List.range n).all p=true):(List.range m).all p=true:=by
 rw[Wi]at hn ⊢
 exact λ x hx=>hn x (Zc.2 (by have:=Zc.1 hx;omega))
def Iab (n:Nat) (p:Nat→Bool) (e:R) (hend:Tot (λ k=>L (k+1) (n:Int)) (λ r=>r = .inr e))
  (Cja:∀ j,j<n→∀ (Q:Sum Bool R→Prop),(p j=false→Q (.inl false))→(p j=true→Tot (λ k=>L k ((j:Int)+1)) Q)→Tot (λ k=>L (k+1) (j:Int)) Q):
  Tot (λ k=>L k 0) (λ r=>r=bif (List.range n).all p then .inr e else .inl false):=by
 refine I9b (L:=λ k i (_:Unit)=>L k i) (Q:=λ r=>r=bif (List.range n).all p then .inr e else .inl false) n (λ j _=>(List.range j).all p=true) ?_ ?_ 0 () (Vs _) rfl
 ·intro _ h
  rw[h]
  exact hend
 ·intro j _ hj h next
  refine Cja j hj _ (λ hp=>?_) (λ hp=>next () (by rw[T6,h,hp];rfl))
  cases hc:(List.range n).all p
  ·rfl
  have:=Cma (show j+1≤n by omega) hc
  rw[T6,hp,Ya]at this
  cases this
def Ibb (n:Nat) (p:Nat→Bool) (e:R) (hend:Tot (λ k=>L (k+1) (n:Int)) (λ r=>r = .inr e))
  (Cja:∀ j,j<n→∀ (Q:Sum Bool R→Prop),(p j=true→Q (.inl true))→(p j=false→Tot (λ k=>L k ((j:Int)+1)) Q)→Tot (λ k=>L (k+1) (j:Int)) Q):
  Tot (λ k=>L k 0) (λ r=>r=bif (List.range n).any p then .inl true else .inr e):=by
 refine I9b (L:=λ k i (_:Unit)=>L k i) (Q:=λ r=>r=bif (List.range n).any p then .inl true else .inr e) n (λ j _=>(List.range j).any p=false) ?_ ?_ 0 () (Vs _) rfl
 ·intro _ h
  rw[h]
  exact hend
 ·intro j _ hj h next
  refine Cja j hj _ (λ hp=>?_) (λ hp=>next () (by rw[Cla,h,hp];rfl))
  rw[Ijb.2 ⟨j,Zc.2 hj,hp⟩]
  rfl
end
def P3 {α:Type} (l:List α) (d:α) (p:α→Bool):l.all p=(List.range l.length).all λ j=>p (l.getD j d):=by
 rw[Jkb,Wi,Wi]
 constructor
 ·intro h j hj
  exact h _ (A3 (Zc.1 hj))
 ·intro h x hx
  obtain⟨j,hj,rfl⟩:=Zf.1 hx
  have:=h j (Zc.2 hj)
  rwa [Vc,Vj hj,Yv]at this
def Bta {α:Type} (l:List α) (d:α) (p:α→Bool):l.any p=(List.range l.length).any λ j=>p (l.getD j d):=by
 rw[Jkb,Ijb,Ijb]
 constructor
 ·rintro⟨x,hx,h⟩
  obtain⟨j,hj,rfl⟩:=Zf.1 hx
  exact⟨j,Zc.2 hj,by rwa [Vc,Vj hj,Yv]⟩
 ·rintro⟨j,hj,h⟩
  exact⟨_,A3 (Zc.1 hj),h⟩
abbrev Wri:=ByteArray×Fil×Bool
abbrev Wld:=List Dev×Rng×List Nod×Stp×List Wri×List ByteArray
def Fka:Wri:=((⟨#[]⟩:ByteArray),((((0:Int),((0:Int),(0:Int))),(false,[])),false))
def V0 (l:List ByteArray):Bool:=(List.range l.length).all λ j=>B5 (l.getD j Ni)&&(decide (j=0)||tlt (l.getD (j-1) Ni) (l.getD j Ni))
def Lda (c:Stp) (w:Wri):Bool:=B5 w.1&&(Gc w.2.1&&!(sle c w.2.1.1))
def Z3a (c:Stp) (l:List Wri):Bool:=l.all (Lda c)&&decide ((l.length:Int)≤200)
def T7 (l:List Dev) (ns:List Nod):Bool:=((ns.length:Int)==(l.length:Int))&&(List.range ns.length).all λ j=>((ns.getD j Ac).1==(l.getD j Nv).1)&&O9 (ns.getD j Ac)
def Tr (w:Wld):Bool:=Jo w.2.1 w.1&&(T7 w.1 w.2.2.1&&(Hz w.2.2.2.1&&(Z3a w.2.2.2.1 w.2.2.2.2.1&&V0 w.2.2.2.2.2)))
def WIn (w:Wld):Prop:=RBd w.2.1∧w.1.length≤2000000∧(w.2.2.1.length≤2000000∧∀ n∈w.2.2.1,NIn n)∧(w.2.2.2.2.1.length≤2000000∧∀ x∈w.2.2.2.2.1,M1 x.1)∧(w.2.2.2.2.2.length≤2000000∧∀ s∈w.2.2.2.2.2,M1 s)
def Z4a (w:Wld) (hw:WIn w):Tot (λ k=>Dd k w) (λ r=>r=Z3a w.2.2.2.1 w.2.2.2.2.1):=by
 obtain⟨_,_,_,⟨h1,h2⟩,_⟩:=hw
 unfold Dd Z3a
 refine I1b (Q:=λ r=>r=bif w.2.2.2.2.1.all (Lda w.2.2.2.1) then .inr w else .inl false) ?_ (by
  rintro r rfl
  cases w.2.2.2.2.1.all (Lda w.2.2.2.1)<;>exact I0b rfl)
 rw[P3 _ Fka]
 refine Iab (L:=λ k i=>Ee k w.2.2.2.2.1 (w.2.2.2.2.1.length:Int) i w) _ _ w ?_ ?_
 ·simp (disch:=omega) only [Ee,dF]
  exact I0b rfl
 ·intro j hj Q no yes
  have hs:=h2 _ (A3 (d:=Fka) hj)
  obtain⟨x,ex⟩:∃ x:Wri,w.2.2.2.2.1.getD j Fka=x:=⟨_,rfl⟩
  rw[ex]at hs
  simp only[ex]at no yes
  have e0:w.2.2.2.2.1.getD j ((⟨#[]⟩:ByteArray),((((0:Int),((0:Int),(0:Int))),(false,[])),false))=x:=ex
  simp (disch:=omega) only [Ee,dT,Vb,w64,e0,F5a,Uk,Vp]
  unfold Lda at no yes
  refine Icb (Qs x.1 hs) ?_
  refine I6b (λ hc=>I0b (no ?_)) (λ h3=>I6b (λ hc=>I0b (no ?_)) (λ h4=>I6b (λ hc=>I0b (no ?_)) (λ h5=>yes ?_)))
  ·rw[Vw]at hc;rw[hc];rfl
  ·rw[Vw]at hc;rw[hc,Ys,Ya]
  ·rw[hc,Yx,Ya,Ya]
  ·rw[Wm]at h3 h4;rw[h3,h4,h5];rfl
def Ika (w:Wld) (hw:WIn w):Tot (λ k=>Cs k w.2.2.2.2.2 (w.2.2.2.2.2.length:Int) 0 w) (λ r=>r=bif V0 w.2.2.2.2.2 then .inr () else .inl false):=by
 obtain⟨_,_,_,_,h1,h2⟩:=hw
 unfold V0
 refine Iab (L:=λ k i=>Cs k w.2.2.2.2.2 (w.2.2.2.2.2.length:Int) i w) _ _ () ?_ ?_
 ·simp (disch:=omega) only [Cs,dF]
  exact I0b rfl
 ·intro j hj Q no yes
  have hs:=h2 _ (A3 (d:=Ni) hj)
  have e0:∀ i,w.2.2.2.2.2.getD i (⟨#[]⟩:ByteArray)=w.2.2.2.2.2.getD i Ni:=λ _=>rfl
  simp (disch:=omega) only [Cs,dT,Vb,w64,e0]
  refine Icb (Qs _ hs) ?_
  refine I6b (λ hc=>I0b (no ?_)) (λ h3=>I7b (λ h0=>?_) (λ h0=>yes ?_))
  ·rw[Vw]at hc;rw[hc];rfl
  ·simp (disch:=omega) only [dT,w64,show toNat ((j:Int)-1)=j-1 by omega]
   rw[Wm]at h3
   rw[h3,decide_eq_false (show ¬ j=0 by omega),Zza,Vx]at no yes
   refine I6b (λ hc=>I0b (no ?_)) (λ h4=>yes ?_)
   ·rw[Vw]at hc;exact hc
   ·rw[Wm]at h4;exact h4
  ·rw[Wm]at h3
   rw[h3,decide_eq_true (show j=0 by omega)]
   rfl
def Lea (w:Wld) (hw:WIn w) (hl:w.2.2.1.length=w.1.length):Tot (λ k=>Eg k w.2.2.1 (w.2.2.1.length:Int) 0 w) (λ r=>r=bif T7 w.1 w.2.2.1 then .inr w else .inl false):=by
 obtain⟨_,_,⟨h1,h2⟩,_⟩:=hw
 unfold T7
 rw[show ((w.2.2.1.length:Int)==(w.1.length:Int))=true by rw[beq_iff_eq];omega,Vx]
 refine Iab (L:=λ k i=>Eg k w.2.2.1 (w.2.2.1.length:Int) i w) _ _ w ?_ ?_
 ·simp (disch:=omega) only [Eg,dF]
  exact I0b rfl
 ·intro j hj Q no yes
  have hs:=h2 _ (A3 (d:=Ac) hj)
  obtain⟨x,ex⟩:∃ x:Nod,w.2.2.1.getD j Ac=x:=⟨_,rfl⟩
  rw[ex]at hs no yes
  have e0:w.2.2.1.getD j ((0:Int),(([],[]),([],[])))=x:=ex
  have e1:w.1.getD j ((0:Int),((0:Int),(0:Int)))=w.1.getD j Nv:=rfl
  simp (disch:=omega) only [Eg,dT,Vb,w64,e0,e1]
  refine I6b (λ hc=>I0b (no ?_)) (λ h3=>I1b (Noa x hs) ?_)
  ·rw[bne,Vw]at hc;rw[hc];rfl
  ·rw[bne,Wm]at h3
   rw[h3,Vx]at no yes
   rintro b rfl
   refine I6b (λ hc=>I0b (no ?_)) (λ h4=>yes ?_)
   ·rw[Vw]at hc;exact hc
   ·rw[Wm]at h4;exact h4
def Bua (w:Wld) (hw:WIn w):Tot (λ k=>Bg k w) (λ r=>r=Tr w):=by
 unfold Bg Tr
 refine Icb (Yka w.2.1 w.1 hw.1 (by have:=hw.2.1;omega)) ?_
 cases hr:Jo w.2.1 w.1
 ·exact I3b rfl (I0b rfl)
 refine I2b rfl ?_
 rw[Vx]
 by_cases hl:w.2.2.1.length=w.1.length
 ·refine I2b (by rw[bne,hl,beq_self_eq_true];rfl) ?_
  simp only[B2a,Vp]
  cases hs:Hz w.2.2.2.1
  ·exact I3b rfl (I0b (by rw[Ys,Ya]))
  refine I2b rfl (Icb (Z4a w hw) ?_)
  cases hws:Z3a w.2.2.2.1 w.2.2.2.2.1
  ·exact I3b rfl (I0b (by rw[Ys,Ya,Ya]))
  refine I2b rfl (Icb (Lea w hw hl) ?_)
  cases T7 w.1 w.2.2.1
  ·exact I0b rfl
  refine Icb (Ika w hw) ?_
  cases V0 w.2.2.2.2.2<;>exact I0b rfl
 ·have hn:((w.2.2.1.length:Int)==(w.1.length:Int))=false:=by rw[beq_eq_false_iff_ne];omega
  refine I3b (by rw[bne,hn];rfl) (I0b ?_)
  unfold T7
  rw[hn]
  rfl

def atN:List Nod→Int→Nat→List Int
 |[],_,_=>[]
 |n::ns,id,i=>bif n.1==id then (i:Int)::atN ns id (i+1) else atN ns id (i+1)
def Fla (n:Nod) (ns:List Nod) (id:Int) (i:Nat):atN (n::ns) id i=bif n.1==id then (i:Int)::atN ns id (i+1) else atN ns id (i+1):=rfl
def whr (ns:List Nod) (ids:List Int):List Int:=ids.flatMap λ id=>atN ns id 0
def Fma (id:Int):∀ (ns:List Nod) (i:Nat),(atN ns id i).length≤ns.length
 |[],_=>Vv _
 |n::ns,i=>by
  unfold atN
  have:=Fma id ns (i+1)
  cases n.1==id
  ·rw[cond_false,Vd];omega
  ·rw[cond_true,Vd,Vd];omega
def Uya (ns:List Nod):∀ (ids:List Int),(whr ns ids).length≤ids.length*ns.length
 |[]=>Vs _
 |id::ids=>by
  have h1:=Fma id ns 0
  have h2:=Uya ns ids
  unfold whr at h2 ⊢
  rw[K8b,Ve,Vd,Nat.succ_mul]
  omega
def Pj {ns:List Nod} {ids:List Int} (h1:ns.length≤2000000) (h2:ids.length≤2000000):(whr ns ids).length≤4000000000000:=
 Zw (Uya ns ids) (L0b h2 h1)
def Fna (ns:List Nod) (id:Int) (ids:List Int):whr ns (id::ids)=atN ns id 0++whr ns ids:=K8b
def Dbb (ns:List Nod) (a b:List Int):whr ns (a++b)=whr ns a++whr ns b:=List.flatMap_append
def Cna (w:Wld) (id:Int) (a b c:List Int) (m i0:Int) (out:List Int) (h1:w.2.2.1.length≤2000000) (ho:out.length≤4000000000000):
  Tot (λ k=>Du k out id a m i0 w.2.2.1 (w.2.2.1.length:Int) 0 w) (λ r=>r=(out++atN w.2.2.1 id 0,a,m,i0,w)):=by
 have m1:=Fma id w.2.2.1 0
 refine I9b (L:=λ k i (s:List Int)=>Du k s id a m i0 w.2.2.1 (w.2.2.1.length:Int) i w) (Q:=λ r=>r=(out++atN w.2.2.1 id 0,a,m,i0,w)) w.2.2.1.length (λ j s=>s++atN (w.2.2.1.drop j) id j=out++atN w.2.2.1 id 0) ?_ ?_ 0 out (Vs _) rfl
 ·intro s h
  rw[We]at h
  simp (disch:=omega) only [Du,dF]
  refine I0b ?_
  rw[← h]
  show _=(s++[],a,m,i0,w)
  rw[Xs]
 ·intro j s hj h next
  have g:=congrArg length h
  rw[Ve,Ve]at g
  rw[Ai (d:=Ac) hj,Fla]at h
  obtain⟨x,ex⟩:∃ x:Nod,w.2.2.1.getD j Ac=x:=⟨_,rfl⟩
  rw[ex]at h
  have e0:w.2.2.1.getD j ((0:Int),(([],[]),([],[])))=x:=ex
  simp (disch:=omega) only [Du,dT,Vb,w64,e0]
  cases hx:x.1==id with
  |true=>
   rw[hx,cond_true]at h
   refine I3b rfl (I8b (by simp only[Vd,Vk];omega) (next (s++[(j:Int)]) ?_))
   rw[← h,Vn]
   rfl
  |false=>
   rw[hx,cond_false]at h
   refine I2b rfl (next s h)
def Bva (w:Wld) (ids:List Int) (h1:w.2.2.1.length≤2000000) (h2:ids.length≤2000000):Tot (λ k=>F9 k w ids) (λ r=>r=whr w.2.2.1 ids):=by
 have m1:=Pj h1 h2
 unfold F9
 refine I1b (Q:=λ r=>r=whr w.2.2.1 ids) ?_ (by rintro r rfl;exact I0b rfl)
 refine I9b (L:=λ k i (s:List Int)=>G4 k s ids (ids.length:Int) i w) (Q:=λ r=>r=whr w.2.2.1 ids) ids.length (λ j s=>s++whr w.2.2.1 (ids.drop j)=whr w.2.2.1 ids) ?_ ?_ 0 [] (Vs _) rfl
 ·intro s h
  rw[We]at h
  simp (disch:=omega) only [G4,dF]
  refine I0b ?_
  rw[← h]
  exact(Xs s).symm
 ·intro j s hj h next
  have g:=congrArg length h
  rw[Ve]at g
  rw[Ai (d:=0) hj,Fna]at h
  simp (disch:=omega) only [G4,dT,Vb,w64]
  refine Icb (Cna w (ids.getD j 0) ids [] [] (ids.length:Int) (j:Int) s h1 (by omega)) ?_
  simp (disch:=omega) only [w64]
  exact next _ (by rw[Vn];exact h)
def Foa (w:Wld) (ids:List Int) (n:Nat) (hn:n<ids.length) (out:List Int) (h1:w.2.2.1.length≤2000000) (ho:out.length≤4000000000000):
  Tot (λ k=>C2 k ids out (n:Int) 0 w) (λ r=>r=(ids,out++atN w.2.2.1 (ids.getD n 0) 0,(n:Int),w)):=by
 have m1:=Fma (ids.getD n 0) w.2.2.1 0
 refine I9b (L:=λ k i (s:List Int)=>C2 k ids s (n:Int) i w) (Q:=λ r=>r=(ids,out++atN w.2.2.1 (ids.getD n 0) 0,(n:Int),w)) w.2.2.1.length (λ j s=>s++atN (w.2.2.1.drop j) (ids.getD n 0) j=out++atN w.2.2.1 (ids.getD n 0) 0) ?_ ?_ 0 out (Vs _) rfl
 ·intro s h
  rw[We]at h
  simp (disch:=omega) only [C2,dF]
  refine I0b ?_
  rw[← h]
  show _=(ids,s++[],(n:Int),w)
  rw[Xs]
 ·intro j s hj h next
  have g:=congrArg length h
  rw[Ve,Ve]at g
  rw[Ai (d:=Ac) hj,Fla]at h
  obtain⟨x,ex⟩:∃ x:Nod,w.2.2.1.getD j Ac=x:=⟨_,rfl⟩
  rw[ex]at h
  have e0:w.2.2.1.getD j ((0:Int),(([],[]),([],[])))=x:=ex
  simp (disch:=omega) only [C2,dT,Vb,w64,e0]
  cases hx:x.1==ids.getD n 0 with
  |true=>
   rw[hx,cond_true]at h
   refine I3b rfl (I8b (by simp only[Vd,Vk];omega) (next (s++[(j:Int)]) ?_))
   rw[← h,Vn]
   rfl
  |false=>
   rw[hx,cond_false]at h
   refine I2b rfl (next s h)
def Ss (w:Wld) (ids:List Int) (h1:w.2.2.1.length≤2000000) (h2:ids.length≤2000000):Tot (λ k=>Ba k w ids) (λ r=>r=whr w.2.2.1 ids):=by
 have m1:=Pj h1 h2
 unfold Ba
 refine I1b (Q:=λ r=>r=whr w.2.2.1 ids) ?_ (by rintro r rfl;exact I0b rfl)
 refine I9b (L:=λ k i (s:List Int)=>Dm k ids s i w) (Q:=λ r=>r=whr w.2.2.1 ids) ids.length (λ j s=>s++whr w.2.2.1 (ids.drop j)=whr w.2.2.1 ids) ?_ ?_ 0 [] (Vs _) rfl
 ·intro s h
  rw[We]at h
  simp (disch:=omega) only [Dm,dF]
  refine I0b ?_
  rw[← h]
  exact(Xs s).symm
 ·intro j s hj h next
  have g:=congrArg length h
  rw[Ve]at g
  rw[Ai (d:=0) hj,Fna]at h
  simp (disch:=omega) only [Dm,dT,Vb,w64]
  refine Icb (Foa w ids j hj s h1 (by omega)) ?_
  simp (disch:=omega) only [w64]
  exact next _ (by rw[Vn];exact h)
def Fpa (id:Int):∀ (ns:List Nod) (i:Nat) (x:Int),x∈atN ns id i↔∃ j,j<ns.length∧(ns.getD j Ac).1=id∧x=((i+j:Nat):Int)
 |[],i,x=>by simp[atN]
 |n::ns,i,x=>by
  have ih:=Fpa id ns (i+1) x
  have tl:(∃ j,j<(n::ns).length∧((n::ns).getD j Ac).1=id∧x=((i+j:Nat):Int))↔(n.1=id∧x=(i:Int))∨x∈atN ns id (i+1):=by
   rw[ih]
   constructor
   ·rintro⟨j,h1,h2,h3⟩
    cases j with
    |zero=>exact .inl ⟨h2,by omega⟩
    |succ j=>exact .inr ⟨j,by simpa using h1,by simpa using h2,by omega⟩
   ·rintro (⟨h1,h2⟩|⟨j,h1,h2,h3⟩)
    ·exact⟨0,by simp,h1,by omega⟩
    ·exact⟨j+1,by simpa using h1,by simpa using h2,by omega⟩
  rw[tl,Fla]
  cases hx:n.1==id with
  |true=>
   rw[cond_true,Vl,eq_of_beq hx]
   simp
  |false=>
   rw[cond_false]
   have:=beq_eq_false_iff_ne.1 hx
   simp[this]
def Xa {ns:List Nod} {ids:List Int} {x:Int}:x∈whr ns ids↔∃ j,j<ns.length∧(ns.getD j Ac).1∈ids∧x=(j:Int):=by
 unfold whr
 rw[List.mem_flatMap]
 constructor
 ·rintro⟨id,h1,h2⟩
  obtain⟨j,h3,h4,h5⟩:=(Fpa _ _ _ _).1 h2
  exact⟨j,h3,h4 ▸ h1,by omega⟩
 ·rintro⟨j,h3,h4,h5⟩
  exact⟨_,h4,(Fpa _ _ _ _).2 ⟨j,h3,rfl,by omega⟩⟩
def Ko (w:Wld) (x:ByteArray):List Int:=whr w.2.2.1 (R9 w.2.1 x++Sr w.2.1 w.1 x)
def Pq:ByteArray:=⟨#[108,105,115,116]⟩
def Bs (w:Wld):List Int:=whr w.2.2.1 (R9 w.2.1 Pq)
def Qz {r:Rng} (hr:RBd r) (x:ByteArray):(R9 r x).length≤2000000:=by
 unfold R9
 by_cases hm:O4a x % r.2.length<r.2.length
 ·exact hr.2 _ (A3 (d:=[]) hm)
 ·rw[Vc,Za (by omega)];exact Vs _
def Xo (r:Rng) (l:List Dev) (x:ByteArray):(Sr r l x).length≤l.length+l.length:=by
 unfold Sr
 rw[Ve]
 have h1:=Fja (R9 r x) (Km (R9 r x) l) false l
 have h2:=Fja (R9 r x) (Km (R9 r x) l) true l
 omega
def Ila (w:Wld) (x:ByteArray) (h:Jo w.2.1 w.1=true) (hn:w.2.2.1.length≤2000000) (hx:x.size≤1000000000):Tot (λ k=>El k w x) (λ r=>r=Ko w x):=by
 have h5:=(C4.1 h).2.1
 have p2:=(Bra h x).2.1
 have h12:=(Fl.1 (C4.1 h).1).2.2.2
 have hh:=Xo w.2.1 w.1 x
 unfold El Ko
 rw[Dbb]
 refine Icb (A1a _ x (Mv h) hx) ?_
 refine Icb (Ss w _ hn (by omega)) ?_
 refine Icb (Z2a _ _ x h hx) ?_
 refine Icb (Ss w _ hn (by omega)) ?_
 have l1:=Pj hn (show (R9 w.2.1 x).length≤2000000 by omega)
 have l2:=Pj hn (show (Sr w.2.1 w.1 x).length≤2000000 by omega)
 exact I8b (by omega) (I0b rfl)
def Tt (w:Wld) (hr:RBd w.2.1) (hn:w.2.2.1.length≤2000000):Tot (λ k=>E9 k w) (λ r=>r=Bs w):=by
 unfold E9
 refine Icb (Fia _ Pq hr (by decide)) ?_
 refine Icb (Bva w _ hn (Qz hr _)) ?_
 exact I0b rfl
def Bwa (w:Wld) (hr:RBd w.2.1) (hn:w.2.2.1.length≤2000000):Tot (λ k=>Gw k w) (λ r=>r=Bs w):=by
 unfold Gw
 refine Icb (A1a _ Pq hr (by decide)) ?_
 refine Icb (Ss w _ hn (Qz hr _)) ?_
 exact I0b rfl
def quo (n:Int):Int:=n/2+1
def Heb {n:Int} (h0:0≤n):Int.tdiv n 2=n/2:=Iyb h0
def Dcb {n:Int} (h0:0≤n) (h1:n≤1000000000):Kh n=some (quo n):=by
 unfold Kh quo
 rw[Heb h0,w64 (n:=n/2) (by omega) (by omega),w64 (n:=n/2+1) (by omega) (by omega)]
def rch (l:List Int) (i:Nat):Int:=bif decide (i<l.length)&&inR (l.getD i 0) 1 3 then l.getD i 0 else 0
def Uza (l:List Int) (i:Nat):Gx l (i:Int)=some (rch l i):=by
 unfold Gx rch
 by_cases h:i<l.length
 ·simp (disch:=omega) only [dT,Vb,Um,Vp]
  rw[decide_eq_true h,Vx]
  cases inR (l.getD i 0) 1 3<;>rfl
 ·rw[dF (by omega),decide_eq_false h];rfl
def Lfa (l:List Int) (i:Nat):Bx l (i:Int)=some (rch l i):=by
 unfold Bx rch
 by_cases h:i<l.length
 ·rw[dF (by omega)]
  simp (disch:=omega) only [dT,Vb,Ov,Vp]
  rw[decide_eq_true h,Vx]
  cases inR (l.getD i 0) 1 3<;>rfl
 ·rw[dT (by omega),decide_eq_false h];rfl

def Bxa (a b:Fil):Bool:=((a.1.1==b.1.1)&&((a.1.2.1==b.1.2.1)&&(a.1.2.2==b.1.2.2)))&&((a.2.1==b.2.1)&&((Lq a.2.2).toList==(Lq b.2.2).toList))
def Ima (a b:Fil):Fc a b=some (Bxa a b):=by
 unfold Fc Bxa
 cases (a.1.1==b.1.1)&&((a.1.2.1==b.1.2.1)&&(a.1.2.2==b.1.2.2))<;>cases a.2.1==b.2.1<;>rfl
def Bya {a b:Fil} (ha:Ap a.2.2) (hb:Ap b.2.2):Bxa a b=true↔a=b:=by
 unfold Bxa
 rw[Uw ha hb]
 obtain⟨⟨a1,a2,a3⟩,a4,a5⟩:=a
 obtain⟨⟨b1,b2,b3⟩,b4,b5⟩:=b
 simp only[Va,beq_iff_eq,decide_eq_true_iff,Vz]
def V0a (ws:List Wri) (s:ByteArray) (f:Fil):Bool:=ws.any λ x=>teq x.1 s&&Bxa x.2.1 f
def V1a (w:Wld) (s:ByteArray) (f:Fil) (h:w.2.2.2.2.1.length≤2000000):Tot (λ k=>Ci k w s f) (λ r=>r=V0a w.2.2.2.2.1 s f):=by
 unfold Ci V0a
 refine I1b (Q:=λ r=>r=bif w.2.2.2.2.1.any (λ x=>teq x.1 s&&Bxa x.2.1 f) then .inl true else .inr ()) ?_ (by
  rintro r rfl
  cases w.2.2.2.2.1.any (λ x=>teq x.1 s&&Bxa x.2.1 f)<;>exact I0b rfl)
 rw[Bta _ Fka]
 refine Ibb (L:=λ k i=>Cu k s w.2.2.2.2.1 (w.2.2.2.2.1.length:Int) i f) _ _ () ?_ ?_
 ·simp (disch:=omega) only [Cu,dF]
  exact I0b rfl
 ·intro j hj Q yes no
  obtain⟨x,ex⟩:∃ x:Wri,w.2.2.2.2.1.getD j Fka=x:=⟨_,rfl⟩
  simp only[ex]at no yes
  have e0:w.2.2.2.2.1.getD j ((⟨#[]⟩:ByteArray),((((0:Int),((0:Int),(0:Int))),(false,[])),false))=x:=ex
  simp (disch:=omega) only [Cu,dT,Vb,w64,e0,Ima,Vp]
  refine I6b (λ h1=>I6b (λ h2=>I0b (yes ?_)) (λ h2=>no ?_)) (λ h1=>no ?_)
  ·show ((x.1.toList==s.toList)&&Bxa x.2.1 f)=true
   rw[h1,h2];rfl
  ·rw[h2,Ya]
  ·show ((x.1.toList==s.toList)&&Bxa x.2.1 f)=false
   rw[h1];rfl
def V2a (ws:List Wri) (e:Nmd):Bool:=match Mq e.2 with
 |none=>true
 |some f=>V0a ws e.1 f
def St (w:Wld):Bool:=(List.range w.2.2.1.length).all λ j=>(w.2.2.1.getD j Ac).2.1.1.all (V2a w.2.2.2.2.1)&&(w.2.2.1.getD j Ac).2.1.2.all (V2a w.2.2.2.2.1)
def Lga (w:Wld) (hw:WIn w):Tot (λ k=>Db k w) (λ r=>r=St w):=by
 obtain⟨_,_,⟨h1,h2⟩,⟨h3,_⟩,_⟩:=hw
 unfold Db St
 refine I1b (Q:=λ r=>r=bif (List.range w.2.2.1.length).all (λ j=>(w.2.2.1.getD j Ac).2.1.1.all (V2a w.2.2.2.2.1)&&(w.2.2.1.getD j Ac).2.1.2.all (V2a w.2.2.2.2.1)) then .inr () else .inl false) ?_ (by
  rintro r rfl
  cases (List.range w.2.2.1.length).all (λ j=>(w.2.2.1.getD j Ac).2.1.1.all (V2a w.2.2.2.2.1)&&(w.2.2.1.getD j Ac).2.1.2.all (V2a w.2.2.2.2.1))<;>exact I0b rfl)
 refine Iab (L:=λ k i=>Fo k w.2.2.1 (w.2.2.1.length:Int) i w) _ _ () ?_ ?_
 ·simp (disch:=omega) only [Fo,dF]
  exact I0b rfl
 ·intro j hj Q no yes
  have hm:=h2 _ (A3 (d:=Ac) hj)
  obtain⟨x,ex⟩:∃ x:Nod,w.2.2.1.getD j Ac=x:=⟨_,rfl⟩
  rw[ex]at hm no yes
  have e0:w.2.2.1.getD j ((0:Int),(([],[]),([],[])))=x:=ex
  obtain⟨⟨⟨⟨f1,f2⟩,_⟩,l1,l2⟩,b1,b2⟩:=hm.1
  have n0:([]:List (ByteArray×(List Int))).length=0:=rfl
  simp (disch:=omega) only [Fo,dT,Vb,w64,e0,Vy]
  refine I8b (by rw[n0];omega) (I8b (by omega) ?_)
  rw[← Lhb]at no yes
  have hf:Fza (x.2.1.1++x.2.1.2):=⟨by rw[Ve];omega,λ y hy=>(Vo.1 hy).elim (f1.2 y) (f2.2 y)⟩
  have hb:LB (x.2.1.1++x.2.1.2):=λ y hy=>(Vo.1 hy).elim (b1 y) (b2 y)
  have hl:(x.2.1.1++x.2.1.2).length≤4000000:=by rw[Ve];omega
  generalize x.2.1.1++x.2.1.2=l at *
  refine I1b (Q:=λ r=>r=bif l.all (V2a w.2.2.2.2.1) then .inr (w.2.2.1,(w.2.2.1.length:Int),(j:Int),w) else .inl false) ?_ ?_
  ·rw[P3 _ D8]
   refine Iab (L:=λ k i=>Eh k w.2.2.1 (w.2.2.1.length:Int) (j:Int) l (l.length:Int) i w) _ _ (w.2.2.1,(w.2.2.1.length:Int),(j:Int),w) ?_ ?_
   ·simp (disch:=omega) only [Eh,dF]
    exact I0b rfl
   ·intro j hj Q no yes
    have hm:=A3 (d:=D8) hj
    obtain⟨x,ex⟩:∃ x:Nmd,l.getD j D8=x:=⟨_,rfl⟩
    rw[ex]at hm
    simp only[ex]at no yes
    have e0:l.getD j ((⟨#[]⟩:ByteArray),[])=x:=ex
    simp (disch:=omega) only [Eh,dT,Vb,w64,e0]
    refine Icb (Ns x.2 (hb x hm) (hf.2 x hm)) ?_
    unfold V2a at no yes
    unfold Rz
    cases hg:Mq x.2 with
    |none=>rw[hg]at yes;exact I2b rfl (yes rfl)
    |some f=>
     rw[hg]at yes no
     refine I3b rfl (Icb (V1a w x.1 f h3) ?_)
     exact Idb (λ hc=>I0b (no hc)) yes
  ·rintro r rfl
   cases hc:l.all (V2a w.2.2.2.2.1)
   ·exact I0b (no hc)
   simp (disch:=omega) only [cond_true,Ipb,w64]
   exact yes hc

def Z5a (a b:Row):Bool:=(a.1==b.1)&&((a.2.1.1==b.2.1.1)&&((a.2.1.2.1==b.2.1.2.1)&&((a.2.1.2.2==b.2.1.2.2)&&((a.2.2.1==b.2.2.1)&&(a.2.2.2==b.2.2.2)))))
def Ina {a b:Row}:Z5a a b=true↔a=b:=by
 unfold Z5a
 obtain⟨a0,⟨a1,a2,a3⟩,a4,a5⟩:=a
 obtain⟨b0,⟨b1,b2,b3⟩,b4,b5⟩:=b
 simp only[Z5,Va,beq_iff_eq,Vz,Cr]
 constructor
 ·rintro⟨h0,h1,h2,h3,h4,h5⟩;exact⟨h0,⟨h1,h2,h3⟩,h4,h5⟩
 ·rintro⟨h0,⟨h1,h2,h3⟩,h4,h5⟩;exact⟨h0,h1,h2,h3,h4,h5⟩
def Ol (ws:List Wri) (r:Row):Bool:=ws.any λ x=>Z5a (Y1 x.1 x.2.1) r
def Xb (w:Wld):Bool:=(List.range w.2.2.1.length).all λ j=>(w.2.2.1.getD j Ac).2.2.1.all (Ol w.2.2.2.2.1)&&(w.2.2.1.getD j Ac).2.2.2.all (Ol w.2.2.2.2.1)
def W7a:Row:=((⟨#[]⟩:ByteArray),(((0:Int),((0:Int),(0:Int))),(false,(0:Int))))
def Fqa (w:Wld) (ns:List Nod) (n m:Int) (l:List Row) (len i:Int) (r0:Row) (h:w.2.2.2.2.1.length≤2000000):Tot (λ k=>Dy k false ns n m l len i w.2.2.2.2.1 (w.2.2.2.2.1.length:Int) 0 w r0) (λ r=>r=(Ol w.2.2.2.2.1 r0,ns,n,m,l,len,i,w)):=by
 refine I9b (L:=λ k i' (s:Bool)=>Dy k s ns n m l len i w.2.2.2.2.1 (w.2.2.2.2.1.length:Int) i' w r0) (Q:=λ r=>r=(Ol w.2.2.2.2.1 r0,ns,n,m,l,len,i,w)) w.2.2.2.2.1.length (λ j s=>(s||(w.2.2.2.2.1.drop j).any λ x=>Z5a (Y1 x.1 x.2.1) r0)=Ol w.2.2.2.2.1 r0) ?_ ?_ 0 false (Vs _) (Zza _)
 ·intro s hs
  rw[We,Lkb,J5b]at hs
  simp (disch:=omega) only [Dy,dF]
  exact I0b (by rw[hs])
 ·intro j s hj hs next
  cases s with
  |true=>
   rw[Jwb]at hs
   simp (disch:=omega) only [Dy,dT,w64,cond_true]
   exact next true (by rw[Jwb];exact hs)
  |false=>
   rw[Ai (d:=Fka) hj,Jeb,Zza]at hs
   obtain⟨x,ex⟩:∃ x:Wri,w.2.2.2.2.1.getD j Fka=x:=⟨_,rfl⟩
   rw[ex]at hs
   have e0:w.2.2.2.2.1.getD j ((⟨#[]⟩:ByteArray),((((0:Int),((0:Int),(0:Int))),(false,[])),false))=x:=ex
   simp (disch:=omega) only [Dy,dT,Vb,w64,e0,cond_false,M2,Vp]
   exact next _ hs
def Q3a (w:Wld) (hw:WIn w):Tot (λ k=>Dj k w) (λ r=>r=Xb w):=by
 obtain⟨_,_,⟨h1,h2⟩,⟨h3,_⟩,_⟩:=hw
 unfold Dj Xb
 refine I1b (Q:=λ r=>r=bif (List.range w.2.2.1.length).all (λ j=>(w.2.2.1.getD j Ac).2.2.1.all (Ol w.2.2.2.2.1)&&(w.2.2.1.getD j Ac).2.2.2.all (Ol w.2.2.2.2.1)) then .inr () else .inl false) ?_ (by
  rintro r rfl
  cases (List.range w.2.2.1.length).all (λ j=>(w.2.2.1.getD j Ac).2.2.1.all (Ol w.2.2.2.2.1)&&(w.2.2.1.getD j Ac).2.2.2.all (Ol w.2.2.2.2.1))<;>exact I0b rfl)
 refine Iab (L:=λ k i=>H6 k w.2.2.1 (w.2.2.1.length:Int) i w) _ _ () ?_ ?_
 ·simp (disch:=omega) only [H6,dF]
  exact I0b rfl
 ·intro j hj Q no yes
  have hm:=h2 _ (A3 (d:=Ac) hj)
  obtain⟨x,ex⟩:∃ x:Nod,w.2.2.1.getD j Ac=x:=⟨_,rfl⟩
  rw[ex]at hm no yes
  have e0:w.2.2.1.getD j ((0:Int),(([],[]),([],[])))=x:=ex
  obtain⟨_,f1,f2⟩:=hm
  have g1:=f1.1
  have g2:=f2.1
  have ec:Ae x.2.2.1=some x.2.2.1:=by
   unfold Ae
   rw[bT (by simp only[Vk];omega),Vy]
  simp (disch:=omega) only [H6,dT,Vb,w64,e0,ec,Vp]
  refine I8b (by omega) ?_
  rw[← Lhb]at no yes
  have hl:(x.2.2.1++x.2.2.2).length≤4000000:=by rw[Ve];omega
  generalize x.2.2.1++x.2.2.2=l at *
  refine I1b (Q:=λ r=>r=bif l.all (Ol w.2.2.2.2.1) then .inr (w.2.2.1,(w.2.2.1.length:Int),(j:Int),w) else .inl false) ?_ ?_
  ·rw[P3 _ W7a]
   refine Iab (L:=λ k i=>H5 k w.2.2.1 (w.2.2.1.length:Int) (j:Int) l (l.length:Int) i w) _ _ (w.2.2.1,(w.2.2.1.length:Int),(j:Int),w) ?_ ?_
   ·simp (disch:=omega) only [H5,dF]
    exact I0b rfl
   ·intro i hi Q no yes
    have e1:l.getD i ((⟨#[]⟩:ByteArray),(((0:Int),((0:Int),(0:Int))),(false,(0:Int))))=l.getD i W7a:=rfl
    simp (disch:=omega) only [H5,dT,Vb,e1]
    refine Icb (Fqa w _ _ _ l _ _ (l.getD i W7a) h3) ?_
    simp (disch:=omega) only [w64]
    exact Idb (λ hc=>I0b (no hc)) yes
  ·rintro r rfl
   cases hc:l.all (Ol w.2.2.2.2.1)
   ·exact I0b (no hc)
   simp (disch:=omega) only [cond_true,Ipb,w64]
   exact yes hc
def Lha (s:ByteArray) (st:Stp) (n:Nod):Bool:=match gt n.2.1.2 s with
 |none=>false
 |some b=>match Mq b with
  |none=>false
  |some f => !(sle f.1 st)
def V3a (w:Wld) (x:Wri):Bool := !x.2.2||(Y4 w.2.2.2.2.2 x.1||w.2.2.1.any (Lha x.1 x.2.1.1))
def Q4a (w:Wld):Bool:=w.2.2.2.2.1.all (V3a w)
def Ddb (l:List Nmd) (s:ByteArray):(Dja l s<0∧gt l s=none)∨∃ i:Nat,Dja l s=(i:Int)∧i<l.length∧gt l s=some (l.getD i D8).2:=by
 unfold Dja gt
 cases h:fnd l s with
 |none=>exact .inl ⟨by decide,rfl⟩
 |some i=>
  obtain⟨hi,_⟩:=J4b.1 h
  exact .inr ⟨i,rfl,hi,rfl⟩
def V4a (w:Wld) (hw:WIn w) (s:ByteArray) (st:Stp):Tot (λ k=>Iu k w s st) (λ r=>r=w.2.2.1.any (Lha s st)):=by
 obtain⟨_,_,⟨h1,h2⟩,⟨h3,_⟩,_⟩:=hw
 unfold Iu
 refine I1b (Q:=λ r=>r=bif w.2.2.1.any (Lha s st) then .inl true else .inr ()) ?_ (by
  rintro r rfl
  cases w.2.2.1.any (Lha s st)<;>exact I0b rfl)
 rw[Bta _ Ac]
 refine Ibb (L:=λ k i=>Gd k s w.2.2.1 (w.2.2.1.length:Int) i st) _ _ () ?_ ?_
 ·simp (disch:=omega) only [Gd,dF]
  exact I0b rfl
 ·intro j hj Q yes no
  have hm:=h2 _ (A3 (d:=Ac) hj)
  obtain⟨x,ex⟩:∃ x:Nod,w.2.2.1.getD j Ac=x:=⟨_,rfl⟩
  rw[ex]at hm no yes
  have e0:w.2.2.1.getD j ((0:Int),(([],[]),([],[])))=x:=ex
  obtain⟨⟨⟨⟨f1,f2⟩,_⟩,l1,l2⟩,b1,b2⟩:=hm.1
  simp (disch:=omega) only [Gd,dT,Vb,w64,e0]
  unfold Lha at yes no
  refine Icb (Hpa x.2.1.2 s f2.1) ?_
  rcases Ddb x.2.1.2 s with⟨hn,hg⟩|⟨i,e,hi,hg⟩
  ·rw[hg]at no
   exact I4b hn (no rfl)
  ·rw[e]
   have hm:=A3 (d:=D8) hi
   obtain⟨y,ey⟩:∃ y:Nmd,x.2.1.2.getD i D8=y:=⟨_,rfl⟩
   rw[ey]at hm hg
   rw[hg]at no yes
   have e2:x.2.1.2.getD i ((⟨#[]⟩:ByteArray),[])=y:=ey
   refine I5b (by omega) ?_
   simp (disch:=omega) only [dT,Vb,e2]
   refine Icb (Ns y.2 (b2 y hm) (f2.2 y hm)) ?_
   unfold Rz
   cases hy:Mq y.2 with
   |none=>simp only[hy]at no;exact I2b rfl (no trivial)
   |some f=>
    simp only[hy]at no yes
    simp only[Uk,Vp]
    exact I3b rfl (I6b (λ hc=>I0b (yes hc)) (λ hc=>no hc))
def Z6a (l:List ByteArray) (s:ByteArray) (hl:l.length≤1000000000):Tot (λ k=>Iz k l s) (λ r=>r=Y4 l s):=by
 unfold Iz Y4
 refine I1b (Q:=λ r=>r=bif l.any (λ y=>teq y s) then .inl true else .inr ()) ?_ (by
  rintro r rfl
  cases l.any (λ y=>teq y s)<;>exact I0b rfl)
 rw[Bta _ Ni]
 refine Ibb (L:=λ k i=>Fp k s l (l.length:Int) i) _ _ () ?_ ?_
 ·simp (disch:=omega) only [Fp,dF]
  exact I0b rfl
 ·intro j hj Q yes no
  have e0:l.getD j (⟨#[]⟩:ByteArray)=l.getD j Ni:=rfl
  simp (disch:=omega) only [Fp,dT,Vb,w64,e0]
  exact I6b (λ hc=>I0b (yes hc)) (λ hc=>no hc)
def Z7a (w:Wld) (hw:WIn w):Tot (λ k=>Jv k w) (λ r=>r=Q4a w):=by
 have hw':=hw
 obtain⟨_,_,⟨h1,h2⟩,⟨h3,_⟩,h5,_⟩:=hw'
 unfold Jv Q4a
 refine I1b (Q:=λ r=>r=bif w.2.2.2.2.1.all (V3a w) then .inr () else .inl false) ?_ (by
  rintro r rfl
  cases w.2.2.2.2.1.all (V3a w)<;>exact I0b rfl)
 rw[P3 _ Fka]
 refine Iab (L:=λ k i=>I1 k w.2.2.2.2.1 (w.2.2.2.2.1.length:Int) i w) _ _ () ?_ ?_
 ·simp (disch:=omega) only [I1,dF]
  exact I0b rfl
 ·intro j hj Q no yes
  obtain⟨x,ex⟩:∃ x:Wri,w.2.2.2.2.1.getD j Fka=x:=⟨_,rfl⟩
  rw[ex]at no yes
  have e0:w.2.2.2.2.1.getD j ((⟨#[]⟩:ByteArray),((((0:Int),((0:Int),(0:Int))),(false,[])),false))=x:=ex
  simp (disch:=omega) only [I1,dT,Vb,w64,e0]
  unfold V3a at no yes
  refine I6b (λ hk=>?_) (λ hk=>yes (by rw[hk];rfl))
  rw[hk,Yx,Zza]at no yes
  refine Icb (Z6a _ x.1 (by omega)) ?_
  refine I6b (λ hh=>?_) (λ hh=>yes (by rw[Wm]at hh;rw[hh,Jwb]))
  rw[Vw]at hh
  rw[hh,Zza]at no yes
  refine Icb (V4a w hw x.1 x.2.1.1) ?_
  refine I6b (λ hc=>I0b (no ?_)) (λ hc=>yes ?_)
  ·rw[Vw]at hc;exact hc
  ·rw[Wm]at hc;exact hc
def Su (w:Wld):Bool:=(List.range w.2.2.2.2.1.length).all λ j => !(sle w.2.2.2.1 (w.2.2.2.2.1.getD j Fka).2.1.1)&&(decide (j=0)||sle (w.2.2.2.2.1.getD (j-1) Fka).2.1.1 (w.2.2.2.2.1.getD j Fka).2.1.1)
def Lia (w:Wld) (hw:WIn w):Tot (λ k=>F5 k w) (λ r=>r=Su w):=by
 obtain⟨_,_,_,⟨h3,_⟩,h5,_⟩:=hw
 unfold F5 Su
 generalize hP:(λ j => !(sle w.2.2.2.1 (w.2.2.2.2.1.getD j Fka).2.1.1)&&(decide (j=0)||sle (w.2.2.2.2.1.getD (j-1) Fka).2.1.1 (w.2.2.2.2.1.getD j Fka).2.1.1))=P
 refine I1b (Q:=λ r=>r=bif (List.range w.2.2.2.2.1.length).all P then .inr () else .inl false) ?_ (by
  rintro r rfl
  cases (List.range w.2.2.2.2.1.length).all P<;>exact I0b rfl)
 refine Iab (L:=λ k i=>Ei k w.2.2.2.2.1 (w.2.2.2.2.1.length:Int) i w) _ _ () ?_ ?_
 ·simp (disch:=omega) only [Ei,dF]
  exact I0b rfl
 ·intro j hj Q no yes
  subst hP
  dsimp only at no yes
  have e0:∀ i,w.2.2.2.2.1.getD i ((⟨#[]⟩:ByteArray),((((0:Int),((0:Int),(0:Int))),(false,[])),false))=w.2.2.2.2.1.getD i Fka:=λ _=>rfl
  simp (disch:=omega) only [Ei,dT,Vb,w64,e0,Uk,Vp]
  refine I6b (λ hc=>I0b (no (by rw[hc];rfl))) (λ hc=>?_)
  rw[hc,Zh,Vx]at no yes
  refine I7b (λ h0=>?_) (λ h0=>yes (by rw[decide_eq_true (show j=0 by omega)];rfl))
  simp (disch:=omega) only [dT,w64,show toNat ((j:Int)-1)=j-1 by omega]
  rw[decide_eq_false (show ¬ j=0 by omega),Zza]at no yes
  refine I6b (λ hc=>I0b (no ?_)) (λ hc=>yes ?_)
  ·rw[Vw]at hc;exact hc
  ·rw[Wm]at hc;exact hc
def Z8a (w:Wld):Int:=bif Tr w then (bif St w then (bif Xb w then (bif Q4a w then (bif Su w then 0 else 5) else 4) else 3) else 2) else 1
def Z9a (w:Wld) (hw:WIn w):Tot (λ k=>Mc k w) (λ r=>r=Z8a w):=by
 unfold Mc Z8a
 refine Icb (Bua w hw) ?_
 cases Tr w
 ·exact I3b rfl (I0b rfl)
 refine I2b rfl (Icb (Lga w hw) ?_)
 cases St w
 ·exact I3b rfl (I0b rfl)
 refine I2b rfl (Icb (Q3a w hw) ?_)
 cases Xb w
 ·exact I3b rfl (I0b rfl)
 refine I2b rfl (Icb (Z7a w hw) ?_)
 cases Q4a w
 ·exact I3b rfl (I0b rfl)
 refine I2b rfl (Icb (Lia w hw) ?_)
 cases Su w with
 |false=>exact I3b rfl (I0b rfl)
 |true=>exact I2b rfl (I0b rfl)

def run {α:Type} (st:α→Nat→α) (n:Nat) (a:α):α:=(List.range n).foldl st a
def Nj {α:Type} (st:α→Nat→α) (n:Nat) (a:α):run st (n+1) a=st (run st n a) n:=by
 unfold run
 rw[Krb,Isb]
 rfl
def Zaa {α:Type} {st:α→Nat→α} {a:α} {j n:Nat} (hj:j≤n) (h:∀ i,st (run st j a) i=run st j a):run st n a=run st j a:=by
 obtain⟨m,rfl⟩:=Nat.exists_eq_add_of_le hj
 induction m with
 |zero=>rfl
 |succ m ih=>rw[← Zl,Nj,ih (by omega),h]
def M5 {α:Type} {st:α→Nat→α} (P:Nat→α→Prop) {n:Nat} {a:α} (h0:P 0 a) (hs:∀ j b,j<n→P j b→P (j+1) (st b j)):P n (run st n a):=by
 have:∀ m,m≤n→P m (run st m a):=by
  intro m
  induction m with
  |zero=>intro _;exact h0
  |succ m ih=>intro hm;rw[Nj];exact hs m _ (by omega) (ih (by omega))
 exact this n (Vv _)
def NS (ns:List Nod):Prop:=ns.length≤2000000∧∀ n∈ns,NG n
def NS.set {ns:List Nod} (h:NS ns) {i:Nat} {n:Nod} (hn:NG n):NS (ns.set i n):=⟨by rw[Wb];exact h.1,λ m hm=>by
 rcases Yn hm with hm|rfl
 ·exact h.2 m hm
 ·exact hn⟩
def NS.get {ns:List Nod} (h:NS ns) {i:Nat} (hi:i<ns.length):NG (ns.getD i Ac):=h.2 _ (A3 hi)
abbrev wN (w:Wld) (ns:List Nod):Wld:=(w.1,w.2.1,ns,w.2.2.2)
def Nk (c:Stp) (t d:Int):Stp:=bif decide (t≤c.1) then (bif Hz (c.1,c.2.1+1,d) then (c.1,c.2.1+1,d) else c) else (bif Hz (t,0,d) then (t,0,d) else c)
def V5a {c:Stp} (hc:Hz c=true) (t d:Int):H8 c t d=some (Nk c t d):=by
 have h2:0≤c.2.1∧c.2.1≤1000000:=by
  unfold Hz at hc
  rw[Va,Va,Fi,Fi]at hc
  exact hc.2.1
 unfold H8 Nk
 rw[w64 (n:=c.2.1+1) (by omega) (by omega)]
 simp only[B3a,Vp]
 cases decide (t≤c.1) with
 |true=>cases Hz (c.1,c.2.1+1,d)<;>rfl
 |false=>cases Hz (t,0,d)<;>rfl
def Fra {c:Stp} (hc:Hz c=true) (t d:Int):Hz (Nk c t d)=true∧(Nk c t d=c∨sle c (Nk c t d)=true):=by
 unfold Nk
 by_cases h:t≤c.1
 ·rw[decide_eq_true h,cond_true]
  cases hs:Hz (c.1,c.2.1+1,d) with
  |true=>exact⟨hs,.inr (Pn.2 (.inr ⟨rfl,.inl (by show c.2.1<c.2.1+1;omega)⟩))⟩
  |false=>exact⟨hc,.inl rfl⟩
 ·rw[decide_eq_false h,cond_false]
  cases hs:Hz (t,0,d) with
  |true=>exact⟨hs,.inr (Pn.2 (.inl (by show c.1<t;omega)))⟩
  |false=>exact⟨hc,.inl rfl⟩
def wst (R:Int) (rc:List Int) (s:ByteArray) (f:Fil) (cs:List Int) (a:List Nod×Int×Int) (j:Nat):List Nod×Int×Int:=
 bif decide (a.2.1<R) then (bif rch rc j==0 then a else
  (a.1.set (cs.getD j 0).toNat (Y2 (a.1.getD (cs.getD j 0).toNat Ac) s f (rch rc j != 3)).1,a.2.1+1,
   bif rch rc j==1&&((Y2 (a.1.getD (cs.getD j 0).toNat Ac) s f (rch rc j != 3)).2==0||(Y2 (a.1.getD (cs.getD j 0).toNat Ac) s f (rch rc j != 3)).2==1) then a.2.2+1 else a.2.2))
 else a
def wrN (w:Wld) (s:ByteArray) (f:Fil) (rc:List Int):List Nod×Int×Int:=run (wst w.2.1.1 rc s f (Ko w s)) (Ko w s).length (w.2.2.1,0,0)
def Bza (w:Wld) (s:ByteArray) (f:Fil) (rc:List Int):Int×Wld:=
 (bif decide ((wrN w s f rc).2.2≥quo w.2.1.1) then 0 else 1,(w.1,w.2.1,(wrN w s f rc).1,w.2.2.2.1,w.2.2.2.2.1++[(s,f,decide ((wrN w s f rc).2.2≥quo w.2.1.1))],w.2.2.2.2.2))
def Tu {w:Wld} {s:ByteArray} {x:Int} (h:x∈Ko w s):0≤x∧x<(w.2.2.1.length:Int):=by
 obtain⟨j,h1,_,rfl⟩:=Xa.1 h
 omega
def Fxb {R:Int} {rc:List Int} {s:ByteArray} {f:Fil} {cs:List Int} {a:List Nod×Int×Int} {j m:Nat} (hs:B5 s=true) (hf:Gc f=true) (h:NS a.1∧a.1.length=m∧(0≤a.2.1∧a.2.1≤j)∧0≤a.2.2∧a.2.2≤j) (hc:(cs.getD j 0).toNat<m):
  let b:=wst R rc s f cs a j
  NS b.1∧b.1.length=m∧(0≤b.2.1∧b.2.1≤((j+1:Nat):Int))∧0≤b.2.2∧b.2.2≤((j+1:Nat):Int):=by
 obtain⟨h1,h2,h3,h4,h5⟩:=h
 intro b
 have hb:b=wst R rc s f cs a j:=rfl
 unfold wst at hb
 cases hR:decide (a.2.1<R)
 ·rw[hR,cond_false]at hb;rw[hb];exact⟨h1,h2,⟨h3.1,by omega⟩,h4,by omega⟩
 rw[hR,cond_true]at hb
 cases hr:rch rc j==0
 case true=>rw[hr,cond_true]at hb;rw[hb];exact⟨h1,h2,⟨h3.1,by omega⟩,h4,by omega⟩
 rw[hr,cond_false]at hb
 rw[hb]
 refine⟨h1.set (U9a (h1.get (by omega)) hs hf),by rw[List.length_set];exact h2,⟨by dsimp only;omega,by dsimp only;omega⟩,?_⟩
 dsimp only
 cases rch rc j==1&&((Y2 (a.1.getD (cs.getD j 0).toNat Ac) s f (rch rc j != 3)).2==0||(Y2 (a.1.getD (cs.getD j 0).toNat Ac) s f (rch rc j != 3)).2==1)
 ·exact⟨h4,by rw[cond_false];omega⟩
 ·exact⟨by rw[cond_true];omega,by rw[cond_true];omega⟩
def Q5a (w:Wld) (s:ByteArray) (f:Fil) (rc:List Int) (hr:Jo w.2.1 w.1=true) (hn:NS w.2.2.1) (hs:B5 s=true) (hf:Gc f=true) (hw:w.2.2.2.2.1.length≤2000000):
  Tot (λ k=>Bt k w s f rc) (λ r=>r=Bza w s f rc):=by
 have hsz:s.size≤1000000000:=by
  have:=Fi.1 (Va _ _ ▸ hs:_∧_).2
  omega
 obtain⟨_,hR,_⟩:=C4.1 hr
 unfold Bt Bza
 refine Icb (Ila w s hr hn.1 hsz) ?_
 have hc:=λ x=>Tu (w:=w) (s:=s) (x:=x)
 have hcl:(Ko w s).length≤4000000000000:=by
  unfold Ko
  refine Pj hn.1 ?_
  have h5:=(C4.1 hr).2.1
  have p2:=(Bra hr s).2.1
  have h12:=(Fl.1 (C4.1 hr).1).2.2.2
  have hh:=Xo w.2.1 w.1 s
  rw[Ve];omega
 have hrun:wrN w s f rc=run (wst w.2.1.1 rc s f (Ko w s)) (Ko w s).length (w.2.2.1,0,0):=rfl
 have inv:∀ n,n≤(Ko w s).length→NS (run (wst w.2.1.1 rc s f (Ko w s)) n (w.2.2.1,0,0)).1∧(run (wst w.2.1.1 rc s f (Ko w s)) n (w.2.2.1,0,0)).1.length=w.2.2.1.length∧(0≤(run (wst w.2.1.1 rc s f (Ko w s)) n (w.2.2.1,0,0)).2.1∧(run (wst w.2.1.1 rc s f (Ko w s)) n (w.2.2.1,0,0)).2.1≤n)∧0≤(run (wst w.2.1.1 rc s f (Ko w s)) n (w.2.2.1,0,0)).2.2∧(run (wst w.2.1.1 rc s f (Ko w s)) n (w.2.2.1,0,0)).2.2≤n:=by
  intro n hn'
  refine M5 (λ j (b:List Nod×Int×Int)=>NS b.1∧b.1.length=w.2.2.1.length∧(0≤b.2.1∧b.2.1≤(j:Int))∧0≤b.2.2∧b.2.2≤(j:Int)) ⟨hn,rfl,⟨Iob _,Iob _⟩,Iob _,Iob _⟩ (λ j b hj hb=>Fxb hs hf hb ?_)
  have:=hc _ (A3 (d:=0) (show j<(Ko w s).length by omega))
  omega
 generalize hcs:Ko w s=cs at *
 refine I1b (Q:=λ r=>r=(s,(wrN w s f rc).2.2,wN w (wrN w s f rc).1,f)) ?_ ?_
 ·refine I9b (L:=λ k i (a:List Nod×Int×Int)=>B2 k s rc cs a.2.1 a.2.2 i (wN w a.1) f) (Q:=λ r=>r=(s,(wrN w s f rc).2.2,wN w (wrN w s f rc).1,f)) cs.length (λ j a=>a=run (wst w.2.1.1 rc s f cs) j (w.2.2.1,0,0)) ?_ ?_ 0 (w.2.2.1,0,0) (Vs _) rfl
  ·rintro a rfl
   simp (disch:=omega) only [B2,dF]
   exact I0b (by rw[hrun])
  ·rintro j a hj rfl next
   obtain⟨i1,i2,i3,i4,i5⟩:=inv j (by omega)
   rw[Nj]at next
   have hst:=Zaa (st:=wst w.2.1.1 rc s f cs) (a:=(w.2.2.1,(0:Int),(0:Int))) (j:=j) (n:=cs.length) (by omega)
   generalize run (wst w.2.1.1 rc s f cs) j (w.2.2.1,0,0)=a at *
   obtain⟨ns,o,g⟩:=a
   dsimp only at i1 i2 i3 i4 i5
   have hci:=hc _ (A3 (d:=0) hj)
   obtain⟨i,ei⟩:∃ i:Nat,cs.getD j 0=(i:Int):=⟨(cs.getD j 0).toNat,by omega⟩
   rw[ei]at hci
   unfold wst at next
   rw[ei,Vb]at next
   simp (disch:=omega) only [B2,dT,wN]
   refine I7b (λ hR'=>?_) (λ hR'=>I0b ?_)
   ·dsimp only at next
    rw[decide_eq_true hR']at next
    simp only[Lfa,Vp]
    cases h0:rch rc j==0 with
    |true=>
     rw[h0]at next
     simp (disch:=omega) only [w64]
     exact I3b rfl (next _ rfl)
    |false=>
     rw[h0]at next
     have e0:ns.getD i ((0:Int),(([],[]),([],[])))=ns.getD i Ac:=rfl
     simp (disch:=omega) only [dT,Vb,w64,ei,e0,cond_false]
     refine Icb (Uaa (ns.getD i Ac) s f (rch rc j != 3) (Y0 (i1.get (by omega))) (Iy hs)) ?_
     dsimp only at next ⊢
     generalize Y2 (ns.getD i Ac) s f (rch rc j != 3)=p at *
     cases h1:rch rc j==1 with
     |false=>
      rw[h1]at next
      exact I2b rfl (next _ rfl)
     |true=>
      rw[h1]at next
      refine I3b rfl ?_
      cases h2:p.2==0
      case true=>rw[h2]at next;exact I3b rfl (next _ rfl)
      rw[h2]at next
      refine I2b rfl ?_
      cases h3:p.2==1 with
      |true=>rw[h3]at next;exact I3b rfl (next _ rfl)
      |false=>rw[h3]at next;exact I2b rfl (next _ rfl)
   ·rw[hrun,hst (λ i=>by unfold wst;dsimp only;rw[decide_eq_false hR'];rfl)]
 ·rintro r rfl
  obtain⟨_,_,_,h4,h5⟩:=inv cs.length (Vv _)
  dsimp only[wN]
  rw[Dcb (by omega) (by omega)]
  have ec:Ej f=some f:=by
   have:=(K7.1 hf).2.1
   unfold Ej
   rw[bT (by simp only[Vk];omega),Vy]
  rw[ec]
  simp only[Vp]
  refine I8b (by simp only[Vd,Vk];omega) ?_
  cases decide ((wrN w s f rc).2.2≥quo w.2.1.1) with
  |true=>exact I0b rfl
  |false=>exact I0b rfl
def ask (w:Wld) (s:ByteArray) (f:Fil) (t:Int) (rc:List Int):Int×Wld:=
 bif !(B5 s) then (2,w) else bif decide ((f.2.2.length:Int) > 200) then (2,w) else bif !(inR t 0 1000000000) then (2,w) else
 bif (w.2.2.2.2.1.length:Int)==200 then (3,w) else
 bif (Nk w.2.2.2.1 t 0).1==w.2.2.2.1.1&&((Nk w.2.2.2.1 t 0).2.1==w.2.2.2.1.2.1&&(Nk w.2.2.2.1 t 0).2.2==w.2.2.2.1.2.2) then (3,w) else
 Bza (w.1,w.2.1,w.2.2.1,Nk w.2.2.2.1 t 0,w.2.2.2.2) s (Nk w.2.2.2.1 t 0,f.2) rc
def V6a (w:Wld) (s:ByteArray) (f:Fil) (t:Int) (rc:List Int) (hr:Jo w.2.1 w.1=true) (hn:NS w.2.2.1) (hst:Hz w.2.2.2.1=true) (hs:M1 s) (hd:f.2.1=true→f.2.2=[]) (hw:w.2.2.2.2.1.length≤2000000):
  Tot (λ k=>Hq k w s f t rc) (λ r=>r=ask w s f t rc):=by
 unfold Hq ask
 refine Icb (Uo s hs) ?_
 cases hs':B5 s
 ·exact I3b rfl (I0b rfl)
 refine I2b rfl ?_
 rw[Yx,cond_false]
 by_cases hl:(f.2.2.length:Int) > 200
 ·rw[decide_eq_true hl];exact I3b rfl (I0b rfl)
 ·rw[decide_eq_false hl,cond_false]
  refine I2b rfl ?_
  simp only[Ov,V5a hst,Vp]
  cases inR t 0 1000000000
  ·exact I3b rfl (I0b rfl)
  refine I2b rfl ?_
  rw[Yx,cond_false]
  cases (w.2.2.2.2.1.length:Int)==200
  case true=>exact I3b rfl (I0b rfl)
  refine I2b rfl ?_
  rw[cond_false]
  cases (Nk w.2.2.2.1 t 0).1==w.2.2.2.1.1&&((Nk w.2.2.2.1 t 0).2.1==w.2.2.2.1.2.1&&(Nk w.2.2.2.1 t 0).2.2==w.2.2.2.1.2.2)
  case true=>exact I3b rfl (I0b rfl)
  refine I2b rfl (Icb (Q5a (w.1,w.2.1,w.2.2.1,Nk w.2.2.2.1 t 0,w.2.2.2.2) s (Nk w.2.2.2.1 t 0,f.2) rc hr hn hs' (K7.2 ⟨(Fra hst t 0).1,by show f.2.2.length≤200;omega,hd⟩) hw) ?_)
  exact I0b rfl
def pst (src:Int) (s:ByteArray) (f:Fil) (rc ps:List Int) (a:List Nod×Bool×Bool) (j:Nat):List Nod×Bool×Bool:=
 bif ps.getD j 0==src then (a.1,true,a.2.2) else bif rch rc j != 1 then (a.1,a.2.1,false) else
  (a.1.set (ps.getD j 0).toNat ((a.1.getD (ps.getD j 0).toNat Ac).1,(keep (a.1.getD (ps.getD j 0).toNat Ac).2.1 s f true).1,(a.1.getD (ps.getD j 0).toNat Ac).2.2),a.2.1,
   bif (keep (a.1.getD (ps.getD j 0).toNat Ac).2.1 s f true).2 != 0&&(keep (a.1.getD (ps.getD j 0).toNat Ac).2.1 s f true).2 != 1 then false else a.2.2)
def N2 (w:Wld) (s:ByteArray):List Int:=whr w.2.2.1 (R9 w.2.1 s)
def puN (w:Wld) (i:Nat) (s:ByteArray) (rc:List Int):List Nod×Bool×Bool:=run (pst (i:Int) s (lkD (w.2.2.1.getD i Ac).2.1 s).1 rc (N2 w s)) (N2 w s).length (w.2.2.1,false,true)
def Gqb (n:Nod) (s:ByteArray):Nod:=(n.1,(syD (rmD n.2.1 s).1 s).1,n.2.2)
def R3 (w:Wld) (i:Nat) (s:ByteArray) (rc:List Int):Bool×Wld:=bif (lkD (w.2.2.1.getD i Ac).2.1 s).2 != 0 then (false,w) else
 (true,wN w (bif (puN w i s rc).2.2&&!(puN w i s rc).2.1 then (puN w i s rc).1.set i (Gqb ((puN w i s rc).1.getD i Ac) s) else (puN w i s rc).1))
def Aub {n:Nod} (hn:NG n) {s:ByteArray} (hs:B5 s=true):NG (Gqb n s):=Fha hn (Fmb (Yba hn.g) hs)
def Fsa {n:Nod} (hn:NG n) {s:ByteArray} {f:Fil} {sure:Bool}:NG (n.1,(keep n.2.1 s f sure).1,n.2.2):=Fha hn (Amb hn.g)
def V7a {src:Int} {s:ByteArray} {f:Fil} {rc ps:List Int} {a:List Nod×Bool×Bool} {j m:Nat} (h:NS a.1∧a.1.length=m) (hc:(ps.getD j 0).toNat<m):NS (pst src s f rc ps a j).1∧(pst src s f rc ps a j).1.length=m:=by
 unfold pst
 cases ps.getD j 0==src
 case true=>exact h
 cases rch rc j != 1 with
 |true=>exact h
 |false=>exact⟨h.1.set (Fsa (h.1.get (by have:=h.2;omega))),by rw[cond_false,cond_false,Wb];exact h.2⟩
def R4 {w:Wld} {s:ByteArray} {x:Int} (h:x∈N2 w s):0≤x∧x<(w.2.2.1.length:Int):=by
 obtain⟨j,h1,_,rfl⟩:=Xa.1 h
 omega
def Ioa {w:Wld} {s:ByteArray} (hr:Jo w.2.1 w.1=true) (hn:w.2.2.1.length≤2000000):(N2 w s).length≤4000000000000:=Pj hn (Qz (Mv hr) s)
def Avb {w:Wld} {i:Nat} {s:ByteArray} {rc:List Int} (hn:NS w.2.2.1):NS (puN w i s rc).1∧(puN w i s rc).1.length=w.2.2.1.length:=
 M5 (λ _ (b:List Nod×Bool×Bool)=>NS b.1∧b.1.length=w.2.2.1.length) ⟨hn,rfl⟩ (λ j b hj hb=>V7a hb (by have:=R4 (A3 (d:=0) hj);omega))
def Zba (w:Wld) (i:Nat) (s:ByteArray) (rc:List Int) (hr:Jo w.2.1 w.1=true) (hn:NS w.2.2.1) (hi:i<w.2.2.1.length):Tot (λ k=>Cj k w (i:Int) s rc) (λ r=>r=R3 w i s rc):=by
 have hni:=hn.get hi
 unfold Cj R3
 have e0:w.2.2.1.getD i ((0:Int),(([],[]),([],[])))=w.2.2.1.getD i Ac:=rfl
 simp (disch:=omega) only [dT,Vb,e0]
 have hin:=(Y0 hni).1
 refine Icb (Z9 hin.1.1.1.1 hin.2.1 s) ?_
 cases hl:(lkD (w.2.2.1.getD i Ac).2.1 s).2 != 0
 case true=>exact I3b rfl (I0b rfl)
 refine I2b rfl ?_
 rw[cond_false]
 have hlk:∃ b,gt (w.2.2.1.getD i Ac).2.1.1 s=some b:=by
  rw[bne,Wm,beq_iff_eq]at hl
  obtain⟨b,hb,_⟩:=P0.1 (show lkD (w.2.2.1.getD i Ac).2.1 s=((lkD (w.2.2.1.getD i Ac).2.1 s).1,0) from by rw[← hl])
  exact⟨b,hb⟩
 have hs:B5 s=true:=Pra hni.g.1 (by obtain⟨b,hb⟩:=hlk;rw[hb];rfl)
 have hsz:s.size≤1000000000:=by
  have:=Fi.1 (Va _ _ ▸ hs:_∧_).2
  omega
 refine Icb (A1a _ s (Mv hr) hsz) ?_
 refine Icb (Ss w _ hn.1 (Qz (Mv hr) s)) ?_
 have hpl:=Ioa (s:=s) hr hn.1
 have hc:=λ x=>R4 (w:=w) (s:=s) (x:=x)
 have hrun:puN w i s rc=run (pst (i:Int) s (lkD (w.2.2.1.getD i Ac).2.1 s).1 rc (N2 w s)) (N2 w s).length (w.2.2.1,false,true):=rfl
 obtain⟨p1,p2⟩:=Avb (w:=w) (i:=i) (s:=s) (rc:=rc) hn
 have inv:∀ n,n≤(N2 w s).length→NS (run (pst (i:Int) s (lkD (w.2.2.1.getD i Ac).2.1 s).1 rc (N2 w s)) n (w.2.2.1,false,true)).1∧(run (pst (i:Int) s (lkD (w.2.2.1.getD i Ac).2.1 s).1 rc (N2 w s)) n (w.2.2.1,false,true)).1.length=w.2.2.1.length:=λ n hn'=>
  M5 (λ _ (b:List Nod×Bool×Bool)=>NS b.1∧b.1.length=w.2.2.1.length) ⟨hn,rfl⟩ (λ j b hj hb=>V7a hb (by have:=hc _ (A3 (d:=0) (show j<(N2 w s).length by omega));omega))
 rw[show whr w.2.2.1 (R9 w.2.1 s)=N2 w s from rfl]
 generalize (lkD (w.2.2.1.getD i Ac).2.1 s).1=f at *
 generalize N2 w s=ps at *
 refine I1b (Q:=λ r=>r=((i:Int),s,(puN w i s rc).2.1,(puN w i s rc).2.2,wN w (puN w i s rc).1)) ?_ ?_
 ·refine I9b (L:=λ k j (a:List Nod×Bool×Bool)=>Bi k (i:Int) s rc ps a.2.1 a.2.2 j (wN w a.1) f) (Q:=λ r=>r=((i:Int),s,(puN w i s rc).2.1,(puN w i s rc).2.2,wN w (puN w i s rc).1)) ps.length (λ j a=>a=run (pst (i:Int) s f rc ps) j (w.2.2.1,false,true)) ?_ ?_ 0 (w.2.2.1,false,true) (Vs _) rfl
  ·rintro a rfl
   simp (disch:=omega) only [Bi,dF]
   exact I0b (by rw[hrun])
  ·rintro j a hj rfl next
   obtain⟨i1,i2⟩:=inv j (by omega)
   rw[Nj]at next
   generalize run (pst (i:Int) s f rc ps) j (w.2.2.1,false,true)=a at *
   obtain⟨ns,o,g⟩:=a
   dsimp only at i1 i2
   have hci:=hc _ (A3 (d:=0) hj)
   obtain⟨m,em⟩:∃ m:Nat,ps.getD j 0=(m:Int):=⟨(ps.getD j 0).toNat,by omega⟩
   rw[em]at hci
   unfold pst at next
   rw[em,Vb]at next
   have e0:ns.getD m ((0:Int),(([],[]),([],[])))=ns.getD m Ac:=rfl
   simp (disch:=omega) only [Bi,dT,Vb,w64,em,wN]
   cases hz:(m:Int)==(i:Int) with
   |true=>
    rw[hz]at next
    exact I3b rfl (next _ rfl)
   |false=>
    rw[hz]at next
    refine I2b rfl ?_
    simp only[Lfa,Vp]
    cases h1:rch rc j != 1 with
    |true=>
     rw[h1]at next
     exact I3b rfl (next _ rfl)
    |false=>
     rw[h1]at next
     refine I2b rfl ?_
     simp (disch:=omega) only [dT,Vb,e0]
     have hm:=Y0 (i1.get (i:=m) (by omega))
     refine Icb (Nma (ns.getD m Ac).2.1 s f true hm.1.1 hm.1.2.1 (Iy hs)) ?_
     dsimp only at next
     generalize keep (ns.getD m Ac).2.1 s f true=q at *
     cases h2:q.2 != 0
     ·rw[h2]at next;exact I2b rfl (next _ rfl)
     rw[h2]at next
     refine I3b rfl ?_
     cases h3:q.2 != 1 with
     |true=>rw[h3]at next;exact I3b rfl (next _ rfl)
     |false=>rw[h3]at next;exact I2b rfl (next _ rfl)
 ·rintro r rfl
  dsimp only[wN]
  generalize puN w i s rc=a at *
  obtain⟨ns,o,g⟩:=a
  dsimp only at p1 p2 ⊢
  cases g
  ·exact I2b rfl (I0b rfl)
  refine I3b rfl ?_
  cases o
  case true=>exact I2b rfl (I0b rfl)
  refine I3b rfl ?_
  have e0:ns.getD i ((0:Int),(([],[]),([],[])))=ns.getD i Ac:=rfl
  have hil:(i:Int)<(ns.length:Int):=by omega
  simp (disch:=omega) only [dT,Vb,e0]
  have hg:=(p1.get (i:=i) (by omega)).g
  refine Icb (Bka hg.1 (Iy hs)) ?_
  refine Icb (Bja (Yba hg).1 hs) ?_
  exact I0b rfl

def tk (n:Nod) (l:List Row):Bool×Nod:=bif decide ((Ow n.2.2.1 l).length > 60) then (false,n) else (true,(n.1,n.2.1,Ow n.2.2.1 l,n.2.2.2))
def Hfb {n:Nod} {l:List Row} (hn:NG n) (hl:L5 l=true):NG (tk n l).2:=by
 obtain⟨h1,h2,h3,h4,h5⟩:=C3.1 hn.1
 unfold tk
 by_cases h:(Ow n.2.2.1 l).length > 60
 ·rw[decide_eq_true h];exact hn
 ·rw[decide_eq_false h]
  exact⟨C3.2 ⟨h1,h2,h3,L3a h4 hl (by omega),h5⟩,hn.2⟩
def gst (src:Int) (l:List Row) (self:Bool) (rc ls:List Int) (a:List Nod×Bool) (j:Nat):List Nod×Bool:=
 bif ls.getD j 0==src&&!self then a else bif rch rc j != 1 then (a.1,false) else
  (a.1.set (ls.getD j 0).toNat (tk (a.1.getD (ls.getD j 0).toNat Ac) l).2,bif (tk (a.1.getD (ls.getD j 0).toNat Ac) l).1 then a.2 else false)
def Lo (w:Wld) (src:Int) (l:List Row) (self:Bool) (rc:List Int):List Nod×Bool:=run (gst src l self rc (Bs w)) (Bs w).length (w.2.2.1,true)
def V8a {src:Int} {l:List Row} {self:Bool} {rc ls:List Int} {a:List Nod×Bool} {j m:Nat} (hl:L5 l=true) (h:NS a.1∧a.1.length=m) (hc:(ls.getD j 0).toNat<m):NS (gst src l self rc ls a j).1∧(gst src l self rc ls a j).1.length=m:=by
 unfold gst
 cases ls.getD j 0==src&&!self
 case true=>exact h
 cases rch rc j != 1 with
 |true=>exact h
 |false=>exact⟨h.1.set (Hfb (h.1.get (by have:=h.2;omega)) hl),by rw[cond_false,cond_false,Wb];exact h.2⟩
def Nw {w:Wld} {x:Int} (h:x∈Bs w):0≤x∧x<(w.2.2.1.length:Int):=by
 obtain⟨j,h1,_,rfl⟩:=Xa.1 h
 omega
def R5 {w:Wld} (hr:RBd w.2.1) (hn:w.2.2.1.length≤2000000):(Bs w).length≤4000000000000:=Pj hn (Qz hr _)
def V1 {w:Wld} {src:Int} {l:List Row} {self:Bool} {rc:List Int} (hl:L5 l=true) (hn:NS w.2.2.1):NS (Lo w src l self rc).1∧(Lo w src l self rc).1.length=w.2.2.1.length:=
 M5 (λ _ (b:List Nod×Bool)=>NS b.1∧b.1.length=w.2.2.1.length) ⟨hn,rfl⟩ (λ j b hj hb=>V8a hl hb (by have:=Nw (A3 (d:=0) hj);omega))
def O5a (w:Wld) (src:Int) (l:List Row) (self:Bool) (rc:List Int) (hr:RBd w.2.1) (hn:NS w.2.2.1) (hl:L5 l=true):
  Tot (λ k=>Bj k w src l self rc) (λ r=>r=((Lo w src l self rc).2,wN w (Lo w src l self rc).1)):=by
 have hll:=(F8a hl).1
 unfold Bj
 refine Icb (Bwa w hr hn.1) ?_
 have hpl:=R5 hr hn.1
 have hc:=λ x=>Nw (w:=w) (x:=x)
 have hrun:Lo w src l self rc=run (gst src l self rc (Bs w)) (Bs w).length (w.2.2.1,true):=rfl
 have inv:∀ n,n≤(Bs w).length→NS (run (gst src l self rc (Bs w)) n (w.2.2.1,true)).1∧(run (gst src l self rc (Bs w)) n (w.2.2.1,true)).1.length=w.2.2.1.length:=λ n hn'=>
  M5 (λ _ (b:List Nod×Bool)=>NS b.1∧b.1.length=w.2.2.1.length) ⟨hn,rfl⟩ (λ j b hj hb=>V8a hl hb (by have:=hc _ (A3 (d:=0) (show j<(Bs w).length by omega));omega))
 generalize Bs w=ls at *
 refine I1b (Q:=λ r=>r=((Lo w src l self rc).2,wN w (Lo w src l self rc).1)) ?_ (by rintro r rfl;exact I0b rfl)
 refine I9b (L:=λ k j (a:List Nod×Bool)=>Aj k src l self rc ls a.2 j (wN w a.1)) (Q:=λ r=>r=((Lo w src l self rc).2,wN w (Lo w src l self rc).1)) ls.length (λ j a=>a=run (gst src l self rc ls) j (w.2.2.1,true)) ?_ ?_ 0 (w.2.2.1,true) (Vs _) rfl
 ·rintro a rfl
  simp (disch:=omega) only [Aj,dF]
  exact I0b (by rw[hrun])
 ·rintro j a hj rfl next
  obtain⟨i1,i2⟩:=inv j (by omega)
  rw[Nj]at next
  generalize run (gst src l self rc ls) j (w.2.2.1,true)=a at *
  obtain⟨ns,g⟩:=a
  dsimp only at i1 i2
  have hci:=hc _ (A3 (d:=0) hj)
  obtain⟨m,em⟩:∃ m:Nat,ls.getD j 0=(m:Int):=⟨(ls.getD j 0).toNat,by omega⟩
  rw[em]at hci
  unfold gst at next
  rw[em,Vb]at next
  have e0:ns.getD m ((0:Int),(([],[]),([],[])))=ns.getD m Ac:=rfl
  have hm:=Y0 (i1.get (i:=m) (by omega))
  have h12:=Pta (ns.getD m Ac) l hm.2.1.1 hll
  rw[show (bif decide ((Ow (ns.getD m Ac).2.2.1 l).length > 60) then (false,(ns.getD m Ac)) else (true,((ns.getD m Ac).1,(ns.getD m Ac).2.1,Ow (ns.getD m Ac).2.2.1 l,(ns.getD m Ac).2.2.2)))=tk (ns.getD m Ac) l from rfl]at h12
  have body:(bif (m:Int)==src&&!self then false else true)=true→Tot (λ k=>(Bx rc (j:Int)).bind λ r2=>cond (r2 != 1) (Aj k src l self rc ls false ((j:Int)+1) (wN w ns)) (cond (decide ((0:Int)≤(m:Int))) (cond (decide ((m:Int)<(length ns:Int))) ((I3 k (ns.getD m Ac) l).bind λ r5=>cond (!r5.1) (Aj k src l self rc ls false ((j:Int)+1) (wN w (ns.set m r5.2))) (Aj k src l self rc ls g ((j:Int)+1) (wN w (ns.set m r5.2)))) none) none)) (λ r=>r=((Lo w src l self rc).2,wN w (Lo w src l self rc).1)):=by
   intro hb
   have hb':((m:Int)==src&&!self)=false:=by
    cases hx:((m:Int)==src&&!self) with
    |false=>rfl
    |true=>rw[hx]at hb;cases hb
   rw[hb']at next
   simp only[Lfa,Vp]
   cases h1:rch rc j != 1 with
   |true=>
    rw[h1]at next
    exact I3b rfl (next _ rfl)
   |false=>
    rw[h1]at next
    refine I2b rfl (I4b (by omega) (I4b (by omega) (I1b h12 ?_)))
    rintro q rfl
    dsimp only at next
    generalize tk (ns.getD m Ac) l=q at *
    cases h2:q.1 with
    |false=>rw[h2]at next;exact I3b rfl (next _ rfl)
    |true=>rw[h2]at next;exact I2b rfl (next _ rfl)
  simp (disch:=omega) only [Aj,dT,Vb,w64,em,e0]
  cases hz:(m:Int)==src with
  |true=>
   rw[hz]at next body
   refine I3b rfl ?_
   cases self
   ·exact I3b rfl (next _ rfl)
   refine I2b rfl ?_
   have:=body rfl
   dsimp only[wN]at this ⊢
   simp (disch:=omega) only [dT]at this
   exact this
  |false=>
   rw[hz]at next body
   refine I2b rfl ?_
   have:=body rfl
   dsimp only[wN]at this ⊢
   simp (disch:=omega) only [dT]at this
   exact this
def Q6a {r:Row} (h:Np r=true):L5 [r]=true:=Na.2 ⟨K3b _ _,λ x hx=>by rw[Vu.1 hx];exact h,by simp⟩
def Xc:L5 []=true:=Na.2 ⟨List.Pairwise.nil,(λ _ hx=>nomatch hx),Vs _⟩
def Xp (n:Nod):Nod:=(n.1,n.2.1,[],n.2.2.2)
def E9b (n:Nod) (q:List Row):Nod:=(n.1,n.2.1,n.2.2.1,q)
def O6a {n:Nod} (hn:NG n):NG (Xp n):=by
 obtain⟨h1,h2,h3,h4,h5⟩:=C3.1 hn.1
 exact⟨C3.2 ⟨h1,h2,h3,Xc,h5⟩,hn.2⟩
def Awb {n:Nod} {q:List Row} (hn:NG n) (h:∀ r∈q,Np r=true) (hl:q.length≤60):NG (E9b n q):=by
 obtain⟨h1,h2,h3,h4,h5⟩:=C3.1 hn.1
 exact⟨C3.2 ⟨h,h2,h3,h4,hl⟩,hn.2⟩
def Nx (w:Wld) (i:Nat) (rc:List Int):List Nod×Bool:=Lo w (i:Int) (w.2.2.1.getD i Ac).2.2.1 false rc
def R6 (w:Wld) (i:Nat) (rc:List Int):Bool×Wld:=bif ((w.2.2.1.getD i Ac).2.2.1.length:Int)==0 then (false,w) else
 (true,wN w (bif (Nx w i rc).2&&!(Mb (Bs (wN w (Nx w i rc).1)) (i:Int)) then (Nx w i rc).1.set i (Xp ((Nx w i rc).1.getD i Ac)) else (Nx w i rc).1))
def V9a (w:Wld) (i:Nat) (rc:List Int) (hr:RBd w.2.1) (hn:NS w.2.2.1) (hi:i<w.2.2.1.length):Tot (λ k=>H9 k w (i:Int) rc) (λ r=>r=R6 w i rc):=by
 have hni:=hn.get hi
 have e0:w.2.2.1.getD i ((0:Int),(([],[]),([],[])))=w.2.2.1.getD i Ac:=rfl
 have hl:=(C3.1 hni.1).2.2.2.1
 unfold H9 R6
 simp (disch:=omega) only [dT,Vb,e0]
 cases hz:((w.2.2.1.getD i Ac).2.2.1.length:Int)==0
 case true=>exact I3b rfl (I0b rfl)
 refine I2b rfl (Icb (O5a w (i:Int) _ false rc hr hn hl) ?_)
 obtain⟨p1,p2⟩:=V1 (w:=w) (src:=(i:Int)) (self:=false) (rc:=rc) hl hn
 rw[show Lo w (i:Int) (w.2.2.1.getD i Ac).2.2.1 false rc=Nx w i rc from rfl]at p1 p2 ⊢
 generalize Nx w i rc=a at *
 obtain⟨ns,g⟩:=a
 dsimp only at p1 p2 ⊢
 cases g
 ·exact I2b rfl (I0b rfl)
 refine I3b rfl ?_
 refine I1b (Q:=λ r=>r=Mb (Bs (wN w ns)) (i:Int)) ?_ ?_
 ·unfold J6
  refine Icb (Bwa (wN w ns) hr p1.1) ?_
  refine Icb (Tm _ _ (by have:=R5 (w:=wN w ns) hr p1.1;omega)) ?_
  exact I0b rfl
 ·rintro b rfl
  cases Mb (Bs (wN w ns)) (i:Int)
  case true=>exact I2b rfl (I0b rfl)
  have e1:ns.getD i ((0:Int),(([],[]),([],[])))=ns.getD i Ac:=rfl
  refine I3b rfl ?_
  simp (disch:=omega) only [dT,Vb,e1]
  exact I0b rfl
def P4 (w:Wld) (i:Nat) (rc:List Int):List Nod×Bool:=Lo w (i:Int) ((w.2.2.1.getD i Ac).2.2.2.take 1) true rc
def Sx (w:Wld) (i:Nat) (rc:List Int):Bool×Wld:=bif ((w.2.2.1.getD i Ac).2.2.2.length:Int)==0 then (false,w) else
 (true,wN w (bif (P4 w i rc).2 then (P4 w i rc).1.set i (E9b ((P4 w i rc).1.getD i Ac) ((w.2.2.1.getD i Ac).2.2.2.drop 1)) else (P4 w i rc).1))
def Ny {q:List Row} (h:∀ r∈q,Np r=true):L5 (q.take 1)=true:=by
 cases q with
 |nil=>exact Xc
 |cons r q=>exact Q6a (h r Yc)
def Vaa (w:Wld) (i:Nat) (rc:List Int) (hr:RBd w.2.1) (hn:NS w.2.2.1) (hi:i<w.2.2.1.length):Tot (λ k=>Ha k w (i:Int) rc) (λ r=>r=Sx w i rc):=by
 have hni:=hn.get hi
 have e0:w.2.2.1.getD i ((0:Int),(([],[]),([],[])))=w.2.2.1.getD i Ac:=rfl
 obtain⟨hq,_,_,_,hq60⟩:=C3.1 hni.1
 have hl:=Ny hq
 unfold Ha Sx
 simp (disch:=omega) only [dT,Vb,e0]
 cases hz:((w.2.2.1.getD i Ac).2.2.2.length:Int)==0
 case true=>exact I3b rfl (I0b rfl)
 have h1:=beq_eq_false_iff_ne.1 hz
 refine I2b rfl (I4b (by omega) (Icb (O5a w (i:Int) _ true rc hr hn hl) ?_))
 obtain⟨p1,p2⟩:=V1 (w:=w) (src:=(i:Int)) (self:=true) (rc:=rc) hl hn
 rw[show Lo w (i:Int) ((w.2.2.1.getD i Ac).2.2.2.take (toNat 1)) true rc=P4 w i rc from rfl]
 rw[show Lo w (i:Int) ((w.2.2.1.getD i Ac).2.2.2.take 1) true rc=P4 w i rc from rfl]at p1 p2
 generalize P4 w i rc=a at *
 obtain⟨ns,g⟩:=a
 dsimp only at p1 p2 ⊢
 cases g
 ·exact I2b rfl (I0b rfl)
 refine I3b rfl (I4b (by omega) (I8b (by rw[Wc,Vk];omega) ?_))
 have e1:ns.getD i ((0:Int),(([],[]),([],[])))=ns.getD i Ac:=rfl
 simp (disch:=omega) only [dT,Vb,e1,Vy]
 exact I0b rfl
def Vba:∀ (k:Nat) (l:List ByteArray) (s:ByteArray),k<l.length→∃ j,j≤k∧(J9a l k s).2=j∧(J9a l k s).1.set j s=l.take j++s::((l.take k).drop j++l.drop (k+1))∧(∀ y∈(l.take k).drop j,tlt s y=true)∧(0<j→tlt s (l.getD (j-1) Ni)=false)
 |0,l,s,hk=>by
  refine⟨0,Vv _,rfl,?_,λ y hy=>by simp at hy,λ h=>by omega⟩
  cases l with
  |nil=>simp at hk
  |cons x l=>rfl
 |k+1,l,s,hk=>by
  unfold J9a
  cases hc:tlt s (l.getD k Ni) with
  |false=>
   rw[cond_false]
   refine⟨k+1,Vv _,rfl,?_,λ y hy=>?_,λ _=>hc⟩
   ·rw[Jgb,Jdb,Irb,Vy]
    exact J2b .. |>.trans (if_pos hk)
   ·rw[Jgb,Jdb,Irb]at hy;cases hy
  |true=>
   rw[cond_true]
   obtain⟨j,h1,h2,h3,h4,h5⟩:=Vba k (l.set (k+1) (l.getD k Ni)) s (by rw[Wb];omega)
   have t1:(l.set (k+1) (l.getD k Ni)).take j=l.take j:=by rw[Knb (by omega)]
   have t2:(l.set (k+1) (l.getD k Ni)).take k=l.take k:=by rw[Knb (by omega)]
   have t3:(l.set (k+1) (l.getD k Ni)).drop (k+1)=l.getD k Ni::l.drop (k+2):=by
    rw[Zg (by rw[Wb];exact hk),List.getElem_set_self,List.drop_set_of_lt (by omega)]
   have t4:l.take (k+1)=l.take k++[l.getD k Ni]:=by
    rw[Wl (by omega),Vc,Vj (by omega),Yv]
   have hlk:(l.take k).length=k:=by rw[Vq];omega
   rw[t1,t2,t3]at h3
   rw[t2]at h4
   refine⟨j,by omega,h2,?_,λ y hy=>?_,λ h=>?_⟩
   ·rw[h3,t4,Kgb (by omega),Vn]
    rfl
   ·rw[t4,Kgb (by omega)]at hy
    rcases Vo.1 hy with hy|hy
    ·exact h4 y hy
    ·rw[Vu.1 hy];exact hc
   ·have:=h5 h
    rwa [Vc,Jmb (by omega),← Vc]at this
def Dpa {l:List ByteArray} {s:ByteArray}:∃ j,j≤l.length∧Atb l s=l.take j++s::l.drop j∧(∀ y∈l.drop j,tlt s y=true)∧(0<j→tlt s (l.getD (j-1) Ni)=false):=by
 obtain⟨j,h1,h2,h3,h4,h5⟩:=Vba l.length (l++[s]) s (by simp)
 have t1:(l++[s]).take l.length=l:=by rw[Khb (Vv _),Yr]
 have t2:(l++[s]).drop (l.length+1)=[]:=K4b (by simp)
 have t3:(l++[s]).take j=l.take j:=Khb h1
 rw[t1]at h4
 rw[t1,t2,t3,Xs]at h3
 refine⟨j,h1,?_,h4,λ h=>?_⟩
 ·unfold Atb
  rw[h2,h3]
 ·have:=h5 h
  rwa [Vc,Ye (by omega),← Vc]at this
def spl (l:List ByteArray) (s:ByteArray):List ByteArray:=bif Y4 l s then l else Atb l s
def Fta {l:List ByteArray} {s y:ByteArray}:y∈spl l s↔y=s∨y∈l:=by
 unfold spl
 cases h:Y4 l s with
 |true=>
  have:=Pi.1 h
  exact⟨.inr,λ h=>h.elim (λ e=>e ▸ this) id⟩
 |false=>
  obtain⟨j,_,e,_⟩:=Dpa (l:=l) (s:=s)
  rw[cond_false,e,Vo,Vl]
  conv=>rhs;rw[← Wo j l,Vo]
  constructor
  ·rintro (h|h|h)
   ·exact .inr (.inl h)
   ·exact .inl h
   ·exact .inr (.inr h)
  ·rintro (h|h|h)
   ·exact .inr (.inl h)
   ·exact .inl h
   ·exact .inr (.inr h)
def Dqa {l:List ByteArray} {s:ByteArray} (h:TS l):TS (spl l s):=by
 unfold spl
 cases hh:Y4 l s
 case true=>exact h
 have hn:s∉l:=λ c=>by rw[Pi.2 c]at hh;cases hh
 obtain⟨j,h1,e,h4,h5⟩:=Dpa (l:=l) (s:=s)
 rw[cond_false,e]
 have hs:∀ y∈l.take j,tlt y s=true:=by
  intro y hy
  by_cases hj:0<j
  ·have hlast:l.getD (j-1) Ni∈l:=A3 (by omega)
   have hlt:tlt (l.getD (j-1) Ni) s=true:=by
    cases hc:tlt (l.getD (j-1) Ni) s with
    |true=>rfl
    |false=>exact absurd (Aza hc (h5 hj) ▸ hlast) hn
   obtain⟨i,hi,rfl⟩:=Zf.1 hy
   rw[Vq]at hi
   rw[List.getElem_take]
   by_cases hij:i=j-1
   ·subst hij
    rwa [Vc,Vj (by omega),Yv]at hlt
   ·have:=Zk.1 h i (j-1) (by omega) (by omega) (by omega)
    rw[Vc,Vj (by omega),Yv]at hlt
    exact N0 this hlt
  ·rw[show j=0 by omega,Irb]at hy;cases hy
 have hd:TS (l.drop j):=h.sublist (List.drop_sublist _ _)
 have ht:TS (l.take j):=h.sublist (L3b _ _)
 exact Zi.2 ⟨ht,Wh.2 ⟨h4,hd⟩,λ a ha b hb=>by
  rcases Vl.1 hb with rfl|hb
  ·exact hs a ha
  ·exact N0 (hs a ha) (h4 b hb)⟩
def Vca (l:List ByteArray) (s:ByteArray) (hl:l.length≤5000000):Tot (λ k=>Df k l s) (λ r=>r=spl l s):=by
 unfold Df spl
 refine Icb (O2a l s (by omega)) ?_
 cases Y4 l s
 case true=>exact I3b rfl (I0b rfl)
 have loop:∀ (k:Nat) (x:List ByteArray),k<x.length→x.length≤5000001→Tot (λ n=>Ep n s x (k:Int)) (λ r=>r=(s,(J9a x k s).1,((J9a x k s).2:Int))):=by
  intro k
  induction k with
  |zero=>
   intro x hk hx
   refine Tot.succ ?_
   simp (disch:=omega) only [Ep,dF]
   exact I0b rfl
  |succ k ih=>
   intro x hk hx
   refine Tot.succ ?_
   have e1:((k+1:Nat):Int)-1=(k:Int):=by omega
   have e0:x.getD k (⟨#[]⟩:ByteArray)=x.getD k Ni:=rfl
   simp (disch:=omega) only [Ep,dT,w64,e1,Vb,e0,Hia]
   unfold J9a
   refine I6b (λ h=>?_) (λ h=>?_)
   ·rw[h,cond_true]
    exact ih _ (by rw[Wb];omega) (by rw[Wb];omega)
   ·rw[h,cond_false]
    exact I0b rfl
 have n0:([]:List ByteArray).length=0:=rfl
 have n1:([s]:List ByteArray).length=1:=rfl
 have nl:(l++[s]).length=l.length+1:=by simp
 refine I2b rfl (I8b (by rw[n0];omega) ?_)
 simp only[Vy]
 refine I8b (by rw[n1];omega) ?_
 rw[nl,w64 (n:=((l.length+1:Nat):Int)-1) (by omega) (by omega),show ((l.length+1:Nat):Int)-1=(l.length:Int) by omega]
 refine Icb (loop l.length (l++[s]) (by omega) (by omega)) ?_
 obtain⟨i1,i2,_⟩:=Bqa l.length (l++[s]) s
 simp (disch:=omega) only [dT,Vb]
 exact I0b rfl

abbrev Evt:=Int×Int×ByteArray×List Int×Int×List Int
def Grb (e:Evt):Prop:=M1 e.2.2.1∧e.2.2.2.1.length≤1000000000∧(-9223372036854775808≤e.2.2.2.2.1∧e.2.2.2.2.1≤9223372036854775807)∧e.2.2.2.2.2.length≤4000000000000
def Ipa (l:List Int):List Bool:=l.map (· == 1)
def crN (n:Nod) (kp:List Bool):Nod:=(n.1,Tp n.2.1 kp,n.2.2)
def Fyb {n:Nod} {kp:List Bool} (hn:NG n):NG (crN n kp):=Fha hn (Upa hn.g)
def Deb (w:Wld) (i:Nat) (s:ByteArray) (b:Int):Bool×Wld:=bif (L4a (w.2.2.1.getD i Ac) s b).2 then (true,(w.1,w.2.1,w.2.2.1.set i (L4a (w.2.2.1.getD i Ac) s b).1,w.2.2.2.1,w.2.2.2.2.1,spl w.2.2.2.2.2 s)) else (false,w)
def Coa (w:Wld) (e:Evt) (i:Nat):Bool×Wld:=
 bif e.1==3 then R3 w i e.2.2.1 e.2.2.2.2.2 else bif e.1==4 then R6 w i e.2.2.2.2.2 else bif e.1==5 then Sx w i e.2.2.2.2.2 else
 bif e.1==6 then (true,wN w (w.2.2.1.set i (Dab (w.2.2.1.getD i Ac)).1)) else
 bif e.1==7 then (true,wN w (w.2.2.1.set i (crN (w.2.2.1.getD i Ac) (Ipa e.2.2.2.2.2)))) else Deb w i e.2.2.1 e.2.2.2.2.1
def Vda (w:Wld) (e:Evt) (i:Nat) (hei:e.2.1=(i:Int)) (he:Grb e) (hr:Jo w.2.1 w.1=true) (hn:NS w.2.2.1) (hi:i<w.2.2.1.length) (hsp:w.2.2.2.2.2.length≤2000000):
  Tot (λ k=>Az k w e) (λ r=>r=Coa w e i):=by
 have hni:=hn.get hi
 have e0:w.2.2.1.getD i ((0:Int),(([],[]),([],[])))=w.2.2.1.getD i Ac:=rfl
 obtain⟨he1,he2,he3,he4⟩:=he
 unfold Az Coa
 cases e.1==3 with
 |true=>
  rw[hei]
  refine I3b rfl (Icb (Zba w i _ _ hr hn hi) ?_)
  exact I0b rfl
 |false=>
  refine I2b rfl ?_
  cases e.1==4 with
  |true=>
   rw[hei]
   refine I3b rfl (Icb (V9a w i _ (Mv hr) hn hi) ?_)
   exact I0b rfl
  |false=>
   refine I2b rfl ?_
   cases e.1==5 with
   |true=>
    rw[hei]
    refine I3b rfl (Icb (Vaa w i _ (Mv hr) hn hi) ?_)
    exact I0b rfl
   |false=>
    refine I2b rfl ?_
    cases e.1==6 with
    |true=>
     refine I3b rfl ?_
     simp (disch:=omega) only [hei,dT,Vb,e0]
     refine Icb (Uua _ hni.g) ?_
     exact I0b rfl
    |false=>
     refine I2b rfl ?_
     cases e.1==7 with
     |true=>
      refine I3b rfl (I1b (Q:=λ r=>r=(Ipa e.2.2.2.2.2,w,e)) ?_ ?_)
      ·refine I9b (L:=λ k j (s:List Bool)=>D0 k s j w e) (Q:=λ r=>r=(Ipa e.2.2.2.2.2,w,e)) e.2.2.2.2.2.length (λ j s=>s=Ipa (e.2.2.2.2.2.take j)) ?_ ?_ 0 [] (Vs _) rfl
       ·rintro s rfl
        simp (disch:=omega) only [D0,dF]
        exact I0b (by rw[Yr])
       ·rintro j s hj rfl next
        simp (disch:=omega) only [D0,dT,Vb,w64]
        have hk:(Ipa (e.2.2.2.2.2.take j)).length=j:=by unfold Ipa;rw[Wd,Vq];omega
        refine I8b (by rw[hk,Kab];omega) (next _ ?_)
        unfold Ipa
        rw[Wl hj,Ivb,Vc,Vj hj]
        rfl
      ·rintro r rfl
       simp (disch:=omega) only [hei,dT,Vb,e0]
       refine Icb (Usa _ _ hni.g (by unfold Ipa;rw[Wd];exact he4)) ?_
       exact I0b rfl
     |false=>
      refine I2b rfl ?_
      simp (disch:=omega) only [hei,dT,Vb,e0]
      refine Icb (L5a _ _ _ (Y0 hni) he3.2 he3.1) ?_
      unfold Deb
      rw[cond_false,cond_false,cond_false,cond_false,cond_false]
      generalize L4a (w.2.2.1.getD i Ac) e.2.2.1 e.2.2.2.2.1=q
      cases h:q.2 with
      |true=>
       refine I3b rfl (Icb (Vca _ _ (by omega)) ?_)
       exact I0b rfl
      |false=>exact I2b rfl (I0b rfl)
def Iqa (w:Wld) (i wt:Int):Bool×Wld:=bif !(inR i 0 ((w.1.length:Int)-1)) then (false,w) else bif !(inR wt 1 1000) then (false,w) else
 (decide ((Lba w.2.1 (wgt w.1 i.toNat wt)).2≥0),(wgt w.1 i.toNat wt,(Lba w.2.1 (wgt w.1 i.toNat wt)).1,w.2.2))
def Vea (w:Wld) (i wt:Int) (hr:Jo w.2.1 w.1=true):Tot (λ k=>Hg k w i wt) (λ r=>r=Iqa w i wt):=by
 have h12:=(Fl.1 (C4.1 hr).1).2.2.2
 unfold Hg Iqa
 rw[w64 (n:=(w.1.length:Int)-1) (by omega) (by omega)]
 simp only[Ov,Vp]
 cases h1:inR i 0 ((w.1.length:Int)-1)
 ·exact I3b rfl (I0b rfl)
 refine I2b rfl ?_
 cases h2:inR wt 1 1000
 ·exact I3b rfl (I0b rfl)
 refine I2b rfl ?_
 obtain⟨i0,i1⟩:=Fi.1 h1
 obtain⟨w0,w1⟩:=Fi.1 h2
 simp (disch:=omega) only [dT]
 refine Icb (Uma (r:=w.2.1) (l:=wgt w.1 i.toNat wt) (Fda hr (by omega) w0 w1)) ?_
 exact I0b rfl
def W8a (r:Int×Wld):Bool×Wld:=bif r.1 != 2 then (r.1 != 3,r.2) else (false,r.2)
def doW (w:Wld) (e:Evt):Bool×Wld:=
 bif e.1==1 then W8a (ask w e.2.2.1 ((0,0,0),false,e.2.2.2.1) e.2.2.2.2.1 e.2.2.2.2.2) else
 bif e.1==2 then W8a (ask w e.2.2.1 ((0,0,0),true,[]) e.2.2.2.2.1 e.2.2.2.2.2) else
 bif e.1==3||(e.1==4||(e.1==5||(e.1==6||(e.1==7||e.1==8)))) then (bif inR e.2.1 0 ((w.2.2.1.length:Int)-1) then Coa w e e.2.1.toNat else (false,w)) else
 bif e.1==9 then Iqa w e.2.1 e.2.2.2.2.1 else (false,w)
def Fzb (w:Wld) (e:Evt) (he:Grb e) (hr:Jo w.2.1 w.1=true) (hn:NS w.2.2.1) (hst:Hz w.2.2.2.1=true) (hw:w.2.2.2.2.1.length≤2000000) (hsp:w.2.2.2.2.2.length≤2000000):
  Tot (λ k=>J0 k w e) (λ r=>r=doW w e):=by
 have hnl:=hn.1
 have node:∀ {f:Nat→Option (Bool×Wld)} ,Tot (λ k=>(A9 e.2.1 0 (wrap .i64 ((length w.2.2.1:Int)-1))).bind λ r4=>cond r4 ((Az k w e).bind λ r5=>some (r5.1,r5.2)) (some (false,w))) (λ r=>r=bif inR e.2.1 0 ((w.2.2.1.length:Int)-1) then Coa w e e.2.1.toNat else (false,w)):=by
  intro f
  rw[w64 (n:=(w.2.2.1.length:Int)-1) (by omega) (by omega)]
  simp only[Ov,Vp]
  cases h1:inR e.2.1 0 ((w.2.2.1.length:Int)-1)
  ·exact I2b rfl (I0b rfl)
  obtain⟨i0,i1⟩:=Fi.1 h1
  refine I3b rfl (Icb (Vda w e e.2.1.toNat (by omega) he hr hn (by omega) hsp) ?_)
  exact I0b rfl
 have answer:∀ (q:Int×Wld),Tot (λ _=>cond (q.1 != 2) (some (q.1 != 3,q.2)) (some (false,q.2))) (λ r=>r=W8a q):=by
  intro q
  unfold W8a
  cases q.1 != 2<;>exact I0b rfl
 unfold J0 doW
 cases e.1==1 with
 |true=>
  refine I3b rfl (I8b (by have:=he.2.1;rw[Vk];omega) (Icb (V6a w e.2.2.1 ((0,0,0),false,e.2.2.2.1) e.2.2.2.2.1 e.2.2.2.2.2 hr hn hst he.1 (λ h=>by cases h) hw) ?_))
  exact answer _
 |false=>
  refine I2b rfl ?_
  cases e.1==2 with
  |true=>
   refine I3b rfl (Icb (V6a w e.2.2.1 ((0,0,0),true,[]) e.2.2.2.2.1 e.2.2.2.2.2 hr hn hst he.1 (λ _=>rfl) hw) ?_)
   exact answer _
  |false=>
   refine I2b rfl ?_
   cases e.1==3
   case true=>exact I3b rfl (node (f:=λ _=>none))
   refine I2b rfl ?_
   cases e.1==4
   case true=>exact I3b rfl (node (f:=λ _=>none))
   refine I2b rfl ?_
   cases e.1==5
   case true=>exact I3b rfl (node (f:=λ _=>none))
   refine I2b rfl ?_
   cases e.1==6
   case true=>exact I3b rfl (node (f:=λ _=>none))
   refine I2b rfl ?_
   cases e.1==7
   case true=>exact I3b rfl (node (f:=λ _=>none))
   refine I2b rfl ?_
   cases e.1==8
   case true=>exact I3b rfl (node (f:=λ _=>none))
   refine I2b rfl ?_
   cases e.1==9 with
   |true=>
    refine I3b rfl (Icb (Vea w _ _ hr) ?_)
    exact I0b rfl
   |false=>exact I2b rfl (I0b rfl)

def C0a {a b c:Stp} (h1:sle a b=false) (h2:sle b c=false):sle a c=false:=by
 cases h:sle a c
 ·rfl
 have n1:¬ _:=λ k=>by rw[Pn.2 k]at h1;cases h1
 have n2:¬ _:=λ k=>by rw[Pn.2 k]at h2;cases h2
 have h3:=Pn.1 h
 omega
def V2 {a b:Stp} (h:sle a b=true):sle b a=false:=by
 cases h':sle b a
 ·rfl
 have h1:=Pn.1 h
 have h2:=Pn.1 h'
 omega
def Dra (ws:List Wri):Prop:=∀ x∈ws,B5 x.1=true∧Gc x.2.1=true∧Ap x.2.1.2.2
def IsW (ws:List Wri) (s:ByteArray) (f:Fil):Prop:=∃ x∈ws,x.1=s∧x.2.1=f
def EO (ws:List Wri) (sp:List ByteArray) (s:ByteArray) (b:List Int):Prop:=∃ f,IsW ws s f∧(b=Lc f∨(s∈sp∧∃ n,n<8*(Lc f).length∧b=Nu (Lc f) n))
def ED (ws:List Wri) (sp:List ByteArray) (d:Dsk) (s:ByteArray):Prop:=
 (∀ b,gt d.1 s=some b→EO ws sp s b)∧(∀ b,gt d.2 s=some b→EO ws sp s b)∧
 (s∉sp→∀ b f,gt d.2 s=some b→Mq b=some f→∃ b' f',gt d.1 s=some b'∧Mq b'=some f'∧sle f'.1 f.1=false)
def DI (ws:List Wri) (sp:List ByteArray) (d:Dsk):Prop:=∀ s,ED ws sp d s
def HD (d:Dsk) (s:ByteArray) (st:Stp):Prop:=∃ b f,gt d.2 s=some b∧Mq b=some f∧sle f.1 st=false
def MO (sp:List ByteArray) (d d':Dsk):Prop:=∀ s,s∉sp→∀ st,HD d s st→HD d' s st
def IsW.good {ws:List Wri} (hw:Dra ws) {s:ByteArray} {f:Fil} (h:IsW ws s f):B5 s=true∧Gc f=true∧Ap f.2.2:=by
 obtain⟨x,hx,rfl,rfl⟩:=h
 exact hw x hx
def EO.get {ws:List Wri} {sp:List ByteArray} (hw:Dra ws) {s:ByteArray} {b:List Int} (h:EO ws sp s b) {f:Fil} (hf:Mq b=some f):IsW ws s f∧b=Lc f:=by
 obtain⟨g,h1,h2⟩:=h
 obtain⟨_,g2,g3⟩:=h1.good hw
 rcases h2 with rfl|⟨_,n,hn,rfl⟩
 ·rw[Uv g2 g3]at hf
  cases hf
  exact⟨h1,rfl⟩
 ·rw[Yqa g2 hn]at hf;cases hf
def EO.fine {ws:List Wri} {sp:List ByteArray} (hw:Dra ws) {s:ByteArray} {b:List Int} (h:EO ws sp s b) (hs:s∉sp):∃ f,Mq b=some f∧IsW ws s f:=by
 obtain⟨g,h1,h2⟩:=h
 obtain⟨_,g2,g3⟩:=h1.good hw
 rcases h2 with rfl|⟨h,_⟩
 ·exact⟨g,Uv g2 g3,h1⟩
 ·exact absurd h hs
def EO.mono {ws ws':List Wri} {sp sp':List ByteArray} (h1:∀ x∈ws,x∈ws') (h2:∀ s∈sp,s∈sp') {s:ByteArray} {b:List Int} (h:EO ws sp s b):EO ws' sp' s b:=by
 obtain⟨g,⟨x,hx,e⟩,h3⟩:=h
 refine⟨g,⟨x,h1 x hx,e⟩,?_⟩
 rcases h3 with h3|⟨h3,h4⟩
 ·exact .inl h3
 ·exact .inr ⟨h2 s h3,h4⟩
def ED.mono {ws ws':List Wri} {sp sp':List ByteArray} (h1:∀ x∈ws,x∈ws') (h2:∀ s∈sp,s∈sp') {d:Dsk} {s:ByteArray} (h:ED ws sp d s):ED ws' sp' d s:=
 ⟨λ b hb=>(h.1 b hb).mono h1 h2,λ b hb=>(h.2.1 b hb).mono h1 h2,λ hs=>h.2.2 (λ c=>hs (h2 s c))⟩
def DI.mono {ws ws':List Wri} {sp sp':List ByteArray} (h1:∀ x∈ws,x∈ws') (h2:∀ s∈sp,s∈sp') {d:Dsk} (h:DI ws sp d):DI ws' sp' d:=λ s=>(h s).mono h1 h2
def ED.same {ws:List Wri} {sp:List ByteArray} {d d':Dsk} {s:ByteArray} (h:ED ws sp d s) (e1:gt d'.1 s=gt d.1 s) (e2:gt d'.2 s=gt d.2 s):ED ws sp d' s:=by
 unfold ED
 rw[e1,e2]
 exact h
def HD.same {d d':Dsk} {s:ByteArray} {st:Stp} (h:HD d s st) (e2:gt d'.2 s=gt d.2 s):HD d' s st:=by
 unfold HD
 rw[e2]
 exact h
def MO.refl (sp:List ByteArray) (d:Dsk):MO sp d d:=λ _ _ _ h=>h
def MO.trans {sp:List ByteArray} {a b c:Dsk} (h1:MO sp a b) (h2:MO sp b c):MO sp a c:=λ s hs st h=>h2 s hs st (h1 s hs st h)
def Vfa {s:ByteArray} {st:Stp} {n:Nod}:Lha s st n=true↔HD n.2.1 s st:=by
 unfold Lha HD
 cases h:gt n.2.1.2 s with
 |none=>exact⟨λ c=>(by cases c),λ ⟨b,f,c,_⟩=>(by cases c)⟩
 |some b=>
  dsimp only
  cases h2:Mq b with
  |none=>exact⟨λ c=>(by cases c),λ ⟨b',f,c,c2,_⟩=>(by cases c;rw[h2]at c2;cases c2)⟩
  |some f=>
   dsimp only
   rw[Vw]
   exact⟨λ c=>⟨b,f,rfl,h2,c⟩,λ ⟨b',f',c,c2,c3⟩=>(by cases c;rw[h2]at c2;cases c2;exact c3)⟩
section
variable {ws:List Wri} {sp:List ByteArray} {d:Dsk} {s:ByteArray}
def ED.now (hw:Dra ws) (h:ED ws sp d s) {f:Fil} (ho:old d s=some f):IsW ws s f:=by
 unfold old at ho
 cases hg:gt d.1 s with
 |none=>rw[hg]at ho;cases ho
 |some b=>rw[hg]at ho;exact((h.1 b hg).get hw ho).1
def ED.ge (h:ED ws sp d s) (hs:s∉sp) {st:Stp} (hh:HD d s st):∃ b f,gt d.1 s=some b∧Mq b=some f∧sle f.1 st=false:=by
 obtain⟨b,f,h1,h2,h3⟩:=hh
 obtain⟨b',f',h4,h5,h6⟩:=h.2.2 hs b f h1 h2
 exact⟨b',f',h4,h5,C0a h6 h3⟩
def Dfb (hd:Ay d=true) (h:DI ws sp d):DI ws sp (d.1,sy d s):=by
 intro t
 by_cases ht:s=t
 ·subst ht
  have e:gt (sy d s) s=gt d.1 s:=by rw[L2a hd,if_pos rfl]
  refine⟨(h s).1,λ b hb=>(h s).1 b (by rw[← e];exact hb),λ hs b f hb hf=>⟨b,f,by rw[← e];exact hb,hf,Kx _⟩⟩
 ·exact(h t).same rfl (by show gt (sy d s) t=_;rw[L2a hd,if_neg ht])
def G0b (hd:Ay d=true) (h:DI ws sp d):MO sp d (d.1,sy d s):=by
 intro t ht st hh
 by_cases hst:s=t
 ·subst hst
  obtain⟨b,f,h1,h2,h3⟩:=(h s).ge ht hh
  exact⟨b,f,by show gt (sy d s) s=_;rw[L2a hd,if_pos rfl,h1],h2,h3⟩
 ·exact hh.same (by show gt (sy d s) t=_;rw[L2a hd,if_neg hst])
def Hgb (hw:Dra ws) (hd:Ay d=true) (h:DI ws sp d) {f:Fil} (hf:IsW ws s f) (hn:∀ o,old d s=some o→sle o.1 f.1=true):DI ws sp (wr d.1 s (Lc f),d.2):=by
 intro t
 by_cases ht:s=t
 ·subst ht
  have e:gt (wr d.1 s (Lc f)) s=some (Lc f):=by rw[F7a (Kr hd),if_pos rfl]
  obtain⟨_,g2,g3⟩:=hf.good hw
  refine⟨λ b hb=>?_,(h s).2.1,λ hs b g hb hg=>⟨Lc f,f,e,Uv g2 g3,?_⟩⟩
  ·rw[show gt (wr d.1 s (Lc f)) s=some b from hb]at e
   cases e
   exact⟨f,hf,.inl rfl⟩
  ·obtain⟨b',f',k1,k2,k3⟩:=(h s).2.2 hs b g hb hg
   have:=hn f' (by unfold old;rw[k1];exact k2)
   exact C0a (V2 this) k3
 ·exact(h t).same (by show gt (wr d.1 s (Lc f)) t=_;rw[F7a (Kr hd),if_neg ht]) rfl
def Lja (hw:Dra ws) (hd:DG d) (h:DI ws sp d) {f:Fil} {sure:Bool} (hf:IsW ws s f):DI ws sp (keep d s f sure).1∧MO sp d (keep d s f sure).1:=by
 obtain⟨g1,g2,g3⟩:=hf.good hw
 rw[Bla hd.1 g1 g2]
 rcases X5 (f:=f) (sure:=sure) hd g1 with k|⟨o,_,_,k,hg,h3⟩|⟨h1,h2,k,hg,h3⟩
 ·rw[k];exact⟨h,MO.refl _ _⟩
 ·rcases h3 with⟨_,h3⟩|⟨_,h3⟩
  ·rw[h3];exact⟨h,MO.refl _ _⟩
  ·rw[h3];exact⟨Dfb hd.1 h,G0b hd.1 h⟩
 ·have hw':=Hgb hw hd.1 h hf h1
  rcases h3 with⟨_,h3⟩|⟨_,h3⟩
  ·rw[h3];exact⟨hw',λ t _ st hh=>hh.same rfl⟩
  ·rw[h3];exact⟨Dfb h2.1 hw',(show MO sp d (wr d.1 s (Lc f),d.2) from λ t _ st hh=>hh.same rfl).trans (G0b h2.1 hw')⟩
def Vga (hw:Dra ws) (hd:DG d) {f:Fil} (hf:IsW ws s f) (hc:(keep d s f true).2=0∨(keep d s f true).2=1):HD (keep d s f true).1 s f.1:=by
 obtain⟨g1,g2,g3⟩:=hf.good hw
 rw[Bla hd.1 g1 g2]at hc ⊢
 obtain⟨o,g,b,ho,_,e,h1,h2,h3⟩:=U8a hd g1 g2 g3 hc
 rw[e]
 exact⟨b,g,by show gt (sy o s) s=_;rw[L2a ho.1,if_pos rfl,h1],h2,h3⟩
def Dgb (hd:DG d) (h:DI ws sp d) (kp:List Bool):DI ws sp (Tp d kp):=by
 intro t
 rcases Uqa (d:=d) (kp:=kp) t with e|⟨e1,e2⟩
 ·rw[e];exact h t
 ·unfold ED
  rw[e1]
  have eo:∀ b,gt (Tp d kp).1 t=some b→EO ws sp t b:=by
   intro b hb
   rcases e2 with e2|e2
   ·exact(h t).1 b (by rw[← e2];exact hb)
   ·exact(h t).2.1 b (by rw[← e2];exact hb)
  exact⟨eo,eo,λ _ b f hb hf=>⟨b,f,hb,hf,Kx _⟩⟩
def Dhb (hd:DG d) (h:DI ws sp d) (kp:List Bool):MO sp d (Tp d kp):=by
 intro t ht st hh
 rcases Uqa (d:=d) (kp:=kp) t with e|⟨e1,e2⟩
 ·rw[e];exact hh
 ·unfold HD
  rw[e1]
  rcases e2 with e2|e2
  ·rw[e2];exact(h t).ge ht hh
  ·rw[e2];exact hh
def O7a (hw:Dra ws) (hd:DG d) (h:DI ws sp d):DI ws sp (M9 d).1∧MO sp d (M9 d).1:=by
 obtain⟨_,hc⟩:=Tq d.1 (d,0) hd
 have hc':∀ t,(t∈Fga d.1→gt (M9 d).1.1 t=none∧gt (M9 d).1.2 t=none)∧(t∉Fga d.1→gt (M9 d).1.1 t=gt d.1 t∧gt (M9 d).1.2 t=gt d.2 t):=hc
 have hb:∀ t,t∈Fga d.1→t∈sp:=by
  intro t ht
  obtain⟨b,h1,h2⟩:=(O0a hd.1).1 ht
  by_cases hs:t∈sp
  ·exact hs
  ·obtain⟨f,hf,_⟩:=((h t).1 b h1).fine hw hs
   rw[hf]at h2;cases h2
 constructor
 ·intro t
  by_cases ht:t∈Fga d.1
  ·obtain⟨e1,e2⟩:=(hc' t).1 ht
   unfold ED
   rw[e1,e2]
   exact⟨λ b hb=>(by cases hb),λ b hb=>(by cases hb),λ _ b f hb=>(by cases hb)⟩
  ·obtain⟨e1,e2⟩:=(hc' t).2 ht
   exact(h t).same e1 e2
 ·intro t ht st hh
  exact hh.same ((hc' t).2 (λ c=>ht (hb t c))).2
def G1b (hd:DG d) (h:DI ws sp d) (hs:B5 s=true):DI ws sp (syD (rmD d s).1 s).1∧∀ t,t≠s→∀ st,HD d t st→HD (syD (rmD d s).1 s).1 t st:=by
 have hr:DI ws sp (rmD d s).1∨True := .inr trivial
 unfold rmD
 cases hg:gt d.1 s with
 |none=>
  have e:(bif (none:Option (List Int)).isSome then ((cut d.1 s,d.2),true) else (d,false)).1=d:=rfl
  rw[e]
  unfold syD
  by_cases hl:(sy d s).length≤60
  ·rw[decide_eq_true hl]
   exact⟨Dfb hd.1 h,λ t ht st hh=>hh.same (by show gt (sy d s) t=_;rw[L2a hd.1,if_neg (Jpb ht)])⟩
  ·rw[decide_eq_false hl];exact⟨h,λ t ht st hh=>hh⟩
 |some b=>
  have e:(bif (some b:Option (List Int)).isSome then ((cut d.1 s,d.2),true) else (d,false)).1=(cut d.1 s,d.2):=rfl
  rw[e]
  have hd':Ay (cut d.1 s,d.2)=true:=E5.2 ⟨Xk (E5.1 hd.1).1,(E5.1 hd.1).2⟩
  have e1:∀ t,gt (cut d.1 s) t=if s=t then none else gt d.1 t:=λ t=>T5 (Kr hd.1)
  have e2:∀ t,gt (sy (cut d.1 s,d.2) s) t=if s=t then none else gt d.2 t:=λ t=>by
   rw[L2a hd']
   by_cases hst:s=t
   ·rw[if_pos hst,if_pos hst];show gt (cut d.1 s) s=none;rw[e1,if_pos rfl]
   ·rw[if_neg hst,if_neg hst]
  have hlen:(sy (cut d.1 s,d.2) s).length≤60:=by
   have:sy (cut d.1 s,d.2) s=cut d.2 s:=by
    unfold sy
    have:=e1 s
    rw[if_pos rfl]at this
    rw[show gt (cut d.1 s,d.2).1 s=none from this]
   rw[this]
   exact Zw Oy.length_le (Al.1 (E5.1 hd.1).2).2.2
  unfold syD
  rw[decide_eq_true hlen]
  constructor
  ·intro t
   show ED ws sp (cut d.1 s,sy (cut d.1 s,d.2) s) t
   by_cases hst:s=t
   ·unfold ED
    dsimp only
    rw[e1,e2,if_pos hst,if_pos hst]
    exact⟨λ b hb=>(by cases hb),λ b hb=>(by cases hb),λ _ b f hb=>(by cases hb)⟩
   ·exact(h t).same (by show gt (cut d.1 s) t=_;rw[e1,if_neg hst]) (by show gt (sy (cut d.1 s,d.2) s) t=_;rw[e2,if_neg hst])
  ·intro t ht st hh
   exact hh.same (by show gt (sy (cut d.1 s,d.2) s) t=_;rw[e2,if_neg (Jpb ht)])
def G2b (hw:Dra ws) (hd:DG d) (h:DI ws sp d) {n:Int} (hl:(lkD d s).2=0) (hr:(J8a d s n).2=true) (sp':List ByteArray) (hsp:∀ t,t∈sp'↔t=s∨t∈sp):DI ws sp' (J8a d s n).1∧MO sp' d (J8a d s n).1∧∃ f,IsW ws s f:=by
 obtain⟨b,hb,hf⟩:=P0.1 (show lkD d s=((lkD d s).1,0) by rw[← hl])
 obtain⟨hW,e⟩:=((h s).1 b hb).get hw hf
 have hsub:∀ t∈sp,t∈sp':=λ t ht=>(hsp t).2 (.inr ht)
 generalize (lkD d s).1=f at *
 unfold J8a at hr ⊢
 rw[hb]at hr ⊢
 dsimp only at hr ⊢
 cases hin:inR n 0 (8*(b.length:Int)-1)
 ·rw[hin]at hr;cases hr
 rw[cond_true]
 obtain⟨n0,n1⟩:=Fi.1 hin
 have hn:n.toNat<8*(Lc f).length:=by rw[← e];omega
 have e1:∀ t,gt (wr d.1 s (Nu b n.toNat)) t=if s=t then some (Nu b n.toNat) else gt d.1 t:=λ t=>F7a (Kr hd.1)
 have e2:∀ t,gt (bif decide (gt d.2 s=some b) then wr d.2 s (Nu b n.toNat) else d.2) t=if s=t∧gt d.2 s=some b then some (Nu b n.toNat) else gt d.2 t:=by
  intro t
  by_cases hg:gt d.2 s=some b
  ·rw[decide_eq_true hg,cond_true,F7a (Od hd.1)]
   by_cases hst:s=t
   ·rw[if_pos hst,if_pos ⟨hst,hg⟩]
   ·rw[if_neg hst,if_neg (λ c=>hst c.1)]
  ·rw[decide_eq_false hg,cond_false,if_neg (λ c=>hg c.2)]
 have hflip:EO ws sp' s (Nu b n.toNat):=⟨f,hW,.inr ⟨(hsp s).2 (.inl rfl),n.toNat,hn,by rw[e]⟩⟩
 refine⟨λ t=>?_,λ t ht st hh=>?_,f,hW⟩
 ·by_cases hst:s=t
  ·subst hst
   refine⟨λ x hx=>?_,λ x hx=>?_,λ c=>absurd ((hsp s).2 (.inl rfl)) c⟩
   ·have:=e1 s
    rw[if_pos rfl]at this
    rw[show gt (wr d.1 s (Nu b n.toNat)) s=some x from hx]at this
    cases this
    exact hflip
   ·have:=e2 s
    rw[show gt (bif decide (gt d.2 s=some b) then wr d.2 s (Nu b n.toNat) else d.2) s=some x from hx]at this
    by_cases hg:gt d.2 s=some b
    ·rw[if_pos ⟨rfl,hg⟩]at this
     cases this
     exact hflip
    ·rw[if_neg (λ c=>hg c.2)]at this
     exact((h s).2.1 x this.symm).mono (λ _ h=>h) hsub
  ·refine((h t).mono (λ _ h=>h) hsub).same ?_ ?_
   ·show gt (wr d.1 s (Nu b n.toNat)) t=_
    rw[e1,if_neg hst]
   ·show gt (bif decide (gt d.2 s=some b) then wr d.2 s (Nu b n.toNat) else d.2) t=_
    rw[e2,if_neg (λ c=>hst c.1)]
 ·have hst:s≠t:=λ c=>ht ((hsp t).2 (.inl c.symm))
  exact hh.same (by show gt (bif decide (gt d.2 s=some b) then wr d.2 s (Nu b n.toNat) else d.2) t=_;rw[e2,if_neg (λ c=>hst c.1)])
end

end Go.Proofs.YtmhhjceoinoekaaGreat.Vf
