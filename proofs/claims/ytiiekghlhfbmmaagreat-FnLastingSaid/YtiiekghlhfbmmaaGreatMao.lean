import Derived.Test.YtiiekghlhfbmmaaGreatMan
set_option linter.all false
namespace Go.Proofs.YtiiekghlhfbmmaaGreat.Vf
open Go
open List (length getD)
open Int (toNat)
open Go.IntKind (wrap)
open BitVec (ofInt)
def Zq:=@List.mem_range
def I5b:=@Bool.or_false
def Igb:=@List.pairwise_singleton
def Jgb:=@List.drop_append_of_le_length
def Jhb:=@List.take_append_of_le_length
def Jib:=@List.getElem_map
def Jrb:=@List.any_append
def Khb:=@List.any_nil

def Bqa (v:BitVec 32) (b:Int):BitVec 32:=(v ^^^ ofInt 32 b)*16777619#32
def Bra (x:ByteArray):Nat→BitVec 32
 |0=>2166136261#32
 |n+1=>Bqa (Bra x n) (bt x (n:Int))
def P4a (x:ByteArray):Nat:=(Bra x x.size).toNat
def Gzb (v:BitVec 32):wrap .u32 ((v.toNat:Int)*16777619)=((v*16777619#32).toNat:Int):=by
 rw[IntKind.wrap_u32,BitVec.toNat_mul]
 show (v.toNat:Int)*16777619 % 4294967296=((v.toNat*16777619 % 4294967296:Nat):Int)
 omega
def H0b (v:BitVec 32):wrap .i64 ((ofInt (IntKind.bits .i64) ((v.toNat:Int)*16777619) &&& ofInt (IntKind.bits .i64) 4294967295).toNat)=((v*16777619#32).toNat:Int):=by
 have h:=v.isLt
 rw[Ipb,show (v.toNat:Int)*16777619=((v.toNat*16777619:Nat):Int) by omega,R8 _ (by omega),show (ofInt (IntKind.bits .i64) 4294967295).toNat=2 ^ 32-1 from by decide,Jeb,BitVec.toNat_mul]
 show wrap .i64 ((v.toNat*16777619 % 4294967296:Nat):Int)=((v.toNat*16777619 % 4294967296:Nat):Int)
 exact w64 (by omega) (by omega)
def Xya (x:ByteArray) (hx:x.size≤1000000000):Tot (λ k=>L9 k x) (λ r=>r=(P4a x:Int)):=by
 unfold L9
 refine H2b (Q:=λ r=>r=(P4a x:Int)) ?_ (by
  rintro r rfl
  have:=(Bra x x.size).isLt
  exact H1b (w64 (n:=(P4a x:Int)) (by omega) (by show ((Bra x x.size).toNat:Int)≤_;omega)))
 refine Hab (L:=λ k i (s:Int)=>It k x s i) (Q:=λ r=>r=(P4a x:Int)) x.size (λ j s=>s=((Bra x j).toNat:Int)) ?_ ?_ 0 _ (Vp _) rfl
 ·rintro s rfl
  simp (disch:=omega) only [It,dF]
  exact H1b rfl
 ·rintro j s hj rfl next
  have hb:=Aea x (j:Int)
  have e1:wrap .u32 (bt x (j:Int))=bt x (j:Int):=K5b _ ⟨by omega,by omega⟩
  simp (disch:=omega) only [It,dT,w64,e1,G8b (Bra x j) _ (bt x (j:Int)) rfl,Gzb]
  exact next _ rfl
def Xza (x:ByteArray) (hx:x.size≤1000000000):Tot (λ k=>La k x) (λ r=>r=(P4a x:Int)):=by
 unfold La
 refine H2b (Q:=λ r=>r=(P4a x:Int)) ?_ (by rintro r rfl;exact H1b rfl)
 refine Hab (L:=λ k i (s:Int)=>Iv k x s i) (Q:=λ r=>r=(P4a x:Int)) x.size (λ j s=>s=((Bra x j).toNat:Int)) ?_ ?_ 0 _ (Vp _) rfl
 ·rintro s rfl
  simp (disch:=omega) only [Iv,dF]
  exact H1b rfl
 ·rintro j s hj rfl next
  have hb:=Aea x (j:Int)
  have hx:wrap .i64 ((ofInt (IntKind.bits .i64) ((Bra x j).toNat:Int) ^^^ ofInt (IntKind.bits .i64) (bt x (j:Int))).toNat)=((Bra x j ^^^ ofInt 32 (bt x (j:Int))).toNat:Int):=by
   have:=Fpb (Bra x j) (ofInt 32 (bt x (j:Int)))
   rwa [← Mha hb]at this
  simp (disch:=omega) only [Iv,dT,w64,hx,H0b]
  exact next _ rfl
def Qm (r:Rng) (x:ByteArray):List Int:=r.2.getD (P4a x % r.2.length) []
def Exb (a b:Nat):Int.tmod (a:Int) (b:Int)=((a % b:Nat):Int):=by
 rw[Hlb (by omega)]
 exact(Int.natCast_emod _ _).symm
def N0a (r:Rng) (x:ByteArray) (hr:RBd r) (hx:x.size≤1000000000):Tot (λ k=>Ds k r x) (λ y=>y=Qm r x):=by
 have hrl:=hr.1
 unfold Ds
 by_cases h0:r.2.length=0
 ·refine H4b (by rw[h0];rfl) (H1b ?_)
  unfold Qm
  rw[Wm h0]
  rfl
 ·have hm:=Kib (P4a x) (show 0<r.2.length by omega)
  refine H3b (by rw[beq_eq_false_iff_ne];omega) (H2b (Q:=λ y=>y=((P4a x % r.2.length:Nat):Int)) ?_ ?_)
  ·unfold K6
   refine H6b (by omega) (Hdb (Xya x hx) ?_)
   exact H6b (by omega) (H1b (Exb _ _))
  ·rintro y rfl
   simp (disch:=omega) only [dT,Vc]
   have hp:=hr.2 _ (A3 (d:=[]) hm)
   rw[Wy _ (by omega)]
   exact H1b rfl
def Xx (r:Rng) (x:ByteArray) (hr:RBd r) (hx:x.size≤1000000000):Tot (λ k=>Bb k r x) (λ y=>y=Qm r x):=by
 have hrl:=hr.1
 unfold Bb
 by_cases h0:r.2.length=0
 ·refine H4b (by rw[h0];rfl) (H1b ?_)
  unfold Qm
  rw[Wm h0]
  rfl
 ·have hm:=Kib (P4a x) (show 0<r.2.length by omega)
  refine H3b (by rw[beq_eq_false_iff_ne];omega) (H2b (Q:=λ y=>y=((P4a x % r.2.length:Nat):Int)) ?_ ?_)
  ·unfold K7
   refine H6b (by omega) (Hdb (Xza x hx) ?_)
   exact H6b (by omega) (H1b (Exb _ _))
  ·rintro y rfl
   have hp:=hr.2 _ (A3 (d:=[]) hm)
   simp (disch:=omega) only [dT,Vc]
   exact H9b (by simp only[Vk];omega) (H1b rfl)
def Y0a {r:Rng} {l:List Dev} (h:J6 r l=true) (x:ByteArray):Qm r x∈r.2:=by
 obtain⟨_,_,h3,_⟩:=Bz.1 h
 exact A3 (d:=[]) (Kib _ (by omega))
def W5 {r:Rng} {l:List Dev} (h:J6 r l=true) (x:ByteArray):(Qm r x).Nodup∧((Qm r x).length:Int)=r.1∧∀ id∈Qm r x,∃ d,Ke l id=some d:=(Bz.1 h).2.2.2 _ (Y0a h x)
def hoA (p zs:List Int) (z:Bool) (l:List Dev):List Int:=(l.filter λ d => !(Lm p d.1)&&(Lm zs d.2.1==z)).map (·.1)
def Om (r:Rng) (l:List Dev) (x:ByteArray):List Int:=hoA (Qm r x) (Jc (Qm r x) l) false l++hoA (Qm r x) (Jc (Qm r x) l) true l
def Eoa (p zs:List Int) (z:Bool) (l:List Dev):(hoA p zs z l).length≤l.length:=by
 unfold hoA
 rw[Wd]
 exact List.length_filter_le _ _
def Y1a (p zs:List Int) (z:Bool) (d:Dev) (l:List Dev):hoA p zs z (d::l)=bif !(Lm p d.1)&&(Lm zs d.2.1==z) then d.1::hoA p zs z l else hoA p zs z l:=by
 unfold hoA
 rw[Zza]
 cases !(Lm p d.1)&&(Lm zs d.2.1==z)<;>rfl
def B3a (p zs:List Int) (l:List Dev) (hp:p.length≤2000000) (hz:zs.length≤2000000) (hl:l.length≤2000000) (out:List Int) (ho:out.length≤5000000) (t:Int):Tot (λ k=>C5 k l p zs out t 0) (λ y=>y=(l,p,zs,out++hoA p zs (t==1) l,t)):=by
 have m1:=Eoa p zs (t==1) l
 refine Hab (L:=λ k i (s:List Int)=>C5 k l p zs s t i) (Q:=λ y=>y=(l,p,zs,out++hoA p zs (t==1) l,t)) l.length (λ j s=>s++hoA p zs (t==1) (l.drop j)=out++hoA p zs (t==1) l) ?_ ?_ 0 out (Vp _) rfl
 ·rintro s e1
  rw[We]at e1
  simp (disch:=omega) only [C5,dF]
  refine H1b ?_
  rw[← e1]
  show _=(l,p,zs,s++[],t)
  rw[Wp]
 ·rintro j s hj e1 next
  have g1:=congrArg length e1
  rw[Ve,Ve]at g1
  rw[Ah (d:=N9) hj,Y1a]at e1
  obtain⟨d,ed⟩:∃ d:Dev,l.getD j N9=d:=⟨_,rfl⟩
  rw[ed]at e1
  have e0:l.getD j ((0:Int),((0:Int),(0:Int)))=d:=ed
  simp (disch:=omega) only [C5,dT,Vc,w64,e0]
  refine Hdb (T0 p d.1 (by omega)) ?_
  cases hp':Lm p d.1 with
  |true=>
   rw[hp']at e1
   exact H3b rfl (next s e1)
  |false=>
   rw[hp']at e1
   refine H4b rfl (Hdb (T0 zs d.2.1 (by omega)) ?_)
   cases hz':Lm zs d.2.1==(t==1) with
   |true=>
    rw[hz']at e1
    exact H4b rfl (H9b (by simp only[Vd,Vk];omega) (next (s++[d.1]) (by rw[← e1];simp)))
   |false=>
    rw[hz']at e1
    exact H3b rfl (next s e1)
def Y2a (r:Rng) (l:List Dev) (x:ByteArray) (h:J6 r l=true) (hx:x.size≤1000000000):Tot (λ k=>Cd k r l x) (λ y=>y=Om r l x):=by
 obtain⟨h1,h2,_,_⟩:=Bz.1 h
 obtain⟨_,p2,_⟩:=W5 h x
 obtain⟨_,_,_,h12⟩:=Fb.1 h1
 have hz:=Aza (Qm r x) l
 unfold Cd Om
 refine Hdb (Xx r x (Ma h) hx) ?_
 generalize Qm r x=p at *
 refine Hdb (Hba p l (by omega) (by omega)) ?_
 generalize Jc p l=zs at *
 have m1:=Eoa p zs false l
 refine H2b (Q:=λ y=>y=hoA p zs false l++hoA p zs true l) ?_ (by rintro y rfl;exact H1b rfl)
 refine Tot.succ ?_
 simp (disch:=omega) only [Ej,dT]
 refine Hdb (B3a p zs l (by omega) (by omega) (by omega) [] (by simp) 0) ?_
 refine Tot.succ ?_
 simp (disch:=omega) only [Ej,dT,w64,Vy]
 refine Hdb (B3a p zs l (by omega) (by omega) (by omega) (hoA p zs false l) (by omega) 1) ?_
 refine Tot.succ ?_
 simp (disch:=omega) only [Ej,dF,w64]
 exact H1b rfl

section
variable {R:Type} {L:Nat→Int→Option (Sum Bool R)}
def Sh (p:Nat→Bool) (n:Nat):(List.range (n+1)).all p=((List.range n).all p&&p n):=by
 rw[Jqb,List.all_append,I3b,List.all_nil,Zz]
def Bsa (p:Nat→Bool) (n:Nat):(List.range (n+1)).any p=((List.range n).any p||p n):=by
 rw[Jqb,Jrb,I1b,Khb,I5b]
def Bta {p:Nat→Bool} {m n:Nat} (h:m≤n) (hn:(List.range n).all p=true):(List.range m).all p=true:=by
 rw[Yg]at hn ⊢
 exact λ x hx=>hn x (Zq.2 (by have:=Zq.1 hx;omega))
def Hbb (n:Nat) (p:Nat→Bool) (e:R) (hend:Tot (λ k=>L (k+1) (n:Int)) (λ r=>r = .inr e))
  (Bqa:∀ j,j<n→∀ (Q:Sum Bool R→Prop),(p j=false→Q (.inl false))→(p j=true→Tot (λ k=>L k ((j:Int)+1)) Q)→Tot (λ k=>L (k+1) (j:Int)) Q):
  Tot (λ k=>L k 0) (λ r=>r=bif (List.range n).all p then .inr e else .inl false):=by
 refine Hab (L:=λ k i (_:Unit)=>L k i) (Q:=λ r=>r=bif (List.range n).all p then .inr e else .inl false) n (λ j _=>(List.range j).all p=true) ?_ ?_ 0 () (Vp _) rfl
 ·intro _ h
  rw[h]
  exact hend
 ·intro j _ hj h next
  refine Bqa j hj _ (λ hp=>?_) (λ hp=>next () (by rw[Sh,h,hp];rfl))
  cases hc:(List.range n).all p
  ·rfl
  have:=Bta (show j+1≤n by omega) hc
  rw[Sh,hp,Wq]at this
  cases this
def Hcb (n:Nat) (p:Nat→Bool) (e:R) (hend:Tot (λ k=>L (k+1) (n:Int)) (λ r=>r = .inr e))
  (Bqa:∀ j,j<n→∀ (Q:Sum Bool R→Prop),(p j=true→Q (.inl true))→(p j=false→Tot (λ k=>L k ((j:Int)+1)) Q)→Tot (λ k=>L (k+1) (j:Int)) Q):
  Tot (λ k=>L k 0) (λ r=>r=bif (List.range n).any p then .inl true else .inr e):=by
 refine Hab (L:=λ k i (_:Unit)=>L k i) (Q:=λ r=>r=bif (List.range n).any p then .inl true else .inr e) n (λ j _=>(List.range j).any p=false) ?_ ?_ 0 () (Vp _) rfl
 ·intro _ h
  rw[h]
  exact hend
 ·intro j _ hj h next
  refine Bqa j hj _ (λ hp=>?_) (λ hp=>next () (by rw[Bsa,h,hp];rfl))
  rw[Hpb.2 ⟨j,Zq.2 hj,hp⟩]
  rfl
end
def Hla {α:Type} (l:List α) (d:α) (p:α→Bool):l.all p=(List.range l.length).all λ j=>p (l.getD j d):=by
 rw[Ilb,Yg,Yg]
 constructor
 ·intro h j hj
  exact h _ (A3 (Zq.1 hj))
 ·intro h x hx
  obtain⟨j,hj,rfl⟩:=Ze.1 hx
  have:=h j (Zq.2 hj)
  rwa [Vb,Vj hj,Yu]at this
def Tza {α:Type} (l:List α) (d:α) (p:α→Bool):l.any p=(List.range l.length).any λ j=>p (l.getD j d):=by
 rw[Ilb,Hpb,Hpb]
 constructor
 ·rintro⟨x,hx,h⟩
  obtain⟨j,hj,rfl⟩:=Ze.1 hx
  exact⟨j,Zq.2 hj,by rwa [Vb,Vj hj,Yu]⟩
 ·rintro⟨j,hj,h⟩
  exact⟨_,A3 (Zq.1 hj),h⟩
abbrev Wri:=ByteArray×Fil×Bool
abbrev Wld:=List Dev×Rng×List Nod×Stp×List Wri×List ByteArray
def Zra:Wri:=((⟨#[]⟩:ByteArray),((((0:Int),((0:Int),(0:Int))),(false,[])),false))
def Ue (l:List ByteArray):Bool:=(List.range l.length).all λ j=>B0 (l.getD j Mu)&&(decide (j=0)||tlt (l.getD (j-1) Mu) (l.getD j Mu))
def K9a (c:Stp) (w:Wri):Bool:=B0 w.1&&(F7 w.2.1&&!(sle c w.2.1.1))
def Y3a (c:Stp) (l:List Wri):Bool:=l.all (K9a c)&&decide ((l.length:Int)≤200)
def Si (l:List Dev) (ns:List Nod):Bool:=((ns.length:Int)==(l.length:Int))&&(List.range ns.length).all λ j=>((ns.getD j A8).1==(l.getD j N9).1)&&N1 (ns.getD j A8)
def B4a (w:Wld):Bool:=J6 w.2.1 w.1&&(Si w.1 w.2.2.1&&(Hk w.2.2.2.1&&(Y3a w.2.2.2.1 w.2.2.2.2.1&&Ue w.2.2.2.2.2)))
def WIn (w:Wld):Prop:=RBd w.2.1∧w.1.length≤2000000∧(w.2.2.1.length≤2000000∧∀ n∈w.2.2.1,NIn n)∧(w.2.2.2.2.1.length≤2000000∧∀ x∈w.2.2.2.2.1,Lb x.1)∧(w.2.2.2.2.2.length≤2000000∧∀ s∈w.2.2.2.2.2,Lb s)
def Y4a (w:Wld) (hw:WIn w):Tot (λ k=>D7 k w) (λ r=>r=Y3a w.2.2.2.1 w.2.2.2.2.1):=by
 obtain⟨_,_,_,⟨h1,h2⟩,_⟩:=hw
 unfold D7 Y3a
 refine H2b (Q:=λ r=>r=bif w.2.2.2.2.1.all (K9a w.2.2.2.1) then .inr w else .inl false) ?_ (by
  rintro r rfl
  cases w.2.2.2.2.1.all (K9a w.2.2.2.1)<;>exact H1b rfl)
 rw[Hla _ Zra]
 refine Hbb (L:=λ k i=>E9 k w.2.2.2.2.1 (w.2.2.2.2.1.length:Int) i w) _ _ w ?_ ?_
 ·simp (disch:=omega) only [E9,dF]
  exact H1b rfl
 ·intro j hj Q no yes
  have hs:=h2 _ (A3 (d:=Zra) hj)
  obtain⟨x,ex⟩:∃ x:Wri,w.2.2.2.2.1.getD j Zra=x:=⟨_,rfl⟩
  rw[ex]at hs
  simp only[ex]at no yes
  have e0:w.2.2.2.2.1.getD j ((⟨#[]⟩:ByteArray),((((0:Int),((0:Int),(0:Int))),(false,[])),false))=x:=ex
  simp (disch:=omega) only [E9,dT,Vc,w64,e0,Eaa,Xq,Vs]
  unfold K9a at no yes
  refine Hdb (Q1 x.1 hs) ?_
  refine H7b (λ hc=>H1b (no ?_)) (λ h3=>H7b (λ hc=>H1b (no ?_)) (λ h4=>H7b (λ hc=>H1b (no ?_)) (λ h5=>yes ?_)))
  ·rw[Wa]at hc;rw[hc];rfl
  ·rw[Wa]at hc;rw[hc,Yv,Wq]
  ·rw[hc,Yw,Wq,Wq]
  ·rw[Yb]at h3 h4;rw[h3,h4,h5];rfl
def Hma (w:Wld) (hw:WIn w):Tot (λ k=>Co k w.2.2.2.2.2 (w.2.2.2.2.2.length:Int) 0 w) (λ r=>r=bif Ue w.2.2.2.2.2 then .inr () else .inl false):=by
 obtain⟨_,_,_,_,h1,h2⟩:=hw
 unfold Ue
 refine Hbb (L:=λ k i=>Co k w.2.2.2.2.2 (w.2.2.2.2.2.length:Int) i w) _ _ () ?_ ?_
 ·simp (disch:=omega) only [Co,dF]
  exact H1b rfl
 ·intro j hj Q no yes
  have hs:=h2 _ (A3 (d:=Mu) hj)
  have e0:∀ i,w.2.2.2.2.2.getD i (⟨#[]⟩:ByteArray)=w.2.2.2.2.2.getD i Mu:=λ _=>rfl
  simp (disch:=omega) only [Co,dT,Vc,w64,e0]
  refine Hdb (Q1 _ hs) ?_
  refine H7b (λ hc=>H1b (no ?_)) (λ h3=>H8b (λ h0=>?_) (λ h0=>yes ?_))
  ·rw[Wa]at hc;rw[hc];rfl
  ·simp (disch:=omega) only [dT,w64,show toNat ((j:Int)-1)=j-1 by omega]
   rw[Yb]at h3
   rw[h3,decide_eq_false (show ¬ j=0 by omega),I4b,Vx]at no yes
   refine H7b (λ hc=>H1b (no ?_)) (λ h4=>yes ?_)
   ·rw[Wa]at hc;exact hc
   ·rw[Yb]at h4;exact h4
  ·rw[Yb]at h3
   rw[h3,decide_eq_true (show j=0 by omega)]
   rfl
def Kaa (w:Wld) (hw:WIn w) (hl:w.2.2.1.length=w.1.length):Tot (λ k=>Eb k w.2.2.1 (w.2.2.1.length:Int) 0 w) (λ r=>r=bif Si w.1 w.2.2.1 then .inr w else .inl false):=by
 obtain⟨_,_,⟨h1,h2⟩,_⟩:=hw
 unfold Si
 rw[show ((w.2.2.1.length:Int)==(w.1.length:Int))=true by rw[beq_iff_eq];omega,Vx]
 refine Hbb (L:=λ k i=>Eb k w.2.2.1 (w.2.2.1.length:Int) i w) _ _ w ?_ ?_
 ·simp (disch:=omega) only [Eb,dF]
  exact H1b rfl
 ·intro j hj Q no yes
  have hs:=h2 _ (A3 (d:=A8) hj)
  obtain⟨x,ex⟩:∃ x:Nod,w.2.2.1.getD j A8=x:=⟨_,rfl⟩
  rw[ex]at hs no yes
  have e0:w.2.2.1.getD j ((0:Int),(([],[]),([],[])))=x:=ex
  have e1:w.1.getD j ((0:Int),((0:Int),(0:Int)))=w.1.getD j N9:=rfl
  simp (disch:=omega) only [Eb,dT,Vc,w64,e0,e1]
  refine H7b (λ hc=>H1b (no ?_)) (λ h3=>H2b (Mka x hs) ?_)
  ·rw[bne,Wa]at hc;rw[hc];rfl
  ·rw[bne,Yb]at h3
   rw[h3,Vx]at no yes
   rintro b rfl
   refine H7b (λ hc=>H1b (no ?_)) (λ h4=>yes ?_)
   ·rw[Wa]at hc;exact hc
   ·rw[Yb]at h4;exact h4
def U0a (w:Wld) (hw:WIn w):Tot (λ k=>D5 k w) (λ r=>r=B4a w):=by
 unfold D5 B4a
 refine Hdb (Xja w.2.1 w.1 hw.1 (by have:=hw.2.1;omega)) ?_
 cases hr:J6 w.2.1 w.1
 ·exact H4b rfl (H1b rfl)
 refine H3b rfl ?_
 rw[Vx]
 by_cases hl:w.2.2.1.length=w.1.length
 ·refine H3b (by rw[bne,hl,beq_self_eq_true];rfl) ?_
  simp only[Afa,Vs]
  cases hs:Hk w.2.2.2.1
  ·exact H4b rfl (H1b (by rw[Yv,Wq]))
  refine H3b rfl (Hdb (Y4a w hw) ?_)
  cases hws:Y3a w.2.2.2.1 w.2.2.2.2.1
  ·exact H4b rfl (H1b (by rw[Yv,Wq,Wq]))
  refine H3b rfl (Hdb (Kaa w hw hl) ?_)
  cases Si w.1 w.2.2.1
  ·exact H1b rfl
  refine Hdb (Hma w hw) ?_
  cases Ue w.2.2.2.2.2<;>exact H1b rfl
 ·have hn:((w.2.2.1.length:Int)==(w.1.length:Int))=false:=by rw[beq_eq_false_iff_ne];omega
  refine H4b (by rw[bne,hn];rfl) (H1b ?_)
  unfold Si
  rw[hn]
  rfl

def atN:List Nod→Int→Nat→List Int
 |[],_,_=>[]
 |n::ns,id,i=>bif n.1==id then (i:Int)::atN ns id (i+1) else atN ns id (i+1)
def Epa (n:Nod) (ns:List Nod) (id:Int) (i:Nat):atN (n::ns) id i=bif n.1==id then (i:Int)::atN ns id (i+1) else atN ns id (i+1):=rfl
def whr (ns:List Nod) (ids:List Int):List Int:=ids.flatMap λ id=>atN ns id 0
def Eqa (id:Int):∀ (ns:List Nod) (i:Nat),(atN ns id i).length≤ns.length
 |[],_=>Vw _
 |n::ns,i=>by
  unfold atN
  have:=Eqa id ns (i+1)
  cases n.1==id
  ·rw[cond_false,Vd];omega
  ·rw[cond_true,Vd,Vd];omega
def U1a (ns:List Nod):∀ (ids:List Int),(whr ns ids).length≤ids.length*ns.length
 |[]=>Vp _
 |id::ids=>by
  have h1:=Eqa id ns 0
  have h2:=U1a ns ids
  unfold whr at h2 ⊢
  rw[J9b,Ve,Vd,Nat.succ_mul]
  omega
def Q9 {ns:List Nod} {ids:List Int} (h1:ns.length≤2000000) (h2:ids.length≤2000000):(whr ns ids).length≤4000000000000:=
 Zw (U1a ns ids) (K1b h2 h1)
def Xy (ns:List Nod) (id:Int) (ids:List Int):whr ns (id::ids)=atN ns id 0++whr ns ids:=J9b
def Cgb (ns:List Nod) (a b:List Int):whr ns (a++b)=whr ns a++whr ns b:=List.flatMap_append
def Bua (w:Wld) (id:Int) (a b c:List Int) (m i0:Int) (out:List Int) (h1:w.2.2.1.length≤2000000) (ho:out.length≤4000000000000):
  Tot (λ k=>Dh k out id a m i0 w.2.2.1 (w.2.2.1.length:Int) 0 w) (λ r=>r=(out++atN w.2.2.1 id 0,a,m,i0,w)):=by
 have m1:=Eqa id w.2.2.1 0
 refine Hab (L:=λ k i (s:List Int)=>Dh k s id a m i0 w.2.2.1 (w.2.2.1.length:Int) i w) (Q:=λ r=>r=(out++atN w.2.2.1 id 0,a,m,i0,w)) w.2.2.1.length (λ j s=>s++atN (w.2.2.1.drop j) id j=out++atN w.2.2.1 id 0) ?_ ?_ 0 out (Vp _) rfl
 ·intro s h
  rw[We]at h
  simp (disch:=omega) only [Dh,dF]
  refine H1b ?_
  rw[← h]
  show _=(s++[],a,m,i0,w)
  rw[Wp]
 ·intro j s hj h next
  have g:=congrArg length h
  rw[Ve,Ve]at g
  rw[Ah (d:=A8) hj,Epa]at h
  obtain⟨x,ex⟩:∃ x:Nod,w.2.2.1.getD j A8=x:=⟨_,rfl⟩
  rw[ex]at h
  have e0:w.2.2.1.getD j ((0:Int),(([],[]),([],[])))=x:=ex
  simp (disch:=omega) only [Dh,dT,Vc,w64,e0]
  cases hx:x.1==id with
  |true=>
   rw[hx,cond_true]at h
   refine H4b rfl (H9b (by simp only[Vd,Vk];omega) (next (s++[(j:Int)]) ?_))
   rw[← h,Vo]
   rfl
  |false=>
   rw[hx,cond_false]at h
   refine H3b rfl (next s h)
def B5a (w:Wld) (ids:List Int) (h1:w.2.2.1.length≤2000000) (h2:ids.length≤2000000):Tot (λ k=>Et k w ids) (λ r=>r=whr w.2.2.1 ids):=by
 have m1:=Q9 h1 h2
 unfold Et
 refine H2b (Q:=λ r=>r=whr w.2.2.1 ids) ?_ (by rintro r rfl;exact H1b rfl)
 refine Hab (L:=λ k i (s:List Int)=>Ff k s ids (ids.length:Int) i w) (Q:=λ r=>r=whr w.2.2.1 ids) ids.length (λ j s=>s++whr w.2.2.1 (ids.drop j)=whr w.2.2.1 ids) ?_ ?_ 0 [] (Vp _) rfl
 ·intro s h
  rw[We]at h
  simp (disch:=omega) only [Ff,dF]
  refine H1b ?_
  rw[← h]
  exact(Wp s).symm
 ·intro j s hj h next
  have g:=congrArg length h
  rw[Ve]at g
  rw[Ah (d:=0) hj,Xy]at h
  simp (disch:=omega) only [Ff,dT,Vc,w64]
  refine Hdb (Bua w (ids.getD j 0) ids [] [] (ids.length:Int) (j:Int) s h1 (by omega)) ?_
  simp (disch:=omega) only [w64]
  exact next _ (by rw[Vo];exact h)
def Era (w:Wld) (ids:List Int) (n:Nat) (hn:n<ids.length) (out:List Int) (h1:w.2.2.1.length≤2000000) (ho:out.length≤4000000000000):
  Tot (λ k=>C4 k ids out (n:Int) 0 w) (λ r=>r=(ids,out++atN w.2.2.1 (ids.getD n 0) 0,(n:Int),w)):=by
 have m1:=Eqa (ids.getD n 0) w.2.2.1 0
 refine Hab (L:=λ k i (s:List Int)=>C4 k ids s (n:Int) i w) (Q:=λ r=>r=(ids,out++atN w.2.2.1 (ids.getD n 0) 0,(n:Int),w)) w.2.2.1.length (λ j s=>s++atN (w.2.2.1.drop j) (ids.getD n 0) j=out++atN w.2.2.1 (ids.getD n 0) 0) ?_ ?_ 0 out (Vp _) rfl
 ·intro s h
  rw[We]at h
  simp (disch:=omega) only [C4,dF]
  refine H1b ?_
  rw[← h]
  show _=(ids,s++[],(n:Int),w)
  rw[Wp]
 ·intro j s hj h next
  have g:=congrArg length h
  rw[Ve,Ve]at g
  rw[Ah (d:=A8) hj,Epa]at h
  obtain⟨x,ex⟩:∃ x:Nod,w.2.2.1.getD j A8=x:=⟨_,rfl⟩
  rw[ex]at h
  have e0:w.2.2.1.getD j ((0:Int),(([],[]),([],[])))=x:=ex
  simp (disch:=omega) only [C4,dT,Vc,w64,e0]
  cases hx:x.1==ids.getD n 0 with
  |true=>
   rw[hx,cond_true]at h
   refine H4b rfl (H9b (by simp only[Vd,Vk];omega) (next (s++[(j:Int)]) ?_))
   rw[← h,Vo]
   rfl
  |false=>
   rw[hx,cond_false]at h
   refine H3b rfl (next s h)
def S4 (w:Wld) (ids:List Int) (h1:w.2.2.1.length≤2000000) (h2:ids.length≤2000000):Tot (λ k=>Ba k w ids) (λ r=>r=whr w.2.2.1 ids):=by
 have m1:=Q9 h1 h2
 unfold Ba
 refine H2b (Q:=λ r=>r=whr w.2.2.1 ids) ?_ (by rintro r rfl;exact H1b rfl)
 refine Hab (L:=λ k i (s:List Int)=>Dl k ids s i w) (Q:=λ r=>r=whr w.2.2.1 ids) ids.length (λ j s=>s++whr w.2.2.1 (ids.drop j)=whr w.2.2.1 ids) ?_ ?_ 0 [] (Vp _) rfl
 ·intro s h
  rw[We]at h
  simp (disch:=omega) only [Dl,dF]
  refine H1b ?_
  rw[← h]
  exact(Wp s).symm
 ·intro j s hj h next
  have g:=congrArg length h
  rw[Ve]at g
  rw[Ah (d:=0) hj,Xy]at h
  simp (disch:=omega) only [Dl,dT,Vc,w64]
  refine Hdb (Era w ids j hj s h1 (by omega)) ?_
  simp (disch:=omega) only [w64]
  exact next _ (by rw[Vo];exact h)
def B6a (id:Int):∀ (ns:List Nod) (i:Nat) (x:Int),x∈atN ns id i↔∃ j,j<ns.length∧(ns.getD j A8).1=id∧x=((i+j:Nat):Int)
 |[],i,x=>by simp[atN]
 |n::ns,i,x=>by
  have ih:=B6a id ns (i+1) x
  have tl:(∃ j,j<(n::ns).length∧((n::ns).getD j A8).1=id∧x=((i+j:Nat):Int))↔(n.1=id∧x=(i:Int))∨x∈atN ns id (i+1):=by
   rw[ih]
   constructor
   ·rintro⟨j,h1,h2,h3⟩
    cases j with
    |zero=>exact .inl ⟨h2,by omega⟩
    |succ j=>exact .inr ⟨j,by simpa using h1,by simpa using h2,by omega⟩
   ·rintro (⟨h1,h2⟩|⟨j,h1,h2,h3⟩)
    ·exact⟨0,by simp,h1,by omega⟩
    ·exact⟨j+1,by simpa using h1,by simpa using h2,by omega⟩
  rw[tl,Epa]
  cases hx:n.1==id with
  |true=>
   rw[cond_true,Vl,eq_of_beq hx]
   simp
  |false=>
   rw[cond_false]
   have:=beq_eq_false_iff_ne.1 hx
   simp[this]
def T4 {ns:List Nod} {ids:List Int} {x:Int}:x∈whr ns ids↔∃ j,j<ns.length∧(ns.getD j A8).1∈ids∧x=(j:Int):=by
 unfold whr
 rw[List.mem_flatMap]
 constructor
 ·rintro⟨id,h1,h2⟩
  obtain⟨j,h3,h4,h5⟩:=(B6a _ _ _ _).1 h2
  exact⟨j,h3,h4 ▸ h1,by omega⟩
 ·rintro⟨j,h3,h4,h5⟩
  exact⟨_,h4,(B6a _ _ _ _).2 ⟨j,h3,rfl,by omega⟩⟩
def Im (w:Wld) (x:ByteArray):List Int:=whr w.2.2.1 (Qm w.2.1 x++Om w.2.1 w.1 x)
def O9:ByteArray:=⟨#[108,105,115,116]⟩
def Aw (w:Wld):List Int:=whr w.2.2.1 (Qm w.2.1 O9)
def S5 {r:Rng} (hr:RBd r) (x:ByteArray):(Qm r x).length≤2000000:=by
 unfold Qm
 by_cases hm:P4a x % r.2.length<r.2.length
 ·exact hr.2 _ (A3 (d:=[]) hm)
 ·rw[Vb,Yx (by omega)];exact Vp _
def X1 (r:Rng) (l:List Dev) (x:ByteArray):(Om r l x).length≤l.length+l.length:=by
 unfold Om
 rw[Ve]
 have h1:=Eoa (Qm r x) (Jc (Qm r x) l) false l
 have h2:=Eoa (Qm r x) (Jc (Qm r x) l) true l
 omega
def Hna (w:Wld) (x:ByteArray) (h:J6 w.2.1 w.1=true) (hn:w.2.2.1.length≤2000000) (hx:x.size≤1000000000):Tot (λ k=>Ek k w x) (λ r=>r=Im w x):=by
 have h5:=(Bz.1 h).2.1
 have p2:=(W5 h x).2.1
 have h12:=(Fb.1 (Bz.1 h).1).2.2.2
 have hh:=X1 w.2.1 w.1 x
 unfold Ek Im
 rw[Cgb]
 refine Hdb (Xx _ x (Ma h) hx) ?_
 refine Hdb (S4 w _ hn (by omega)) ?_
 refine Hdb (Y2a _ _ x h hx) ?_
 refine Hdb (S4 w _ hn (by omega)) ?_
 have l1:=Q9 hn (show (Qm w.2.1 x).length≤2000000 by omega)
 have l2:=Q9 hn (show (Om w.2.1 w.1 x).length≤2000000 by omega)
 exact H9b (by omega) (H1b rfl)
def T5 (w:Wld) (hr:RBd w.2.1) (hn:w.2.2.1.length≤2000000):Tot (λ k=>Dz k w) (λ r=>r=Aw w):=by
 unfold Dz
 refine Hdb (N0a _ O9 hr (by decide)) ?_
 refine Hdb (B5a w _ hn (S5 hr _)) ?_
 exact H1b rfl
def B7a (w:Wld) (hr:RBd w.2.1) (hn:w.2.2.1.length≤2000000):Tot (λ k=>Gf k w) (λ r=>r=Aw w):=by
 unfold Gf
 refine Hdb (Xx _ O9 hr (by decide)) ?_
 refine Hdb (S4 w _ hn (S5 hr _)) ?_
 exact H1b rfl
def quo (n:Int):Int:=n/2+1
def Gdb {n:Int} (h0:0≤n):Int.tdiv n 2=n/2:=Hxb h0
def Chb {n:Int} (h0:0≤n) (h1:n≤1000000000):Jn n=some (quo n):=by
 unfold Jn quo
 rw[Gdb h0,w64 (n:=n/2) (by omega) (by omega),w64 (n:=n/2+1) (by omega) (by omega)]
def rch (l:List Int) (i:Nat):Int:=bif decide (i<l.length)&&inR (l.getD i 0) 1 3 then l.getD i 0 else 0
def U2a (l:List Int) (i:Nat):Gd l (i:Int)=some (rch l i):=by
 unfold Gd rch
 by_cases h:i<l.length
 ·simp (disch:=omega) only [dT,Vc,Tx,Vs]
  rw[decide_eq_true h,Vx]
  cases inR (l.getD i 0) 1 3<;>rfl
 ·rw[dF (by omega),decide_eq_false h];rfl
def Kba (l:List Int) (i:Nat):C1 l (i:Int)=some (rch l i):=by
 unfold C1 rch
 by_cases h:i<l.length
 ·rw[dF (by omega)]
  simp (disch:=omega) only [dT,Vc,Nz,Vs]
  rw[decide_eq_true h,Vx]
  cases inR (l.getD i 0) 1 3<;>rfl
 ·rw[dT (by omega),decide_eq_false h];rfl

def Cib (a b:Fil):Bool:=((a.1.1==b.1.1)&&((a.1.2.1==b.1.2.1)&&(a.1.2.2==b.1.2.2)))&&((a.2.1==b.2.1)&&((L7 a.2.2).toList==(L7 b.2.2).toList))
def U3a {a b:Fil} (ha:Al a.2.2) (hb:Al b.2.2):Cib a b=true↔a=b:=by
 unfold Cib
 rw[U8 ha hb]
 obtain⟨⟨a1,a2,a3⟩,a4,a5⟩:=a
 obtain⟨⟨b1,b2,b3⟩,b4,b5⟩:=b
 simp only[Va,beq_iff_eq,decide_eq_true_iff,Vz]

def Cjb (a b:Row):Bool:=(a.1==b.1)&&((a.2.1.1==b.2.1.1)&&((a.2.1.2.1==b.2.1.2.1)&&((a.2.1.2.2==b.2.1.2.2)&&((a.2.2.1==b.2.2.1)&&(a.2.2.2==b.2.2.2)))))
def Hoa {a b:Row}:Cjb a b=true↔a=b:=by
 unfold Cjb
 obtain⟨a0,⟨a1,a2,a3⟩,a4,a5⟩:=a
 obtain⟨b0,⟨b1,b2,b3⟩,b4,b5⟩:=b
 simp only[Xr,Va,beq_iff_eq,Vz,Cu]
 constructor
 ·rintro⟨h0,h1,h2,h3,h4,h5⟩;exact⟨h0,⟨h1,h2,h3⟩,h4,h5⟩
 ·rintro⟨h0,⟨h1,h2,h3⟩,h4,h5⟩;exact⟨h0,h1,h2,h3,h4,h5⟩
def W6 (ws:List Wri) (r:Row):Bool:=ws.any λ x=>Cjb (Ua x.1 x.2.1) r
def Gqb:Row:=((⟨#[]⟩:ByteArray),(((0:Int),((0:Int),(0:Int))),(false,(0:Int))))

def run {α:Type} (st:α→Nat→α) (n:Nat) (a:α):α:=(List.range n).foldl st a
def Mm {α:Type} (st:α→Nat→α) (n:Nat) (a:α):run st (n+1) a=st (run st n a) n:=by
 unfold run
 rw[Jqb,Hrb]
 rfl
def Y5a {α:Type} {st:α→Nat→α} {a:α} {j n:Nat} (hj:j≤n) (h:∀ i,st (run st j a) i=run st j a):run st n a=run st j a:=by
 obtain⟨m,rfl⟩:=Nat.exists_eq_add_of_le hj
 induction m with
 |zero=>rfl
 |succ m ih=>rw[← Zk,Mm,ih (by omega),h]
def Ku {α:Type} {st:α→Nat→α} (P:Nat→α→Prop) {n:Nat} {a:α} (h0:P 0 a) (hs:∀ j b,j<n→P j b→P (j+1) (st b j)):P n (run st n a):=by
 have:∀ m,m≤n→P m (run st m a):=by
  intro m
  induction m with
  |zero=>intro _;exact h0
  |succ m ih=>intro hm;rw[Mm];exact hs m _ (by omega) (ih (by omega))
 exact this n (Vw _)
def NS (ns:List Nod):Prop:=ns.length≤2000000∧∀ n∈ns,NG n
def NS.set {ns:List Nod} (h:NS ns) {i:Nat} {n:Nod} (hn:NG n):NS (ns.set i n):=⟨by rw[Vv];exact h.1,λ m hm=>by
 rcases Ys hm with hm|rfl
 ·exact h.2 m hm
 ·exact hn⟩
def NS.get {ns:List Nod} (h:NS ns) {i:Nat} (hi:i<ns.length):NG (ns.getD i A8):=h.2 _ (A3 hi)
abbrev wN (w:Wld) (ns:List Nod):Wld:=(w.1,w.2.1,ns,w.2.2.2)
def M5 (c:Stp) (t d:Int):Stp:=bif decide (t≤c.1) then (bif Hk (c.1,c.2.1+1,d) then (c.1,c.2.1+1,d) else c) else (bif Hk (t,0,d) then (t,0,d) else c)
def U4a {c:Stp} (hc:Hk c=true) (t d:Int):Gz c t d=some (M5 c t d):=by
 have h2:0≤c.2.1∧c.2.1≤1000000:=by
  unfold Hk at hc
  rw[Va,Va,F9,F9]at hc
  exact hc.2.1
 unfold Gz M5
 rw[w64 (n:=c.2.1+1) (by omega) (by omega)]
 simp only[Aga,Vs]
 cases decide (t≤c.1) with
 |true=>cases Hk (c.1,c.2.1+1,d)<;>rfl
 |false=>cases Hk (t,0,d)<;>rfl
def Xz {c:Stp} (hc:Hk c=true) (t d:Int):Hk (M5 c t d)=true∧(M5 c t d=c∨sle c (M5 c t d)=true):=by
 unfold M5
 by_cases h:t≤c.1
 ·rw[decide_eq_true h,cond_true]
  cases hs:Hk (c.1,c.2.1+1,d) with
  |true=>exact⟨hs,.inr (Ny.2 (.inr ⟨rfl,.inl (by show c.2.1<c.2.1+1;omega)⟩))⟩
  |false=>exact⟨hc,.inl rfl⟩
 ·rw[decide_eq_false h,cond_false]
  cases hs:Hk (t,0,d) with
  |true=>exact⟨hs,.inr (Ny.2 (.inl (by show c.1<t;omega)))⟩
  |false=>exact⟨hc,.inl rfl⟩
def wst (R:Int) (rc:List Int) (s:ByteArray) (f:Fil) (cs:List Int) (a:List Nod×Int×Int) (j:Nat):List Nod×Int×Int:=
 bif decide (a.2.1<R) then (bif rch rc j==0 then a else
  (a.1.set (cs.getD j 0).toNat (Qg (a.1.getD (cs.getD j 0).toNat A8) s f (rch rc j != 3)).1,a.2.1+1,
   bif rch rc j==1&&((Qg (a.1.getD (cs.getD j 0).toNat A8) s f (rch rc j != 3)).2==0||(Qg (a.1.getD (cs.getD j 0).toNat A8) s f (rch rc j != 3)).2==1) then a.2.2+1 else a.2.2))
 else a
def wrN (w:Wld) (s:ByteArray) (f:Fil) (rc:List Int):List Nod×Int×Int:=run (wst w.2.1.1 rc s f (Im w s)) (Im w s).length (w.2.2.1,0,0)
def Uf (w:Wld) (s:ByteArray) (f:Fil) (rc:List Int):Int×Wld:=
 (bif decide ((wrN w s f rc).2.2≥quo w.2.1.1) then 0 else 1,(w.1,w.2.1,(wrN w s f rc).1,w.2.2.2.1,w.2.2.2.2.1++[(s,f,decide ((wrN w s f rc).2.2≥quo w.2.1.1))],w.2.2.2.2.2))
def Qa {w:Wld} {s:ByteArray} {x:Int} (h:x∈Im w s):0≤x∧x<(w.2.2.1.length:Int):=by
 obtain⟨j,h1,_,rfl⟩:=T4.1 h
 omega
def Eyb {R:Int} {rc:List Int} {s:ByteArray} {f:Fil} {cs:List Int} {a:List Nod×Int×Int} {j m:Nat} (hs:B0 s=true) (hf:F7 f=true) (h:NS a.1∧a.1.length=m∧(0≤a.2.1∧a.2.1≤j)∧0≤a.2.2∧a.2.2≤j) (hc:(cs.getD j 0).toNat<m):
  let b:=wst R rc s f cs a j
  NS b.1∧b.1.length=m∧(0≤b.2.1∧b.2.1≤((j+1:Nat):Int))∧0≤b.2.2∧b.2.2≤((j+1:Nat):Int):=by
 obtain⟨h1,h2,h3,h4,h5⟩:=h
 intro b
 have hb:b=wst R rc s f cs a j:=rfl
 unfold wst at hb
 cases hR:decide (a.2.1<R)
 ·rw[hR,cond_false]at hb;rw[hb];exact⟨h1,h2,⟨h3.1,by omega⟩,h4,by omega⟩
 rw[hR,cond_true]at hb
 cases hr:rch rc j==0
 case true=>rw[hr,cond_true]at hb;rw[hb];exact⟨h1,h2,⟨h3.1,by omega⟩,h4,by omega⟩
 rw[hr,cond_false]at hb
 rw[hb]
 refine⟨h1.set (Mla (h1.get (by omega)) hs hf),by rw[List.length_set];exact h2,⟨by dsimp only;omega,by dsimp only;omega⟩,?_⟩
 dsimp only
 cases rch rc j==1&&((Qg (a.1.getD (cs.getD j 0).toNat A8) s f (rch rc j != 3)).2==0||(Qg (a.1.getD (cs.getD j 0).toNat A8) s f (rch rc j != 3)).2==1)
 ·exact⟨h4,by rw[cond_false];omega⟩
 ·exact⟨by rw[cond_true];omega,by rw[cond_true];omega⟩
def P5a (w:Wld) (s:ByteArray) (f:Fil) (rc:List Int) (hr:J6 w.2.1 w.1=true) (hn:NS w.2.2.1) (hs:B0 s=true) (hf:F7 f=true) (hw:w.2.2.2.2.1.length≤2000000):
  Tot (λ k=>Bw k w s f rc) (λ r=>r=Uf w s f rc):=by
 have hsz:s.size≤1000000000:=by
  have:=F9.1 (Va _ _ ▸ hs:_∧_).2
  omega
 obtain⟨_,hR,_⟩:=Bz.1 hr
 unfold Bw Uf
 refine Hdb (Hna w s hr hn.1 hsz) ?_
 have hc:=λ x=>Qa (w:=w) (s:=s) (x:=x)
 have hcl:(Im w s).length≤4000000000000:=by
  unfold Im
  refine Q9 hn.1 ?_
  have h5:=(Bz.1 hr).2.1
  have p2:=(W5 hr s).2.1
  have h12:=(Fb.1 (Bz.1 hr).1).2.2.2
  have hh:=X1 w.2.1 w.1 s
  rw[Ve];omega
 have hrun:wrN w s f rc=run (wst w.2.1.1 rc s f (Im w s)) (Im w s).length (w.2.2.1,0,0):=rfl
 have inv:∀ n,n≤(Im w s).length→NS (run (wst w.2.1.1 rc s f (Im w s)) n (w.2.2.1,0,0)).1∧(run (wst w.2.1.1 rc s f (Im w s)) n (w.2.2.1,0,0)).1.length=w.2.2.1.length∧(0≤(run (wst w.2.1.1 rc s f (Im w s)) n (w.2.2.1,0,0)).2.1∧(run (wst w.2.1.1 rc s f (Im w s)) n (w.2.2.1,0,0)).2.1≤n)∧0≤(run (wst w.2.1.1 rc s f (Im w s)) n (w.2.2.1,0,0)).2.2∧(run (wst w.2.1.1 rc s f (Im w s)) n (w.2.2.1,0,0)).2.2≤n:=by
  intro n hn'
  refine Ku (λ j (b:List Nod×Int×Int)=>NS b.1∧b.1.length=w.2.2.1.length∧(0≤b.2.1∧b.2.1≤(j:Int))∧0≤b.2.2∧b.2.2≤(j:Int)) ⟨hn,rfl,⟨Hnb _,Hnb _⟩,Hnb _,Hnb _⟩ (λ j b hj hb=>Eyb hs hf hb ?_)
  have:=hc _ (A3 (d:=0) (show j<(Im w s).length by omega))
  omega
 generalize hcs:Im w s=cs at *
 refine H2b (Q:=λ r=>r=(s,(wrN w s f rc).2.2,wN w (wrN w s f rc).1,f)) ?_ ?_
 ·refine Hab (L:=λ k i (a:List Nod×Int×Int)=>B2 k s rc cs a.2.1 a.2.2 i (wN w a.1) f) (Q:=λ r=>r=(s,(wrN w s f rc).2.2,wN w (wrN w s f rc).1,f)) cs.length (λ j a=>a=run (wst w.2.1.1 rc s f cs) j (w.2.2.1,0,0)) ?_ ?_ 0 (w.2.2.1,0,0) (Vp _) rfl
  ·rintro a rfl
   simp (disch:=omega) only [B2,dF]
   exact H1b (by rw[hrun])
  ·rintro j a hj rfl next
   obtain⟨i1,i2,i3,i4,i5⟩:=inv j (by omega)
   rw[Mm]at next
   have hst:=Y5a (st:=wst w.2.1.1 rc s f cs) (a:=(w.2.2.1,(0:Int),(0:Int))) (j:=j) (n:=cs.length) (by omega)
   generalize run (wst w.2.1.1 rc s f cs) j (w.2.2.1,0,0)=a at *
   obtain⟨ns,o,g⟩:=a
   dsimp only at i1 i2 i3 i4 i5
   have hci:=hc _ (A3 (d:=0) hj)
   obtain⟨i,ei⟩:∃ i:Nat,cs.getD j 0=(i:Int):=⟨(cs.getD j 0).toNat,by omega⟩
   rw[ei]at hci
   unfold wst at next
   rw[ei,Vc]at next
   simp (disch:=omega) only [B2,dT,wN]
   refine H8b (λ hR'=>?_) (λ hR'=>H1b ?_)
   ·dsimp only at next
    rw[decide_eq_true hR']at next
    simp only[Kba,Vs]
    cases h0:rch rc j==0 with
    |true=>
     rw[h0]at next
     simp (disch:=omega) only [w64]
     exact H4b rfl (next _ rfl)
    |false=>
     rw[h0]at next
     have e0:ns.getD i ((0:Int),(([],[]),([],[])))=ns.getD i A8:=rfl
     simp (disch:=omega) only [dT,Vc,w64,ei,e0,cond_false]
     refine Hdb (Tba (ns.getD i A8) s f (rch rc j != 3) (Xb (i1.get (by omega))) (Ib hs)) ?_
     dsimp only at next ⊢
     generalize Qg (ns.getD i A8) s f (rch rc j != 3)=p at *
     cases h1:rch rc j==1 with
     |false=>
      rw[h1]at next
      exact H3b rfl (next _ rfl)
     |true=>
      rw[h1]at next
      refine H4b rfl ?_
      cases h2:p.2==0
      case true=>rw[h2]at next;exact H4b rfl (next _ rfl)
      rw[h2]at next
      refine H3b rfl ?_
      cases h3:p.2==1 with
      |true=>rw[h3]at next;exact H4b rfl (next _ rfl)
      |false=>rw[h3]at next;exact H3b rfl (next _ rfl)
   ·rw[hrun,hst (λ i=>by unfold wst;dsimp only;rw[decide_eq_false hR'];rfl)]
 ·rintro r rfl
  obtain⟨_,_,_,h4,h5⟩:=inv cs.length (Vw _)
  dsimp only[wN]
  rw[Chb (by omega) (by omega)]
  have ec:Ei f=some f:=by
   have:=(J8.1 hf).2.1
   unfold Ei
   rw[bT (by simp only[Vk];omega),Vy]
  rw[ec]
  simp only[Vs]
  refine H9b (by simp only[Vd,Vk];omega) ?_
  cases decide ((wrN w s f rc).2.2≥quo w.2.1.1) with
  |true=>exact H1b rfl
  |false=>exact H1b rfl
def ask (w:Wld) (s:ByteArray) (f:Fil) (t:Int) (rc:List Int):Int×Wld:=
 bif !(B0 s) then (2,w) else bif decide ((f.2.2.length:Int) > 200) then (2,w) else bif !(inR t 0 1000000000) then (2,w) else
 bif (w.2.2.2.2.1.length:Int)==200 then (3,w) else
 bif (M5 w.2.2.2.1 t 0).1==w.2.2.2.1.1&&((M5 w.2.2.2.1 t 0).2.1==w.2.2.2.1.2.1&&(M5 w.2.2.2.1 t 0).2.2==w.2.2.2.1.2.2) then (3,w) else
 Uf (w.1,w.2.1,w.2.2.1,M5 w.2.2.2.1 t 0,w.2.2.2.2) s (M5 w.2.2.2.1 t 0,f.2) rc
def U5a (w:Wld) (s:ByteArray) (f:Fil) (t:Int) (rc:List Int) (hr:J6 w.2.1 w.1=true) (hn:NS w.2.2.1) (hst:Hk w.2.2.2.1=true) (hs:Lb s) (hd:f.2.1=true→f.2.2=[]) (hw:w.2.2.2.2.1.length≤2000000):
  Tot (λ k=>He k w s f t rc) (λ r=>r=ask w s f t rc):=by
 unfold He ask
 refine Hdb (U0 s hs) ?_
 cases hs':B0 s
 ·exact H4b rfl (H1b rfl)
 refine H3b rfl ?_
 rw[Yw,cond_false]
 by_cases hl:(f.2.2.length:Int) > 200
 ·rw[decide_eq_true hl];exact H4b rfl (H1b rfl)
 ·rw[decide_eq_false hl,cond_false]
  refine H3b rfl ?_
  simp only[Nz,U4a hst,Vs]
  cases inR t 0 1000000000
  ·exact H4b rfl (H1b rfl)
  refine H3b rfl ?_
  rw[Yw,cond_false]
  cases (w.2.2.2.2.1.length:Int)==200
  case true=>exact H4b rfl (H1b rfl)
  refine H3b rfl ?_
  rw[cond_false]
  cases (M5 w.2.2.2.1 t 0).1==w.2.2.2.1.1&&((M5 w.2.2.2.1 t 0).2.1==w.2.2.2.1.2.1&&(M5 w.2.2.2.1 t 0).2.2==w.2.2.2.1.2.2)
  case true=>exact H4b rfl (H1b rfl)
  refine H3b rfl (Hdb (P5a (w.1,w.2.1,w.2.2.1,M5 w.2.2.2.1 t 0,w.2.2.2.2) s (M5 w.2.2.2.1 t 0,f.2) rc hr hn hs' (J8.2 ⟨(Xz hst t 0).1,by show f.2.2.length≤200;omega,hd⟩) hw) ?_)
  exact H1b rfl
def pst (src:Int) (s:ByteArray) (f:Fil) (rc ps:List Int) (a:List Nod×Bool×Bool) (j:Nat):List Nod×Bool×Bool:=
 bif ps.getD j 0==src then (a.1,true,a.2.2) else bif rch rc j != 1 then (a.1,a.2.1,false) else
  (a.1.set (ps.getD j 0).toNat ((a.1.getD (ps.getD j 0).toNat A8).1,(keep (a.1.getD (ps.getD j 0).toNat A8).2.1 s f true).1,(a.1.getD (ps.getD j 0).toNat A8).2.2),a.2.1,
   bif (keep (a.1.getD (ps.getD j 0).toNat A8).2.1 s f true).2 != 0&&(keep (a.1.getD (ps.getD j 0).toNat A8).2.1 s f true).2 != 1 then false else a.2.2)
def Mi (w:Wld) (s:ByteArray):List Int:=whr w.2.2.1 (Qm w.2.1 s)
def puN (w:Wld) (i:Nat) (s:ByteArray) (rc:List Int):List Nod×Bool×Bool:=run (pst (i:Int) s (lkD (w.2.2.1.getD i A8).2.1 s).1 rc (Mi w s)) (Mi w s).length (w.2.2.1,false,true)
def Fqb (n:Nod) (s:ByteArray):Nod:=(n.1,(syD (rmD n.2.1 s).1 s).1,n.2.2)
def Ph (w:Wld) (i:Nat) (s:ByteArray) (rc:List Int):Bool×Wld:=bif (lkD (w.2.2.1.getD i A8).2.1 s).2 != 0 then (false,w) else
 (true,wN w (bif (puN w i s rc).2.2&&!(puN w i s rc).2.1 then (puN w i s rc).1.set i (Fqb ((puN w i s rc).1.getD i A8) s) else (puN w i s rc).1))
def Zsa {n:Nod} (hn:NG n) {s:ByteArray} (hs:B0 s=true):NG (Fqb n s):=Ena hn (Enb (Xaa hn.g) hs)
def Esa {n:Nod} (hn:NG n) {s:ByteArray} {f:Fil} {sure:Bool}:NG (n.1,(keep n.2.1 s f sure).1,n.2.2):=Ena hn (Zha hn.g)
def U6a {src:Int} {s:ByteArray} {f:Fil} {rc ps:List Int} {a:List Nod×Bool×Bool} {j m:Nat} (h:NS a.1∧a.1.length=m) (hc:(ps.getD j 0).toNat<m):NS (pst src s f rc ps a j).1∧(pst src s f rc ps a j).1.length=m:=by
 unfold pst
 cases ps.getD j 0==src
 case true=>exact h
 cases rch rc j != 1 with
 |true=>exact h
 |false=>exact⟨h.1.set (Esa (h.1.get (by have:=h.2;omega))),by rw[cond_false,cond_false,Vv];exact h.2⟩
def On {w:Wld} {s:ByteArray} {x:Int} (h:x∈Mi w s):0≤x∧x<(w.2.2.1.length:Int):=by
 obtain⟨j,h1,_,rfl⟩:=T4.1 h
 omega
def Hpa {w:Wld} {s:ByteArray} (hr:J6 w.2.1 w.1=true) (hn:w.2.2.1.length≤2000000):(Mi w s).length≤4000000000000:=Q9 hn (S5 (Ma hr) s)
def Zta {w:Wld} {i:Nat} {s:ByteArray} {rc:List Int} (hn:NS w.2.2.1):NS (puN w i s rc).1∧(puN w i s rc).1.length=w.2.2.1.length:=
 Ku (λ _ (b:List Nod×Bool×Bool)=>NS b.1∧b.1.length=w.2.2.1.length) ⟨hn,rfl⟩ (λ j b hj hb=>U6a hb (by have:=On (A3 (d:=0) hj);omega))
def Y6a (w:Wld) (i:Nat) (s:ByteArray) (rc:List Int) (hr:J6 w.2.1 w.1=true) (hn:NS w.2.2.1) (hi:i<w.2.2.1.length):Tot (λ k=>Cj k w (i:Int) s rc) (λ r=>r=Ph w i s rc):=by
 have hni:=hn.get hi
 unfold Cj Ph
 have e0:w.2.2.1.getD i ((0:Int),(([],[]),([],[])))=w.2.2.1.getD i A8:=rfl
 simp (disch:=omega) only [dT,Vc,e0]
 have hin:=(Xb hni).1
 refine Hdb (Xv hin.1.1.1.1 hin.2.1 s) ?_
 cases hl:(lkD (w.2.2.1.getD i A8).2.1 s).2 != 0
 case true=>exact H4b rfl (H1b rfl)
 refine H3b rfl ?_
 rw[cond_false]
 have hlk:∃ b,gt (w.2.2.1.getD i A8).2.1.1 s=some b:=by
  rw[bne,Yb,beq_iff_eq]at hl
  obtain⟨b,hb,_⟩:=O7.1 (show lkD (w.2.2.1.getD i A8).2.1 s=((lkD (w.2.2.1.getD i A8).2.1 s).1,0) from by rw[← hl])
  exact⟨b,hb⟩
 have hs:B0 s=true:=Ota hni.g.1 (by obtain⟨b,hb⟩:=hlk;rw[hb];rfl)
 have hsz:s.size≤1000000000:=by
  have:=F9.1 (Va _ _ ▸ hs:_∧_).2
  omega
 refine Hdb (Xx _ s (Ma hr) hsz) ?_
 refine Hdb (S4 w _ hn.1 (S5 (Ma hr) s)) ?_
 have hpl:=Hpa (s:=s) hr hn.1
 have hc:=λ x=>On (w:=w) (s:=s) (x:=x)
 have hrun:puN w i s rc=run (pst (i:Int) s (lkD (w.2.2.1.getD i A8).2.1 s).1 rc (Mi w s)) (Mi w s).length (w.2.2.1,false,true):=rfl
 obtain⟨p1,p2⟩:=Zta (w:=w) (i:=i) (s:=s) (rc:=rc) hn
 have inv:∀ n,n≤(Mi w s).length→NS (run (pst (i:Int) s (lkD (w.2.2.1.getD i A8).2.1 s).1 rc (Mi w s)) n (w.2.2.1,false,true)).1∧(run (pst (i:Int) s (lkD (w.2.2.1.getD i A8).2.1 s).1 rc (Mi w s)) n (w.2.2.1,false,true)).1.length=w.2.2.1.length:=λ n hn'=>
  Ku (λ _ (b:List Nod×Bool×Bool)=>NS b.1∧b.1.length=w.2.2.1.length) ⟨hn,rfl⟩ (λ j b hj hb=>U6a hb (by have:=hc _ (A3 (d:=0) (show j<(Mi w s).length by omega));omega))
 rw[show whr w.2.2.1 (Qm w.2.1 s)=Mi w s from rfl]
 generalize (lkD (w.2.2.1.getD i A8).2.1 s).1=f at *
 generalize Mi w s=ps at *
 refine H2b (Q:=λ r=>r=((i:Int),s,(puN w i s rc).2.1,(puN w i s rc).2.2,wN w (puN w i s rc).1)) ?_ ?_
 ·refine Hab (L:=λ k j (a:List Nod×Bool×Bool)=>Bi k (i:Int) s rc ps a.2.1 a.2.2 j (wN w a.1) f) (Q:=λ r=>r=((i:Int),s,(puN w i s rc).2.1,(puN w i s rc).2.2,wN w (puN w i s rc).1)) ps.length (λ j a=>a=run (pst (i:Int) s f rc ps) j (w.2.2.1,false,true)) ?_ ?_ 0 (w.2.2.1,false,true) (Vp _) rfl
  ·rintro a rfl
   simp (disch:=omega) only [Bi,dF]
   exact H1b (by rw[hrun])
  ·rintro j a hj rfl next
   obtain⟨i1,i2⟩:=inv j (by omega)
   rw[Mm]at next
   generalize run (pst (i:Int) s f rc ps) j (w.2.2.1,false,true)=a at *
   obtain⟨ns,o,g⟩:=a
   dsimp only at i1 i2
   have hci:=hc _ (A3 (d:=0) hj)
   obtain⟨m,em⟩:∃ m:Nat,ps.getD j 0=(m:Int):=⟨(ps.getD j 0).toNat,by omega⟩
   rw[em]at hci
   unfold pst at next
   rw[em,Vc]at next
   have e0:ns.getD m ((0:Int),(([],[]),([],[])))=ns.getD m A8:=rfl
   simp (disch:=omega) only [Bi,dT,Vc,w64,em,wN]
   cases hz:(m:Int)==(i:Int) with
   |true=>
    rw[hz]at next
    exact H4b rfl (next _ rfl)
   |false=>
    rw[hz]at next
    refine H3b rfl ?_
    simp only[Kba,Vs]
    cases h1:rch rc j != 1 with
    |true=>
     rw[h1]at next
     exact H4b rfl (next _ rfl)
    |false=>
     rw[h1]at next
     refine H3b rfl ?_
     simp (disch:=omega) only [dT,Vc,e0]
     have hm:=Xb (i1.get (i:=m) (by omega))
     refine Hdb (Mia (ns.getD m A8).2.1 s f true hm.1.1 hm.1.2.1 (Ib hs)) ?_
     dsimp only at next
     generalize keep (ns.getD m A8).2.1 s f true=q at *
     cases h2:q.2 != 0
     ·rw[h2]at next;exact H3b rfl (next _ rfl)
     rw[h2]at next
     refine H4b rfl ?_
     cases h3:q.2 != 1 with
     |true=>rw[h3]at next;exact H4b rfl (next _ rfl)
     |false=>rw[h3]at next;exact H3b rfl (next _ rfl)
 ·rintro r rfl
  dsimp only[wN]
  generalize puN w i s rc=a at *
  obtain⟨ns,o,g⟩:=a
  dsimp only at p1 p2 ⊢
  cases g
  ·exact H3b rfl (H1b rfl)
  refine H4b rfl ?_
  cases o
  case true=>exact H3b rfl (H1b rfl)
  refine H4b rfl ?_
  have e0:ns.getD i ((0:Int),(([],[]),([],[])))=ns.getD i A8:=rfl
  have hil:(i:Int)<(ns.length:Int):=by omega
  simp (disch:=omega) only [dT,Vc,e0]
  have hg:=(p1.get (i:=i) (by omega)).g
  refine Hdb (Awa hg.1 (Ib hs)) ?_
  refine Hdb (Ava (Xaa hg).1 hs) ?_
  exact H1b rfl

def tk (n:Nod) (l:List Row):Bool×Nod:=bif decide ((Nj n.2.2.1 l).length > 60) then (false,n) else (true,(n.1,n.2.1,Nj n.2.2.1 l,n.2.2.2))
def Frb {n:Nod} {l:List Row} (hn:NG n) (hl:Js l=true):NG (tk n l).2:=by
 obtain⟨h1,h2,h3,h4,h5⟩:=Bo.1 hn.1
 unfold tk
 by_cases h:(Nj n.2.2.1 l).length > 60
 ·rw[decide_eq_true h];exact hn
 ·rw[decide_eq_false h]
  exact⟨Bo.2 ⟨h1,h2,h3,K0a h4 hl (by omega),h5⟩,hn.2⟩
def gst (src:Int) (l:List Row) (self:Bool) (rc ls:List Int) (a:List Nod×Bool) (j:Nat):List Nod×Bool:=
 bif ls.getD j 0==src&&!self then a else bif rch rc j != 1 then (a.1,false) else
  (a.1.set (ls.getD j 0).toNat (tk (a.1.getD (ls.getD j 0).toNat A8) l).2,bif (tk (a.1.getD (ls.getD j 0).toNat A8) l).1 then a.2 else false)
def Jt (w:Wld) (src:Int) (l:List Row) (self:Bool) (rc:List Int):List Nod×Bool:=run (gst src l self rc (Aw w)) (Aw w).length (w.2.2.1,true)
def U7a {src:Int} {l:List Row} {self:Bool} {rc ls:List Int} {a:List Nod×Bool} {j m:Nat} (hl:Js l=true) (h:NS a.1∧a.1.length=m) (hc:(ls.getD j 0).toNat<m):NS (gst src l self rc ls a j).1∧(gst src l self rc ls a j).1.length=m:=by
 unfold gst
 cases ls.getD j 0==src&&!self
 case true=>exact h
 cases rch rc j != 1 with
 |true=>exact h
 |false=>exact⟨h.1.set (Frb (h.1.get (by have:=h.2;omega)) hl),by rw[cond_false,cond_false,Vv];exact h.2⟩
def Li {w:Wld} {x:Int} (h:x∈Aw w):0≤x∧x<(w.2.2.1.length:Int):=by
 obtain⟨j,h1,_,rfl⟩:=T4.1 h
 omega
def Qb {w:Wld} (hr:RBd w.2.1) (hn:w.2.2.1.length≤2000000):(Aw w).length≤4000000000000:=Q9 hn (S5 hr _)
def Qc {w:Wld} {src:Int} {l:List Row} {self:Bool} {rc:List Int} (hl:Js l=true) (hn:NS w.2.2.1):NS (Jt w src l self rc).1∧(Jt w src l self rc).1.length=w.2.2.1.length:=
 Ku (λ _ (b:List Nod×Bool)=>NS b.1∧b.1.length=w.2.2.1.length) ⟨hn,rfl⟩ (λ j b hj hb=>U7a hl hb (by have:=Li (A3 (d:=0) hj);omega))
def N1a (w:Wld) (src:Int) (l:List Row) (self:Bool) (rc:List Int) (hr:RBd w.2.1) (hn:NS w.2.2.1) (hl:Js l=true):
  Tot (λ k=>Bl k w src l self rc) (λ r=>r=((Jt w src l self rc).2,wN w (Jt w src l self rc).1)):=by
 have hll:=(Efa hl).1
 unfold Bl
 refine Hdb (B7a w hr hn.1) ?_
 have hpl:=Qb hr hn.1
 have hc:=λ x=>Li (w:=w) (x:=x)
 have hrun:Jt w src l self rc=run (gst src l self rc (Aw w)) (Aw w).length (w.2.2.1,true):=rfl
 have inv:∀ n,n≤(Aw w).length→NS (run (gst src l self rc (Aw w)) n (w.2.2.1,true)).1∧(run (gst src l self rc (Aw w)) n (w.2.2.1,true)).1.length=w.2.2.1.length:=λ n hn'=>
  Ku (λ _ (b:List Nod×Bool)=>NS b.1∧b.1.length=w.2.2.1.length) ⟨hn,rfl⟩ (λ j b hj hb=>U7a hl hb (by have:=hc _ (A3 (d:=0) (show j<(Aw w).length by omega));omega))
 generalize Aw w=ls at *
 refine H2b (Q:=λ r=>r=((Jt w src l self rc).2,wN w (Jt w src l self rc).1)) ?_ (by rintro r rfl;exact H1b rfl)
 refine Hab (L:=λ k j (a:List Nod×Bool)=>Ai k src l self rc ls a.2 j (wN w a.1)) (Q:=λ r=>r=((Jt w src l self rc).2,wN w (Jt w src l self rc).1)) ls.length (λ j a=>a=run (gst src l self rc ls) j (w.2.2.1,true)) ?_ ?_ 0 (w.2.2.1,true) (Vp _) rfl
 ·rintro a rfl
  simp (disch:=omega) only [Ai,dF]
  exact H1b (by rw[hrun])
 ·rintro j a hj rfl next
  obtain⟨i1,i2⟩:=inv j (by omega)
  rw[Mm]at next
  generalize run (gst src l self rc ls) j (w.2.2.1,true)=a at *
  obtain⟨ns,g⟩:=a
  dsimp only at i1 i2
  have hci:=hc _ (A3 (d:=0) hj)
  obtain⟨m,em⟩:∃ m:Nat,ls.getD j 0=(m:Int):=⟨(ls.getD j 0).toNat,by omega⟩
  rw[em]at hci
  unfold gst at next
  rw[em,Vc]at next
  have e0:ns.getD m ((0:Int),(([],[]),([],[])))=ns.getD m A8:=rfl
  have hm:=Xb (i1.get (i:=m) (by omega))
  have h12:=Ova (ns.getD m A8) l hm.2.1.1 hll
  rw[show (bif decide ((Nj (ns.getD m A8).2.2.1 l).length > 60) then (false,(ns.getD m A8)) else (true,((ns.getD m A8).1,(ns.getD m A8).2.1,Nj (ns.getD m A8).2.2.1 l,(ns.getD m A8).2.2.2)))=tk (ns.getD m A8) l from rfl]at h12
  have body:(bif (m:Int)==src&&!self then false else true)=true→Tot (λ k=>(C1 rc (j:Int)).bind λ r2=>cond (r2 != 1) (Ai k src l self rc ls false ((j:Int)+1) (wN w ns)) (cond (decide ((0:Int)≤(m:Int))) (cond (decide ((m:Int)<(length ns:Int))) ((Hp k (ns.getD m A8) l).bind λ r5=>cond (!r5.1) (Ai k src l self rc ls false ((j:Int)+1) (wN w (ns.set m r5.2))) (Ai k src l self rc ls g ((j:Int)+1) (wN w (ns.set m r5.2)))) none) none)) (λ r=>r=((Jt w src l self rc).2,wN w (Jt w src l self rc).1)):=by
   intro hb
   have hb':((m:Int)==src&&!self)=false:=by
    cases hx:((m:Int)==src&&!self) with
    |false=>rfl
    |true=>rw[hx]at hb;cases hb
   rw[hb']at next
   simp only[Kba,Vs]
   cases h1:rch rc j != 1 with
   |true=>
    rw[h1]at next
    exact H4b rfl (next _ rfl)
   |false=>
    rw[h1]at next
    refine H3b rfl (H5b (by omega) (H5b (by omega) (H2b h12 ?_)))
    rintro q rfl
    dsimp only at next
    generalize tk (ns.getD m A8) l=q at *
    cases h2:q.1 with
    |false=>rw[h2]at next;exact H4b rfl (next _ rfl)
    |true=>rw[h2]at next;exact H3b rfl (next _ rfl)
  simp (disch:=omega) only [Ai,dT,Vc,w64,em,e0]
  cases hz:(m:Int)==src with
  |true=>
   rw[hz]at next body
   refine H4b rfl ?_
   cases self
   ·exact H4b rfl (next _ rfl)
   refine H3b rfl ?_
   have:=body rfl
   dsimp only[wN]at this ⊢
   simp (disch:=omega) only [dT]at this
   exact this
  |false=>
   rw[hz]at next body
   refine H3b rfl ?_
   have:=body rfl
   dsimp only[wN]at this ⊢
   simp (disch:=omega) only [dT]at this
   exact this
def P6a {r:Row} (h:N5 r=true):Js [r]=true:=Lh.2 ⟨Igb _ _,λ x hx=>by rw[Vu.1 hx];exact h,by simp⟩
def W7:Js []=true:=Lh.2 ⟨List.Pairwise.nil,(λ _ hx=>nomatch hx),Vp _⟩
def Ug (n:Nod):Nod:=(n.1,n.2.1,[],n.2.2.2)
def Zua (n:Nod) (q:List Row):Nod:=(n.1,n.2.1,n.2.2.1,q)
def N2a {n:Nod} (hn:NG n):NG (Ug n):=by
 obtain⟨h1,h2,h3,h4,h5⟩:=Bo.1 hn.1
 exact⟨Bo.2 ⟨h1,h2,h3,W7,h5⟩,hn.2⟩
def Zva {n:Nod} {q:List Row} (hn:NG n) (h:∀ r∈q,N5 r=true) (hl:q.length≤60):NG (Zua n q):=by
 obtain⟨h1,h2,h3,h4,h5⟩:=Bo.1 hn.1
 exact⟨Bo.2 ⟨h,h2,h3,h4,hl⟩,hn.2⟩
def Lc (w:Wld) (i:Nat) (rc:List Int):List Nod×Bool:=Jt w (i:Int) (w.2.2.1.getD i A8).2.2.1 false rc
def Ow (w:Wld) (i:Nat) (rc:List Int):Bool×Wld:=bif ((w.2.2.1.getD i A8).2.2.1.length:Int)==0 then (false,w) else
 (true,wN w (bif (Lc w i rc).2&&!(Lm (Aw (wN w (Lc w i rc).1)) (i:Int)) then (Lc w i rc).1.set i (Ug ((Lc w i rc).1.getD i A8)) else (Lc w i rc).1))
def U8a (w:Wld) (i:Nat) (rc:List Int) (hr:RBd w.2.1) (hn:NS w.2.2.1) (hi:i<w.2.2.1.length):Tot (λ k=>H1 k w (i:Int) rc) (λ r=>r=Ow w i rc):=by
 have hni:=hn.get hi
 have e0:w.2.2.1.getD i ((0:Int),(([],[]),([],[])))=w.2.2.1.getD i A8:=rfl
 have hl:=(Bo.1 hni.1).2.2.2.1
 unfold H1 Ow
 simp (disch:=omega) only [dT,Vc,e0]
 cases hz:((w.2.2.1.getD i A8).2.2.1.length:Int)==0
 case true=>exact H4b rfl (H1b rfl)
 refine H3b rfl (Hdb (N1a w (i:Int) _ false rc hr hn hl) ?_)
 obtain⟨p1,p2⟩:=Qc (w:=w) (src:=(i:Int)) (self:=false) (rc:=rc) hl hn
 rw[show Jt w (i:Int) (w.2.2.1.getD i A8).2.2.1 false rc=Lc w i rc from rfl]at p1 p2 ⊢
 generalize Lc w i rc=a at *
 obtain⟨ns,g⟩:=a
 dsimp only at p1 p2 ⊢
 cases g
 ·exact H3b rfl (H1b rfl)
 refine H4b rfl ?_
 refine H2b (Q:=λ r=>r=Lm (Aw (wN w ns)) (i:Int)) ?_ ?_
 ·unfold Ik
  refine Hdb (B7a (wN w ns) hr p1.1) ?_
  refine Hdb (T0 _ _ (by have:=Qb (w:=wN w ns) hr p1.1;omega)) ?_
  exact H1b rfl
 ·rintro b rfl
  cases Lm (Aw (wN w ns)) (i:Int)
  case true=>exact H3b rfl (H1b rfl)
  have e1:ns.getD i ((0:Int),(([],[]),([],[])))=ns.getD i A8:=rfl
  refine H4b rfl ?_
  simp (disch:=omega) only [dT,Vc,e1]
  exact H1b rfl
def Mb (w:Wld) (i:Nat) (rc:List Int):List Nod×Bool:=Jt w (i:Int) ((w.2.2.1.getD i A8).2.2.2.take 1) true rc
def Pi (w:Wld) (i:Nat) (rc:List Int):Bool×Wld:=bif ((w.2.2.1.getD i A8).2.2.2.length:Int)==0 then (false,w) else
 (true,wN w (bif (Mb w i rc).2 then (Mb w i rc).1.set i (Zua ((Mb w i rc).1.getD i A8) ((w.2.2.1.getD i A8).2.2.2.drop 1)) else (Mb w i rc).1))
def Lx {q:List Row} (h:∀ r∈q,N5 r=true):Js (q.take 1)=true:=by
 cases q with
 |nil=>exact W7
 |cons r q=>exact P6a (h r Ya)
def U9a (w:Wld) (i:Nat) (rc:List Int) (hr:RBd w.2.1) (hn:NS w.2.2.1) (hi:i<w.2.2.1.length):Tot (λ k=>H0 k w (i:Int) rc) (λ r=>r=Pi w i rc):=by
 have hni:=hn.get hi
 have e0:w.2.2.1.getD i ((0:Int),(([],[]),([],[])))=w.2.2.1.getD i A8:=rfl
 obtain⟨hq,_,_,_,hq60⟩:=Bo.1 hni.1
 have hl:=Lx hq
 unfold H0 Pi
 simp (disch:=omega) only [dT,Vc,e0]
 cases hz:((w.2.2.1.getD i A8).2.2.2.length:Int)==0
 case true=>exact H4b rfl (H1b rfl)
 have h1:=beq_eq_false_iff_ne.1 hz
 refine H3b rfl (H5b (by omega) (Hdb (N1a w (i:Int) _ true rc hr hn hl) ?_))
 obtain⟨p1,p2⟩:=Qc (w:=w) (src:=(i:Int)) (self:=true) (rc:=rc) hl hn
 rw[show Jt w (i:Int) ((w.2.2.1.getD i A8).2.2.2.take (toNat 1)) true rc=Mb w i rc from rfl]
 rw[show Jt w (i:Int) ((w.2.2.1.getD i A8).2.2.2.take 1) true rc=Mb w i rc from rfl]at p1 p2
 generalize Mb w i rc=a at *
 obtain⟨ns,g⟩:=a
 dsimp only at p1 p2 ⊢
 cases g
 ·exact H3b rfl (H1b rfl)
 refine H4b rfl (H5b (by omega) (H9b (by rw[Wc,Vk];omega) ?_))
 have e1:ns.getD i ((0:Int),(([],[]),([],[])))=ns.getD i A8:=rfl
 simp (disch:=omega) only [dT,Vc,e1,Vy]
 exact H1b rfl
def Uaa:∀ (k:Nat) (l:List ByteArray) (s:ByteArray),k<l.length→∃ j,j≤k∧(I7a l k s).2=j∧(I7a l k s).1.set j s=l.take j++s::((l.take k).drop j++l.drop (k+1))∧(∀ y∈(l.take k).drop j,tlt s y=true)∧(0<j→tlt s (l.getD (j-1) Mu)=false)
 |0,l,s,hk=>by
  refine⟨0,Vw _,rfl,?_,λ y hy=>by simp at hy,λ h=>by omega⟩
  cases l with
  |nil=>simp at hk
  |cons x l=>rfl
 |k+1,l,s,hk=>by
  unfold I7a
  cases hc:tlt s (l.getD k Mu) with
  |false=>
   rw[cond_false]
   refine⟨k+1,Vw _,rfl,?_,λ y hy=>?_,λ _=>hc⟩
   ·rw[Iib,Ieb,Hob,Vy]
    exact I2b .. |>.trans (if_pos hk)
   ·rw[Iib,Ieb,Hob]at hy;cases hy
  |true=>
   rw[cond_true]
   obtain⟨j,h1,h2,h3,h4,h5⟩:=Uaa k (l.set (k+1) (l.getD k Mu)) s (by rw[Vv];omega)
   have t1:(l.set (k+1) (l.getD k Mu)).take j=l.take j:=by rw[Jnb (by omega)]
   have t2:(l.set (k+1) (l.getD k Mu)).take k=l.take k:=by rw[Jnb (by omega)]
   have t3:(l.set (k+1) (l.getD k Mu)).drop (k+1)=l.getD k Mu::l.drop (k+2):=by
    rw[Zf (by rw[Vv];exact hk),List.getElem_set_self,List.drop_set_of_lt (by omega)]
   have t4:l.take (k+1)=l.take k++[l.getD k Mu]:=by
    rw[Wi (by omega),Vb,Vj (by omega),Yu]
   have hlk:(l.take k).length=k:=by rw[Vq];omega
   rw[t1,t2,t3]at h3
   rw[t2]at h4
   refine⟨j,by omega,h2,?_,λ y hy=>?_,λ h=>?_⟩
   ·rw[h3,t4,Jgb (by omega),Vo]
    rfl
   ·rw[t4,Jgb (by omega)]at hy
    rcases Vn.1 hy with hy|hy
    ·exact h4 y hy
    ·rw[Vu.1 hy];exact hc
   ·have:=h5 h
    rwa [Vb,Inb (by omega),← Vb]at this
def Cva {l:List ByteArray} {s:ByteArray}:∃ j,j≤l.length∧Zpa l s=l.take j++s::l.drop j∧(∀ y∈l.drop j,tlt s y=true)∧(0<j→tlt s (l.getD (j-1) Mu)=false):=by
 obtain⟨j,h1,h2,h3,h4,h5⟩:=Uaa l.length (l++[s]) s (by simp)
 have t1:(l++[s]).take l.length=l:=by rw[Jhb (Vw _),Yj]
 have t2:(l++[s]).drop (l.length+1)=[]:=J5b (by simp)
 have t3:(l++[s]).take j=l.take j:=Jhb h1
 rw[t1]at h4
 rw[t1,t2,t3,Wp]at h3
 refine⟨j,h1,?_,h4,λ h=>?_⟩
 ·unfold Zpa
  rw[h2,h3]
 ·have:=h5 h
  rwa [Vb,Yf (by omega),← Vb]at this
def spl (l:List ByteArray) (s:ByteArray):List ByteArray:=bif Sg l s then l else Zpa l s
def Eta {l:List ByteArray} {s y:ByteArray}:y∈spl l s↔y=s∨y∈l:=by
 unfold spl
 cases h:Sg l s with
 |true=>
  have:=Ol.1 h
  exact⟨.inr,λ h=>h.elim (λ e=>e ▸ this) id⟩
 |false=>
  obtain⟨j,_,e,_⟩:=Cva (l:=l) (s:=s)
  rw[cond_false,e,Vn,Vl]
  conv=>rhs;rw[← Wl j l,Vn]
  constructor
  ·rintro (h|h|h)
   ·exact .inr (.inl h)
   ·exact .inl h
   ·exact .inr (.inr h)
  ·rintro (h|h|h)
   ·exact .inr (.inl h)
   ·exact .inl h
   ·exact .inr (.inr h)
def Cwa {l:List ByteArray} {s:ByteArray} (h:TS l):TS (spl l s):=by
 unfold spl
 cases hh:Sg l s
 case true=>exact h
 have hn:s∉l:=λ c=>by rw[Ol.2 c]at hh;cases hh
 obtain⟨j,h1,e,h4,h5⟩:=Cva (l:=l) (s:=s)
 rw[cond_false,e]
 have hs:∀ y∈l.take j,tlt y s=true:=by
  intro y hy
  by_cases hj:0<j
  ·have hlast:l.getD (j-1) Mu∈l:=A3 (by omega)
   have hlt:tlt (l.getD (j-1) Mu) s=true:=by
    cases hc:tlt (l.getD (j-1) Mu) s with
    |true=>rfl
    |false=>exact absurd (Aca hc (h5 hj) ▸ hlast) hn
   obtain⟨i,hi,rfl⟩:=Ze.1 hy
   rw[Vq]at hi
   rw[List.getElem_take]
   by_cases hij:i=j-1
   ·subst hij
    rwa [Vb,Vj (by omega),Yu]at hlt
   ·have:=Zj.1 h i (j-1) (by omega) (by omega) (by omega)
    rw[Vb,Vj (by omega),Yu]at hlt
    exact Mh this hlt
  ·rw[show j=0 by omega,Hob]at hy;cases hy
 have hd:TS (l.drop j):=h.sublist (List.drop_sublist _ _)
 have ht:TS (l.take j):=h.sublist (K4b _ _)
 exact Zg.2 ⟨ht,Wh.2 ⟨h4,hd⟩,λ a ha b hb=>by
  rcases Vl.1 hb with rfl|hb
  ·exact hs a ha
  ·exact Mh (hs a ha) (h4 b hb)⟩
def Uba (l:List ByteArray) (s:ByteArray) (hl:l.length≤5000000):Tot (λ k=>Da k l s) (λ r=>r=spl l s):=by
 unfold Da spl
 refine Hdb (Mya l s (by omega)) ?_
 cases Sg l s
 case true=>exact H4b rfl (H1b rfl)
 have loop:∀ (k:Nat) (x:List ByteArray),k<x.length→x.length≤5000001→Tot (λ n=>Eo n s x (k:Int)) (λ r=>r=(s,(I7a x k s).1,((I7a x k s).2:Int))):=by
  intro k
  induction k with
  |zero=>
   intro x hk hx
   refine Tot.succ ?_
   simp (disch:=omega) only [Eo,dF]
   exact H1b rfl
  |succ k ih=>
   intro x hk hx
   refine Tot.succ ?_
   have e1:((k+1:Nat):Int)-1=(k:Int):=by omega
   have e0:x.getD k (⟨#[]⟩:ByteArray)=x.getD k Mu:=rfl
   simp (disch:=omega) only [Eo,dT,w64,e1,Vc,e0,Gja]
   unfold I7a
   refine H7b (λ h=>?_) (λ h=>?_)
   ·rw[h,cond_true]
    exact ih _ (by rw[Vv];omega) (by rw[Vv];omega)
   ·rw[h,cond_false]
    exact H1b rfl
 have n0:([]:List ByteArray).length=0:=rfl
 have n1:([s]:List ByteArray).length=1:=rfl
 have nl:(l++[s]).length=l.length+1:=by simp
 refine H3b rfl (H9b (by rw[n0];omega) ?_)
 simp only[Vy]
 refine H9b (by rw[n1];omega) ?_
 rw[nl,w64 (n:=((l.length+1:Nat):Int)-1) (by omega) (by omega),show ((l.length+1:Nat):Int)-1=(l.length:Int) by omega]
 refine Hdb (loop l.length (l++[s]) (by omega) (by omega)) ?_
 obtain⟨i1,i2,_⟩:=B1a l.length (l++[s]) s
 simp (disch:=omega) only [dT,Vc]
 exact H1b rfl

abbrev Evt:=Int×Int×ByteArray×List Int×Int×List Int
def Fsb (e:Evt):Prop:=Lb e.2.2.1∧e.2.2.2.1.length≤1000000000∧(-9223372036854775808≤e.2.2.2.2.1∧e.2.2.2.2.1≤9223372036854775807)∧e.2.2.2.2.2.length≤4000000000000
def Eua (l:List Int):List Bool:=l.map (· == 1)
def crN (n:Nod) (kp:List Bool):Nod:=(n.1,T2 n.2.1 kp,n.2.2)
def Ezb {n:Nod} {kp:List Bool} (hn:NG n):NG (crN n kp):=Ena hn (Tra hn.g)
def Zwa (w:Wld) (i:Nat) (s:ByteArray) (b:Int):Bool×Wld:=bif (I6a (w.2.2.1.getD i A8) s b).2 then (true,(w.1,w.2.1,w.2.2.1.set i (I6a (w.2.2.1.getD i A8) s b).1,w.2.2.2.1,w.2.2.2.2.1,spl w.2.2.2.2.2 s)) else (false,w)
def B8a (w:Wld) (e:Evt) (i:Nat):Bool×Wld:=
 bif e.1==3 then Ph w i e.2.2.1 e.2.2.2.2.2 else bif e.1==4 then Ow w i e.2.2.2.2.2 else bif e.1==5 then Pi w i e.2.2.2.2.2 else
 bif e.1==6 then (true,wN w (w.2.2.1.set i (Zqa (w.2.2.1.getD i A8)).1)) else
 bif e.1==7 then (true,wN w (w.2.2.1.set i (crN (w.2.2.1.getD i A8) (Eua e.2.2.2.2.2)))) else Zwa w i e.2.2.1 e.2.2.2.2.1
def Uca (w:Wld) (e:Evt) (i:Nat) (hei:e.2.1=(i:Int)) (he:Fsb e) (hr:J6 w.2.1 w.1=true) (hn:NS w.2.2.1) (hi:i<w.2.2.1.length) (hsp:w.2.2.2.2.2.length≤2000000):
  Tot (λ k=>Az k w e) (λ r=>r=B8a w e i):=by
 have hni:=hn.get hi
 have e0:w.2.2.1.getD i ((0:Int),(([],[]),([],[])))=w.2.2.1.getD i A8:=rfl
 obtain⟨he1,he2,he3,he4⟩:=he
 unfold Az B8a
 cases e.1==3 with
 |true=>
  rw[hei]
  refine H4b rfl (Hdb (Y6a w i _ _ hr hn hi) ?_)
  exact H1b rfl
 |false=>
  refine H3b rfl ?_
  cases e.1==4 with
  |true=>
   rw[hei]
   refine H4b rfl (Hdb (U8a w i _ (Ma hr) hn hi) ?_)
   exact H1b rfl
  |false=>
   refine H3b rfl ?_
   cases e.1==5 with
   |true=>
    rw[hei]
    refine H4b rfl (Hdb (U9a w i _ (Ma hr) hn hi) ?_)
    exact H1b rfl
   |false=>
    refine H3b rfl ?_
    cases e.1==6 with
    |true=>
     refine H4b rfl ?_
     simp (disch:=omega) only [hei,dT,Vc,e0]
     refine Hdb (Twa _ hni.g) ?_
     exact H1b rfl
    |false=>
     refine H3b rfl ?_
     cases e.1==7 with
     |true=>
      refine H4b rfl (H2b (Q:=λ r=>r=(Eua e.2.2.2.2.2,w,e)) ?_ ?_)
      ·refine Hab (L:=λ k j (s:List Bool)=>Cs k s j w e) (Q:=λ r=>r=(Eua e.2.2.2.2.2,w,e)) e.2.2.2.2.2.length (λ j s=>s=Eua (e.2.2.2.2.2.take j)) ?_ ?_ 0 [] (Vp _) rfl
       ·rintro s rfl
        simp (disch:=omega) only [Cs,dF]
        exact H1b (by rw[Yj])
       ·rintro j s hj rfl next
        simp (disch:=omega) only [Cs,dT,Vc,w64]
        have hk:(Eua (e.2.2.2.2.2.take j)).length=j:=by unfold Eua;rw[Wd,Vq];omega
        refine H9b (by rw[hk,Jbb];omega) (next _ ?_)
        unfold Eua
        rw[Wi hj,Hub,Vb,Vj hj]
        rfl
      ·rintro r rfl
       simp (disch:=omega) only [hei,dT,Vc,e0]
       refine Hdb (Tua _ _ hni.g (by unfold Eua;rw[Wd];exact he4)) ?_
       exact H1b rfl
     |false=>
      refine H3b rfl ?_
      simp (disch:=omega) only [hei,dT,Vc,e0]
      refine Hdb (K1a _ _ _ (Xb hni) he3.2 he3.1) ?_
      unfold Zwa
      rw[cond_false,cond_false,cond_false,cond_false,cond_false]
      generalize I6a (w.2.2.1.getD i A8) e.2.2.1 e.2.2.2.2.1=q
      cases h:q.2 with
      |true=>
       refine H4b rfl (Hdb (Uba _ _ (by omega)) ?_)
       exact H1b rfl
      |false=>exact H3b rfl (H1b rfl)
def Eva (w:Wld) (i wt:Int):Bool×Wld:=bif !(inR i 0 ((w.1.length:Int)-1)) then (false,w) else bif !(inR wt 1 1000) then (false,w) else
 (decide ((K7a w.2.1 (wgt w.1 i.toNat wt)).2≥0),(wgt w.1 i.toNat wt,(K7a w.2.1 (wgt w.1 i.toNat wt)).1,w.2.2))
def Uda (w:Wld) (i wt:Int) (hr:J6 w.2.1 w.1=true):Tot (λ k=>H7 k w i wt) (λ r=>r=Eva w i wt):=by
 have h12:=(Fb.1 (Bz.1 hr).1).2.2.2
 unfold H7 Eva
 rw[w64 (n:=(w.1.length:Int)-1) (by omega) (by omega)]
 simp only[Nz,Vs]
 cases h1:inR i 0 ((w.1.length:Int)-1)
 ·exact H4b rfl (H1b rfl)
 refine H3b rfl ?_
 cases h2:inR wt 1 1000
 ·exact H4b rfl (H1b rfl)
 refine H3b rfl ?_
 obtain⟨i0,i1⟩:=F9.1 h1
 obtain⟨w0,w1⟩:=F9.1 h2
 simp (disch:=omega) only [dT]
 refine Hdb (Toa (r:=w.2.1) (l:=wgt w.1 i.toNat wt) (Eja hr (by omega) w0 w1)) ?_
 exact H1b rfl
def Pma (r:Int×Wld):Bool×Wld:=bif r.1 != 2 then (r.1 != 3,r.2) else (false,r.2)
def doW (w:Wld) (e:Evt):Bool×Wld:=
 bif e.1==1 then Pma (ask w e.2.2.1 ((0,0,0),false,e.2.2.2.1) e.2.2.2.2.1 e.2.2.2.2.2) else
 bif e.1==2 then Pma (ask w e.2.2.1 ((0,0,0),true,[]) e.2.2.2.2.1 e.2.2.2.2.2) else
 bif e.1==3||(e.1==4||(e.1==5||(e.1==6||(e.1==7||e.1==8)))) then (bif inR e.2.1 0 ((w.2.2.1.length:Int)-1) then B8a w e e.2.1.toNat else (false,w)) else
 bif e.1==9 then Eva w e.2.1 e.2.2.2.2.1 else (false,w)
def F0b (w:Wld) (e:Evt) (he:Fsb e) (hr:J6 w.2.1 w.1=true) (hn:NS w.2.2.1) (hst:Hk w.2.2.2.1=true) (hw:w.2.2.2.2.1.length≤2000000) (hsp:w.2.2.2.2.2.length≤2000000):
  Tot (λ k=>Ie k w e) (λ r=>r=doW w e):=by
 have hnl:=hn.1
 have node:∀ {f:Nat→Option (Bool×Wld)} ,Tot (λ k=>(Aa e.2.1 0 (wrap .i64 ((length w.2.2.1:Int)-1))).bind λ r4=>cond r4 ((Az k w e).bind λ r5=>some (r5.1,r5.2)) (some (false,w))) (λ r=>r=bif inR e.2.1 0 ((w.2.2.1.length:Int)-1) then B8a w e e.2.1.toNat else (false,w)):=by
  intro f
  rw[w64 (n:=(w.2.2.1.length:Int)-1) (by omega) (by omega)]
  simp only[Nz,Vs]
  cases h1:inR e.2.1 0 ((w.2.2.1.length:Int)-1)
  ·exact H3b rfl (H1b rfl)
  obtain⟨i0,i1⟩:=F9.1 h1
  refine H4b rfl (Hdb (Uca w e e.2.1.toNat (by omega) he hr hn (by omega) hsp) ?_)
  exact H1b rfl
 have answer:∀ (q:Int×Wld),Tot (λ _=>cond (q.1 != 2) (some (q.1 != 3,q.2)) (some (false,q.2))) (λ r=>r=Pma q):=by
  intro q
  unfold Pma
  cases q.1 != 2<;>exact H1b rfl
 unfold Ie doW
 cases e.1==1 with
 |true=>
  refine H4b rfl (H9b (by have:=he.2.1;rw[Vk];omega) (Hdb (U5a w e.2.2.1 ((0,0,0),false,e.2.2.2.1) e.2.2.2.2.1 e.2.2.2.2.2 hr hn hst he.1 (λ h=>by cases h) hw) ?_))
  exact answer _
 |false=>
  refine H3b rfl ?_
  cases e.1==2 with
  |true=>
   refine H4b rfl (Hdb (U5a w e.2.2.1 ((0,0,0),true,[]) e.2.2.2.2.1 e.2.2.2.2.2 hr hn hst he.1 (λ _=>rfl) hw) ?_)
   exact answer _
  |false=>
   refine H3b rfl ?_
   cases e.1==3
   case true=>exact H4b rfl (node (f:=λ _=>none))
   refine H3b rfl ?_
   cases e.1==4
   case true=>exact H4b rfl (node (f:=λ _=>none))
   refine H3b rfl ?_
   cases e.1==5
   case true=>exact H4b rfl (node (f:=λ _=>none))
   refine H3b rfl ?_
   cases e.1==6
   case true=>exact H4b rfl (node (f:=λ _=>none))
   refine H3b rfl ?_
   cases e.1==7
   case true=>exact H4b rfl (node (f:=λ _=>none))
   refine H3b rfl ?_
   cases e.1==8
   case true=>exact H4b rfl (node (f:=λ _=>none))
   refine H3b rfl ?_
   cases e.1==9 with
   |true=>
    refine H4b rfl (Hdb (Uda w _ _ hr) ?_)
    exact H1b rfl
   |false=>exact H3b rfl (H1b rfl)

def Pj {a b c:Stp} (h1:sle a b=false) (h2:sle b c=false):sle a c=false:=by
 cases h:sle a c
 ·rfl
 have n1:¬ _:=λ k=>by rw[Ny.2 k]at h1;cases h1
 have n2:¬ _:=λ k=>by rw[Ny.2 k]at h2;cases h2
 have h3:=Ny.1 h
 omega
def Re {a b:Stp} (h:sle a b=true):sle b a=false:=by
 cases h':sle b a
 ·rfl
 have h1:=Ny.1 h
 have h2:=Ny.1 h'
 omega
def Ewa (ws:List Wri):Prop:=∀ x∈ws,B0 x.1=true∧F7 x.2.1=true∧Al x.2.1.2.2
def IsW (ws:List Wri) (s:ByteArray) (f:Fil):Prop:=∃ x∈ws,x.1=s∧x.2.1=f
def EO (ws:List Wri) (sp:List ByteArray) (s:ByteArray) (b:List Int):Prop:=∃ f,IsW ws s f∧(b=Kg f∨(s∈sp∧∃ n,n<8*(Kg f).length∧b=N8 (Kg f) n))
def ED (ws:List Wri) (sp:List ByteArray) (d:Dsk) (s:ByteArray):Prop:=
 (∀ b,gt d.1 s=some b→EO ws sp s b)∧(∀ b,gt d.2 s=some b→EO ws sp s b)∧
 (s∉sp→∀ b f,gt d.2 s=some b→Ms b=some f→∃ b' f',gt d.1 s=some b'∧Ms b'=some f'∧sle f'.1 f.1=false)
def DI (ws:List Wri) (sp:List ByteArray) (d:Dsk):Prop:=∀ s,ED ws sp d s
def HD (d:Dsk) (s:ByteArray) (st:Stp):Prop:=∃ b f,gt d.2 s=some b∧Ms b=some f∧sle f.1 st=false
def MO (sp:List ByteArray) (d d':Dsk):Prop:=∀ s,s∉sp→∀ st,HD d s st→HD d' s st
def IsW.good {ws:List Wri} (hw:Ewa ws) {s:ByteArray} {f:Fil} (h:IsW ws s f):B0 s=true∧F7 f=true∧Al f.2.2:=by
 obtain⟨x,hx,rfl,rfl⟩:=h
 exact hw x hx
def EO.get {ws:List Wri} {sp:List ByteArray} (hw:Ewa ws) {s:ByteArray} {b:List Int} (h:EO ws sp s b) {f:Fil} (hf:Ms b=some f):IsW ws s f∧b=Kg f:=by
 obtain⟨g,h1,h2⟩:=h
 obtain⟨_,g2,g3⟩:=h1.good hw
 rcases h2 with rfl|⟨_,n,hn,rfl⟩
 ·rw[U7 g2 g3]at hf
  cases hf
  exact⟨h1,rfl⟩
 ·rw[Xpa g2 hn]at hf;cases hf
def EO.fine {ws:List Wri} {sp:List ByteArray} (hw:Ewa ws) {s:ByteArray} {b:List Int} (h:EO ws sp s b) (hs:s∉sp):∃ f,Ms b=some f∧IsW ws s f:=by
 obtain⟨g,h1,h2⟩:=h
 obtain⟨_,g2,g3⟩:=h1.good hw
 rcases h2 with rfl|⟨h,_⟩
 ·exact⟨g,U7 g2 g3,h1⟩
 ·exact absurd h hs
def EO.mono {ws ws':List Wri} {sp sp':List ByteArray} (h1:∀ x∈ws,x∈ws') (h2:∀ s∈sp,s∈sp') {s:ByteArray} {b:List Int} (h:EO ws sp s b):EO ws' sp' s b:=by
 obtain⟨g,⟨x,hx,e⟩,h3⟩:=h
 refine⟨g,⟨x,h1 x hx,e⟩,?_⟩
 rcases h3 with h3|⟨h3,h4⟩
 ·exact .inl h3
 ·exact .inr ⟨h2 s h3,h4⟩
def ED.mono {ws ws':List Wri} {sp sp':List ByteArray} (h1:∀ x∈ws,x∈ws') (h2:∀ s∈sp,s∈sp') {d:Dsk} {s:ByteArray} (h:ED ws sp d s):ED ws' sp' d s:=
 ⟨λ b hb=>(h.1 b hb).mono h1 h2,λ b hb=>(h.2.1 b hb).mono h1 h2,λ hs=>h.2.2 (λ c=>hs (h2 s c))⟩
def DI.mono {ws ws':List Wri} {sp sp':List ByteArray} (h1:∀ x∈ws,x∈ws') (h2:∀ s∈sp,s∈sp') {d:Dsk} (h:DI ws sp d):DI ws' sp' d:=λ s=>(h s).mono h1 h2
def ED.same {ws:List Wri} {sp:List ByteArray} {d d':Dsk} {s:ByteArray} (h:ED ws sp d s) (e1:gt d'.1 s=gt d.1 s) (e2:gt d'.2 s=gt d.2 s):ED ws sp d' s:=by
 unfold ED
 rw[e1,e2]
 exact h
def HD.same {d d':Dsk} {s:ByteArray} {st:Stp} (h:HD d s st) (e2:gt d'.2 s=gt d.2 s):HD d' s st:=by
 unfold HD
 rw[e2]
 exact h
def MO.refl (sp:List ByteArray) (d:Dsk):MO sp d d:=λ _ _ _ h=>h
def MO.trans {sp:List ByteArray} {a b c:Dsk} (h1:MO sp a b) (h2:MO sp b c):MO sp a c:=λ s hs st h=>h2 s hs st (h1 s hs st h)
section
variable {ws:List Wri} {sp:List ByteArray} {d:Dsk} {s:ByteArray}
def ED.now (hw:Ewa ws) (h:ED ws sp d s) {f:Fil} (ho:old d s=some f):IsW ws s f:=by
 unfold old at ho
 cases hg:gt d.1 s with
 |none=>rw[hg]at ho;cases ho
 |some b=>rw[hg]at ho;exact((h.1 b hg).get hw ho).1
def ED.ge (h:ED ws sp d s) (hs:s∉sp) {st:Stp} (hh:HD d s st):∃ b f,gt d.1 s=some b∧Ms b=some f∧sle f.1 st=false:=by
 obtain⟨b,f,h1,h2,h3⟩:=hh
 obtain⟨b',f',h4,h5,h6⟩:=h.2.2 hs b f h1 h2
 exact⟨b',f',h4,h5,Pj h6 h3⟩
def Ckb (hd:Ay d=true) (h:DI ws sp d):DI ws sp (d.1,sy d s):=by
 intro t
 by_cases ht:s=t
 ·subst ht
  have e:gt (sy d s) s=gt d.1 s:=by rw[Jza hd,if_pos rfl]
  refine⟨(h s).1,λ b hb=>(h s).1 b (by rw[← e];exact hb),λ hs b f hb hf=>⟨b,f,by rw[← e];exact hb,hf,Gk _⟩⟩
 ·exact(h t).same rfl (by show gt (sy d s) t=_;rw[Jza hd,if_neg ht])
def F1b (hd:Ay d=true) (h:DI ws sp d):MO sp d (d.1,sy d s):=by
 intro t ht st hh
 by_cases hst:s=t
 ·subst hst
  obtain⟨b,f,h1,h2,h3⟩:=(h s).ge ht hh
  exact⟨b,f,by show gt (sy d s) s=_;rw[Jza hd,if_pos rfl,h1],h2,h3⟩
 ·exact hh.same (by show gt (sy d s) t=_;rw[Jza hd,if_neg hst])
def Geb (hw:Ewa ws) (hd:Ay d=true) (h:DI ws sp d) {f:Fil} (hf:IsW ws s f) (hn:∀ o,old d s=some o→sle o.1 f.1=true):DI ws sp (wr d.1 s (Kg f),d.2):=by
 intro t
 by_cases ht:s=t
 ·subst ht
  have e:gt (wr d.1 s (Kg f)) s=some (Kg f):=by rw[Eea (Ka hd),if_pos rfl]
  obtain⟨_,g2,g3⟩:=hf.good hw
  refine⟨λ b hb=>?_,(h s).2.1,λ hs b g hb hg=>⟨Kg f,f,e,U7 g2 g3,?_⟩⟩
  ·rw[show gt (wr d.1 s (Kg f)) s=some b from hb]at e
   cases e
   exact⟨f,hf,.inl rfl⟩
  ·obtain⟨b',f',k1,k2,k3⟩:=(h s).2.2 hs b g hb hg
   have:=hn f' (by unfold old;rw[k1];exact k2)
   exact Pj (Re this) k3
 ·exact(h t).same (by show gt (wr d.1 s (Kg f)) t=_;rw[Eea (Ka hd),if_neg ht]) rfl
def Kca (hw:Ewa ws) (hd:DG d) (h:DI ws sp d) {f:Fil} {sure:Bool} (hf:IsW ws s f):DI ws sp (keep d s f sure).1∧MO sp d (keep d s f sure).1:=by
 obtain⟨g1,g2,g3⟩:=hf.good hw
 rw[U9 hd.1 g1 g2]
 rcases Rz (f:=f) (sure:=sure) hd g1 with k|⟨o,_,_,k,hg,h3⟩|⟨h1,h2,k,hg,h3⟩
 ·rw[k];exact⟨h,MO.refl _ _⟩
 ·rcases h3 with⟨_,h3⟩|⟨_,h3⟩
  ·rw[h3];exact⟨h,MO.refl _ _⟩
  ·rw[h3];exact⟨Ckb hd.1 h,F1b hd.1 h⟩
 ·have hw':=Geb hw hd.1 h hf h1
  rcases h3 with⟨_,h3⟩|⟨_,h3⟩
  ·rw[h3];exact⟨hw',λ t _ st hh=>hh.same rfl⟩
  ·rw[h3];exact⟨Ckb h2.1 hw',(show MO sp d (wr d.1 s (Kg f),d.2) from λ t _ st hh=>hh.same rfl).trans (F1b h2.1 hw')⟩
def Uea (hw:Ewa ws) (hd:DG d) {f:Fil} (hf:IsW ws s f) (hc:(keep d s f true).2=0∨(keep d s f true).2=1):HD (keep d s f true).1 s f.1:=by
 obtain⟨g1,g2,g3⟩:=hf.good hw
 rw[U9 hd.1 g1 g2]at hc ⊢
 obtain⟨o,g,b,ho,_,e,h1,h2,h3⟩:=Taa hd g1 g2 g3 hc
 rw[e]
 exact⟨b,g,by show gt (sy o s) s=_;rw[Jza ho.1,if_pos rfl,h1],h2,h3⟩
def Clb (hd:DG d) (h:DI ws sp d) (kp:List Bool):DI ws sp (T2 d kp):=by
 intro t
 rcases Tsa (d:=d) (kp:=kp) t with e|⟨e1,e2⟩
 ·rw[e];exact h t
 ·unfold ED
  rw[e1]
  have eo:∀ b,gt (T2 d kp).1 t=some b→EO ws sp t b:=by
   intro b hb
   rcases e2 with e2|e2
   ·exact(h t).1 b (by rw[← e2];exact hb)
   ·exact(h t).2.1 b (by rw[← e2];exact hb)
  exact⟨eo,eo,λ _ b f hb hf=>⟨b,f,hb,hf,Gk _⟩⟩
def Cmb (hd:DG d) (h:DI ws sp d) (kp:List Bool):MO sp d (T2 d kp):=by
 intro t ht st hh
 rcases Tsa (d:=d) (kp:=kp) t with e|⟨e1,e2⟩
 ·rw[e];exact hh
 ·unfold HD
  rw[e1]
  rcases e2 with e2|e2
  ·rw[e2];exact(h t).ge ht hh
  ·rw[e2];exact hh
def N3a (hw:Ewa ws) (hd:DG d) (h:DI ws sp d):DI ws sp (Lq d).1∧MO sp d (Lq d).1:=by
 obtain⟨_,hc⟩:=T3 d.1 (d,0) hd
 have hc':∀ t,(t∈Ema d.1→gt (Lq d).1.1 t=none∧gt (Lq d).1.2 t=none)∧(t∉Ema d.1→gt (Lq d).1.1 t=gt d.1 t∧gt (Lq d).1.2 t=gt d.2 t):=hc
 have hb:∀ t,t∈Ema d.1→t∈sp:=by
  intro t ht
  obtain⟨b,h1,h2⟩:=(Mxa hd.1).1 ht
  by_cases hs:t∈sp
  ·exact hs
  ·obtain⟨f,hf,_⟩:=((h t).1 b h1).fine hw hs
   rw[hf]at h2;cases h2
 constructor
 ·intro t
  by_cases ht:t∈Ema d.1
  ·obtain⟨e1,e2⟩:=(hc' t).1 ht
   unfold ED
   rw[e1,e2]
   exact⟨λ b hb=>(by cases hb),λ b hb=>(by cases hb),λ _ b f hb=>(by cases hb)⟩
  ·obtain⟨e1,e2⟩:=(hc' t).2 ht
   exact(h t).same e1 e2
 ·intro t ht st hh
  exact hh.same ((hc' t).2 (λ c=>ht (hb t c))).2
def F2b (hd:DG d) (h:DI ws sp d) (hs:B0 s=true):DI ws sp (syD (rmD d s).1 s).1∧∀ t,t≠s→∀ st,HD d t st→HD (syD (rmD d s).1 s).1 t st:=by
 have hr:DI ws sp (rmD d s).1∨True := .inr trivial
 unfold rmD
 cases hg:gt d.1 s with
 |none=>
  have e:(bif (none:Option (List Int)).isSome then ((cut d.1 s,d.2),true) else (d,false)).1=d:=rfl
  rw[e]
  unfold syD
  by_cases hl:(sy d s).length≤60
  ·rw[decide_eq_true hl]
   exact⟨Ckb hd.1 h,λ t ht st hh=>hh.same (by show gt (sy d s) t=_;rw[Jza hd.1,if_neg (Iqb ht)])⟩
  ·rw[decide_eq_false hl];exact⟨h,λ t ht st hh=>hh⟩
 |some b=>
  have e:(bif (some b:Option (List Int)).isSome then ((cut d.1 s,d.2),true) else (d,false)).1=(cut d.1 s,d.2):=rfl
  rw[e]
  have hd':Ay (cut d.1 s,d.2)=true:=E7.2 ⟨Ww (E7.1 hd.1).1,(E7.1 hd.1).2⟩
  have e1:∀ t,gt (cut d.1 s) t=if s=t then none else gt d.1 t:=λ t=>Sf (Ka hd.1)
  have e2:∀ t,gt (sy (cut d.1 s,d.2) s) t=if s=t then none else gt d.2 t:=λ t=>by
   rw[Jza hd']
   by_cases hst:s=t
   ·rw[if_pos hst,if_pos hst];show gt (cut d.1 s) s=none;rw[e1,if_pos rfl]
   ·rw[if_neg hst,if_neg hst]
  have hlen:(sy (cut d.1 s,d.2) s).length≤60:=by
   have:sy (cut d.1 s,d.2) s=cut d.2 s:=by
    unfold sy
    have:=e1 s
    rw[if_pos rfl]at this
    rw[show gt (cut d.1 s,d.2).1 s=none from this]
   rw[this]
   exact Zw O4.length_le (Ap.1 (E7.1 hd.1).2).2.2
  unfold syD
  rw[decide_eq_true hlen]
  constructor
  ·intro t
   show ED ws sp (cut d.1 s,sy (cut d.1 s,d.2) s) t
   by_cases hst:s=t
   ·unfold ED
    dsimp only
    rw[e1,e2,if_pos hst,if_pos hst]
    exact⟨λ b hb=>(by cases hb),λ b hb=>(by cases hb),λ _ b f hb=>(by cases hb)⟩
   ·exact(h t).same (by show gt (cut d.1 s) t=_;rw[e1,if_neg hst]) (by show gt (sy (cut d.1 s,d.2) s) t=_;rw[e2,if_neg hst])
  ·intro t ht st hh
   exact hh.same (by show gt (sy (cut d.1 s,d.2) s) t=_;rw[e2,if_neg (Iqb ht)])
def F3b (hw:Ewa ws) (hd:DG d) (h:DI ws sp d) {n:Int} (hl:(lkD d s).2=0) (hr:(F0a d s n).2=true) (sp':List ByteArray) (hsp:∀ t,t∈sp'↔t=s∨t∈sp):DI ws sp' (F0a d s n).1∧MO sp' d (F0a d s n).1∧∃ f,IsW ws s f:=by
 obtain⟨b,hb,hf⟩:=O7.1 (show lkD d s=((lkD d s).1,0) by rw[← hl])
 obtain⟨hW,e⟩:=((h s).1 b hb).get hw hf
 have hsub:∀ t∈sp,t∈sp':=λ t ht=>(hsp t).2 (.inr ht)
 generalize (lkD d s).1=f at *
 unfold F0a at hr ⊢
 rw[hb]at hr ⊢
 dsimp only at hr ⊢
 cases hin:inR n 0 (8*(b.length:Int)-1)
 ·rw[hin]at hr;cases hr
 rw[cond_true]
 obtain⟨n0,n1⟩:=F9.1 hin
 have hn:n.toNat<8*(Kg f).length:=by rw[← e];omega
 have e1:∀ t,gt (wr d.1 s (N8 b n.toNat)) t=if s=t then some (N8 b n.toNat) else gt d.1 t:=λ t=>Eea (Ka hd.1)
 have e2:∀ t,gt (bif decide (gt d.2 s=some b) then wr d.2 s (N8 b n.toNat) else d.2) t=if s=t∧gt d.2 s=some b then some (N8 b n.toNat) else gt d.2 t:=by
  intro t
  by_cases hg:gt d.2 s=some b
  ·rw[decide_eq_true hg,cond_true,Eea (O6 hd.1)]
   by_cases hst:s=t
   ·rw[if_pos hst,if_pos ⟨hst,hg⟩]
   ·rw[if_neg hst,if_neg (λ c=>hst c.1)]
  ·rw[decide_eq_false hg,cond_false,if_neg (λ c=>hg c.2)]
 have hflip:EO ws sp' s (N8 b n.toNat):=⟨f,hW,.inr ⟨(hsp s).2 (.inl rfl),n.toNat,hn,by rw[e]⟩⟩
 refine⟨λ t=>?_,λ t ht st hh=>?_,f,hW⟩
 ·by_cases hst:s=t
  ·subst hst
   refine⟨λ x hx=>?_,λ x hx=>?_,λ c=>absurd ((hsp s).2 (.inl rfl)) c⟩
   ·have:=e1 s
    rw[if_pos rfl]at this
    rw[show gt (wr d.1 s (N8 b n.toNat)) s=some x from hx]at this
    cases this
    exact hflip
   ·have:=e2 s
    rw[show gt (bif decide (gt d.2 s=some b) then wr d.2 s (N8 b n.toNat) else d.2) s=some x from hx]at this
    by_cases hg:gt d.2 s=some b
    ·rw[if_pos ⟨rfl,hg⟩]at this
     cases this
     exact hflip
    ·rw[if_neg (λ c=>hg c.2)]at this
     exact((h s).2.1 x this.symm).mono (λ _ h=>h) hsub
  ·refine((h t).mono (λ _ h=>h) hsub).same ?_ ?_
   ·show gt (wr d.1 s (N8 b n.toNat)) t=_
    rw[e1,if_neg hst]
   ·show gt (bif decide (gt d.2 s=some b) then wr d.2 s (N8 b n.toNat) else d.2) t=_
    rw[e2,if_neg (λ c=>hst c.1)]
 ·have hst:s≠t:=λ c=>ht ((hsp t).2 (.inl c.symm))
  exact hh.same (by show gt (bif decide (gt d.2 s=some b) then wr d.2 s (N8 b n.toNat) else d.2) t=_;rw[e2,if_neg (λ c=>hst c.1)])
end

def NI (ws:List Wri) (sp:List ByteArray) (n:Nod):Prop:=NG n∧DI ws sp n.2.1∧(∀ r∈n.2.2.1,W6 ws r=true)∧∀ r∈n.2.2.2,W6 ws r=true
def KN (ns:List Nod) (s:ByteArray) (st:Stp):Prop:=∃ i,i<ns.length∧HD (ns.getD i A8).2.1 s st
def MS (sp:List ByteArray) (ns ns':List Nod):Prop:=∀ s,s∉sp→∀ st,KN ns s st→KN ns' s st
def Uh {ws:List Wri} {r:Row}:W6 ws r=true↔∃ x∈ws,Ua x.1 x.2.1=r:=by
 unfold W6
 rw[Hpb]
 exact⟨λ ⟨x,h1,h2⟩=>⟨x,h1,Hoa.1 h2⟩,λ ⟨x,h1,h2⟩=>⟨x,h1,Hoa.2 h2⟩⟩
def Cxa {ws ws':List Wri} (h:∀ x∈ws,x∈ws') {r:Row} (hr:W6 ws r=true):W6 ws' r=true:=by
 obtain⟨x,h1,h2⟩:=Uh.1 hr
 exact Uh.2 ⟨x,h x h1,h2⟩
def Y7a {ws:List Wri} {s:ByteArray} {f:Fil} (h:IsW ws s f):W6 ws (Ua s f)=true:=by
 obtain⟨x,h1,rfl,rfl⟩:=h
 exact Uh.2 ⟨x,h1,rfl⟩
def NI.mono {ws ws':List Wri} {sp sp':List ByteArray} (h1:∀ x∈ws,x∈ws') (h2:∀ s∈sp,s∈sp') {n:Nod} (h:NI ws sp n):NI ws' sp' n:=
 ⟨h.1,h.2.1.mono h1 h2,λ r hr=>Cxa h1 (h.2.2.1 r hr),λ r hr=>Cxa h1 (h.2.2.2 r hr)⟩
def NR (ws:List Wri) (sp:List ByteArray) (ns ns':List Nod):Prop:=(∀ n∈ns',NI ws sp n)∧ns'.map (·.1)=ns.map (·.1)∧MS sp ns ns'
def NR.refl {ws:List Wri} {sp:List ByteArray} {ns:List Nod} (h:∀ n∈ns,NI ws sp n):NR ws sp ns ns:=⟨h,rfl,λ _ _ _ h=>h⟩
def NR.len {ws:List Wri} {sp:List ByteArray} {ns ns':List Nod} (h:NR ws sp ns ns'):ns'.length=ns.length:=by
 have:=congrArg length h.2.1
 rwa [Wd,Wd]at this
def Cz {α:Type} {l:List α} {i j:Nat} {x d:α} (hj:j<l.length):(l.set i x).getD j d=if i=j then x else l.getD j d:=by
 rw[Vb,List.getElem?_set]
 by_cases h:i=j
 ·subst h
  rw[if_pos rfl,if_pos rfl,if_pos hj]
  rfl
 ·rw[if_neg h,if_neg h,Vb]
def Kda {ns:List Nod} {i:Nat} {n:Nod} (hi:i<ns.length) (h:n.1=(ns.getD i A8).1):(ns.set i n).map (·.1)=ns.map (·.1):=by
 refine K8b (by simp) (λ j h1 h2=>?_)
 rw[Wd,Vv]at h1
 rw[Jib,Jib,K9b]
 by_cases hij:i=j
 ·subst hij
  rw[if_pos rfl,h,Vb,Vj hi]
  rfl
 ·rw[if_neg hij]
def NR.set {ws:List Wri} {sp:List ByteArray} {ns ns':List Nod} (h:NR ws sp ns ns') {i:Nat} (hi:i<ns'.length) {n:Nod} (h1:NI ws sp n) (h2:n.1=(ns'.getD i A8).1) (h3:MO sp (ns'.getD i A8).2.1 n.2.1):NR ws sp ns (ns'.set i n):=by
 obtain⟨g1,g2,g3⟩:=h
 refine⟨λ m hm=>?_,by rw[Kda hi h2,g2],λ s hs st hk=>?_⟩
 ·rcases Ys hm with hm|rfl
  ·exact g1 m hm
  ·exact h1
 ·obtain⟨j,hj,hd⟩:=g3 s hs st hk
  refine⟨j,by rw[Vv];exact hj,?_⟩
  rw[Cz hj]
  by_cases hij:i=j
  ·subst hij;rw[if_pos rfl];exact h3 s hs st hd
  ·rw[if_neg hij];exact hd
section
variable {ws:List Wri} {sp:List ByteArray} {n:Nod} {s:ByteArray} {f:Fil}
def Cnb (hw:Ewa ws) (h:NI ws sp n) (hf:IsW ws s f) (sure:Bool):NI ws sp (Qg n s f sure).1∧(Qg n s f sure).1.1=n.1∧MO sp n.2.1 (Qg n s f sure).1.2.1:=by
 obtain⟨g1,g2,g3⟩:=hf.good hw
 obtain⟨h1,h2,h3,h4⟩:=h
 have hg:=Mla (sure:=sure) h1 g1 g2
 obtain⟨k1,k2⟩:=Kca (sure:=sure) hw h1.g h2 hf
 unfold Qg at hg ⊢
 cases hq:(n.2.2.2.length:Int)==60
 case true=>exact⟨⟨h1,h2,h3,h4⟩,rfl,MO.refl _ _⟩
 rw[hq]at hg
 refine⟨⟨hg,k1,h3,?_⟩,rfl,k2⟩
 show ∀ r∈bif (keep n.2.1 s f sure).2==0&&sure then n.2.2.2++[Ua s f] else n.2.2.2,W6 ws r=true
 cases (keep n.2.1 s f sure).2==0&&sure
 ·exact h4
 intro r hr
 rcases Vn.1 hr with hr|hr
 ·exact h4 r hr
 ·rw[Vu.1 hr];exact Y7a hf
def Cob (hw:Ewa ws) (h:NI ws sp n) (hf:IsW ws s f) (hc:(Qg n s f true).2=0∨(Qg n s f true).2=1):HD (Qg n s f true).1.2.1 s f.1:=by
 unfold Qg at hc ⊢
 cases hq:((n.2.2.2.length:Int)==60) with
 |true=>rw[hq]at hc;rcases hc with hc|hc<;>cases hc
 |false=>rw[hq]at hc;exact Uea hw h.1.g hf hc
def F4b (h:NI ws sp n) {l:List Row} (hl:Js l=true) (hr:∀ r∈l,W6 ws r=true):NI ws sp (tk n l).2∧(tk n l).2.1=n.1∧(tk n l).2.2.1=n.2.1:=by
 obtain⟨h1,h2,h3,h4⟩:=h
 have hg:=Frb h1 hl
 unfold tk at hg ⊢
 cases hq:decide ((Nj n.2.2.1 l).length > 60)
 case true=>exact⟨⟨h1,h2,h3,h4⟩,rfl,rfl⟩
 rw[hq]at hg
 exact⟨⟨hg,h2,λ r hr'=>(E3a hr').elim (h3 r) (hr r),h4⟩,rfl,rfl⟩
end
def F5b {ws:List Wri} {sp:List ByteArray} {ns:List Nod} {R:Int} {rc:List Int} {s:ByteArray} {f:Fil} {cs:List Int} {a:List Nod×Int×Int} {j:Nat} (hw:Ewa ws) (hf:IsW ws s f)
  (h:NR ws sp ns a.1∧(s∉sp→a.2.2≥1→KN a.1 s f.1)∧a.2.2≥0) (hc:(cs.getD j 0).toNat<ns.length):
  NR ws sp ns (wst R rc s f cs a j).1∧(s∉sp→(wst R rc s f cs a j).2.2≥1→KN (wst R rc s f cs a j).1 s f.1)∧(wst R rc s f cs a j).2.2≥0:=by
 obtain⟨h1,h2,h3⟩:=h
 unfold wst
 cases decide (a.2.1<R)
 ·exact⟨h1,h2,h3⟩
 cases rch rc j==0
 case true=>exact⟨h1,h2,h3⟩
 rw[cond_true,cond_false]
 have hi:(cs.getD j 0).toNat<a.1.length:=by rw[h1.len];exact hc
 generalize (cs.getD j 0).toNat=i at *
 have hn:=h1.1 _ (A3 (d:=A8) hi)
 obtain⟨p1,p2,p3⟩:=Cnb hw hn hf (rch rc j != 3)
 refine⟨h1.set hi p1 p2 p3,λ hs hg=>?_,?_⟩
 ·cases hr:rch rc j==1&&((Qg (a.1.getD i A8) s f (rch rc j != 3)).2==0||(Qg (a.1.getD i A8) s f (rch rc j != 3)).2==1) with
  |true=>
   rw[Va,Zy,beq_iff_eq,beq_iff_eq,beq_iff_eq]at hr
   have e:(rch rc j != 3)=true:=by rw[hr.1];rfl
   rw[e]at hr ⊢
   refine⟨i,by rw[Vv];exact hi,?_⟩
   rw[Cz hi,if_pos rfl]
   exact Cob hw hn hf hr.2
  |false=>
   rw[hr]at hg
   obtain⟨m,hm,hd⟩:=h2 hs hg
   refine⟨m,by rw[Vv];exact hm,?_⟩
   rw[Cz hm]
   by_cases hij:i=m
   ·subst hij;rw[if_pos rfl];exact p3 s hs _ hd
   ·rw[if_neg hij];exact hd
 ·dsimp only
  cases rch rc j==1&&((Qg (a.1.getD i A8) s f (rch rc j != 3)).2==0||(Qg (a.1.getD i A8) s f (rch rc j != 3)).2==1)
  ·exact h3
  ·rw[cond_true];omega
def F6b {ws:List Wri} {sp:List ByteArray} {w:Wld} {rc:List Int} {s:ByteArray} {f:Fil} (hw:Ewa ws) (hf:IsW ws s f) (hn:∀ n∈w.2.2.1,NI ws sp n):
  NR ws sp w.2.2.1 (wrN w s f rc).1∧(s∉sp→(wrN w s f rc).2.2≥1→KN (wrN w s f rc).1 s f.1)∧(wrN w s f rc).2.2≥0:=
 Ku (λ _ (a:List Nod×Int×Int)=>NR ws sp w.2.2.1 a.1∧(s∉sp→a.2.2≥1→KN a.1 s f.1)∧a.2.2≥0) ⟨NR.refl hn,λ _ h=>absurd h (show ¬ (0:Int)≥1 by omega),Hnb _⟩
  (λ j b hj hb=>F5b hw hf hb (by have:=Qa (A3 (d:=0) hj);omega))
def F7b {ws:List Wri} {sp:List ByteArray} {ns:List Nod} {rc:List Int} {s:ByteArray} {f:Fil} {ps:List Int} {a:List Nod×Bool×Bool} {src j:Nat} (hw:Ewa ws) (hf:IsW ws s f) (hsrc:src<ns.length)
  (h:NR ws sp ns a.1∧(a.2.1=false→a.1.getD src A8=ns.getD src A8∧(a.2.2=true→0<j→∃ i,i≠src∧i<ns.length∧HD (a.1.getD i A8).2.1 s f.1))) (hc:(ps.getD j 0).toNat<ns.length) (hc0:0≤ps.getD j 0):
  NR ws sp ns (pst (src:Int) s f rc ps a j).1∧((pst (src:Int) s f rc ps a j).2.1=false→(pst (src:Int) s f rc ps a j).1.getD src A8=ns.getD src A8∧((pst (src:Int) s f rc ps a j).2.2=true→0<j+1→∃ i,i≠src∧i<ns.length∧HD ((pst (src:Int) s f rc ps a j).1.getD i A8).2.1 s f.1)):=by
 obtain⟨h1,h2⟩:=h
 unfold pst
 cases hz:ps.getD j 0==(src:Int)
 case true=>exact⟨h1,λ c=>by cases c⟩
 have hne:(ps.getD j 0).toNat≠src:=by
  have:=beq_eq_false_iff_ne.1 hz
  omega
 cases hr:rch rc j != 1
 case true=>exact⟨h1,λ c=>⟨(h2 c).1,λ c'=>by cases c'⟩⟩
 rw[cond_false,cond_false]
 have hi:(ps.getD j 0).toNat<a.1.length:=by rw[h1.len];exact hc
 generalize (ps.getD j 0).toNat=i at *
 have hn:=h1.1 _ (A3 (d:=A8) hi)
 obtain⟨k1,k2⟩:=Kca (sure:=true) hw hn.1.g hn.2.1 hf
 refine⟨h1.set hi ⟨Esa hn.1,k1,hn.2.2⟩ rfl k2,λ c=>⟨?_,λ c' _=>?_⟩⟩
 ·show (a.1.set i _).getD src A8=_
  rw[Cz (by rw[h1.len];exact hsrc),if_neg hne]
  exact(h2 c).1
 ·refine⟨i,hne,hc,?_⟩
  show HD ((a.1.set i _).getD i A8).2.1 s f.1
  rw[Cz hi,if_pos rfl]
  refine Uea hw hn.1.g hf ?_
  cases hk:(keep (a.1.getD i A8).2.1 s f true).2 != 0&&(keep (a.1.getD i A8).2.1 s f true).2 != 1 with
  |true=>
   have:(bif (keep (a.1.getD i A8).2.1 s f true).2 != 0&&(keep (a.1.getD i A8).2.1 s f true).2 != 1 then false else a.2.2)=true:=c'
   rw[hk]at this
   cases this
  |false=>
   rw[Kdb,bne,bne,Yb,Yb,beq_iff_eq,beq_iff_eq]at hk
   exact hk
def F8b {ws:List Wri} {sp:List ByteArray} {w:Wld} {rc:List Int} {s:ByteArray} {i:Nat} (hw:Ewa ws) (hn:∀ n∈w.2.2.1,NI ws sp n) (hi:i<w.2.2.1.length) (hf:IsW ws s (lkD (w.2.2.1.getD i A8).2.1 s).1):
  NR ws sp w.2.2.1 (puN w i s rc).1∧((puN w i s rc).2.1=false→(puN w i s rc).1.getD i A8=w.2.2.1.getD i A8∧((puN w i s rc).2.2=true→0<(Mi w s).length→∃ j,j≠i∧j<w.2.2.1.length∧HD ((puN w i s rc).1.getD j A8).2.1 s (lkD (w.2.2.1.getD i A8).2.1 s).1.1)):=
 Ku (λ n (a:List Nod×Bool×Bool)=>NR ws sp w.2.2.1 a.1∧(a.2.1=false→a.1.getD i A8=w.2.2.1.getD i A8∧(a.2.2=true→0<n→∃ j,j≠i∧j<w.2.2.1.length∧HD (a.1.getD j A8).2.1 s (lkD (w.2.2.1.getD i A8).2.1 s).1.1))) ⟨NR.refl hn,λ _=>⟨rfl,λ _ c=>absurd c (Nat.lt_irrefl _)⟩⟩
  (λ j b hj hb=>F7b hw hf hi hb (by have:=On (A3 (d:=0) hj);omega) (On (A3 (d:=0) hj)).1)
def Hqa {w:Wld} {s:ByteArray} (hr:J6 w.2.1 w.1=true) (hid:w.2.2.1.map (·.1)=w.1.map (·.1)):0<(Mi w s).length:=by
 obtain⟨_,p2,p3⟩:=W5 hr s
 have h5:=(Bz.1 hr).2.1
 obtain⟨id,hidm⟩:=Hqb (l:=Qm w.2.1 s) (by omega)
 have:=Rc.1 (p3 id hidm)
 rw[← hid]at this
 obtain⟨n,hn,rfl⟩:=Zb.1 this
 obtain⟨j,hj,rfl⟩:=Ze.1 hn
 have hm:(j:Int)∈Mi w s:=T4.2 ⟨j,hj,by rw[Vb,Vj hj];exact hidm,rfl⟩
 exact Hwb hm
def Y0 {ws:List Wri} {sp:List ByteArray} {w:Wld} {rc:List Int} {s:ByteArray} {i:Nat} (hw:Ewa ws) (hn:∀ n∈w.2.2.1,NI ws sp n) (hi:i<w.2.2.1.length) (hr:J6 w.2.1 w.1=true) (hid:w.2.2.1.map (·.1)=w.1.map (·.1)):
  ∃ ns,(Ph w i s rc).2=wN w ns∧NR ws sp w.2.2.1 ns:=by
 have hni:=hn _ (A3 (d:=A8) hi)
 unfold Ph
 cases hl:(lkD (w.2.2.1.getD i A8).2.1 s).2 != 0
 case true=>exact⟨w.2.2.1,rfl,NR.refl hn⟩
 rw[bne,Yb,beq_iff_eq]at hl
 obtain⟨b,hb,hg⟩:=O7.1 (show lkD (w.2.2.1.getD i A8).2.1 s=((lkD (w.2.2.1.getD i A8).2.1 s).1,0) from by rw[← hl])
 have hf:IsW ws s (lkD (w.2.2.1.getD i A8).2.1 s).1:=(((hni.2.1 s).1 b hb).get hw hg).1
 obtain⟨h1,h2⟩:=F8b (rc:=rc) hw hn hi hf
 refine⟨_,rfl,?_⟩
 cases hc:(puN w i s rc).2.2&&!(puN w i s rc).2.1
 ·exact h1
 rw[Va,Wa]at hc
 obtain⟨h3,h4⟩:=h2 hc.2
 obtain⟨j,hj,hjl,hd⟩:=h4 hc.1 (Hqa hr hid)
 rw[cond_true,h3]
 obtain⟨g1,_,_⟩:=hf.good hw
 have hi':i<(puN w i s rc).1.length:=by rw[h1.len];exact hi
 obtain⟨o1,o2⟩:=F2b (s:=s) hni.1.g hni.2.1 g1
 refine⟨λ m hm=>?_,by rw[Kda hi' (by rw[h3];rfl),h1.2.1],λ t ht st hk=>?_⟩
 ·rcases Ys hm with hm|rfl
  ·exact h1.1 m hm
  ·exact⟨Zsa hni.1 g1,o1,hni.2.2⟩
 ·obtain⟨m,hm,hh⟩:=h1.2.2 t ht st hk
  by_cases hmi:m=i
  ·subst hmi
   rw[h3]at hh
   by_cases hts:t=s
   ·subst hts
    obtain⟨b',f',e1,e2,e3⟩:=(hni.2.1 t).ge ht hh
    rw[hb]at e1
    cases e1
    rw[hg]at e2
    cases e2
    obtain⟨c,g,k1,k2,k3⟩:=hd
    refine⟨j,by rw[Vv,h1.len];exact hjl,?_⟩
    rw[Cz (by rw[h1.len];exact hjl),if_neg (Iqb hj)]
    exact⟨c,g,k1,k2,Pj k3 e3⟩
   ·refine⟨m,by rw[Vv];exact hm,?_⟩
    rw[Cz hm,if_pos rfl]
    exact o2 t hts st hh
  ·refine⟨m,by rw[Vv];exact hm,?_⟩
   rw[Cz hm,if_neg (Iqb hmi)]
   exact hh
def Exa {ws:List Wri} {sp:List ByteArray} {w:Wld} {src:Int} {l:List Row} {self:Bool} {rc:List Int} (hn:∀ n∈w.2.2.1,NI ws sp n) (hl:Js l=true) (hr:∀ r∈l,W6 ws r=true):NR ws sp w.2.2.1 (Jt w src l self rc).1:=by
 refine Ku (λ _ (a:List Nod×Bool)=>NR ws sp w.2.2.1 a.1) (NR.refl hn) (λ j b hj hb=>?_)
 have hc:=Li (A3 (d:=0) hj)
 unfold gst
 cases (Aw w).getD j 0==src&&!self
 case true=>exact hb
 cases rch rc j != 1
 case true=>exact hb
 have hi:((Aw w).getD j 0).toNat<b.1.length:=by rw[hb.len];omega
 obtain⟨t1,t2,t3⟩:=F4b (hb.1 _ (A3 (d:=A8) hi)) hl hr
 exact hb.set hi t1 t2 (by rw[t3];exact MO.refl _ _)
def N4a {ws:List Wri} {sp:List ByteArray} {w:Wld} {rc:List Int} {i:Nat} (hn:∀ n∈w.2.2.1,NI ws sp n) (hi:i<w.2.2.1.length):∃ ns,(Ow w i rc).2=wN w ns∧NR ws sp w.2.2.1 ns:=by
 have hni:=hn _ (A3 (d:=A8) hi)
 have hl:=(Bo.1 hni.1.1).2.2.2.1
 unfold Ow
 cases ((w.2.2.1.getD i A8).2.2.1.length:Int)==0
 case true=>exact⟨w.2.2.1,rfl,NR.refl hn⟩
 refine⟨_,rfl,?_⟩
 have hg:NR ws sp w.2.2.1 (Lc w i rc).1:=Exa hn hl hni.2.2.1
 cases (Lc w i rc).2&&!(Lm (Aw (wN w (Lc w i rc).1)) (i:Int))
 ·exact hg
 have hi':i<(Lc w i rc).1.length:=by rw[hg.len];exact hi
 have hm:=hg.1 _ (A3 (d:=A8) hi')
 exact hg.set hi' ⟨N2a hm.1,hm.2.1,(λ _ h=>nomatch h),hm.2.2.2⟩ rfl (MO.refl _ _)
def N5a {ws:List Wri} {sp:List ByteArray} {w:Wld} {rc:List Int} {i:Nat} (hn:∀ n∈w.2.2.1,NI ws sp n) (hi:i<w.2.2.1.length):∃ ns,(Pi w i rc).2=wN w ns∧NR ws sp w.2.2.1 ns:=by
 have hni:=hn _ (A3 (d:=A8) hi)
 obtain⟨hq,_,_,_,hq60⟩:=Bo.1 hni.1.1
 unfold Pi
 cases ((w.2.2.1.getD i A8).2.2.2.length:Int)==0
 case true=>exact⟨w.2.2.1,rfl,NR.refl hn⟩
 refine⟨_,rfl,?_⟩
 have hg:NR ws sp w.2.2.1 (Mb w i rc).1:=Exa hn (Lx hq) (λ r hr=>hni.2.2.2 r (Hib hr))
 cases (Mb w i rc).2
 ·exact hg
 have hi':i<(Mb w i rc).1.length:=by rw[hg.len];exact hi
 have hm:=hg.1 _ (A3 (d:=A8) hi')
 exact hg.set hi' ⟨Zva hm.1 (λ r hr=>hq r (Zr hr)) (by rw[Wc];omega),hm.2.1,hm.2.2.1,λ r hr=>hni.2.2.2 r (Zr hr)⟩ rfl (MO.refl _ _)

end Go.Proofs.YtiiekghlhfbmmaaGreat.Vf
