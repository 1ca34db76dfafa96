import Derived.Test.YtcpligincipmhaaGreatMal
set_option linter.all false
namespace Go.Proofs.YtcpligincipmhaaGreat.Vf
open Go
open List (length getD)
open Int (toNat)
open Go.IntKind (wrap)
open BitVec (ofInt)
def Zp:=@List.mem_range
def C5b:=@Bool.or_false
def Cbb:=@List.exists_mem_of_length_pos
def Ccb:=@List.pairwise_singleton
def E0b:=@List.drop_append_of_le_length
def E1b:=@List.take_append_of_le_length
def E2b:=@List.getElem_map
def Ebb:=@List.any_append
def F0b:=@List.any_nil

def V9 (v:BitVec 32) (b:Int):BitVec 32:=(v ^^^ ofInt 32 b)*16777619#32
def Jza (x:ByteArray):Nat→BitVec 32
 |0=>2166136261#32
 |n+1=>V9 (Jza x n) (bt x (n:Int))
def Uha (x:ByteArray):Nat:=(Jza x x.size).toNat
def Bqb (v:BitVec 32):wrap .u32 ((v.toNat:Int)*16777619)=((v*16777619#32).toNat:Int):=by
 rw[IntKind.wrap_u32,BitVec.toNat_mul];show (v.toNat:Int)*16777619 % 4294967296=((v.toNat*16777619 % 4294967296:Nat):Int);omega
def Sba (x:ByteArray) (hx:x.size≤1000000000):Tot (λ k=>I3 k x) (λ r=>r=(Uha x:Int)):=by
 unfold I3
 refine Bsb (Q:=λ r=>r=(Uha x:Int)) ?_ (by
  rintro r rfl;have:=(Jza x x.size).isLt
  exact Brb (w64 (n:=(Uha x:Int)) (by omega) (by show ((Jza x x.size).toNat:Int)≤_;omega)))
 refine C0b (L:=λ k i (s:Int)=>G8 k x s i) (Q:=λ r=>r=(Uha x:Int)) x.size (λ j s=>s=((Jza x j).toNat:Int)) ?_ ?_ 0 _ (Vv _) rfl
 ·rintro s rfl;simp (disch:=omega) only [G8,dF];exact Brb rfl
 ·rintro j s hj rfl next;have hb:=N6a x (j:Int);have e1:wrap .u32 (bt x (j:Int))=bt x (j:Int):=Enb _ ⟨by omega,by omega⟩;simp (disch:=omega) only [G8,dT,w64,e1,Ayb (Jza x j) _ (bt x (j:Int)) rfl,Bqb];exact next _ rfl
def N8 (r:Rng) (x:ByteArray):List Int:=r.2.getD (Uha x % r.2.length) []
def B3b (a b:Nat):Int.tmod (a:Int) (b:Int)=((a % b:Nat):Int):=by
 rw[Chb (by omega)];exact(Int.natCast_emod _ _).symm
def Qj (r:Rng) (x:ByteArray) (hr:RBd r) (hx:x.size≤1000000000):Tot (λ k=>Ao k r x) (λ y=>y=N8 r x):=by
 have hrl:=hr.1;unfold Ao
 by_cases h0:r.2.length=0
 ·refine Bub (by rw[h0];rfl) (Brb ?_);unfold N8;rw[Wk h0];rfl
 ·have hm:=Nat.mod_lt (Uha x) (show 0<r.2.length by omega);refine Btb (by rw[beq_eq_false_iff_ne];omega) (Bsb (Q:=λ y=>y=((Uha x % r.2.length:Nat):Int)) ?_ ?_)
  ·unfold H8;refine Bwb (by omega) (C3b (Sba x hx) ?_);exact Bwb (by omega) (Brb (B3b _ _))
  ·rintro y rfl;simp (disch:=omega) only [dT,Vj];have hp:=hr.2 _ (A3 (d:=[]) hm);rw[Rx _ (by omega)];exact Brb rfl
def Sca {r:Rng} {l:List Dev} (h:Hb r l=true) (x:ByteArray):N8 r x∈r.2:=by
 obtain⟨_,_,h3,_⟩:=Cb.1 h;exact A3 (d:=[]) (Nat.mod_lt _ (by omega))
def Pj {r:Rng} {l:List Dev} (h:Hb r l=true) (x:ByteArray):(N8 r x).Nodup∧((N8 r x).length:Int)=r.1∧∀ id∈N8 r x,∃ d,Hz l id=some d:=(Cb.1 h).2.2.2 _ (Sca h x)
def hoA (p zs:List Int) (z:Bool) (l:List Dev):List Int:=(l.filter λ d => !(Gp p d.1)&&(Gp zs d.2.1==z)).map (·.1)
def Ld (r:Rng) (l:List Dev) (x:ByteArray):List Int:=hoA (N8 r x) (C2 (N8 r x) l) false l++hoA (N8 r x) (C2 (N8 r x) l) true l
def Asa (p zs:List Int) (z:Bool) (l:List Dev):(hoA p zs z l).length≤l.length:=by
 unfold hoA;rw[Wc];exact List.length_filter_le _ _
def Sda (p zs:List Int) (z:Bool) (d:Dev) (l:List Dev):hoA p zs z (d::l)=bif !(Gp p d.1)&&(Gp zs d.2.1==z) then d.1::hoA p zs z l else hoA p zs z l:=by
 unfold hoA;rw[C7b]
 cases !(Gp p d.1)&&(Gp zs d.2.1==z)<;>rfl
def Sea (r:Rng) (l:List Dev) (x:ByteArray) (h:Hb r l=true) (hx:x.size≤1000000000):Tot (λ k=>Ck k r l x) (λ y=>y=Ld r l x):=by
 obtain⟨h1,h2,_,_⟩:=Cb.1 h;obtain⟨_,p2,_⟩:=Pj h x;obtain⟨_,_,_,h12⟩:=Dy.1 h1;have hz:=Ph (N8 r x) l;unfold Ck Ld;refine C3b (Qj r x (Kw h) hx) ?_;generalize N8 r x=p at *;refine C3b (D3a p l (by omega) (by omega)) ?_;generalize C2 p l=zs at *;have m1:=Asa p zs false l;have m2:=Asa p zs true l;refine Bsb (Q:=λ y=>y=(hoA p zs false l,hoA p zs true l)) ?_ (by rintro y rfl;exact Bzb (by dsimp only;omega) (Brb rfl));refine C0b (L:=λ k i (s:List Int×List Int)=>C9 k p zs s.1 s.2 l (l.length:Int) i) (Q:=λ y=>y=(hoA p zs false l,hoA p zs true l)) l.length (λ j s=>s.1++hoA p zs false (l.drop j)=hoA p zs false l∧s.2++hoA p zs true (l.drop j)=hoA p zs true l) ?_ ?_ 0 ([],[]) (Nat.zero_le _) ⟨rfl,rfl⟩
 ·rintro s ⟨e1,e2⟩;rw[Wm]at e1 e2;simp (disch:=omega) only [C9,dF];refine Brb ?_;rw[← e1,← e2];show _=(s.1++[],s.2++[]);rw[Yf,Yf]
 ·rintro j ⟨s1,s2⟩ hj ⟨e1,e2⟩ next;dsimp only at e1 e2 next ⊢;have g1:=congrArg length e1;have g2:=congrArg length e2;rw[List.length_append]at g1 g2;rw[Bo (d:=Je) hj,Sda]at e1 e2;obtain⟨d,ed⟩:∃ d:Dev,l.getD j Je=d:=⟨_,rfl⟩;rw[ed]at e1 e2;have e0:l.getD j ((0:Int),((0:Int),(0:Int)))=d:=ed;simp (disch:=omega) only [C9,dT,Int.toNat_natCast,w64,e0];refine C3b (Pf p d.1 (by omega)) ?_
  cases hp:Gp p d.1 with
  |true=>
   rw[hp]at e1 e2;exact Bub rfl (next (s1,s2) ⟨e1,e2⟩)
  |false=>
   refine Btb rfl (C3b (Pf zs d.2.1 (by omega)) ?_)
   cases hz':Gp zs d.2.1 with
   |true=>
    rw[hp,hz']at e1 e2;exact Bub rfl (Bzb (by simp only[Vh,Vq];omega) (next (s1,s2++[d.1]) ⟨e1,by rw[← e2];simp⟩))
   |false=>
    rw[hp,hz']at e1 e2;exact Btb rfl (Bzb (by simp only[Vh,Vq];omega) (next (s1++[d.1],s2) ⟨by rw[← e1];simp,e2⟩))

section
variable {R:Type} {L:Nat→Int→Option (Sum Bool R)}
def Ow (p:Nat→Bool) (n:Nat):(List.range (n+1)).all p=((List.range n).all p&&p n):=by
 rw[Eab,List.all_append,D7b,List.all_nil,C9b]
def Vr (p:Nat→Bool) (n:Nat):(List.range (n+1)).any p=((List.range n).any p||p n):=by
 rw[Eab,Ebb,D6b,F0b,C5b]
def W0 {p:Nat→Bool} {m n:Nat} (h:m≤n) (hn:(List.range n).all p=true):(List.range m).all p=true:=by
 rw[Yd]at hn ⊢;exact λ x hx=>hn x (Zp.2 (by have:=Zp.1 hx;omega))
def C1b (n:Nat) (p:Nat→Bool) (e:R) (hend:Tot (λ k=>L (k+1) (n:Int)) (λ r=>r = .inr e))
  (V9:∀ j,j<n→∀ (Q:Sum Bool R→Prop),(p j=false→Q (.inl false))→(p j=true→Tot (λ k=>L k ((j:Int)+1)) Q)→Tot (λ k=>L (k+1) (j:Int)) Q):
  Tot (λ k=>L k 0) (λ r=>r=bif (List.range n).all p then .inr e else .inl false):=by
 refine C0b (L:=λ k i (_:Unit)=>L k i) (Q:=λ r=>r=bif (List.range n).all p then .inr e else .inl false) n (λ j _=>(List.range j).all p=true) ?_ ?_ 0 () (Vv _) rfl
 ·intro _ h;rw[h];exact hend
 ·intro j _ hj h next;refine V9 j hj _ (λ hp=>?_) (λ hp=>next () (by rw[Ow,h,hp];rfl));cases hc:(List.range n).all p
  ·rfl
  have:=W0 (show j+1≤n by omega) hc;rw[Ow,hp,Xs]at this;cases this
def C2b (n:Nat) (p:Nat→Bool) (e:R) (hend:Tot (λ k=>L (k+1) (n:Int)) (λ r=>r = .inr e))
  (V9:∀ j,j<n→∀ (Q:Sum Bool R→Prop),(p j=true→Q (.inl true))→(p j=false→Tot (λ k=>L k ((j:Int)+1)) Q)→Tot (λ k=>L (k+1) (j:Int)) Q):
  Tot (λ k=>L k 0) (λ r=>r=bif (List.range n).any p then .inl true else .inr e):=by
 refine C0b (L:=λ k i (_:Unit)=>L k i) (Q:=λ r=>r=bif (List.range n).any p then .inl true else .inr e) n (λ j _=>(List.range j).any p=false) ?_ ?_ 0 () (Vv _) rfl
 ·intro _ h;rw[h];exact hend
 ·intro j _ hj h next;refine V9 j hj _ (λ hp=>?_) (λ hp=>next () (by rw[Vr,h,hp];rfl));rw[Clb.2 ⟨j,Zp.2 hj,hp⟩];rfl
end
def Dba {α:Type} (l:List α) (d:α) (p:α→Bool):l.all p=(List.range l.length).all λ j=>p (l.getD j d):=by
 rw[Cxb,Yd,Yd];constructor
 ·intro h j hj;exact h _ (A3 (Zp.1 hj))
 ·intro h x hx;obtain⟨j,hj,rfl⟩:=Yh.1 hx;have:=h j (Zp.2 hj);rwa [Vb,Ve hj,Wo]at this
def O8a {α:Type} (l:List α) (d:α) (p:α→Bool):l.any p=(List.range l.length).any λ j=>p (l.getD j d):=by
 rw[Cxb,Clb,Clb];constructor
 ·rintro⟨x,hx,h⟩;obtain⟨j,hj,rfl⟩:=Yh.1 hx;exact⟨j,Zp.2 hj,by rwa [Vb,Ve hj,Wo]⟩
 ·rintro⟨j,hj,h⟩;exact⟨_,A3 (Zp.1 hj),h⟩
abbrev Wri:=ByteArray×Fil×Bool
abbrev Wld:=List Dev×Rng×List Nod×Stp×List Wri×List ByteArray
def Xua:Wri:=((⟨#[]⟩:ByteArray),((((0:Int),((0:Int),(0:Int))),(false,[])),false))
def Qk (l:List ByteArray):Bool:=(List.range l.length).all λ j=>B0 (l.getD j Me)&&(decide (j=0)||tlt (l.getD (j-1) Me) (l.getD j Me))
def Fla (c:Stp) (w:Wri):Bool:=B0 w.1&&(D8 w.2.1&&!(sle c w.2.1.1))
def Sfa (c:Stp) (l:List Wri):Bool:=l.all (Fla c)&&decide ((l.length:Int)≤200)
def Ox (l:List Dev) (ns:List Nod):Bool:=((ns.length:Int)==(l.length:Int))&&(List.range ns.length).all λ j=>((ns.getD j A7).1==(l.getD j Je).1)&&K8 (ns.getD j A7)
def Rj (w:Wld):Bool:=Hb w.2.1 w.1&&(Ox w.1 w.2.2.1&&(Gj w.2.2.2.1&&(Sfa w.2.2.2.1 w.2.2.2.2.1&&Qk w.2.2.2.2.2)))
def WIn (w:Wld):Prop:=RBd w.2.1∧w.1.length≤2000000∧(w.2.2.1.length≤2000000∧∀ n∈w.2.2.1,NIn n)∧(w.2.2.2.2.1.length≤2000000∧∀ x∈w.2.2.2.2.1,Lz x.1)∧(w.2.2.2.2.2.length≤2000000∧∀ s∈w.2.2.2.2.2,Lz s)
def Sga (w:Wld) (hw:WIn w):Tot (λ k=>Ci k w) (λ r=>r=Sfa w.2.2.2.1 w.2.2.2.2.1):=by
 obtain⟨_,_,_,⟨h1,h2⟩,_⟩:=hw;unfold Ci Sfa
 refine Bsb (Q:=λ r=>r=bif w.2.2.2.2.1.all (Fla w.2.2.2.1) then .inr w else .inl false) ?_ (by
  rintro r rfl
  cases w.2.2.2.2.1.all (Fla w.2.2.2.1)<;>exact Brb rfl)
 rw[Dba _ Xua];refine C1b (L:=λ k i=>Dd k w.2.2.2.2.1 (w.2.2.2.2.1.length:Int) i w) _ _ w ?_ ?_
 ·simp (disch:=omega) only [Dd,dF];exact Brb rfl
 ·intro j hj Q no yes;have hs:=h2 _ (A3 (d:=Xua) hj);obtain⟨x,ex⟩:∃ x:Wri,w.2.2.2.2.1.getD j Xua=x:=⟨_,rfl⟩;rw[ex]at hs;simp only[ex]at no yes;have e0:w.2.2.2.2.1.getD j ((⟨#[]⟩:ByteArray),((((0:Int),((0:Int),(0:Int))),(false,[])),false))=x:=ex;simp (disch:=omega) only [Dd,dT,Vj,w64,e0,Su,A5a,Vu];unfold Fla at no yes;refine C3b (Ke x.1 hs) ?_;refine Bxb (λ hc=>Brb (no ?_)) (λ h3=>Bxb (λ hc=>Brb (no ?_)) (λ h4=>Bxb (λ hc=>Brb (no ?_)) (λ h5=>yes ?_)))
  ·rw[Vz]at hc;rw[hc];rfl
  ·rw[Vz]at hc;rw[hc,Zb,Xs]
  ·rw[hc,Yt,Xs,Xs]
  ·rw[Ye]at h3 h4;rw[h3,h4,h5];rfl
def Dca (w:Wld) (hw:WIn w):Tot (λ k=>C8 k w.2.2.2.2.2 (w.2.2.2.2.2.length:Int) 0 w) (λ r=>r=bif Qk w.2.2.2.2.2 then .inr () else .inl false):=by
 obtain⟨_,_,_,_,h1,h2⟩:=hw;unfold Qk;refine C1b (L:=λ k i=>C8 k w.2.2.2.2.2 (w.2.2.2.2.2.length:Int) i w) _ _ () ?_ ?_
 ·simp (disch:=omega) only [C8,dF];exact Brb rfl
 ·intro j hj Q no yes;have hs:=h2 _ (A3 (d:=Me) hj);have e0:∀ i,w.2.2.2.2.2.getD i (⟨#[]⟩:ByteArray)=w.2.2.2.2.2.getD i Me:=λ _=>rfl;simp (disch:=omega) only [C8,dT,Vj,w64,e0];refine C3b (Ke _ hs) ?_;refine Bxb (λ hc=>Brb (no ?_)) (λ h3=>Byb (λ h0=>?_) (λ h0=>yes ?_))
  ·rw[Vz]at hc;rw[hc];rfl
  ·simp (disch:=omega) only [dT,w64,show toNat ((j:Int)-1)=j-1 by omega];rw[Ye]at h3;rw[h3,decide_eq_false (show ¬ j=0 by omega),Dnb,Wg]at no yes;refine Bxb (λ hc=>Brb (no ?_)) (λ h4=>yes ?_)
   ·rw[Vz]at hc;exact hc
   ·rw[Ye]at h4;exact h4
  ·rw[Ye]at h3;rw[h3,decide_eq_true (show j=0 by omega)];rfl
def Fma (w:Wld) (hw:WIn w) (hl:w.2.2.1.length=w.1.length):Tot (λ k=>Df k w.2.2.1 (w.2.2.1.length:Int) 0 w) (λ r=>r=bif Ox w.1 w.2.2.1 then .inr w else .inl false):=by
 obtain⟨_,_,⟨h1,h2⟩,_⟩:=hw;unfold Ox;rw[show ((w.2.2.1.length:Int)==(w.1.length:Int))=true by rw[beq_iff_eq];omega,Wg];refine C1b (L:=λ k i=>Df k w.2.2.1 (w.2.2.1.length:Int) i w) _ _ w ?_ ?_
 ·simp (disch:=omega) only [Df,dF];exact Brb rfl
 ·intro j hj Q no yes;have hs:=h2 _ (A3 (d:=A7) hj);obtain⟨x,ex⟩:∃ x:Nod,w.2.2.1.getD j A7=x:=⟨_,rfl⟩;rw[ex]at hs no yes;have e0:w.2.2.1.getD j ((0:Int),(([],[]),([],[])))=x:=ex;have e1:w.1.getD j ((0:Int),((0:Int),(0:Int)))=w.1.getD j Je:=rfl;simp (disch:=omega) only [Df,dT,Vj,w64,e0,e1];refine Bxb (λ hc=>Brb (no ?_)) (λ h3=>Bsb (Aka x hs) ?_)
  ·rw[bne,Vz]at hc;rw[hc];rfl
  ·rw[bne,Ye]at h3;rw[h3,Wg]at no yes;rintro b rfl;refine Bxb (λ hc=>Brb (no ?_)) (λ h4=>yes ?_)
   ·rw[Vz]at hc;exact hc
   ·rw[Ye]at h4;exact h4
def Um (w:Wld) (hw:WIn w):Tot (λ k=>B8 k w) (λ r=>r=Rj w):=by
 unfold B8 Rj;refine C3b (Rza w.2.1 w.1 hw.1 (by have:=hw.2.1;omega)) ?_;cases hr:Hb w.2.1 w.1
 ·exact Bub rfl (Brb rfl)
 refine Btb rfl ?_;rw[Wg]
 by_cases hl:w.2.2.1.length=w.1.length
 ·refine Btb (by rw[bne,hl,beq_self_eq_true];rfl) ?_;simp only[Qc,Vu];cases hs:Gj w.2.2.2.1
  ·exact Bub rfl (Brb (by rw[Zb,Xs]))
  refine Btb rfl (C3b (Sga w hw) ?_);cases hws:Sfa w.2.2.2.1 w.2.2.2.2.1
  ·exact Bub rfl (Brb (by rw[Zb,Xs,Xs]))
  refine Btb rfl (C3b (Fma w hw hl) ?_);cases Ox w.1 w.2.2.1
  ·exact Brb rfl
  refine C3b (Dca w hw) ?_
  cases Qk w.2.2.2.2.2<;>exact Brb rfl
 ·have hn:((w.2.2.1.length:Int)==(w.1.length:Int))=false:=by rw[beq_eq_false_iff_ne];omega
  refine Bub (by rw[bne,hn];rfl) (Brb ?_);unfold Ox;rw[hn];rfl

def atN:List Nod→Int→Nat→List Int
 |[],_,_=>[]
 |n::ns,id,i=>bif n.1==id then (i:Int)::atN ns id (i+1) else atN ns id (i+1)
def I2a (n:Nod) (ns:List Nod) (id:Int) (i:Nat):atN (n::ns) id i=bif n.1==id then (i:Int)::atN ns id (i+1) else atN ns id (i+1):=rfl
def whr (ns:List Nod) (ids:List Int):List Int:=ids.flatMap λ id=>atN ns id 0
def Fna (id:Int):∀ (ns:List Nod) (i:Nat),(atN ns id i).length≤ns.length
 |[],_=>Vw _
 |n::ns,i=>by
  unfold atN;have:=Fna id ns (i+1);cases n.1==id
  ·rw[cond_false,Vh];omega
  ·rw[cond_true,Vh,Vh];omega
def O9a (ns:List Nod):∀ (ids:List Int),(whr ns ids).length≤ids.length*ns.length
 |[]=>Vv _
 |id::ids=>by
  have h1:=Fna id ns 0;have h2:=O9a ns ids;unfold whr at h2 ⊢;rw[Dsb,Vi,Vh,Nat.succ_mul];omega
def Sy {ns:List Nod} {ids:List Int} (h1:ns.length≤2000000) (h2:ids.length≤2000000):(whr ns ids).length≤4000000000000:=
 Zx (O9a ns ids) (Nat.mul_le_mul h2 h1)
def Sz (ns:List Nod) (id:Int) (ids:List Int):whr ns (id::ids)=atN ns id 0++whr ns ids:=Dsb
def Wta (ns:List Nod) (a b:List Int):whr ns (a++b)=whr ns a++whr ns b:=List.flatMap_append
def W1 (w:Wld) (id:Int) (a b c:List Int) (m i0:Int) (out:List Int) (h1:w.2.2.1.length≤2000000) (ho:out.length≤4000000000000):
  Tot (λ k=>Cr k out id a m i0 w.2.2.1 (w.2.2.1.length:Int) 0 w) (λ r=>r=(out++atN w.2.2.1 id 0,a,m,i0,w)):=by
 have m1:=Fna id w.2.2.1 0;refine C0b (L:=λ k i (s:List Int)=>Cr k s id a m i0 w.2.2.1 (w.2.2.1.length:Int) i w) (Q:=λ r=>r=(out++atN w.2.2.1 id 0,a,m,i0,w)) w.2.2.1.length (λ j s=>s++atN (w.2.2.1.drop j) id j=out++atN w.2.2.1 id 0) ?_ ?_ 0 out (Vv _) rfl
 ·intro s h;rw[Wm]at h;simp (disch:=omega) only [Cr,dF];refine Brb ?_;rw[← h];show _=(s++[],a,m,i0,w);rw[Yf]
 ·intro j s hj h next;have g:=congrArg length h;rw[Vi,Vi]at g;rw[Bo (d:=A7) hj,I2a]at h;obtain⟨x,ex⟩:∃ x:Nod,w.2.2.1.getD j A7=x:=⟨_,rfl⟩;rw[ex]at h;have e0:w.2.2.1.getD j ((0:Int),(([],[]),([],[])))=x:=ex;simp (disch:=omega) only [Cr,dT,Vj,w64,e0]
  cases hx:x.1==id with
  |true=>
   rw[hx,cond_true]at h;refine Bub rfl (Bzb (by simp only[Vh,Vq];omega) (next (s++[(j:Int)]) ?_));rw[← h,Vp];rfl
  |false=>
   rw[hx,cond_false]at h;refine Btb rfl (next s h)
def Pk (w:Wld) (ids:List Int) (h1:w.2.2.1.length≤2000000) (h2:ids.length≤2000000):Tot (λ k=>Cd k w ids) (λ r=>r=whr w.2.2.1 ids):=by
 have m1:=Sy h1 h2;unfold Cd;refine Bsb (Q:=λ r=>r=whr w.2.2.1 ids) ?_ (by rintro r rfl;exact Brb rfl);refine C0b (L:=λ k i (s:List Int)=>E3 k s ids (ids.length:Int) i w) (Q:=λ r=>r=whr w.2.2.1 ids) ids.length (λ j s=>s++whr w.2.2.1 (ids.drop j)=whr w.2.2.1 ids) ?_ ?_ 0 [] (Vv _) rfl
 ·intro s h;rw[Wm]at h;simp (disch:=omega) only [E3,dF];refine Brb ?_;rw[← h];exact(Yf s).symm
 ·intro j s hj h next;have g:=congrArg length h;rw[Vi]at g;rw[Bo (d:=0) hj,Sz]at h;simp (disch:=omega) only [E3,dT,Vj,w64];refine C3b (W1 w (ids.getD j 0) ids [] [] (ids.length:Int) (j:Int) s h1 (by omega)) ?_;simp (disch:=omega) only [w64];exact next _ (by rw[Vp];exact h)
def Rk (id:Int):∀ (ns:List Nod) (i:Nat) (x:Int),x∈atN ns id i↔∃ j,j<ns.length∧(ns.getD j A7).1=id∧x=((i+j:Nat):Int)
 |[],i,x=>by simp[atN]
 |n::ns,i,x=>by
  have ih:=Rk id ns (i+1) x
  have tl:(∃ j,j<(n::ns).length∧((n::ns).getD j A7).1=id∧x=((i+j:Nat):Int))↔(n.1=id∧x=(i:Int))∨x∈atN ns id (i+1):=by
   rw[ih];constructor
   ·rintro⟨j,h1,h2,h3⟩
    cases j with
    |zero=>exact .inl ⟨h2,by omega⟩
    |succ j=>exact .inr ⟨j,by simpa using h1,by simpa using h2,by omega⟩
   ·rintro (⟨h1,h2⟩|⟨j,h1,h2,h3⟩)
    ·exact⟨0,by simp,h1,by omega⟩
    ·exact⟨j+1,by simpa using h1,by simpa using h2,by omega⟩
  rw[tl,I2a]
  cases hx:n.1==id with
  |true=>
   rw[cond_true,Vl,eq_of_beq hx];simp
  |false=>
   rw[cond_false];have:=beq_eq_false_iff_ne.1 hx;simp[this]
def Pl {ns:List Nod} {ids:List Int} {x:Int}:x∈whr ns ids↔∃ j,j<ns.length∧(ns.getD j A7).1∈ids∧x=(j:Int):=by
 unfold whr;rw[List.mem_flatMap];constructor
 ·rintro⟨id,h1,h2⟩;obtain⟨j,h3,h4,h5⟩:=(Rk _ _ _ _).1 h2;exact⟨j,h3,h4 ▸ h1,by omega⟩
 ·rintro⟨j,h3,h4,h5⟩;exact⟨_,h4,(Rk _ _ _ _).2 ⟨j,h3,rfl,by omega⟩⟩
def contacts (w:Wld) (x:ByteArray):List Int:=whr w.2.2.1 (N8 w.2.1 x++Ld w.2.1 w.1 x)
def Ki:ByteArray:=⟨#[108,105,115,116]⟩
def Ar (w:Wld):List Int:=whr w.2.2.1 (N8 w.2.1 Ki)
def Ql {r:Rng} (hr:RBd r) (x:ByteArray):(N8 r x).length≤2000000:=by
 unfold N8
 by_cases hm:Uha x % r.2.length<r.2.length
 ·exact hr.2 _ (A3 (d:=[]) hm)
 ·rw[Vb,Yu (by omega)];exact Vv _
def Ry (r:Rng) (l:List Dev) (x:ByteArray):(Ld r l x).length≤l.length+l.length:=by
 unfold Ld;rw[Vi];have h1:=Asa (N8 r x) (C2 (N8 r x) l) false l;have h2:=Asa (N8 r x) (C2 (N8 r x) l) true l;omega
def Dda (w:Wld) (x:ByteArray) (h:Hb w.2.1 w.1=true) (hn:w.2.2.1.length≤2000000) (hx:x.size≤1000000000):Tot (λ k=>Bw k w x) (λ r=>r=(contacts w x,w)):=by
 have h5:=(Cb.1 h).2.1;have p2:=(Pj h x).2.1;have h12:=(Dy.1 (Cb.1 h).1).2.2.2;have hh:=Ry w.2.1 w.1 x;unfold Bw contacts;refine C3b (Qj _ x (Kw h) hx) ?_;refine C3b (Sea _ _ x h hx) ?_;refine Bzb (by omega) (C3b (Pk w _ hn (by rw[Vi];omega)) ?_);exact Brb rfl
def Pm (w:Wld) (hr:RBd w.2.1) (hn:w.2.2.1.length≤2000000):Tot (λ k=>D7 k w) (λ r=>r=Ar w):=by
 unfold D7;refine C3b (Qj _ Ki hr (by decide)) ?_;refine C3b (Pk w _ hn (Ql hr _)) ?_;exact Brb rfl
def quo (n:Int):Int:=n/2+1
def B4b {n:Int} (h0:0≤n):Int.tdiv n 2=n/2:=Ecb h0
def Wua {n:Int} (h0:0≤n) (h1:n≤1000000000):Gw n=some (quo n):=by
 unfold Gw quo;rw[B4b h0,w64 (n:=n/2) (by omega) (by omega),w64 (n:=n/2+1) (by omega) (by omega)]
def rch (l:List Int) (i:Nat):Int:=bif decide (i<l.length)&&inR (l.getD i 0) 1 3 then l.getD i 0 else 0
def Ata (l:List Int) (i:Nat):C1 l (i:Int)=some (rch l i):=by
 unfold C1 rch
 by_cases h:i<l.length
 ·simp (disch:=omega) only [dT,Vj,Nt,Vu];rw[decide_eq_true h,Wg]
  cases inR (l.getD i 0) 1 3<;>rfl
 ·rw[dF (by omega),decide_eq_false h];rfl

def Wva (a b:Fil):Bool:=((a.1.1==b.1.1)&&((a.1.2.1==b.1.2.1)&&(a.1.2.2==b.1.2.2)))&&((a.2.1==b.2.1)&&((Jc a.2.2).toList==(Jc b.2.2).toList))
def Oaa {a b:Fil} (ha:Aq a.2.2) (hb:Aq b.2.2):Wva a b=true↔a=b:=by
 unfold Wva;rw[Csa ha hb];obtain⟨⟨a1,a2,a3⟩,a4,a5⟩:=a;obtain⟨⟨b1,b2,b3⟩,b4,b5⟩:=b;simp only[Va,beq_iff_eq,decide_eq_true_iff,Vy]

def Wwa (a b:Row):Bool:=(a.1==b.1)&&((a.2.1.1==b.2.1.1)&&((a.2.1.2.1==b.2.1.2.1)&&((a.2.1.2.2==b.2.1.2.2)&&((a.2.2.1==b.2.2.1)&&(a.2.2.2==b.2.2.2)))))
def Dea {a b:Row}:Wwa a b=true↔a=b:=by
 unfold Wwa;obtain⟨a0,⟨a1,a2,a3⟩,a4,a5⟩:=a;obtain⟨b0,⟨b1,b2,b3⟩,b4,b5⟩:=b;simp only[Ss,Va,beq_iff_eq,Vy,C6];constructor
 ·rintro⟨h0,h1,h2,h3,h4,h5⟩;exact⟨h0,⟨h1,h2,h3⟩,h4,h5⟩
 ·rintro⟨h0,⟨h1,h2,h3⟩,h4,h5⟩;exact⟨h0,h1,h2,h3,h4,h5⟩
def Rl (ws:List Wri) (r:Row):Bool:=ws.any λ x=>Wwa (M7 x.1 x.2.1) r
def Bgb:Row:=((⟨#[]⟩:ByteArray),(((0:Int),((0:Int),(0:Int))),(false,(0:Int))))

def run {α:Type} (st:α→Nat→α) (n:Nat) (a:α):α:=(List.range n).foldl st a
def J1 {α:Type} (st:α→Nat→α) (n:Nat) (a:α):run st (n+1) a=st (run st n a) n:=by
 unfold run;rw[Eab,Cyb];rfl
def Sha {α:Type} {st:α→Nat→α} {a:α} {j n:Nat} (hj:j≤n) (h:∀ i,st (run st j a) i=run st j a):run st n a=run st j a:=by
 obtain⟨m,rfl⟩:=Nat.exists_eq_add_of_le hj
 induction m with
 |zero=>rfl
 |succ m ih=>rw[← Zj,J1,ih (by omega),h]
def Hs {α:Type} {st:α→Nat→α} (P:Nat→α→Prop) {n:Nat} {a:α} (h0:P 0 a) (hs:∀ j b,j<n→P j b→P (j+1) (st b j)):P n (run st n a):=by
 have:∀ m,m≤n→P m (run st m a):=by
  intro m
  induction m with
  |zero=>intro _;exact h0
  |succ m ih=>intro hm;rw[J1];exact hs m _ (by omega) (ih (by omega))
 exact this n (Vw _)
def NS (ns:List Nod):Prop:=ns.length≤2000000∧∀ n∈ns,NG n
def NS.set {ns:List Nod} (h:NS ns) {i:Nat} {n:Nod} (hn:NG n):NS (ns.set i n):=⟨by rw[Vt];exact h.1,λ m hm=>by
 rcases Ze hm with hm|rfl
 ·exact h.2 m hm
 ·exact hn⟩
def NS.get {ns:List Nod} (h:NS ns) {i:Nat} (hi:i<ns.length):NG (ns.getD i A7):=h.2 _ (A3 hi)
abbrev wN (w:Wld) (ns:List Nod):Wld:=(w.1,w.2.1,ns,w.2.2.2)
def Ig (c:Stp) (t d:Int):Stp:=bif decide (t≤c.1) then (bif Gj (c.1,c.2.1+1,d) then (c.1,c.2.1+1,d) else c) else (bif Gj (t,0,d) then (t,0,d) else c)
def T0 {c:Stp} (hc:Gj c=true) (t d:Int):Gj (Ig c t d)=true∧(Ig c t d=c∨sle c (Ig c t d)=true):=by
 unfold Ig
 by_cases h:t≤c.1
 ·rw[decide_eq_true h,cond_true]
  cases hs:Gj (c.1,c.2.1+1,d) with
  |true=>exact⟨hs,.inr (Ks.2 (.inr ⟨rfl,.inl (by show c.2.1<c.2.1+1;omega)⟩))⟩
  |false=>exact⟨hc,.inl rfl⟩
 ·rw[decide_eq_false h,cond_false]
  cases hs:Gj (t,0,d) with
  |true=>exact⟨hs,.inr (Ks.2 (.inl (by show c.1<t;omega)))⟩
  |false=>exact⟨hc,.inl rfl⟩
def wst (R:Int) (rc:List Int) (s:ByteArray) (f:Fil) (cs:List Int) (a:List Nod×Int×Int) (j:Nat):List Nod×Int×Int:=
 bif decide (a.2.1<R) then (bif rch rc j==0 then a else
  (a.1.set (cs.getD j 0).toNat (Ll (a.1.getD (cs.getD j 0).toNat A7) s f (rch rc j != 3)).1,a.2.1+1,
   bif rch rc j==1&&((Ll (a.1.getD (cs.getD j 0).toNat A7) s f (rch rc j != 3)).2==0||(Ll (a.1.getD (cs.getD j 0).toNat A7) s f (rch rc j != 3)).2==1) then a.2.2+1 else a.2.2))
 else a
def wrN (w:Wld) (s:ByteArray) (f:Fil) (rc:List Int):List Nod×Int×Int:=run (wst w.2.1.1 rc s f (contacts w s)) (contacts w s).length (w.2.2.1,0,0)
def Nx (w:Wld) (s:ByteArray) (f:Fil) (rc:List Int):Int×Wld:=
 (bif decide ((wrN w s f rc).2.2≥quo w.2.1.1) then 0 else 1,(w.1,w.2.1,(wrN w s f rc).1,w.2.2.2.1,w.2.2.2.2.1++[(s,f,decide ((wrN w s f rc).2.2≥quo w.2.1.1))],w.2.2.2.2.2))
def J4 {w:Wld} {s:ByteArray} {x:Int} (h:x∈contacts w s):0≤x∧x<(w.2.2.1.length:Int):=by
 obtain⟨j,h1,_,rfl⟩:=Pl.1 h;omega
def Zla {R:Int} {rc:List Int} {s:ByteArray} {f:Fil} {cs:List Int} {a:List Nod×Int×Int} {j m:Nat} (hs:B0 s=true) (hf:D8 f=true) (h:NS a.1∧a.1.length=m∧(0≤a.2.1∧a.2.1≤j)∧0≤a.2.2∧a.2.2≤j) (hc:(cs.getD j 0).toNat<m):
  let b:=wst R rc s f cs a j
  NS b.1∧b.1.length=m∧(0≤b.2.1∧b.2.1≤((j+1:Nat):Int))∧0≤b.2.2∧b.2.2≤((j+1:Nat):Int):=by
 obtain⟨h1,h2,h3,h4,h5⟩:=h;intro b;have hb:b=wst R rc s f cs a j:=rfl;unfold wst at hb;cases hR:decide (a.2.1<R)
 ·rw[hR,cond_false]at hb;rw[hb];exact⟨h1,h2,⟨h3.1,by omega⟩,h4,by omega⟩
 rw[hR,cond_true]at hb;cases hr:rch rc j==0
 case true=>rw[hr,cond_true]at hb;rw[hb];exact⟨h1,h2,⟨h3.1,by omega⟩,h4,by omega⟩
 rw[hr,cond_false]at hb;rw[hb];refine⟨h1.set (Hna (h1.get (by omega)) hs hf),by rw[List.length_set];exact h2,⟨by dsimp only;omega,by dsimp only;omega⟩,?_⟩;dsimp only;cases rch rc j==1&&((Ll (a.1.getD (cs.getD j 0).toNat A7) s f (rch rc j != 3)).2==0||(Ll (a.1.getD (cs.getD j 0).toNat A7) s f (rch rc j != 3)).2==1)
 ·exact⟨h4,by rw[cond_false];omega⟩
 ·exact⟨by rw[cond_true];omega,by rw[cond_true];omega⟩
def ask (w:Wld) (s:ByteArray) (f:Fil) (t:Int) (rc:List Int):Int×Wld:=
 bif !(B0 s) then (2,w) else bif decide ((f.2.2.length:Int) > 200) then (2,w) else bif !(inR t 0 1000000000) then (2,w) else
 bif (w.2.2.2.2.1.length:Int)==200 then (3,w) else
 bif (Ig w.2.2.2.1 t 0).1==w.2.2.2.1.1&&((Ig w.2.2.2.1 t 0).2.1==w.2.2.2.1.2.1&&(Ig w.2.2.2.1 t 0).2.2==w.2.2.2.1.2.2) then (3,w) else
 Nx (w.1,w.2.1,w.2.2.1,Ig w.2.2.2.1 t 0,w.2.2.2.2) s (Ig w.2.2.2.1 t 0,f.2) rc
def pst (src:Int) (s:ByteArray) (f:Fil) (rc ps:List Int) (a:List Nod×Bool×Bool) (j:Nat):List Nod×Bool×Bool:=
 bif ps.getD j 0==src then (a.1,true,a.2.2) else bif rch rc j != 1 then (a.1,a.2.1,false) else
  (a.1.set (ps.getD j 0).toNat ((a.1.getD (ps.getD j 0).toNat A7).1,(keep (a.1.getD (ps.getD j 0).toNat A7).2.1 s f true).1,(a.1.getD (ps.getD j 0).toNat A7).2.2),a.2.1,
   bif (keep (a.1.getD (ps.getD j 0).toNat A7).2.1 s f true).2 != 0&&(keep (a.1.getD (ps.getD j 0).toNat A7).2.1 s f true).2 != 1 then false else a.2.2)
def I0 (w:Wld) (s:ByteArray):List Int:=whr w.2.2.1 (N8 w.2.1 s)
def puN (w:Wld) (i:Nat) (s:ByteArray) (rc:List Int):List Nod×Bool×Bool:=run (pst (i:Int) s (lkD (w.2.2.1.getD i A7).2.1 s).1 rc (I0 w s)) (I0 w s).length (w.2.2.1,false,true)
def Xva (n:Nod) (s:ByteArray):Nod:=(n.1,(syD (rmD n.2.1 s).1 s).1,n.2.2)
def N9 (w:Wld) (i:Nat) (s:ByteArray) (rc:List Int):Bool×Wld:=bif (lkD (w.2.2.1.getD i A7).2.1 s).2 != 0 then (false,w) else
 (true,wN w (bif (puN w i s rc).2.2&&!(puN w i s rc).2.1 then (puN w i s rc).1.set i (Xva ((puN w i s rc).1.getD i A7) s) else (puN w i s rc).1))
def Uia {n:Nod} (hn:NG n) {s:ByteArray} (hs:B0 s=true):NG (Xva n s):=Ara hn (Zba (Zca hn.g) hs)
def Un {n:Nod} (hn:NG n) {s:ByteArray} {f:Fil} {sure:Bool}:NG (n.1,(keep n.2.1 s f sure).1,n.2.2):=Ara hn (U8a hn.g)
def Uja {src:Int} {s:ByteArray} {f:Fil} {rc ps:List Int} {a:List Nod×Bool×Bool} {j m:Nat} (h:NS a.1∧a.1.length=m) (hc:(ps.getD j 0).toNat<m):NS (pst src s f rc ps a j).1∧(pst src s f rc ps a j).1.length=m:=by
 unfold pst;cases ps.getD j 0==src
 case true=>exact h
 cases rch rc j != 1 with
 |true=>exact h
 |false=>exact⟨h.1.set (Un (h.1.get (by have:=h.2;omega))),by rw[cond_false,cond_false,Vt];exact h.2⟩
def Jj {w:Wld} {s:ByteArray} {x:Int} (h:x∈I0 w s):0≤x∧x<(w.2.2.1.length:Int):=by
 obtain⟨j,h1,_,rfl⟩:=Pl.1 h;omega
def Oba {w:Wld} {s:ByteArray} (hr:Hb w.2.1 w.1=true) (hn:w.2.2.1.length≤2000000):(I0 w s).length≤4000000000000:=Sy hn (Ql (Kw hr) s)
def Zma {w:Wld} {i:Nat} {s:ByteArray} {rc:List Int} (hn:NS w.2.2.1):NS (puN w i s rc).1∧(puN w i s rc).1.length=w.2.2.1.length:=
 Hs (λ _ (b:List Nod×Bool×Bool)=>NS b.1∧b.1.length=w.2.2.1.length) ⟨hn,rfl⟩ (λ j b hj hb=>Uja hb (by have:=Jj (A3 (d:=0) hj);omega))

def tk (n:Nod) (l:List Row):Bool×Nod:=bif decide ((Ky n.2.2.1 l).length > 60) then (false,n) else (true,(n.1,n.2.1,Ky n.2.2.1 l,n.2.2.2))
def Aib {n:Nod} {l:List Row} (hn:NG n) (hl:Ho l=true):NG (tk n l).2:=by
 obtain⟨h1,h2,h3,h4,h5⟩:=Bj.1 hn.1;unfold tk
 by_cases h:(Ky n.2.2.1 l).length > 60
 ·rw[decide_eq_true h];exact hn
 ·rw[decide_eq_false h];exact⟨Bj.2 ⟨h1,h2,h3,Fha h4 hl (by omega),h5⟩,hn.2⟩
def gst (src:Int) (l:List Row) (self:Bool) (rc ls:List Int) (a:List Nod×Bool) (j:Nat):List Nod×Bool:=
 bif ls.getD j 0==src&&!self then a else bif rch rc j != 1 then (a.1,false) else
  (a.1.set (ls.getD j 0).toNat (tk (a.1.getD (ls.getD j 0).toNat A7) l).2,bif (tk (a.1.getD (ls.getD j 0).toNat A7) l).1 then a.2 else false)
def I7 (w:Wld) (src:Int) (l:List Row) (self:Bool) (rc:List Int):List Nod×Bool:=run (gst src l self rc (Ar w)) (Ar w).length (w.2.2.1,true)
def Uka {src:Int} {l:List Row} {self:Bool} {rc ls:List Int} {a:List Nod×Bool} {j m:Nat} (hl:Ho l=true) (h:NS a.1∧a.1.length=m) (hc:(ls.getD j 0).toNat<m):NS (gst src l self rc ls a j).1∧(gst src l self rc ls a j).1.length=m:=by
 unfold gst;cases ls.getD j 0==src&&!self
 case true=>exact h
 cases rch rc j != 1 with
 |true=>exact h
 |false=>exact⟨h.1.set (Aib (h.1.get (by have:=h.2;omega)) hl),by rw[cond_false,cond_false,Vt];exact h.2⟩
def Io {w:Wld} {x:Int} (h:x∈Ar w):0≤x∧x<(w.2.2.1.length:Int):=by
 obtain⟨j,h1,_,rfl⟩:=Pl.1 h;omega
def Uo {w:Wld} (hr:RBd w.2.1) (hn:w.2.2.1.length≤2000000):(Ar w).length≤4000000000000:=Sy hn (Ql hr _)
def Qm {w:Wld} {src:Int} {l:List Row} {self:Bool} {rc:List Int} (hl:Ho l=true) (hn:NS w.2.2.1):NS (I7 w src l self rc).1∧(I7 w src l self rc).1.length=w.2.2.1.length:=
 Hs (λ _ (b:List Nod×Bool)=>NS b.1∧b.1.length=w.2.2.1.length) ⟨hn,rfl⟩ (λ j b hj hb=>Uka hl hb (by have:=Io (A3 (d:=0) hj);omega))
def K0a {r:Row} (h:Lj r=true):Ho [r]=true:=I5.2 ⟨Ccb _ _,λ x hx=>by rw[Vn.1 hx];exact h,by simp⟩
def Rm:Ho []=true:=I5.2 ⟨List.Pairwise.nil,(λ _ hx=>nomatch hx),Vv _⟩
def Oy (n:Nod):Nod:=(n.1,n.2.1,[],n.2.2.2)
def Sia (n:Nod) (q:List Row):Nod:=(n.1,n.2.1,n.2.2.1,q)
def I3a {n:Nod} (hn:NG n):NG (Oy n):=by
 obtain⟨h1,h2,h3,h4,h5⟩:=Bj.1 hn.1;exact⟨Bj.2 ⟨h1,h2,h3,Rm,h5⟩,hn.2⟩
def Ula {n:Nod} {q:List Row} (hn:NG n) (h:∀ r∈q,Lj r=true) (hl:q.length≤60):NG (Sia n q):=by
 obtain⟨h1,h2,h3,h4,h5⟩:=Bj.1 hn.1;exact⟨Bj.2 ⟨h,h2,h3,h4,hl⟩,hn.2⟩
def Ha (w:Wld) (i:Nat) (rc:List Int):List Nod×Bool:=I7 w (i:Int) (w.2.2.1.getD i A7).2.2.1 false rc
def M9 (w:Wld) (i:Nat) (rc:List Int):Bool×Wld:=bif ((w.2.2.1.getD i A7).2.2.1.length:Int)==0 then (false,w) else
 (true,wN w (bif (Ha w i rc).2&&!(Gp (Ar (wN w (Ha w i rc).1)) (i:Int)) then (Ha w i rc).1.set i (Oy ((Ha w i rc).1.getD i A7)) else (Ha w i rc).1))
def Ih (w:Wld) (i:Nat) (rc:List Int):List Nod×Bool:=I7 w (i:Int) ((w.2.2.1.getD i A7).2.2.2.take 1) true rc
def N1 (w:Wld) (i:Nat) (rc:List Int):Bool×Wld:=bif ((w.2.2.1.getD i A7).2.2.2.length:Int)==0 then (false,w) else
 (true,wN w (bif (Ih w i rc).2 then (Ih w i rc).1.set i (Sia ((Ih w i rc).1.getD i A7) ((w.2.2.1.getD i A7).2.2.2.drop 1)) else (Ih w i rc).1))
def J5 {q:List Row} (h:∀ r∈q,Lj r=true):Ho (q.take 1)=true:=by
 cases q with
 |nil=>exact Rm
 |cons r q=>exact K0a (h r Wl)
def Oca:∀ (k:Nat) (l:List ByteArray) (s:ByteArray),k<l.length→∃ j,j≤k∧(Xta l k s).2=j∧(Xta l k s).1.set j s=l.take j++s::((l.take k).drop j++l.drop (k+1))∧(∀ y∈(l.take k).drop j,tlt s y=true)∧(0<j→tlt s (l.getD (j-1) Me)=false)
 |0,l,s,hk=>by
  refine⟨0,Vw _,rfl,?_,λ y hy=>by simp at hy,λ h=>by omega⟩
  cases l with
  |nil=>simp at hk
  |cons x l=>rfl
 |k+1,l,s,hk=>by
  unfold Xta
  cases hc:tlt s (l.getD k Me) with
  |false=>
   rw[cond_false];refine⟨k+1,Vw _,rfl,?_,λ y hy=>?_,λ _=>hc⟩
   ·rw[Dbb,D1b,Zz,Wn];exact Cmb .. |>.trans (if_pos hk)
   ·rw[Dbb,D1b,Zz]at hy;cases hy
  |true=>
   rw[cond_true];obtain⟨j,h1,h2,h3,h4,h5⟩:=Oca k (l.set (k+1) (l.getD k Me)) s (by rw[Vt];omega)
   have t1:(l.set (k+1) (l.getD k Me)).take j=l.take j:=by rw[E7b (by omega)]
   have t2:(l.set (k+1) (l.getD k Me)).take k=l.take k:=by rw[E7b (by omega)]
   have t3:(l.set (k+1) (l.getD k Me)).drop (k+1)=l.getD k Me::l.drop (k+2):=by
    rw[Zi (by rw[Vt];exact hk),List.getElem_set_self,List.drop_set_of_lt (by omega)]
   have t4:l.take (k+1)=l.take k++[l.getD k Me]:=by
    rw[We (by omega),Vb,Ve (by omega),Wo]
   have hlk:(l.take k).length=k:=by rw[Vs];omega
   rw[t1,t2,t3]at h3;rw[t2]at h4;refine⟨j,by omega,h2,?_,λ y hy=>?_,λ h=>?_⟩
   ·rw[h3,t4,E0b (by omega),Vp];rfl
   ·rw[t4,E0b (by omega)]at hy;rcases Vm.1 hy with hy|hy
    ·exact h4 y hy
    ·rw[Vn.1 hy];exact hc
   ·have:=h5 h;rwa [Vb,D9b (by omega),← Vb]at this
def Xj {l:List ByteArray} {s:ByteArray}:∃ j,j≤l.length∧Ahb l s=l.take j++s::l.drop j∧(∀ y∈l.drop j,tlt s y=true)∧(0<j→tlt s (l.getD (j-1) Me)=false):=by
 obtain⟨j,h1,h2,h3,h4,h5⟩:=Oca l.length (l++[s]) s (by simp)
 have t1:(l++[s]).take l.length=l:=by rw[E1b (Vw _),Yx]
 have t2:(l++[s]).drop (l.length+1)=[]:=Dob (by simp);have t3:(l++[s]).take j=l.take j:=E1b h1;rw[t1]at h4;rw[t1,t2,t3,Yf]at h3;refine⟨j,h1,?_,h4,λ h=>?_⟩
 ·unfold Ahb;rw[h2,h3]
 ·have:=h5 h;rwa [Vb,Yl (by omega),← Vb]at this
def spl (l:List ByteArray) (s:ByteArray):List ByteArray:=bif Saa l s then l else Ahb l s
def Aua {l:List ByteArray} {s y:ByteArray}:y∈spl l s↔y=s∨y∈l:=by
 unfold spl
 cases h:Saa l s with
 |true=>
  have:=N0.1 h;exact⟨.inr,λ h=>h.elim (λ e=>e ▸ this) id⟩
 |false=>
  obtain⟨j,_,e,_⟩:=Xj (l:=l) (s:=s);rw[cond_false,e,Vm,Vl]
  conv=>rhs;rw[← Wh j l,Vm]
  constructor
  ·rintro (h|h|h)
   ·exact .inr (.inl h)
   ·exact .inl h
   ·exact .inr (.inr h)
  ·rintro (h|h|h)
   ·exact .inr (.inl h)
   ·exact .inl h
   ·exact .inr (.inr h)
def Xk {l:List ByteArray} {s:ByteArray} (h:TS l):TS (spl l s):=by
 unfold spl;cases hh:Saa l s
 case true=>exact h
 have hn:s∉l:=λ c=>by rw[N0.2 c]at hh;cases hh
 obtain⟨j,h1,e,h4,h5⟩:=Xj (l:=l) (s:=s);rw[cond_false,e]
 have hs:∀ y∈l.take j,tlt y s=true:=by
  intro y hy
  by_cases hj:0<j
  ·have hlast:l.getD (j-1) Me∈l:=A3 (by omega)
   have hlt:tlt (l.getD (j-1) Me) s=true:=by
    cases hc:tlt (l.getD (j-1) Me) s with
    |true=>rfl
    |false=>exact absurd (U3 hc (h5 hj) ▸ hlast) hn
   obtain⟨i,hi,rfl⟩:=Yh.1 hy;rw[Vs]at hi;rw[D8b]
   by_cases hij:i=j-1
   ·subst hij;rwa [Vb,Ve (by omega),Wo]at hlt
   ·have:=Yn.1 h i (j-1) (by omega) (by omega) (by omega);rw[Vb,Ve (by omega),Wo]at hlt;exact Iz this hlt
  ·rw[show j=0 by omega,Zz]at hy;cases hy
 have hd:TS (l.drop j):=h.sublist (List.drop_sublist _ _);have ht:TS (l.take j):=h.sublist (Emb _ _)
 exact Zg.2 ⟨ht,Wa.2 ⟨h4,hd⟩,λ a ha b hb=>by
  rcases Vl.1 hb with rfl|hb
  ·exact hs a ha
  ·exact Iz (hs a ha) (h4 b hb)⟩

abbrev Evt:=Int×Int×ByteArray×List Int×Int×List Int
def B5b (l:List Int):List Bool:=l.map (· == 1)
def crN (n:Nod) (kp:List Bool):Nod:=(n.1,Se n.2.1 kp,n.2.2)
def Zna {n:Nod} {kp:List Bool} (hn:NG n):NG (crN n kp):=Ara hn (Wpa hn.g)
def Zoa (w:Wld) (i:Nat) (s:ByteArray) (b:Int):Bool×Wld:=bif (Nsa (w.2.2.1.getD i A7) s b).2 then (true,(w.1,w.2.1,w.2.2.1.set i (Nsa (w.2.2.1.getD i A7) s b).1,w.2.2.2.1,w.2.2.2.2.1,spl w.2.2.2.2.2 s)) else (false,w)
def Oda (w:Wld) (e:Evt) (i:Nat):Bool×Wld:=
 bif e.1==3 then N9 w i e.2.2.1 e.2.2.2.2.2 else bif e.1==4 then M9 w i e.2.2.2.2.2 else bif e.1==5 then N1 w i e.2.2.2.2.2 else
 bif e.1==6 then (true,wN w (w.2.2.1.set i (Uga (w.2.2.1.getD i A7)).1)) else
 bif e.1==7 then (true,wN w (w.2.2.1.set i (crN (w.2.2.1.getD i A7) (B5b e.2.2.2.2.2)))) else Zoa w i e.2.2.1 e.2.2.2.2.1
def Oea (w:Wld) (i wt:Int):Bool×Wld:=bif !(inR i 0 ((w.1.length:Int)-1)) then (false,w) else bif !(inR wt 1 1000) then (false,w) else
 (decide ((Jva w.2.1 (wgt w.1 i.toNat wt)).2≥0),(wgt w.1 i.toNat wt,(Jva w.2.1 (wgt w.1 i.toNat wt)).1,w.2.2))
def Xwa (r:Int×Wld):Bool×Wld:=bif r.1 != 2 then (r.1 != 3,r.2) else (false,r.2)
def doW (w:Wld) (e:Evt):Bool×Wld:=
 bif e.1==1 then Xwa (ask w e.2.2.1 ((0,0,0),false,e.2.2.2.1) e.2.2.2.2.1 e.2.2.2.2.2) else
 bif e.1==2 then Xwa (ask w e.2.2.1 ((0,0,0),true,[]) e.2.2.2.2.1 e.2.2.2.2.2) else
 bif e.1==3||(e.1==4||(e.1==5||(e.1==6||(e.1==7||e.1==8)))) then (bif inR e.2.1 0 ((w.2.2.1.length:Int)-1) then Oda w e e.2.1.toNat else (false,w)) else
 bif e.1==9 then Oea w e.2.1 e.2.2.2.2.1 else (false,w)

def N4 {a b c:Stp} (h1:sle a b=false) (h2:sle b c=false):sle a c=false:=by
 cases h:sle a c
 ·rfl
 have n1:¬ _:=λ k=>by rw[Ks.2 k]at h1;cases h1
 have n2:¬ _:=λ k=>by rw[Ks.2 k]at h2;cases h2
 have h3:=Ks.1 h;omega
def Ny {a b:Stp} (h:sle a b=true):sle b a=false:=by
 cases h':sle b a
 ·rfl
 have h1:=Ks.1 h;have h2:=Ks.1 h';omega
def Ava (ws:List Wri):Prop:=∀ x∈ws,B0 x.1=true∧D8 x.2.1=true∧Aq x.2.1.2.2
def IsW (ws:List Wri) (s:ByteArray) (f:Fil):Prop:=∃ x∈ws,x.1=s∧x.2.1=f
def EO (ws:List Wri) (sp:List ByteArray) (s:ByteArray) (b:List Int):Prop:=∃ f,IsW ws s f∧(b=H0 f∨(s∈sp∧∃ n,n<8*(H0 f).length∧b=Ku (H0 f) n))
def ED (ws:List Wri) (sp:List ByteArray) (d:Dsk) (s:ByteArray):Prop:=
 (∀ b,gt d.1 s=some b→EO ws sp s b)∧(∀ b,gt d.2 s=some b→EO ws sp s b)∧
 (s∉sp→∀ b f,gt d.2 s=some b→K6 b=some f→∃ b' f',gt d.1 s=some b'∧K6 b'=some f'∧sle f'.1 f.1=false)
def DI (ws:List Wri) (sp:List ByteArray) (d:Dsk):Prop:=∀ s,ED ws sp d s
def HD (d:Dsk) (s:ByteArray) (st:Stp):Prop:=∃ b f,gt d.2 s=some b∧K6 b=some f∧sle f.1 st=false
def MO (sp:List ByteArray) (d d':Dsk):Prop:=∀ s,s∉sp→∀ st,HD d s st→HD d' s st
def IsW.good {ws:List Wri} (hw:Ava ws) {s:ByteArray} {f:Fil} (h:IsW ws s f):B0 s=true∧D8 f=true∧Aq f.2.2:=by
 obtain⟨x,hx,rfl,rfl⟩:=h;exact hw x hx
def EO.get {ws:List Wri} {sp:List ByteArray} (hw:Ava ws) {s:ByteArray} {b:List Int} (h:EO ws sp s b) {f:Fil} (hf:K6 b=some f):IsW ws s f∧b=H0 f:=by
 obtain⟨g,h1,h2⟩:=h;obtain⟨_,g2,g3⟩:=h1.good hw;rcases h2 with rfl|⟨_,n,hn,rfl⟩
 ·rw[My g2 g3]at hf;cases hf;exact⟨h1,rfl⟩
 ·rw[S6a g2 hn]at hf;cases hf
def EO.fine {ws:List Wri} {sp:List ByteArray} (hw:Ava ws) {s:ByteArray} {b:List Int} (h:EO ws sp s b) (hs:s∉sp):∃ f,K6 b=some f∧IsW ws s f:=by
 obtain⟨g,h1,h2⟩:=h;obtain⟨_,g2,g3⟩:=h1.good hw;rcases h2 with rfl|⟨h,_⟩
 ·exact⟨g,My g2 g3,h1⟩
 ·exact absurd h hs
def EO.mono {ws ws':List Wri} {sp sp':List ByteArray} (h1:∀ x∈ws,x∈ws') (h2:∀ s∈sp,s∈sp') {s:ByteArray} {b:List Int} (h:EO ws sp s b):EO ws' sp' s b:=by
 obtain⟨g,⟨x,hx,e⟩,h3⟩:=h;refine⟨g,⟨x,h1 x hx,e⟩,?_⟩;rcases h3 with h3|⟨h3,h4⟩
 ·exact .inl h3
 ·exact .inr ⟨h2 s h3,h4⟩
def ED.mono {ws ws':List Wri} {sp sp':List ByteArray} (h1:∀ x∈ws,x∈ws') (h2:∀ s∈sp,s∈sp') {d:Dsk} {s:ByteArray} (h:ED ws sp d s):ED ws' sp' d s:=
 ⟨λ b hb=>(h.1 b hb).mono h1 h2,λ b hb=>(h.2.1 b hb).mono h1 h2,λ hs=>h.2.2 (λ c=>hs (h2 s c))⟩
def DI.mono {ws ws':List Wri} {sp sp':List ByteArray} (h1:∀ x∈ws,x∈ws') (h2:∀ s∈sp,s∈sp') {d:Dsk} (h:DI ws sp d):DI ws' sp' d:=λ s=>(h s).mono h1 h2
def ED.same {ws:List Wri} {sp:List ByteArray} {d d':Dsk} {s:ByteArray} (h:ED ws sp d s) (e1:gt d'.1 s=gt d.1 s) (e2:gt d'.2 s=gt d.2 s):ED ws sp d' s:=by
 unfold ED;rw[e1,e2];exact h
def HD.same {d d':Dsk} {s:ByteArray} {st:Stp} (h:HD d s st) (e2:gt d'.2 s=gt d.2 s):HD d' s st:=by
 unfold HD;rw[e2];exact h
def MO.refl (sp:List ByteArray) (d:Dsk):MO sp d d:=λ _ _ _ h=>h
def MO.trans {sp:List ByteArray} {a b c:Dsk} (h1:MO sp a b) (h2:MO sp b c):MO sp a c:=λ s hs st h=>h2 s hs st (h1 s hs st h)
section
variable {ws:List Wri} {sp:List ByteArray} {d:Dsk} {s:ByteArray}
def ED.now (hw:Ava ws) (h:ED ws sp d s) {f:Fil} (ho:old d s=some f):IsW ws s f:=by
 unfold old at ho
 cases hg:gt d.1 s with
 |none=>rw[hg]at ho;cases ho
 |some b=>rw[hg]at ho;exact((h.1 b hg).get hw ho).1
def ED.ge (h:ED ws sp d s) (hs:s∉sp) {st:Stp} (hh:HD d s st):∃ b f,gt d.1 s=some b∧K6 b=some f∧sle f.1 st=false:=by
 obtain⟨b,f,h1,h2,h3⟩:=hh;obtain⟨b',f',h4,h5,h6⟩:=h.2.2 hs b f h1 h2;exact⟨b',f',h4,h5,N4 h6 h3⟩
def Wxa (hd:C7 d=true) (h:DI ws sp d):DI ws sp (d.1,sy d s):=by
 intro t
 by_cases ht:s=t
 ·subst ht
  have e:gt (sy d s) s=gt d.1 s:=by rw[Ffa hd,if_pos rfl]
  refine⟨(h s).1,λ b hb=>(h s).1 b (by rw[← e];exact hb),λ hs b f hb hf=>⟨b,f,by rw[← e];exact hb,hf,G5 _⟩⟩
 ·exact(h t).same rfl (by show gt (sy d s) t=_;rw[Ffa hd,if_neg ht])
def Zpa (hd:C7 d=true) (h:DI ws sp d):MO sp d (d.1,sy d s):=by
 intro t ht st hh
 by_cases hst:s=t
 ·subst hst;obtain⟨b,f,h1,h2,h3⟩:=(h s).ge ht hh;exact⟨b,f,by show gt (sy d s) s=_;rw[Ffa hd,if_pos rfl,h1],h2,h3⟩
 ·exact hh.same (by show gt (sy d s) t=_;rw[Ffa hd,if_neg hst])
def B6b (hw:Ava ws) (hd:C7 d=true) (h:DI ws sp d) {f:Fil} (hf:IsW ws s f) (hn:∀ o,old d s=some o→sle o.1 f.1=true):DI ws sp (wr d.1 s (H0 f),d.2):=by
 intro t
 by_cases ht:s=t
 ·subst ht
  have e:gt (wr d.1 s (H0 f)) s=some (H0 f):=by rw[Aia (Hy hd),if_pos rfl]
  obtain⟨_,g2,g3⟩:=hf.good hw;refine⟨λ b hb=>?_,(h s).2.1,λ hs b g hb hg=>⟨H0 f,f,e,My g2 g3,?_⟩⟩
  ·rw[show gt (wr d.1 s (H0 f)) s=some b from hb]at e;cases e;exact⟨f,hf,.inl rfl⟩
  ·obtain⟨b',f',k1,k2,k3⟩:=(h s).2.2 hs b g hb hg;have:=hn f' (by unfold old;rw[k1];exact k2);exact N4 (Ny this) k3
 ·exact(h t).same (by show gt (wr d.1 s (H0 f)) t=_;rw[Aia (Hy hd),if_neg ht]) rfl
def Foa (hw:Ava ws) (hd:DG d) (h:DI ws sp d) {f:Fil} {sure:Bool} (hf:IsW ws s f):DI ws sp (keep d s f sure).1∧MO sp d (keep d s f sure).1:=by
 obtain⟨g1,g2,g3⟩:=hf.good hw;rw[M5 hd.1 g1 g2];rcases M6 (f:=f) (sure:=sure) hd g1 with k|⟨o,_,_,k,hg,h3⟩|⟨h1,h2,k,hg,h3⟩
 ·rw[k];exact⟨h,MO.refl _ _⟩
 ·rcases h3 with⟨_,h3⟩|⟨_,h3⟩
  ·rw[h3];exact⟨h,MO.refl _ _⟩
  ·rw[h3];exact⟨Wxa hd.1 h,Zpa hd.1 h⟩
 ·have hw':=B6b hw hd.1 h hf h1;rcases h3 with⟨_,h3⟩|⟨_,h3⟩
  ·rw[h3];exact⟨hw',λ t _ st hh=>hh.same rfl⟩
  ·rw[h3];exact⟨Wxa h2.1 hw',(show MO sp d (wr d.1 s (H0 f),d.2) from λ t _ st hh=>hh.same rfl).trans (Zpa h2.1 hw')⟩
def Ofa (hw:Ava ws) (hd:DG d) {f:Fil} (hf:IsW ws s f) (hc:(keep d s f true).2=0∨(keep d s f true).2=1):HD (keep d s f true).1 s f.1:=by
 obtain⟨g1,g2,g3⟩:=hf.good hw;rw[M5 hd.1 g1 g2]at hc ⊢;obtain⟨o,g,b,ho,_,e,h1,h2,h3⟩:=Nra hd g1 g2 g3 hc;rw[e];exact⟨b,g,by show gt (sy o s) s=_;rw[Ffa ho.1,if_pos rfl,h1],h2,h3⟩
def Wya (hd:DG d) (h:DI ws sp d) (kp:List Bool):DI ws sp (Se d kp):=by
 intro t;rcases O5a (d:=d) (kp:=kp) t with e|⟨e1,e2⟩
 ·rw[e];exact h t
 ·unfold ED;rw[e1]
  have eo:∀ b,gt (Se d kp).1 t=some b→EO ws sp t b:=by
   intro b hb;rcases e2 with e2|e2
   ·exact(h t).1 b (by rw[← e2];exact hb)
   ·exact(h t).2.1 b (by rw[← e2];exact hb)
  exact⟨eo,eo,λ _ b f hb hf=>⟨b,f,hb,hf,G5 _⟩⟩
def Wza (hd:DG d) (h:DI ws sp d) (kp:List Bool):MO sp d (Se d kp):=by
 intro t ht st hh;rcases O5a (d:=d) (kp:=kp) t with e|⟨e1,e2⟩
 ·rw[e];exact hh
 ·unfold HD;rw[e1];rcases e2 with e2|e2
  ·rw[e2];exact(h t).ge ht hh
  ·rw[e2];exact hh
def I4a (hw:Ava ws) (hd:DG d) (h:DI ws sp d):DI ws sp (Jm d).1∧MO sp d (Jm d).1:=by
 obtain⟨_,hc⟩:=Pi d.1 (d,0) hd;have hc':∀ t,(t∈Aqa d.1→gt (Jm d).1.1 t=none∧gt (Jm d).1.2 t=none)∧(t∉Aqa d.1→gt (Jm d).1.1 t=gt d.1 t∧gt (Jm d).1.2 t=gt d.2 t):=hc
 have hb:∀ t,t∈Aqa d.1→t∈sp:=by
  intro t ht;obtain⟨b,h1,h2⟩:=(I0a hd.1).1 ht
  by_cases hs:t∈sp
  ·exact hs
  ·obtain⟨f,hf,_⟩:=((h t).1 b h1).fine hw hs;rw[hf]at h2;cases h2
 constructor
 ·intro t
  by_cases ht:t∈Aqa d.1
  ·obtain⟨e1,e2⟩:=(hc' t).1 ht;unfold ED;rw[e1,e2];exact⟨λ b hb=>(by cases hb),λ b hb=>(by cases hb),λ _ b f hb=>(by cases hb)⟩
  ·obtain⟨e1,e2⟩:=(hc' t).2 ht;exact(h t).same e1 e2
 ·intro t ht st hh;exact hh.same ((hc' t).2 (λ c=>ht (hb t c))).2
def Zqa (hd:DG d) (h:DI ws sp d) (hs:B0 s=true):DI ws sp (syD (rmD d s).1 s).1∧∀ t,t≠s→∀ st,HD d t st→HD (syD (rmD d s).1 s).1 t st:=by
 have hr:DI ws sp (rmD d s).1∨True := .inr trivial;unfold rmD
 cases hg:gt d.1 s with
 |none=>
  have e:(bif (none:Option (List Int)).isSome then ((cut d.1 s,d.2),true) else (d,false)).1=d:=rfl;rw[e];unfold syD
  by_cases hl:(sy d s).length≤60
  ·rw[decide_eq_true hl];exact⟨Wxa hd.1 h,λ t ht st hh=>hh.same (by show gt (sy d s) t=_;rw[Ffa hd.1,if_neg (Ddb ht)])⟩
  ·rw[decide_eq_false hl];exact⟨h,λ t ht st hh=>hh⟩
 |some b=>
  have e:(bif (some b:Option (List Int)).isSome then ((cut d.1 s,d.2),true) else (d,false)).1=(cut d.1 s,d.2):=rfl;rw[e];have hd':C7 (cut d.1 s,d.2)=true:=Ea.2 ⟨Rw (Ea.1 hd.1).1,(Ea.1 hd.1).2⟩
  have e1:∀ t,gt (cut d.1 s) t=if s=t then none else gt d.1 t:=λ t=>Qh (Hy hd.1)
  have e2:∀ t,gt (sy (cut d.1 s,d.2) s) t=if s=t then none else gt d.2 t:=λ t=>by
   rw[Ffa hd']
   by_cases hst:s=t
   ·rw[if_pos hst,if_pos hst];show gt (cut d.1 s) s=none;rw[e1,if_pos rfl]
   ·rw[if_neg hst,if_neg hst]
  have hlen:(sy (cut d.1 s,d.2) s).length≤60:=by
   have:sy (cut d.1 s,d.2) s=cut d.2 s:=by
    unfold sy;have:=e1 s;rw[if_pos rfl]at this;rw[show gt (cut d.1 s,d.2).1 s=none from this]
   rw[this];exact Zx Ua.length_le (B5.1 (Ea.1 hd.1).2).2.2
  unfold syD;rw[decide_eq_true hlen];constructor
  ·intro t;show ED ws sp (cut d.1 s,sy (cut d.1 s,d.2) s) t
   by_cases hst:s=t
   ·unfold ED;dsimp only;rw[e1,e2,if_pos hst,if_pos hst];exact⟨λ b hb=>(by cases hb),λ b hb=>(by cases hb),λ _ b f hb=>(by cases hb)⟩
   ·exact(h t).same (by show gt (cut d.1 s) t=_;rw[e1,if_neg hst]) (by show gt (sy (cut d.1 s,d.2) s) t=_;rw[e2,if_neg hst])
  ·intro t ht st hh;exact hh.same (by show gt (sy (cut d.1 s,d.2) s) t=_;rw[e2,if_neg (Ddb ht)])
def Zra (hw:Ava ws) (hd:DG d) (h:DI ws sp d) {n:Int} (hl:(lkD d s).2=0) (hr:(Jqa d s n).2=true) (sp':List ByteArray) (hsp:∀ t,t∈sp'↔t=s∨t∈sp):DI ws sp' (Jqa d s n).1∧MO sp' d (Jqa d s n).1∧∃ f,IsW ws s f:=by
 obtain⟨b,hb,hf⟩:=M4.1 (show lkD d s=((lkD d s).1,0) by rw[← hl]);obtain⟨hW,e⟩:=((h s).1 b hb).get hw hf;have hsub:∀ t∈sp,t∈sp':=λ t ht=>(hsp t).2 (.inr ht);generalize (lkD d s).1=f at *;unfold Jqa at hr ⊢;rw[hb]at hr ⊢;dsimp only at hr ⊢;cases hin:inR n 0 (8*(b.length:Int)-1)
 ·rw[hin]at hr;cases hr
 rw[cond_true];obtain⟨n0,n1⟩:=Fx.1 hin
 have hn:n.toNat<8*(H0 f).length:=by rw[← e];omega
 have e1:∀ t,gt (wr d.1 s (Ku b n.toNat)) t=if s=t then some (Ku b n.toNat) else gt d.1 t:=λ t=>Aia (Hy hd.1)
 have e2:∀ t,gt (bif decide (gt d.2 s=some b) then wr d.2 s (Ku b n.toNat) else d.2) t=if s=t∧gt d.2 s=some b then some (Ku b n.toNat) else gt d.2 t:=by
  intro t
  by_cases hg:gt d.2 s=some b
  ·rw[decide_eq_true hg,cond_true,Aia (Lk hd.1)]
   by_cases hst:s=t
   ·rw[if_pos hst,if_pos ⟨hst,hg⟩]
   ·rw[if_neg hst,if_neg (λ c=>hst c.1)]
  ·rw[decide_eq_false hg,cond_false,if_neg (λ c=>hg c.2)]
 have hflip:EO ws sp' s (Ku b n.toNat):=⟨f,hW,.inr ⟨(hsp s).2 (.inl rfl),n.toNat,hn,by rw[e]⟩⟩;refine⟨λ t=>?_,λ t ht st hh=>?_,f,hW⟩
 ·by_cases hst:s=t
  ·subst hst;refine⟨λ x hx=>?_,λ x hx=>?_,λ c=>absurd ((hsp s).2 (.inl rfl)) c⟩
   ·have:=e1 s;rw[if_pos rfl]at this;rw[show gt (wr d.1 s (Ku b n.toNat)) s=some x from hx]at this;cases this;exact hflip
   ·have:=e2 s;rw[show gt (bif decide (gt d.2 s=some b) then wr d.2 s (Ku b n.toNat) else d.2) s=some x from hx]at this
    by_cases hg:gt d.2 s=some b
    ·rw[if_pos ⟨rfl,hg⟩]at this;cases this;exact hflip
    ·rw[if_neg (λ c=>hg c.2)]at this;exact((h s).2.1 x this.symm).mono (λ _ h=>h) hsub
  ·refine((h t).mono (λ _ h=>h) hsub).same ?_ ?_
   ·show gt (wr d.1 s (Ku b n.toNat)) t=_;rw[e1,if_neg hst]
   ·show gt (bif decide (gt d.2 s=some b) then wr d.2 s (Ku b n.toNat) else d.2) t=_;rw[e2,if_neg (λ c=>hst c.1)]
 ·have hst:s≠t:=λ c=>ht ((hsp t).2 (.inl c.symm));exact hh.same (by show gt (bif decide (gt d.2 s=some b) then wr d.2 s (Ku b n.toNat) else d.2) t=_;rw[e2,if_neg (λ c=>hst c.1)])
end

def NI (ws:List Wri) (sp:List ByteArray) (n:Nod):Prop:=NG n∧DI ws sp n.2.1∧(∀ r∈n.2.2.1,Rl ws r=true)∧∀ r∈n.2.2.2,Rl ws r=true
def KN (ns:List Nod) (s:ByteArray) (st:Stp):Prop:=∃ i,i<ns.length∧HD (ns.getD i A7).2.1 s st
def MS (sp:List ByteArray) (ns ns':List Nod):Prop:=∀ s,s∉sp→∀ st,KN ns s st→KN ns' s st
def Nz {ws:List Wri} {r:Row}:Rl ws r=true↔∃ x∈ws,M7 x.1 x.2.1=r:=by
 unfold Rl;rw[Clb];exact⟨λ ⟨x,h1,h2⟩=>⟨x,h1,Dea.1 h2⟩,λ ⟨x,h1,h2⟩=>⟨x,h1,Dea.2 h2⟩⟩
def Xl {ws ws':List Wri} (h:∀ x∈ws,x∈ws') {r:Row} (hr:Rl ws r=true):Rl ws' r=true:=by
 obtain⟨x,h1,h2⟩:=Nz.1 hr;exact Nz.2 ⟨x,h x h1,h2⟩
def Sja {ws:List Wri} {s:ByteArray} {f:Fil} (h:IsW ws s f):Rl ws (M7 s f)=true:=by
 obtain⟨x,h1,rfl,rfl⟩:=h;exact Nz.2 ⟨x,h1,rfl⟩
def NI.mono {ws ws':List Wri} {sp sp':List ByteArray} (h1:∀ x∈ws,x∈ws') (h2:∀ s∈sp,s∈sp') {n:Nod} (h:NI ws sp n):NI ws' sp' n:=
 ⟨h.1,h.2.1.mono h1 h2,λ r hr=>Xl h1 (h.2.2.1 r hr),λ r hr=>Xl h1 (h.2.2.2 r hr)⟩
def NR (ws:List Wri) (sp:List ByteArray) (ns ns':List Nod):Prop:=(∀ n∈ns',NI ws sp n)∧ns'.map (·.1)=ns.map (·.1)∧MS sp ns ns'
def NR.refl {ws:List Wri} {sp:List ByteArray} {ns:List Nod} (h:∀ n∈ns,NI ws sp n):NR ws sp ns ns:=⟨h,rfl,λ _ _ _ h=>h⟩
def NR.len {ws:List Wri} {sp:List ByteArray} {ns ns':List Nod} (h:NR ws sp ns ns'):ns'.length=ns.length:=by
 have:=congrArg length h.2.1;rwa [Wc,Wc]at this
def Bl {α:Type} {l:List α} {i j:Nat} {x d:α} (hj:j<l.length):(l.set i x).getD j d=if i=j then x else l.getD j d:=by
 rw[Vb,List.getElem?_set]
 by_cases h:i=j
 ·subst h;rw[if_pos rfl,if_pos rfl,if_pos hj];rfl
 ·rw[if_neg h,if_neg h,Vb]
def Fpa {ns:List Nod} {i:Nat} {n:Nod} (hi:i<ns.length) (h:n.1=(ns.getD i A7).1):(ns.set i n).map (·.1)=ns.map (·.1):=by
 refine Erb (by simp) (λ j h1 h2=>?_);rw[Wc,Vt]at h1;rw[E2b,E2b,Esb]
 by_cases hij:i=j
 ·subst hij;rw[if_pos rfl,h,Vb,Ve hi];rfl
 ·rw[if_neg hij]
def NR.set {ws:List Wri} {sp:List ByteArray} {ns ns':List Nod} (h:NR ws sp ns ns') {i:Nat} (hi:i<ns'.length) {n:Nod} (h1:NI ws sp n) (h2:n.1=(ns'.getD i A7).1) (h3:MO sp (ns'.getD i A7).2.1 n.2.1):NR ws sp ns (ns'.set i n):=by
 obtain⟨g1,g2,g3⟩:=h;refine⟨λ m hm=>?_,by rw[Fpa hi h2,g2],λ s hs st hk=>?_⟩
 ·rcases Ze hm with hm|rfl
  ·exact g1 m hm
  ·exact h1
 ·obtain⟨j,hj,hd⟩:=g3 s hs st hk;refine⟨j,by rw[Vt];exact hj,?_⟩;rw[Bl hj]
  by_cases hij:i=j
  ·subst hij;rw[if_pos rfl];exact h3 s hs st hd
  ·rw[if_neg hij];exact hd
section
variable {ws:List Wri} {sp:List ByteArray} {n:Nod} {s:ByteArray} {f:Fil}
def X0a (hw:Ava ws) (h:NI ws sp n) (hf:IsW ws s f) (sure:Bool):NI ws sp (Ll n s f sure).1∧(Ll n s f sure).1.1=n.1∧MO sp n.2.1 (Ll n s f sure).1.2.1:=by
 obtain⟨g1,g2,g3⟩:=hf.good hw;obtain⟨h1,h2,h3,h4⟩:=h;have hg:=Hna (sure:=sure) h1 g1 g2;obtain⟨k1,k2⟩:=Foa (sure:=sure) hw h1.g h2 hf;unfold Ll at hg ⊢;cases hq:(n.2.2.2.length:Int)==60
 case true=>exact⟨⟨h1,h2,h3,h4⟩,rfl,MO.refl _ _⟩
 rw[hq]at hg;refine⟨⟨hg,k1,h3,?_⟩,rfl,k2⟩
 show ∀ r∈bif (keep n.2.1 s f sure).2==0&&sure then n.2.2.2++[M7 s f] else n.2.2.2,Rl ws r=true
 cases (keep n.2.1 s f sure).2==0&&sure
 ·exact h4
 intro r hr;rcases Vm.1 hr with hr|hr
 ·exact h4 r hr
 ·rw[Vn.1 hr];exact Sja hf
def X1a (hw:Ava ws) (h:NI ws sp n) (hf:IsW ws s f) (hc:(Ll n s f true).2=0∨(Ll n s f true).2=1):HD (Ll n s f true).1.2.1 s f.1:=by
 unfold Ll at hc ⊢
 cases hq:((n.2.2.2.length:Int)==60) with
 |true=>rw[hq]at hc;rcases hc with hc|hc<;>cases hc
 |false=>rw[hq]at hc;exact Ofa hw h.1.g hf hc
def Zsa (h:NI ws sp n) {l:List Row} (hl:Ho l=true) (hr:∀ r∈l,Rl ws r=true):NI ws sp (tk n l).2∧(tk n l).2.1=n.1∧(tk n l).2.2.1=n.2.1:=by
 obtain⟨h1,h2,h3,h4⟩:=h;have hg:=Aib h1 hl;unfold tk at hg ⊢;cases hq:decide ((Ky n.2.2.1 l).length > 60)
 case true=>exact⟨⟨h1,h2,h3,h4⟩,rfl,rfl⟩
 rw[hq]at hg;exact⟨⟨hg,h2,λ r hr'=>(Aaa hr').elim (h3 r) (hr r),h4⟩,rfl,rfl⟩
end
def Zta {ws:List Wri} {sp:List ByteArray} {ns:List Nod} {R:Int} {rc:List Int} {s:ByteArray} {f:Fil} {cs:List Int} {a:List Nod×Int×Int} {j:Nat} (hw:Ava ws) (hf:IsW ws s f)
  (h:NR ws sp ns a.1∧(s∉sp→a.2.2≥1→KN a.1 s f.1)∧a.2.2≥0) (hc:(cs.getD j 0).toNat<ns.length):
  NR ws sp ns (wst R rc s f cs a j).1∧(s∉sp→(wst R rc s f cs a j).2.2≥1→KN (wst R rc s f cs a j).1 s f.1)∧(wst R rc s f cs a j).2.2≥0:=by
 obtain⟨h1,h2,h3⟩:=h;unfold wst;cases decide (a.2.1<R)
 ·exact⟨h1,h2,h3⟩
 cases rch rc j==0
 case true=>exact⟨h1,h2,h3⟩
 rw[cond_true,cond_false]
 have hi:(cs.getD j 0).toNat<a.1.length:=by rw[h1.len];exact hc
 generalize (cs.getD j 0).toNat=i at *;have hn:=h1.1 _ (A3 (d:=A7) hi);obtain⟨p1,p2,p3⟩:=X0a hw hn hf (rch rc j != 3);refine⟨h1.set hi p1 p2 p3,λ hs hg=>?_,?_⟩
 ·cases hr:rch rc j==1&&((Ll (a.1.getD i A7) s f (rch rc j != 3)).2==0||(Ll (a.1.getD i A7) s f (rch rc j != 3)).2==1) with
  |true=>
   rw[Va,Zt,beq_iff_eq,beq_iff_eq,beq_iff_eq]at hr
   have e:(rch rc j != 3)=true:=by rw[hr.1];rfl
   rw[e]at hr ⊢;refine⟨i,by rw[Vt];exact hi,?_⟩;rw[Bl hi,if_pos rfl];exact X1a hw hn hf hr.2
  |false=>
   rw[hr]at hg;obtain⟨m,hm,hd⟩:=h2 hs hg;refine⟨m,by rw[Vt];exact hm,?_⟩;rw[Bl hm]
   by_cases hij:i=m
   ·subst hij;rw[if_pos rfl];exact p3 s hs _ hd
   ·rw[if_neg hij];exact hd
 ·dsimp only;cases rch rc j==1&&((Ll (a.1.getD i A7) s f (rch rc j != 3)).2==0||(Ll (a.1.getD i A7) s f (rch rc j != 3)).2==1)
  ·exact h3
  ·rw[cond_true];omega
def Zua {ws:List Wri} {sp:List ByteArray} {w:Wld} {rc:List Int} {s:ByteArray} {f:Fil} (hw:Ava ws) (hf:IsW ws s f) (hn:∀ n∈w.2.2.1,NI ws sp n):
  NR ws sp w.2.2.1 (wrN w s f rc).1∧(s∉sp→(wrN w s f rc).2.2≥1→KN (wrN w s f rc).1 s f.1)∧(wrN w s f rc).2.2≥0:=
 Hs (λ _ (a:List Nod×Int×Int)=>NR ws sp w.2.2.1 a.1∧(s∉sp→a.2.2≥1→KN a.1 s f.1)∧a.2.2≥0) ⟨NR.refl hn,λ _ h=>absurd h (show ¬ (0:Int)≥1 by omega),Cqb _⟩
  (λ j b hj hb=>Zta hw hf hb (by have:=J4 (A3 (d:=0) hj);omega))
def Zva {ws:List Wri} {sp:List ByteArray} {ns:List Nod} {rc:List Int} {s:ByteArray} {f:Fil} {ps:List Int} {a:List Nod×Bool×Bool} {src j:Nat} (hw:Ava ws) (hf:IsW ws s f) (hsrc:src<ns.length)
  (h:NR ws sp ns a.1∧(a.2.1=false→a.1.getD src A7=ns.getD src A7∧(a.2.2=true→0<j→∃ i,i≠src∧i<ns.length∧HD (a.1.getD i A7).2.1 s f.1))) (hc:(ps.getD j 0).toNat<ns.length) (hc0:0≤ps.getD j 0):
  NR ws sp ns (pst (src:Int) s f rc ps a j).1∧((pst (src:Int) s f rc ps a j).2.1=false→(pst (src:Int) s f rc ps a j).1.getD src A7=ns.getD src A7∧((pst (src:Int) s f rc ps a j).2.2=true→0<j+1→∃ i,i≠src∧i<ns.length∧HD ((pst (src:Int) s f rc ps a j).1.getD i A7).2.1 s f.1)):=by
 obtain⟨h1,h2⟩:=h;unfold pst;cases hz:ps.getD j 0==(src:Int)
 case true=>exact⟨h1,λ c=>by cases c⟩
 have hne:(ps.getD j 0).toNat≠src:=by
  have:=beq_eq_false_iff_ne.1 hz;omega
 cases hr:rch rc j != 1
 case true=>exact⟨h1,λ c=>⟨(h2 c).1,λ c'=>by cases c'⟩⟩
 rw[cond_false,cond_false]
 have hi:(ps.getD j 0).toNat<a.1.length:=by rw[h1.len];exact hc
 generalize (ps.getD j 0).toNat=i at *;have hn:=h1.1 _ (A3 (d:=A7) hi);obtain⟨k1,k2⟩:=Foa (sure:=true) hw hn.1.g hn.2.1 hf;refine⟨h1.set hi ⟨Un hn.1,k1,hn.2.2⟩ rfl k2,λ c=>⟨?_,λ c' _=>?_⟩⟩
 ·show (a.1.set i _).getD src A7=_;rw[Bl (by rw[h1.len];exact hsrc),if_neg hne];exact(h2 c).1
 ·refine⟨i,hne,hc,?_⟩;show HD ((a.1.set i _).getD i A7).2.1 s f.1;rw[Bl hi,if_pos rfl];refine Ofa hw hn.1.g hf ?_
  cases hk:(keep (a.1.getD i A7).2.1 s f true).2 != 0&&(keep (a.1.getD i A7).2.1 s f true).2 != 1 with
  |true=>
   have:(bif (keep (a.1.getD i A7).2.1 s f true).2 != 0&&(keep (a.1.getD i A7).2.1 s f true).2 != 1 then false else a.2.2)=true:=c';rw[hk]at this;cases this
  |false=>
   rw[Dvb,bne,bne,Ye,Ye,beq_iff_eq,beq_iff_eq]at hk;exact hk
def Zwa {ws:List Wri} {sp:List ByteArray} {w:Wld} {rc:List Int} {s:ByteArray} {i:Nat} (hw:Ava ws) (hn:∀ n∈w.2.2.1,NI ws sp n) (hi:i<w.2.2.1.length) (hf:IsW ws s (lkD (w.2.2.1.getD i A7).2.1 s).1):
  NR ws sp w.2.2.1 (puN w i s rc).1∧((puN w i s rc).2.1=false→(puN w i s rc).1.getD i A7=w.2.2.1.getD i A7∧((puN w i s rc).2.2=true→0<(I0 w s).length→∃ j,j≠i∧j<w.2.2.1.length∧HD ((puN w i s rc).1.getD j A7).2.1 s (lkD (w.2.2.1.getD i A7).2.1 s).1.1)):=
 Hs (λ n (a:List Nod×Bool×Bool)=>NR ws sp w.2.2.1 a.1∧(a.2.1=false→a.1.getD i A7=w.2.2.1.getD i A7∧(a.2.2=true→0<n→∃ j,j≠i∧j<w.2.2.1.length∧HD (a.1.getD j A7).2.1 s (lkD (w.2.2.1.getD i A7).2.1 s).1.1))) ⟨NR.refl hn,λ _=>⟨rfl,λ _ c=>absurd c (Nat.lt_irrefl _)⟩⟩
  (λ j b hj hb=>Zva hw hf hi hb (by have:=Jj (A3 (d:=0) hj);omega) (Jj (A3 (d:=0) hj)).1)
def Uq {w:Wld} {s:ByteArray} (hr:Hb w.2.1 w.1=true) (hid:w.2.2.1.map (·.1)=w.1.map (·.1)):0<(I0 w s).length:=by
 obtain⟨_,p2,p3⟩:=Pj hr s;have h5:=(Cb.1 hr).2.1;obtain⟨id,hidm⟩:=Cbb (l:=N8 w.2.1 s) (by omega);have:=Lc.1 (p3 id hidm);rw[← hid]at this;obtain⟨n,hn,rfl⟩:=Yw.1 this;obtain⟨j,hj,rfl⟩:=Yh.1 hn;have hm:(j:Int)∈I0 w s:=Pl.2 ⟨j,hj,by rw[Vb,Ve hj];exact hidm,rfl⟩;exact Cgb hm
def Awa {ws:List Wri} {sp:List ByteArray} {w:Wld} {rc:List Int} {s:ByteArray} {i:Nat} (hw:Ava ws) (hn:∀ n∈w.2.2.1,NI ws sp n) (hi:i<w.2.2.1.length) (hr:Hb w.2.1 w.1=true) (hid:w.2.2.1.map (·.1)=w.1.map (·.1)):
  ∃ ns,(N9 w i s rc).2=wN w ns∧NR ws sp w.2.2.1 ns:=by
 have hni:=hn _ (A3 (d:=A7) hi);unfold N9;cases hl:(lkD (w.2.2.1.getD i A7).2.1 s).2 != 0
 case true=>exact⟨w.2.2.1,rfl,NR.refl hn⟩
 rw[bne,Ye,beq_iff_eq]at hl;obtain⟨b,hb,hg⟩:=M4.1 (show lkD (w.2.2.1.getD i A7).2.1 s=((lkD (w.2.2.1.getD i A7).2.1 s).1,0) from by rw[← hl]);have hf:IsW ws s (lkD (w.2.2.1.getD i A7).2.1 s).1:=(((hni.2.1 s).1 b hb).get hw hg).1;obtain⟨h1,h2⟩:=Zwa (rc:=rc) hw hn hi hf;refine⟨_,rfl,?_⟩;cases hc:(puN w i s rc).2.2&&!(puN w i s rc).2.1
 ·exact h1
 rw[Va,Vz]at hc;obtain⟨h3,h4⟩:=h2 hc.2;obtain⟨j,hj,hjl,hd⟩:=h4 hc.1 (Uq hr hid);rw[cond_true,h3];obtain⟨g1,_,_⟩:=hf.good hw
 have hi':i<(puN w i s rc).1.length:=by rw[h1.len];exact hi
 obtain⟨o1,o2⟩:=Zqa (s:=s) hni.1.g hni.2.1 g1;refine⟨λ m hm=>?_,by rw[Fpa hi' (by rw[h3];rfl),h1.2.1],λ t ht st hk=>?_⟩
 ·rcases Ze hm with hm|rfl
  ·exact h1.1 m hm
  ·exact⟨Uia hni.1 g1,o1,hni.2.2⟩
 ·obtain⟨m,hm,hh⟩:=h1.2.2 t ht st hk
  by_cases hmi:m=i
  ·subst hmi;rw[h3]at hh
   by_cases hts:t=s
   ·subst hts;obtain⟨b',f',e1,e2,e3⟩:=(hni.2.1 t).ge ht hh;rw[hb]at e1;cases e1;rw[hg]at e2;cases e2;obtain⟨c,g,k1,k2,k3⟩:=hd;refine⟨j,by rw[Vt,h1.len];exact hjl,?_⟩;rw[Bl (by rw[h1.len];exact hjl),if_neg (Ddb hj)];exact⟨c,g,k1,k2,N4 k3 e3⟩
   ·refine⟨m,by rw[Vt];exact hm,?_⟩;rw[Bl hm,if_pos rfl];exact o2 t hts st hh
  ·refine⟨m,by rw[Vt];exact hm,?_⟩;rw[Bl hm,if_neg (Ddb hmi)];exact hh
def Axa {ws:List Wri} {sp:List ByteArray} {w:Wld} {src:Int} {l:List Row} {self:Bool} {rc:List Int} (hn:∀ n∈w.2.2.1,NI ws sp n) (hl:Ho l=true) (hr:∀ r∈l,Rl ws r=true):NR ws sp w.2.2.1 (I7 w src l self rc).1:=by
 refine Hs (λ _ (a:List Nod×Bool)=>NR ws sp w.2.2.1 a.1) (NR.refl hn) (λ j b hj hb=>?_);have hc:=Io (A3 (d:=0) hj);unfold gst;cases (Ar w).getD j 0==src&&!self
 case true=>exact hb
 cases rch rc j != 1
 case true=>exact hb
 have hi:((Ar w).getD j 0).toNat<b.1.length:=by rw[hb.len];omega
 obtain⟨t1,t2,t3⟩:=Zsa (hb.1 _ (A3 (d:=A7) hi)) hl hr;exact hb.set hi t1 t2 (by rw[t3];exact MO.refl _ _)
def I5a {ws:List Wri} {sp:List ByteArray} {w:Wld} {rc:List Int} {i:Nat} (hn:∀ n∈w.2.2.1,NI ws sp n) (hi:i<w.2.2.1.length):∃ ns,(M9 w i rc).2=wN w ns∧NR ws sp w.2.2.1 ns:=by
 have hni:=hn _ (A3 (d:=A7) hi);have hl:=(Bj.1 hni.1.1).2.2.2.1;unfold M9;cases ((w.2.2.1.getD i A7).2.2.1.length:Int)==0
 case true=>exact⟨w.2.2.1,rfl,NR.refl hn⟩
 refine⟨_,rfl,?_⟩;have hg:NR ws sp w.2.2.1 (Ha w i rc).1:=Axa hn hl hni.2.2.1;cases (Ha w i rc).2&&!(Gp (Ar (wN w (Ha w i rc).1)) (i:Int))
 ·exact hg
 have hi':i<(Ha w i rc).1.length:=by rw[hg.len];exact hi
 have hm:=hg.1 _ (A3 (d:=A7) hi');exact hg.set hi' ⟨I3a hm.1,hm.2.1,(λ _ h=>nomatch h),hm.2.2.2⟩ rfl (MO.refl _ _)
def I6a {ws:List Wri} {sp:List ByteArray} {w:Wld} {rc:List Int} {i:Nat} (hn:∀ n∈w.2.2.1,NI ws sp n) (hi:i<w.2.2.1.length):∃ ns,(N1 w i rc).2=wN w ns∧NR ws sp w.2.2.1 ns:=by
 have hni:=hn _ (A3 (d:=A7) hi);obtain⟨hq,_,_,_,hq60⟩:=Bj.1 hni.1.1;unfold N1;cases ((w.2.2.1.getD i A7).2.2.2.length:Int)==0
 case true=>exact⟨w.2.2.1,rfl,NR.refl hn⟩
 refine⟨_,rfl,?_⟩;have hg:NR ws sp w.2.2.1 (Ih w i rc).1:=Axa hn (J5 hq) (λ r hr=>hni.2.2.2 r (Zw hr));cases (Ih w i rc).2
 ·exact hg
 have hi':i<(Ih w i rc).1.length:=by rw[hg.len];exact hi
 have hm:=hg.1 _ (A3 (d:=A7) hi');exact hg.set hi' ⟨Ula hm.1 (λ r hr=>hq r (Zq hr)) (by rw[Wf];omega),hm.2.1,hm.2.2.1,λ r hr=>hni.2.2.2 r (Zq hr)⟩ rfl (MO.refl _ _)

structure WI (w:Wld):Prop where
 ring:Hb w.2.1 w.1=true
 ids:w.2.2.1.map (·.1)=w.1.map (·.1)
 nodes:∀ n∈w.2.2.1,NI w.2.2.2.2.1 w.2.2.2.2.2 n
 clk:Gj w.2.2.2.1=true
 wlen:w.2.2.2.2.1.length≤200
 wok:Ava w.2.2.2.2.1
 wge:∀ x∈w.2.2.2.2.1,sle w.2.2.2.1 x.2.1.1=false
 asc:w.2.2.2.2.1.Pairwise (λ a b=>sle a.2.1.1 b.2.1.1=true)
 kept:∀ x∈w.2.2.2.2.1,x.2.2=true→x.1∉w.2.2.2.2.2→KN w.2.2.1 x.1 x.2.1.1
 sps:TS w.2.2.2.2.2
 spw:∀ s∈w.2.2.2.2.2,∃ x∈w.2.2.2.2.1,x.1=s
theorem B7b:LawfulBEq ByteArray := { eq_of_beq:=λ {a b} h=>C6.1 (by rw[← Ss];exact h),rfl:=λ {a}=>by rw[Ss];exact C6.2 rfl }
def Qn:∀ (p q:List ByteArray),p.Nodup→(∀ x∈p,x∈q)→p.length≤q.length
 |[],_,_,_=>Vv _
 |x::p,q,h,hs=>by
  haveI:=B7b;obtain⟨h1,h2⟩:=Yr.1 h;have hx:=hs x Wl;have hlen:(q.erase x).length=q.length-1:=Eob hx;have hpos:=Cgb hx;have:=Qn p (q.erase x) h2 (λ y hy=>(List.mem_erase_of_ne (λ c=>by subst c;exact h1 hy)).2 (hs y (Vd _ hy)));rw[Vh];omega
namespace WI
variable {w:Wld}
def splen (h:WI w):w.2.2.2.2.2.length≤200:=by
 have hn:w.2.2.2.2.2.Nodup:=h.sps.imp (λ {a b} hab e=>by subst e;rw[Eg]at hab;cases hab)
 have:=Qn _ (w.2.2.2.2.1.map (·.1)) hn (λ s hs=>by
  obtain⟨x,hx,e⟩:=h.spw s hs
  exact Yw.2 ⟨x,hx,e⟩)
 rw[Wc]at this;have:=h.wlen;omega
def nlen (h:WI w):w.2.2.1.length=w.1.length:=by
 have:=congrArg length h.ids;rwa [Wc,Wc]at this
def dlen (h:WI w):1≤w.1.length∧w.1.length≤12:=(Dy.1 (Cb.1 h.ring).1).2.2
def ns (h:WI w):NS w.2.2.1:=⟨by have:=h.nlen;have:=h.dlen;omega,λ n hn=>(h.nodes n hn).1⟩
def win (h:WI w):WIn w:=by
 have h1:=h.nlen;have h2:=h.dlen;have h3:=h.wlen;have h4:=h.splen;refine⟨Kw h.ring,by omega,⟨by omega,λ n hn=>Aja (h.nodes n hn).1⟩,⟨by omega,λ x hx=>H4 (h.wok x hx).1⟩,by omega,λ s hs=>?_⟩;obtain⟨x,hx,e⟩:=h.spw s hs;rw[← e];exact H4 (h.wok x hx).1
def other (h:WI w) {ns:List Nod} (hn:NR w.2.2.2.2.1 w.2.2.2.2.2 w.2.2.1 ns):WI (wN w ns):=
 ⟨h.ring,hn.2.1.trans h.ids,hn.1,h.clk,h.wlen,h.wok,h.wge,h.asc,λ x hx hk hs=>hn.2.2 _ hs _ (h.kept x hx hk hs),h.sps,h.spw⟩
def other' (h:WI w) {r:Bool×Wld} (hr:∃ ns,r.2=wN w ns∧NR w.2.2.2.2.1 w.2.2.2.2.2 w.2.2.1 ns):WI r.2:=by
 obtain⟨ns,e,hn⟩:=hr;rw[e];exact h.other hn
def write (h:WI w) {s:ByteArray} {f:Fil} {rc:List Int} (hs:B0 s=true) (hf:D8 f=true) (hb:Aq f.2.2) (hc:sle w.2.2.2.1 f.1=true) (hl:w.2.2.2.2.1.length<200):WI (Nx (w.1,w.2.1,w.2.2.1,f.1,w.2.2.2.2) s f rc).2:=by
 obtain⟨g1,g2,g3⟩:=Zua (ws:=w.2.2.2.2.1++[(s,f,decide ((wrN (w.1,w.2.1,w.2.2.1,f.1,w.2.2.2.2) s f rc).2.2≥quo w.2.1.1))]) (sp:=w.2.2.2.2.2) (w:=(w.1,w.2.1,w.2.2.1,f.1,w.2.2.2.2)) (rc:=rc) (s:=s) (f:=f)
  (λ x hx=>by
   rcases Vm.1 hx with hx|hx
   ·exact h.wok x hx
   ·rw[Vn.1 hx];exact⟨hs,hf,hb⟩)
  ⟨_,Vm.2 (.inr (Vn.2 rfl)),rfl,rfl⟩
  (λ n hn=>(h.nodes n hn).mono (λ x hx=>Vm.2 (.inl hx)) (λ _ h=>h))
 unfold Nx;generalize wrN (w.1,w.2.1,w.2.2.1,f.1,w.2.2.2.2) s f rc=a at *
 have hq:quo w.2.1.1≥1:=by
  have:=(Cb.1 h.ring).2.1;unfold quo;omega
 exact {
  ring:=h.ring
  ids:=g1.2.1.trans h.ids
  nodes:=g1.1
  clk:=(Gr.1 hf).1
  wlen:=by show (w.2.2.2.2.1++[_]).length≤200;rw[Vi];simp only[Vh,Vq];omega
  wok:=λ x hx=>by
   rcases Vm.1 hx with hx|hx
   ·exact h.wok x hx
   ·rw[Vn.1 hx];exact⟨hs,hf,hb⟩
  wge:=λ x hx=>by
   rcases Vm.1 hx with hx|hx
   ·exact N4 (Ny hc) (h.wge x hx)
   ·rw[Vn.1 hx];exact G5 _
  asc:=Zg.2 ⟨h.asc,Ccb _ _,λ x hx y hy=>by
   rw[Vn.1 hy];have:=h.wge x hx;cases hxy:sle x.2.1.1 f.1
   case true=>rfl
   have:=N4 this hxy;rw[this]at hc
   cases hc⟩
  kept:=λ x hx hk hsp=>by
   rcases Vm.1 hx with hx|hx
   ·exact g1.2.2 _ hsp _ (h.kept x hx hk hsp)
   ·rw[Vn.1 hx]at hk hsp ⊢;have hk':a.2.2≥quo w.2.1.1:=of_decide_eq_true hk;exact g2 hsp (by omega)
  sps:=h.sps
  spw:=λ s hs=>by
   obtain⟨x,hx,e⟩:=h.spw s hs
   exact⟨x,Vm.2 (.inl hx),e⟩ }
def ask (h:WI w) {s:ByteArray} {f:Fil} {t:Int} {rc:List Int} (hb:Aq f.2.2) (hd:f.2.1=true→f.2.2=[]):WI (ask w s f t rc).2:=by
 unfold Vf.ask;cases hs:B0 s
 ·exact h
 rw[Yt,cond_false]
 by_cases hl:(f.2.2.length:Int) > 200
 ·rw[decide_eq_true hl];exact h
 ·rw[decide_eq_false hl,cond_false];cases inR t 0 1000000000
  ·exact h
  rw[Yt,cond_false];cases hw:(w.2.2.2.2.1.length:Int)==200
  case true=>exact h
  rw[cond_false];have hw':=beq_eq_false_iff_ne.1 hw;have hwl:=h.wlen;obtain⟨n1,n2⟩:=T0 h.clk t 0;cases he:(Ig w.2.2.2.1 t 0).1==w.2.2.2.1.1&&((Ig w.2.2.2.1 t 0).2.1==w.2.2.2.1.2.1&&(Ig w.2.2.2.1 t 0).2.2==w.2.2.2.1.2.2)
  case true=>exact h
  rw[cond_false]
  have hlt:sle w.2.2.2.1 (Ig w.2.2.2.1 t 0)=true:=by
   rcases n2 with n2|n2
   ·rw[n2,beq_self_eq_true,beq_self_eq_true,beq_self_eq_true]at he;cases he
   ·exact n2
  exact h.write (f:=(Ig w.2.2.2.1 t 0,f.2)) hs (Gr.2 ⟨n1,by show f.2.2.length≤200;omega,hd⟩) hb hlt (by omega)
def rot (h:WI w) {i:Nat} (hi:i<w.2.2.1.length) {s:ByteArray} {b:Int}:WI (Zoa w i s b).2:=by
 have hni:=h.nodes _ (A3 (d:=A7) hi);unfold Zoa;cases hr:(Nsa (w.2.2.1.getD i A7) s b).2
 ·exact h
 have hg:=U9a (s:=s) (b:=b) hni.1;unfold Nsa at hr hg ⊢;cases hc:K8 (w.2.2.1.getD i A7)&&((lkD (w.2.2.1.getD i A7).2.1 s).2==0&&(Jqa (w.2.2.1.getD i A7).2.1 s b).2)
 ·rw[hc]at hr;cases hr
 rw[hc]at hg;rw[Va,Va,beq_iff_eq]at hc;obtain⟨d1,d2,f,hf⟩:=Zra h.wok hni.1.g hni.2.1 hc.2.1 hc.2.2 (spl w.2.2.2.2.2 s) (λ t=>Aua);have hsub:∀ t∈w.2.2.2.2.2,t∈spl w.2.2.2.2.2 s:=λ t ht=>Aua.2 (.inr ht)
 have hN:NR w.2.2.2.2.1 (spl w.2.2.2.2.2 s) w.2.2.1 (w.2.2.1.set i ((w.2.2.1.getD i A7).1,(Jqa (w.2.2.1.getD i A7).2.1 s b).1,(w.2.2.1.getD i A7).2.2)):=
  (NR.refl (λ n hn=>(h.nodes n hn).mono (λ _ h=>h) hsub)).set hi ⟨hg,d1,hni.2.2⟩ rfl d2
 exact {
  ring:=h.ring
  ids:=hN.2.1.trans h.ids
  nodes:=hN.1
  clk:=h.clk
  wlen:=h.wlen
  wok:=h.wok
  wge:=h.wge
  asc:=h.asc
  kept:=λ x hx hk hs=>hN.2.2 _ hs _ (h.kept x hx hk (λ c=>hs (hsub _ c)))
  sps:=Xk h.sps
  spw:=λ t ht=>by
   rcases Aua.1 ht with rfl|ht
   ·obtain⟨x,hx,e,_⟩:=hf;exact⟨x,hx,e⟩
   ·exact h.spw t ht }
def node (h:WI w) {i:Nat} (hi:i<w.2.2.1.length) {e:Evt}:WI (Oda w e i).2:=by
 have hni:=h.nodes _ (A3 (d:=A7) hi);unfold Oda;cases e.1==3
 case true=>exact h.other' (Awa h.wok h.nodes hi h.ring h.ids)
 cases e.1==4
 case true=>exact h.other' (I5a h.nodes hi)
 cases e.1==5
 case true=>exact h.other' (I6a h.nodes hi)
 cases e.1==6 with
 |true=>
  obtain⟨c1,c2⟩:=I4a h.wok hni.1.g hni.2.1;exact h.other ((NR.refl h.nodes).set hi ⟨I1a hni.1,c1,hni.2.2⟩ rfl c2)
 |false=>
  cases e.1==7 with
  |true=>exact h.other ((NR.refl h.nodes).set hi ⟨Zna hni.1,Wya hni.1.g hni.2.1 _,hni.2.2⟩ rfl (Wza hni.1.g hni.2.1 _))
  |false=>exact h.rot hi
def weigh (h:WI w) {i t:Int}:WI (Oea w i t).2:=by
 unfold Oea;cases h1:inR i 0 ((w.1.length:Int)-1)
 ·exact h
 cases h2:inR t 1 1000
 ·exact h
 obtain⟨i0,i1⟩:=Fx.1 h1;obtain⟨w0,w1⟩:=Fx.1 h2;exact⟨(Hva (Hwa h.ring (by omega) w0 w1)).1,h.ids.trans (Apa _ _ _).symm,h.nodes,h.clk,h.wlen,h.wok,h.wge,h.asc,h.kept,h.sps,h.spw⟩
def ev (h:WI w) {e:Evt} (hb:Aq e.2.2.2.1):WI (doW w e).2:=by
 have ae:∀ {q:Int×Wld},WI q.2→WI (Xwa q).2:=λ {q} hq=>by
  unfold Xwa
  cases q.1 != 2<;>exact hq
 unfold doW;cases e.1==1
 case true=>exact ae (h.ask hb (λ c=>by cases c))
 cases e.1==2
 case true=>exact ae (h.ask Uf (λ _=>rfl))
 cases e.1==3||(e.1==4||(e.1==5||(e.1==6||(e.1==7||e.1==8)))) with
 |true=>
  cases hi:inR e.2.1 0 ((w.2.2.1.length:Int)-1)
  ·exact h
  have:=Fx.1 hi;exact h.node (by omega)
 |false=>
  cases e.1==9 with
  |true=>exact h.weigh
  |false=>exact h
def rightB (h:WI w):Rj w=true:=by
 have h2:=h.dlen;have hl:=h.nlen;unfold Rj
 have a1:Ox w.1 w.2.2.1=true:=by
  unfold Ox;rw[show ((w.2.2.1.length:Int)==(w.1.length:Int))=true by rw[beq_iff_eq];omega,Wg,Yd];intro j hj;have hj':=Zp.1 hj;rw[Va,beq_iff_eq];refine⟨?_,(h.nodes _ (A3 (d:=A7) hj')).1.1⟩
  have e1:(w.2.2.1.getD j A7).1=(w.2.2.1.map (·.1)).getD j 0:=by
   rw[Vb,Vb,C8b,Ve hj'];rfl
  have e2:(w.1.getD j Je).1=(w.1.map (·.1)).getD j 0:=by
   rw[Vb,Vb,C8b,Ve (by omega)];rfl
  rw[e1,e2,h.ids]
 have a2:Sfa w.2.2.2.1 w.2.2.2.2.1=true:=by
  unfold Sfa;rw[Va,Yd];refine⟨λ x hx=>?_,decide_eq_true (by have:=h.wlen;omega)⟩;unfold Fla;rw[(h.wok x hx).1,(h.wok x hx).2.1,h.wge x hx];rfl
 have a3:Qk w.2.2.2.2.2=true:=by
  unfold Qk;rw[Yd];intro j hj;have hj':=Zp.1 hj;rw[Va,Zt];refine⟨?_,?_⟩
  ·obtain⟨x,hx,e⟩:=h.spw _ (A3 (d:=Me) hj');rw[← e];exact(h.wok x hx).1
  ·by_cases h0:j=0
   ·exact .inl (decide_eq_true h0)
   ·right;have:=Yn.1 h.sps (j-1) j (by omega) hj' (by omega);rwa [Vb,Vb,Ve hj',Ve (by omega)]
 rw[h.ring,a1,h.clk,a2,a3];rfl
end WI

def Bhb (l:List Dev) (last:Int):Prop:=l.Pairwise (λ a b=>a.1<b.1)∧∀ d∈l,(0≤d.1∧d.1≤last)∧(0≤d.2.1∧d.2.1≤20)∧1≤d.2.2∧d.2.2≤1000
def Oga (z:Int) (hz:1≤z∧z≤20):∀ (n:Nat) (i:Int) (l:List Dev) (last:Int) (c:Cur),i=n→n≤6→Re c→Bhb l last→0≤last→last+2*n≤12→l.length+n≤6→
  Tot (λ k=>Ei k l z last i c) (λ r=>(∃ last,Bhb r.1 last∧last≤20)∧r.1.length=l.length+n∧Re r.2):=by
 intro n
 induction n with
 |zero=>
  rintro i l last c rfl _ hc h h0 h1 _;refine Tot.succ ?_;simp (disch:=omega) only [Ei,dF];exact Brb ⟨⟨last,h,by omega⟩,rfl,hc⟩
 |succ n ih=>
  rintro i l last c rfl hn hc h h0 h1 hl;refine Tot.succ ?_;simp (disch:=omega) only [Ei,dT];obtain⟨x,c1,e1,hx,k1⟩:=Mu c hc [1,1,2] (by decide) (by decide);obtain⟨y,c2,e2,y0,y1,_,k2⟩:=Kk c1 k1 z (by omega);obtain⟨v,c3,e3,hv,k3⟩:=Mu c2 k2 [1,1,1,2,10,100] (by decide) (by decide);have y1:=y1 (by omega)
  have hx':1≤x∧x≤2:=by
   simp only[Vl,Dzb,or_false]at hx;omega
  have hv':1≤v∧v≤1000:=by
   simp only[Vl,Dzb,or_false]at hv;omega
  refine C3b (C4b (Q:=λ r=>r=(x,c1)) e1 rfl) ?_;refine C3b (C4b (Q:=λ r=>r=(y,c2)) e2 rfl) ?_;refine C3b (C4b (Q:=λ r=>r=(v,c3)) e3 rfl) ?_;simp (disch:=omega) only [w64];refine Bzb (by simp only[Vh,Vq];omega) ?_;refine(ih _ (l++[(last+x,y,v)]) (last+x) c3 (by omega) (by omega) k3 ⟨?_,?_⟩ (by omega) (by omega) (by rw[Vi];simp only[Vh,Vq];omega)).mono ?_
  ·refine Zg.2 ⟨h.1,Ccb _ _,λ a ha b hb=>?_⟩;rw[Vn.1 hb];have:=(h.2 a ha).1.2;show a.1<last+x;omega
  ·intro d hd;rcases Vm.1 hd with hd|hd
   ·obtain⟨⟨a1,a2⟩,a3⟩:=h.2 d hd;exact⟨⟨a1,by omega⟩,a3⟩
   ·rw[Vn.1 hd];exact⟨⟨by show 0≤last+x;omega,Cqb _⟩,⟨y0,by show y≤20;omega⟩,hv'⟩
  ·rintro r ⟨g1,g2,g3⟩;refine⟨g1,?_,g3⟩;rw[g2,Vi];simp only[Vh,Vq];omega
def K1a (c:Cur) (hc:Re c):Tot (λ k=>Eb k c) (λ r=>Hr r.1=true∧(2≤r.1.length∧r.1.length≤6)∧Re r.2):=by
 unfold Eb;obtain⟨x,c1,e1,x0,x1,_,k1⟩:=Kk c hc 4 (by decide);obtain⟨y,c2,e2,y0,y1,_,k2⟩:=Kk c1 k1 5 (by decide);have x1:=x1 (by decide);have y1:=y1 (by decide);refine C3b (C4b (Q:=λ r=>r=(x,c1)) e1 rfl) ?_;refine C3b (C4b (Q:=λ r=>r=(y,c2)) e2 rfl) ?_;simp (disch:=omega) only [w64];refine Bsb (Oga (1+x) (by omega) (2+y).toNat (2+y) [] 0 c2 (by omega) (by omega) k2 ⟨List.Pairwise.nil,λ d hd=>(nomatch hd)⟩ (Int.le_refl _) (by omega) (by simp only[List.length_nil];omega)) ?_;rintro r ⟨⟨last,g1,g2⟩,g3,g4⟩;rw[List.length_nil]at g3;exact Brb ⟨Dy.2 ⟨g1.1,λ d hd=>Ie.2 ⟨⟨(g1.2 d hd).1.1,by have:=(g1.2 d hd).1.2;omega⟩,(g1.2 d hd).2⟩,by dsimp only;omega,by dsimp only;omega⟩,⟨by dsimp only;omega,by dsimp only;omega⟩,g4⟩
abbrev I7a:Wld:=(([]:List Dev),((0:Int),([]:List (List Int))),([]:List Nod),((0:Int),((0:Int),(0:Int))),([]:List Wri),([]:List ByteArray))
def Ur (d:Dev):Nod:=(d.1,([],[]),[],[])
def Us (l:List Dev) (parts reps:Int):Wld:=(l,(build l parts reps).1,l.map Ur,(0,0,0),[],[])
def X2a {ws:List Wri} {sp:List ByteArray} {l:List Dev} (h:Hr l=true) {d:Dev} (hd:d∈l):NI ws sp (Ur d):=by
 obtain⟨⟨i0,i1⟩,_⟩:=Ie.1 ((Dy.1 h).2.1 d hd);refine⟨⟨Bj.2 ⟨(λ r hr=>nomatch hr),⟨i0,i1⟩,dg0.1,Rm,Vv _⟩,dg0.2⟩,λ s=>⟨λ b hb=>?_,λ b hb=>?_,λ _ b f hb=>?_⟩,(λ r hr=>nomatch hr),(λ r hr=>nomatch hr)⟩
 ·rw[show gt (Ur d).2.1.1 s=none from rfl]at hb;cases hb
 ·rw[show gt (Ur d).2.1.2 s=none from rfl]at hb;cases hb
 ·rw[show gt (Ur d).2.1.2 s=none from rfl]at hb;cases hb
def Fqa {l:List Dev} {parts reps:Int} (hb:(build l parts reps).2=true):WI (Us l parts reps):=by
 obtain⟨h1,h2,_,_⟩:=Om hb
 exact {
  ring:=h2
  ids:=by show (l.map Ur).map (·.1)=_;rw[D3b];rfl
  nodes:=λ n hn=>by
   obtain⟨d,hd,rfl⟩:=Yw.1 hn;exact X2a h1 hd
  clk:=rfl
  wlen:=Vv _
  wok:=λ x hx=>nomatch hx
  wge:=λ x hx=>nomatch hx
  asc:=List.Pairwise.nil
  kept:=λ x hx=>nomatch hx
  sps:=List.Pairwise.nil
  spw:=λ s hs=>nomatch hs }
def Dfa (l:List Dev) (parts reps:Int) (hb:(build l parts reps).2=true):Tot (λ k=>Bx k l parts reps) (λ r=>r=Us l parts reps):=by
 obtain⟨h1,_,_,_⟩:=Om hb;have h12:=(Dy.1 h1).2.2.2;unfold Bx;refine C3b (D7a l parts reps (by omega)) ?_;refine Bzb (by rw[Vq];omega) (Btb (by rw[hb];rfl) ?_);rw[Wn];refine Bsb (Q:=λ r=>r=(I7a,Us l parts reps)) ?_ (by rintro r rfl;exact Brb rfl);refine C0b (L:=λ k i (s:List Nod)=>Dc k l i I7a (l,(build l parts reps).1,s,(0,0,0),[],[])) (Q:=λ r=>r=(I7a,Us l parts reps)) l.length (λ j s=>s=(l.take j).map Ur) ?_ ?_ 0 [] (Vv _) rfl
 ·rintro s rfl;simp (disch:=omega) only [Dc,dF];exact Brb (by rw[Yx];rfl)
 ·rintro j s hj rfl next;have hd:=A3 (d:=Je) hj;obtain⟨d,ed⟩:∃ d:Dev,l.getD j Je=d:=⟨_,rfl⟩;rw[ed]at hd;have e0:l.getD j ((0:Int),((0:Int),(0:Int)))=d:=ed
  have e1:l[j]=d:=by rw[← ed,Vb,Ve hj];rfl
  have hid:=(Ie.1 ((Dy.1 h1).2.1 d hd)).1;simp (disch:=omega) only [Dc,dT,Vj,w64,e0,Fia,Vu]
  have hl:((l.take j).map Ur).length=j:=by rw[Wc,Vs];omega
  rw[Fx.2 hid,cond_true];refine Bzb (by rw[hl];simp only[Vh,Vq];omega) (next _ ?_);rw[We hj,Ceb,e1];rfl

def WIm (m:Nat) (w:Wld):Prop:=RBd w.2.1∧w.1.length≤2000000∧(w.2.2.1.length≤2000000∧∀ n∈w.2.2.1,NIn n)∧(w.2.2.2.2.1.length≤m∧∀ x∈w.2.2.2.2.1,Lz x.1∧x.2.1.2.2.length≤2000000∧Aq x.2.1.2.2)∧(w.2.2.2.2.2.length≤m∧∀ s∈w.2.2.2.2.2,Lz s)
def WIm.win {m:Nat} {w:Wld} (h:WIm m w) (hm:m≤2000000):WIn w:=by
 obtain⟨h1,h2,⟨h3,h4⟩,⟨h5,h6⟩,h7,h8⟩:=h;exact⟨h1,h2,⟨h3,h4⟩,⟨by omega,λ x hx=>(h6 x hx).1⟩,by omega,h8⟩
def WI.wim {w:Wld} (h:WI w):WIm 200 w:=by
 have hi:=h.win;have h2:=h.dlen;have h1:=h.nlen;exact⟨hi.1,hi.2.1,hi.2.2.1,⟨h.wlen,λ x hx=>⟨H4 (h.wok x hx).1,by have:=(Gr.1 (h.wok x hx).2.1).2.1;omega,(h.wok x hx).2.2⟩⟩,h.splen,hi.2.2.2.2.2⟩

def Oha {c:Stp} (hc:Gj c=true) (t d:Int):Es c t d=some (Ig c t d):=by
 have h2:0≤c.2.1∧c.2.1≤1000000:=by
  unfold Gj at hc;rw[Va,Va,Fx,Fx]at hc;exact hc.2.1
 unfold Es Ig;rw[w64 (n:=c.2.1+1) (by omega) (by omega)];simp only[Qc,Vu]
 cases decide (t≤c.1) with
 |true=>cases Gj (c.1,c.2.1+1,d)<;>rfl
 |false=>cases Gj (t,0,d)<;>rfl
def Rz {f:Fil} (h:f.2.2.length≤1000000000):Dv f=some f:=by
 unfold Dv;rw[Im _ (by omega)];rfl
def Oia {n:Nod} {s:ByteArray} {f:Fil} {sure:Bool} (hn:NG n) (hs:B0 s=true) (hf:D8 f=true):Afb n s f sure=Ll n s f sure:=by
 unfold Afb;rw[hn.1,hs,hf];rfl
def K2a {n:Nod} (r:Int) (s:ByteArray) (f:Fil) (g:Int) (hn:NG n) (hs:B0 s=true) (hf:D8 f=true) (h0:0≤g) (h1:g≤9000000000000):
  Tot (λ k=>Cf k n r s f g) (λ x=>x=((Ll n s f (r != 3)).1,s,f,bif r==1&&((Ll n s f (r != 3)).2==0||(Ll n s f (r != 3)).2==1) then g+1 else g)):=by
 unfold Cf;refine C3b (Fka n s f (r != 3) (Aja hn) (H4 hs)) ?_;rw[Oia hn hs hf,w64 (n:=g+1) (by omega) (by omega)];generalize Ll n s f (r != 3)=p;cases r==1
 ·exact Btb rfl (Brb rfl)
 refine Bub rfl ?_;cases p.2==0
 case true=>exact Bub rfl (Brb rfl)
 refine Btb rfl ?_
 cases p.2==1 with
 |true=>exact Bub rfl (Brb rfl)
 |false=>exact Btb rfl (Brb rfl)
def Ska (w:Wld) (s:ByteArray) (f:Fil) (rc:List Int) (hr:Hb w.2.1 w.1=true) (hn:NS w.2.2.1) (hs:B0 s=true) (hf:D8 f=true):
  Tot (λ k=>A8 k w s rc true s f 0) (λ r=>r=(wN w (wrN w s f rc).1,s,f,(wrN w s f rc).2.2)):=by
 have hsz:s.size≤1000000000:=by
  have:=Fx.1 (Va _ _ ▸ hs:_∧_).2;omega
 obtain⟨_,hR,_⟩:=Cb.1 hr;unfold A8;refine C3b (Dda w s hr hn.1 hsz) ?_;have hc:=λ x=>J4 (w:=w) (s:=s) (x:=x)
 have hcl:(contacts w s).length≤4000000000000:=by
  unfold contacts;refine Sy hn.1 ?_;have h5:=(Cb.1 hr).2.1;have p2:=(Pj hr s).2.1;have h12:=(Dy.1 (Cb.1 hr).1).2.2.2;have hh:=Ry w.2.1 w.1 s;rw[Vi];omega
 have hrun:wrN w s f rc=run (wst w.2.1.1 rc s f (contacts w s)) (contacts w s).length (w.2.2.1,0,0):=rfl
 have inv:∀ n,n≤(contacts w s).length→NS (run (wst w.2.1.1 rc s f (contacts w s)) n (w.2.2.1,0,0)).1∧(run (wst w.2.1.1 rc s f (contacts w s)) n (w.2.2.1,0,0)).1.length=w.2.2.1.length∧(0≤(run (wst w.2.1.1 rc s f (contacts w s)) n (w.2.2.1,0,0)).2.1∧(run (wst w.2.1.1 rc s f (contacts w s)) n (w.2.2.1,0,0)).2.1≤n)∧0≤(run (wst w.2.1.1 rc s f (contacts w s)) n (w.2.2.1,0,0)).2.2∧(run (wst w.2.1.1 rc s f (contacts w s)) n (w.2.2.1,0,0)).2.2≤n:=by
  intro n hn';refine Hs (λ j (b:List Nod×Int×Int)=>NS b.1∧b.1.length=w.2.2.1.length∧(0≤b.2.1∧b.2.1≤(j:Int))∧0≤b.2.2∧b.2.2≤(j:Int)) ⟨hn,rfl,⟨Cqb _,Cqb _⟩,Cqb _,Cqb _⟩ (λ j b hj hb=>Zla hs hf hb ?_);have:=hc _ (A3 (d:=0) (show j<(contacts w s).length by omega));omega
 generalize hcs:contacts w s=cs at *;refine Bsb (Q:=λ r=>r=(wN w (wrN w s f rc).1,s,f,(wrN w s f rc).2.2)) ?_ (by rintro r rfl;exact Brb rfl);refine C0b (L:=λ k i (a:List Nod×Int×Int)=>Aa k rc a.2.1 cs (cs.length:Int) i (wN w a.1) s f a.2.2) (Q:=λ r=>r=(wN w (wrN w s f rc).1,s,f,(wrN w s f rc).2.2)) cs.length (λ j a=>a=run (wst w.2.1.1 rc s f cs) j (w.2.2.1,0,0)) ?_ ?_ 0 (w.2.2.1,0,0) (Vv _) rfl
 ·rintro a rfl;simp (disch:=omega) only [Aa,dF];exact Brb (by rw[hrun])
 ·rintro j a hj rfl next;obtain⟨i1,i2,i3,i4,i5⟩:=inv j (by omega);rw[J1]at next;generalize run (wst w.2.1.1 rc s f cs) j (w.2.2.1,0,0)=a at *;obtain⟨ns,o,g⟩:=a;dsimp only at i1 i2 i3 i4 i5;have hci:=hc _ (A3 (d:=0) hj);obtain⟨i,ei⟩:∃ i:Nat,cs.getD j 0=(i:Int):=⟨(cs.getD j 0).toNat,by omega⟩;rw[ei]at hci;unfold wst at next;rw[ei,Int.toNat_natCast]at next;dsimp only at next;have e0:ns.getD i ((0:Int),(([],[]),([],[])))=ns.getD i A7:=rfl;simp (disch:=omega) only [Aa,dT,wN,Int.toNat_natCast,w64,ei,e0,Ata,Option.bind_some]
  cases h0:rch rc j==0 with
  |true=>
   refine Btb (by rw[bne,h0];rfl) ?_;rw[h0]at next;refine next (ns,o,g) ?_
   cases decide (o<w.2.1.1)<;>rfl
  |false=>
   refine Bub (by rw[bne,h0];rfl) ?_;rw[h0]at next;refine Byb (λ hR'=>?_) (λ hR'=>?_)
   ·rw[decide_eq_true hR']at next;refine C3b (K2a (rch rc j) s f g (i1.get (by omega)) hs hf i4 (by omega)) ?_;exact next _ rfl
   ·rw[decide_eq_false hR']at next;exact next _ rfl
def X3a (w:Wld) (s:ByteArray) (f:Fil) (t:Int) (rc:List Int) (hr:Hb w.2.1 w.1=true) (hn:NS w.2.2.1) (hst:Gj w.2.2.2.1=true) (hs:Lz s) (hd:f.2.1=true→f.2.2=[]) (hw:w.2.2.2.2.1.length≤200):
  Tot (λ k=>Cg k w s f t rc) (λ r=>r=ask w s f t rc):=by
 unfold Cg ask;refine C3b (Ke s hs) ?_;cases hs':B0 s
 ·exact Bub rfl (Brb rfl)
 refine Btb rfl ?_;rw[Yt,cond_false]
 by_cases hl:(f.2.2.length:Int) > 200
 ·rw[decide_eq_true hl];exact Bub rfl (Brb rfl)
 ·rw[decide_eq_false hl,cond_false];refine Btb rfl ?_;simp only[Nt,Oha hst,Vu];cases inR t 0 1000000000
  ·exact Bub rfl (Brb rfl)
  refine Btb rfl ?_;rw[Yt,cond_false]
  by_cases h200:w.2.2.2.2.1.length=200
  ·rw[show ((w.2.2.2.2.1.length:Int)==200)=true by rw[beq_iff_eq];omega];exact Bvb (by omega) (Brb rfl)
  ·rw[show ((w.2.2.2.2.1.length:Int)==200)=false by rw[beq_eq_false_iff_ne];omega,cond_false];refine Bwb (by omega) ?_;cases (Ig w.2.2.2.1 t 0).1==w.2.2.2.1.1&&((Ig w.2.2.2.1 t 0).2.1==w.2.2.2.1.2.1&&(Ig w.2.2.2.1 t 0).2.2==w.2.2.2.1.2.2)
   case true=>exact Bub rfl (Brb rfl)
   rw[cond_false];have hfo:D8 (Ig w.2.2.2.1 t 0,f.2)=true:=Gr.2 ⟨(T0 hst t 0).1,by show f.2.2.length≤200;omega,hd⟩;refine Btb rfl (C3b (Ska (w.1,w.2.1,w.2.2.1,Ig w.2.2.2.1 t 0,w.2.2.2.2) s (Ig w.2.2.2.1 t 0,f.2) rc hr hn hs' hfo) ?_);have h5:=(Cb.1 hr).2.1;dsimp only[wN];rw[Wua (by omega) (by omega),Rz (f:=(Ig w.2.2.2.1 t 0,f.2)) (show f.2.2.length≤_ by omega)];simp only[Option.bind_some];refine Bzb (by simp only[List.length_cons,List.length_nil];omega) ?_;unfold Nx
   cases decide ((wrN (w.1,w.2.1,w.2.2.1,Ig w.2.2.2.1 t 0,w.2.2.2.2) s (Ig w.2.2.2.1 t 0,f.2) rc).2.2≥quo w.2.1.1) with
   |true=>exact Brb rfl
   |false=>exact Brb rfl

def Sla (w:Wld) (i:Nat) (s:ByteArray) (rc:List Int) (hr:Hb w.2.1 w.1=true) (hn:NS w.2.2.1) (hi:i<w.2.2.1.length):Tot (λ k=>Af k w (i:Int) s rc) (λ r=>r=N9 w i s rc):=by
 have hni:=hn.get hi;unfold Af N9;have e0:w.2.2.1.getD i ((0:Int),(([],[]),([],[])))=w.2.2.1.getD i A7:=rfl;simp (disch:=omega) only [dT,Vj,e0];have hin:=(Aja hni).1;refine C3b (Aha hin.1.1.1.1 hin.2.1 s) ?_;cases hl:(lkD (w.2.2.1.getD i A7).2.1 s).2 != 0
 case true=>exact Bub rfl (Brb rfl)
 refine Btb rfl ?_;rw[cond_false]
 have hlk:∃ b,gt (w.2.2.1.getD i A7).2.1.1 s=some b:=by
  rw[bne,Ye,beq_iff_eq]at hl;obtain⟨b,hb,_⟩:=M4.1 (show lkD (w.2.2.1.getD i A7).2.1 s=((lkD (w.2.2.1.getD i A7).2.1 s).1,0) from by rw[← hl]);exact⟨b,hb⟩
 have hs:B0 s=true:=Rsa hni.g.1 (by obtain⟨b,hb⟩:=hlk;rw[hb];rfl)
 have hsz:s.size≤1000000000:=by
  have:=Fx.1 (Va _ _ ▸ hs:_∧_).2;omega
 refine C3b (Qj _ s (Kw hr) hsz) ?_;refine C3b (Pk w _ hn.1 (Ql (Kw hr) s)) ?_;have hpl:=Oba (s:=s) hr hn.1;have hc:=λ x=>Jj (w:=w) (s:=s) (x:=x);have hrun:puN w i s rc=run (pst (i:Int) s (lkD (w.2.2.1.getD i A7).2.1 s).1 rc (I0 w s)) (I0 w s).length (w.2.2.1,false,true):=rfl;obtain⟨p1,p2⟩:=Zma (w:=w) (i:=i) (s:=s) (rc:=rc) hn
 have inv:∀ n,n≤(I0 w s).length→NS (run (pst (i:Int) s (lkD (w.2.2.1.getD i A7).2.1 s).1 rc (I0 w s)) n (w.2.2.1,false,true)).1∧(run (pst (i:Int) s (lkD (w.2.2.1.getD i A7).2.1 s).1 rc (I0 w s)) n (w.2.2.1,false,true)).1.length=w.2.2.1.length:=λ n hn'=>
  Hs (λ _ (b:List Nod×Bool×Bool)=>NS b.1∧b.1.length=w.2.2.1.length) ⟨hn,rfl⟩ (λ j b hj hb=>Uja hb (by have:=hc _ (A3 (d:=0) (show j<(I0 w s).length by omega));omega))
 rw[show whr w.2.2.1 (N8 w.2.1 s)=I0 w s from rfl];generalize (lkD (w.2.2.1.getD i A7).2.1 s).1=f at *;generalize I0 w s=ps at *;refine Bsb (Q:=λ r=>r=((i:Int),s,(puN w i s rc).2.2,(puN w i s rc).2.1,wN w (puN w i s rc).1)) ?_ ?_
 ·refine C0b (L:=λ k j (a:List Nod×Bool×Bool)=>Ac k (i:Int) s rc a.2.2 a.2.1 ps (ps.length:Int) j (wN w a.1) f) (Q:=λ r=>r=((i:Int),s,(puN w i s rc).2.2,(puN w i s rc).2.1,wN w (puN w i s rc).1)) ps.length (λ j a=>a=run (pst (i:Int) s f rc ps) j (w.2.2.1,false,true)) ?_ ?_ 0 (w.2.2.1,false,true) (Vv _) rfl
  ·rintro a rfl;simp (disch:=omega) only [Ac,dF];exact Brb (by rw[hrun])
  ·rintro j a hj rfl next;obtain⟨i1,i2⟩:=inv j (by omega);rw[J1]at next;generalize run (pst (i:Int) s f rc ps) j (w.2.2.1,false,true)=a at *;obtain⟨ns,o,g⟩:=a;dsimp only at i1 i2;have hci:=hc _ (A3 (d:=0) hj);obtain⟨m,em⟩:∃ m:Nat,ps.getD j 0=(m:Int):=⟨(ps.getD j 0).toNat,by omega⟩;rw[em]at hci;unfold pst at next;rw[em,Int.toNat_natCast]at next;have e0:ns.getD m ((0:Int),(([],[]),([],[])))=ns.getD m A7:=rfl;simp (disch:=omega) only [Ac,dT,Int.toNat_natCast,w64,em,wN,e0]
   cases hz:(m:Int)==(i:Int) with
   |true=>
    rw[hz]at next;exact Bub rfl (next _ rfl)
   |false=>
    rw[hz]at next;refine Btb rfl ?_;simp only[Ata,Vu]
    cases h1:rch rc j != 1 with
    |true=>
     rw[h1]at next;exact Bub rfl (next _ rfl)
    |false=>
     rw[h1]at next;refine Btb rfl ?_;have hm:=Aja (i1.get (i:=m) (by omega));refine C3b (Hla (ns.getD m A7).2.1 s f true hm.1.1 hm.1.2.1 (H4 hs)) ?_;dsimp only at next ⊢;generalize keep (ns.getD m A7).2.1 s f true=q at *
     cases g with
     |false=>
      refine Btb rfl (next (ns.set m ((ns.getD m A7).1,q.1,(ns.getD m A7).2.2),o,false) ?_)
      cases q.2 != 0&&q.2 != 1<;>rfl
     |true=>
      refine Bub rfl ?_;cases h2:q.2==0
      case true=>rw[bne,h2]at next;exact Bub rfl (next _ rfl)
      rw[bne,h2]at next;refine Btb rfl ?_
      cases h3:q.2==1 with
      |true=>rw[bne,h3]at next;exact next _ rfl
      |false=>rw[bne,h3]at next;exact next _ rfl
 ·rintro r rfl;dsimp only[wN];generalize puN w i s rc=a at *;obtain⟨ns,o,g⟩:=a;dsimp only at p1 p2 ⊢
  cases o with
  |true=>
   refine Btb rfl (Brb ?_);rw[Yt,Xs];rfl
  |false=>
   refine Bub rfl ?_;cases g
   ·exact Btb rfl (Brb rfl)
   refine Bub rfl ?_;have e0:ns.getD i ((0:Int),(([],[]),([],[])))=ns.getD i A7:=rfl;simp (disch:=omega) only [dT,Vj,e0];have hg:=(p1.get (i:=i) (by omega)).g;refine C3b (Fca hg.1) ?_;refine C3b (Cva (Zca hg).1 hs) ?_;exact Brb rfl
def Sma {n:Nod} {l:List Row} (hn:NG n) (hl:Ho l=true):Rwa n l=((tk n l).2,(tk n l).1):=by
 unfold Rwa tk;rw[hn.1,hl]
 cases decide ((Ky n.2.2.1 l).length > 60)<;>rfl
def Dga (w:Wld) (src:Int) (l:List Row) (rc:List Int) (hr:RBd w.2.1) (hn:NS w.2.2.1) (hl:Ho l=true):
  Tot (λ k=>Al k w l rc src) (λ r=>r=((I7 w src l false rc).2,wN w (I7 w src l false rc).1)):=by
 have hll:=Fga hl;unfold Al;refine C3b (Pm w hr hn.1) ?_;have hpl:=Uo hr hn.1;have hc:=λ x=>Io (w:=w) (x:=x);have hrun:I7 w src l false rc=run (gst src l false rc (Ar w)) (Ar w).length (w.2.2.1,true):=rfl
 have inv:∀ n,n≤(Ar w).length→NS (run (gst src l false rc (Ar w)) n (w.2.2.1,true)).1∧(run (gst src l false rc (Ar w)) n (w.2.2.1,true)).1.length=w.2.2.1.length:=λ n hn'=>
  Hs (λ _ (b:List Nod×Bool)=>NS b.1∧b.1.length=w.2.2.1.length) ⟨hn,rfl⟩ (λ j b hj hb=>Uka hl hb (by have:=hc _ (A3 (d:=0) (show j<(Ar w).length by omega));omega))
 generalize Ar w=ls at *;refine Bsb (Q:=λ r=>r=((I7 w src l false rc).2,wN w (I7 w src l false rc).1)) ?_ (by rintro r rfl;exact Brb rfl);refine C0b (L:=λ k j (a:List Nod×Bool)=>As k l rc src a.2 ls (ls.length:Int) j (wN w a.1)) (Q:=λ r=>r=((I7 w src l false rc).2,wN w (I7 w src l false rc).1)) ls.length (λ j a=>a=run (gst src l false rc ls) j (w.2.2.1,true)) ?_ ?_ 0 (w.2.2.1,true) (Vv _) rfl
 ·rintro a rfl;simp (disch:=omega) only [As,dF];exact Brb (by rw[hrun])
 ·rintro j a hj rfl next;obtain⟨i1,i2⟩:=inv j (by omega);rw[J1]at next;generalize run (gst src l false rc ls) j (w.2.2.1,true)=a at *;obtain⟨ns,g⟩:=a;dsimp only at i1 i2;have hci:=hc _ (A3 (d:=0) hj);obtain⟨m,em⟩:∃ m:Nat,ls.getD j 0=(m:Int):=⟨(ls.getD j 0).toNat,by omega⟩;rw[em]at hci;unfold gst at next;rw[em,Int.toNat_natCast,Bool.not_false,Bool.and_true]at next;have e0:ns.getD m ((0:Int),(([],[]),([],[])))=ns.getD m A7:=rfl;have hm:=i1.get (i:=m) (by omega);simp (disch:=omega) only [As,dT,Int.toNat_natCast,w64,em,e0,wN]
  cases hz:(m:Int)==src with
  |true=>
   rw[hz]at next;exact Bub rfl (next _ rfl)
  |false=>
   rw[hz]at next;refine Btb rfl ?_;simp only[Ata,Vu]
   cases h1:rch rc j != 1 with
   |true=>
    rw[h1]at next;exact Bub rfl (next _ rfl)
   |false=>
    rw[h1]at next;refine Btb rfl (C3b (Rxa (ns.getD m A7) l (Aja hm) hll) ?_);rw[Sma hm hl];dsimp only at next ⊢;generalize tk (ns.getD m A7) l=q at *
    cases g with
    |false=>
     refine Btb rfl (next (ns.set m q.2,false) ?_)
     cases q.1<;>rfl
    |true=>
     refine Bub rfl (next (ns.set m q.2,q.1) ?_)
     cases q.1<;>rfl

def O3 {l:List Row} (h:l.length≤2000000000):Ai l=some l:=by
 unfold Ai;rw[bT (by simp only[Vq];omega),Wn]
def K3a (w:Wld) (src:Int) (l:List Row) (rc:List Int):I7 w (-1) l false rc=I7 w src l true rc:=by
 unfold I7;refine Hs (λ n (a:List Nod×Bool)=>a=run (gst src l true rc (Ar w)) n (w.2.2.1,true)) rfl (λ j b hj hb=>?_);rw[J1,← hb];have:=(Io (A3 (d:=0) hj)).1;unfold gst;rw[show ((Ar w).getD j 0 == -1)=false by rw[beq_eq_false_iff_ne];omega,Yt,Xs,Zb]
def Fra (w:Wld) (src:Int) (l:List Row) (self:Bool) (rc:List Int) (m:Nat):((I7 w src l self rc).1.getD m A7).2.2.2=(w.2.2.1.getD m A7).2.2.2:=by
 unfold I7;refine Hs (λ n (a:List Nod×Bool)=>(a.1.getD m A7).2.2.2=(w.2.2.1.getD m A7).2.2.2) rfl (λ j b hj hb=>?_);unfold gst;cases (Ar w).getD j 0==src&&!self
 case true=>exact hb
 cases rch rc j != 1
 case true=>exact hb
 rw[cond_false,cond_false];generalize ((Ar w).getD j 0).toNat=i;show ((b.1.set i (tk (b.1.getD i A7) l).2).getD m A7).2.2.2=_
 by_cases hm:m<b.1.length
 ·rw[Bl hm]
  by_cases hi:i=m
  ·subst hi;rw[if_pos rfl,← hb];unfold tk
   cases decide ((Ky (b.1.getD i A7).2.2.1 l).length > 60)<;>rfl
  ·rw[if_neg hi];exact hb
 ·rw[Vb,Yu (by rw[Vt];omega)];rw[Vb,Yu (by omega)]at hb;exact hb
def Oja (w:Wld) (i:Nat) (rc:List Int) (hr:RBd w.2.1) (hn:NS w.2.2.1) (hi:i<w.2.2.1.length):Tot (λ k=>Bh k w (i:Int) rc) (λ r=>r=M9 w i rc):=by
 have hni:=hn.get hi;have e0:w.2.2.1.getD i ((0:Int),(([],[]),([],[])))=w.2.2.1.getD i A7:=rfl;have hl:=(Bj.1 hni.1).2.2.2.1;have hll:=(Fga hl).1;unfold Bh M9;simp (disch:=omega) only [dT,Vj,e0,O3 (show (w.2.2.1.getD i A7).2.2.1.length≤2000000000 by omega),Vu];cases hz:((w.2.2.1.getD i A7).2.2.1.length:Int)==0
 case true=>exact Bub rfl (Brb rfl)
 refine Btb rfl (C3b (Dga w (i:Int) _ rc hr hn hl) ?_);obtain⟨p1,p2⟩:=Qm (w:=w) (src:=(i:Int)) (self:=false) (rc:=rc) hl hn;rw[show I7 w (i:Int) (w.2.2.1.getD i A7).2.2.1 false rc=Ha w i rc from rfl]at p1 p2 ⊢;generalize Ha w i rc=a at *;obtain⟨ns,g⟩:=a;dsimp only at p1 p2 ⊢;cases g
 ·exact Btb rfl (Brb rfl)
 refine Bub rfl (C3b (Pm (wN w ns) hr p1.1) ?_);refine C3b (Pf _ _ (by have:=Uo (w:=wN w ns) hr p1.1;omega)) ?_;cases Gp (Ar (wN w ns)) (i:Int)
 case true=>exact Btb rfl (Brb rfl)
 have e1:ns.getD i ((0:Int),(([],[]),([],[])))=ns.getD i A7:=rfl;refine Bub rfl ?_;simp (disch:=omega) only [dT,Vj,e1];exact Brb rfl
def Oka (w:Wld) (i:Nat) (rc:List Int) (hr:RBd w.2.1) (hn:NS w.2.2.1) (hi:i<w.2.2.1.length):Tot (λ k=>Bn k w (i:Int) rc) (λ r=>r=N1 w i rc):=by
 have hni:=hn.get hi;have e0:w.2.2.1.getD i ((0:Int),(([],[]),([],[])))=w.2.2.1.getD i A7:=rfl;obtain⟨hq,_,_,_,hq60⟩:=Bj.1 hni.1;have hl:=J5 hq;unfold Bn N1;simp (disch:=omega) only [dT,Vj,e0];cases hz:((w.2.2.1.getD i A7).2.2.2.length:Int)==0
 case true=>exact Bub rfl (Brb rfl)
 have h1:=beq_eq_false_iff_ne.1 hz;refine Btb rfl (Bvb (by omega) ?_);rw[show List.take (toNat 1) (w.2.2.1.getD i A7).2.2.2=List.take 1 (w.2.2.1.getD i A7).2.2.2 from rfl,O3 (by rw[List.length_take];omega)];simp only[Option.bind_some];refine C3b (Dga w (-1) _ rc hr hn hl) ?_;rw[K3a w (i:Int)];obtain⟨p1,p2⟩:=Qm (w:=w) (src:=(i:Int)) (self:=true) (rc:=rc) hl hn;have hqu:=Fra w (i:Int) ((w.2.2.1.getD i A7).2.2.2.take 1) true rc i;rw[show I7 w (i:Int) ((w.2.2.1.getD i A7).2.2.2.take 1) true rc=Ih w i rc from rfl]at p1 p2 hqu ⊢;generalize Ih w i rc=a at *;obtain⟨ns,g⟩:=a;dsimp only at p1 p2 hqu ⊢;cases g
 ·exact Btb rfl (Brb rfl)
 have e1:ns.getD i ((0:Int),(([],[]),([],[])))=ns.getD i A7:=rfl;refine Bub rfl ?_;simp (disch:=omega) only [dT,Vj,e1,hqu];rw[show List.drop (toNat 1) (w.2.2.1.getD i A7).2.2.2=List.drop 1 (w.2.2.1.getD i A7).2.2.2 from rfl,O3 (by rw[Wf];omega)];exact Brb rfl

end Go.Proofs.YtcpligincipmhaaGreat.Vf
