import Derived.Test.YtcpligincipmhaaGreatMal
set_option linter.all false
namespace Go.Proofs.YtcpligincipmhaaGreat.Vf
open Go
open List (length getD)
open Int (toNat)
open Go.IntKind (wrap)
open BitVec (ofInt)
def Zy:=@List.mem_range
def Dkb:=@List.pairwise_singleton
def Epb:=@List.drop_append_of_le_length
def Eqb:=@List.take_append_of_le_length
def Erb:=@List.getElem_map

def Xha {d:Dsk} {s:ByteArray} {n:Int} (h:DG d) (hn:n≤9223372036854775807) (hn0 : -9223372036854775808≤n):Tot (λ k=>H4 k d s n) (λ r=>r=Qq d s n):=by
 have hin:=P8 h.1;unfold H4;refine Cqb (Fm d hin.1.1) ?_;refine Cqb (Ux d.1 s hin.1.1.1.1) ?_;refine Cqb (Ux d.2 s hin.1.1.2.1) ?_;refine Cqb (Ld d hin.1.1 hin.1.2) ?_;rw[h.1];refine Chb rfl ?_;unfold Qq;unfold Sda
 cases hf:fnd d.1 s with
 |none=>
  have hg:gt d.1 s=none:=by unfold gt;rw[hf]
  rw[hg];exact Cjb (by decide) (Cfb rfl)
 |some i=>
  have hg:gt d.1 s=some (d.1.getD i Hg).2:=by unfold gt;rw[hf]
  have hi:=(M5 hf).1;have hnm:=(M5 hf).2;have hb:=Uxa h.1 hg;rw[hg];have e0:d.1.getD i ((⟨#[]⟩:ByteArray),([]:List Int))=d.1.getD i Hg:=rfl;simp only[Vj,e0];refine Ckb (by omega) ?_
  have out:∀ {b:Bool},inR n 0 (8*((d.1.getD i Hg).2.length:Int)-1)=b→b=false→(d,false)=bif inR n 0 (8*((d.1.getD i Hg).2.length:Int)-1) then ((wr d.1 s (Jo (d.1.getD i Hg).2 n.toNat),bif decide (gt d.2 s=some (d.1.getD i Hg).2) then wr d.2 s (Jo (d.1.getD i Hg).2 n.toNat) else d.2),true) else (d,false):=λ e e'=>by rw[e,e'];rfl
  refine Cmb (λ hneg=>Cfb (out rfl ?_)) (λ hneg=>?_)
  ·cases hc:inR n 0 (8*((d.1.getD i Hg).2.length:Int)-1) with
   |false=>rfl
   |true=>have:=Dg.1 hc;omega
  ·obtain⟨m,rfl⟩:∃ m:Nat,n=(m:Int):=⟨n.toNat,by omega⟩
   have et:wrap .i64 (Int.tdiv (m:Int) 8)=((m/8:Nat):Int):=by
    rw[Dvb (by omega),w64 (by omega) (by omega)];omega
   have eu:Int.tmod (m:Int) 8=((m % 8:Nat):Int):=by
    rw[Cvb (by omega)];omega
   simp only[et,eu,Vj,X8a _ _ (Ftb m (show 0<8 by omega))];refine Cjb (by omega) (Cjb (by omega) (Cmb (λ hc=>Cfb (out rfl ?_)) (λ hc=>?_)))
   ·cases hr:inR (m:Int) 0 (8*((d.1.getD i Hg).2.length:Int)-1) with
    |false=>rfl
    |true=>have:=Dg.1 hr;omega
   ·have hr:inR (m:Int) 0 (8*((d.1.getD i Hg).2.length:Int)-1)=true:=Dg.2 ⟨by omega,by omega⟩
    have hm8:m/8<(d.1.getD i Hg).2.length:=by omega
    rw[hr];refine Ckb (by omega) (Cjb (by omega) (Cjb (by omega) (Cjb (by omega) (Cjb (by omega) (Cjb (by omega) (Cjb (by omega) ?_))))))
    have ew':d.1.set i ((d.1.getD i Hg).1,(d.1.getD i Hg).2.set (m/8) (Wu ((d.1.getD i Hg).2.getD (m/8) 0) (m % 8)))=wr d.1 s (Jo (d.1.getD i Hg).2 m):=by rw[hnm];exact Oha (Hq h.1) hf _
    cases hf2:fnd d.2 s with
    |none=>
     have hg2:gt d.2 s=none:=by unfold gt;rw[hf2]
     rw[hg2];refine Ckb (by decide) (Cfb ?_);rw[ew'];rfl
    |some j=>
     have hg2:gt d.2 s=some (d.2.getD j Hg).2:=by unfold gt;rw[hf2]
     have hj:=(M5 hf2).1;have hjn:=(M5 hf2).2;have e1:d.2.getD j ((⟨#[]⟩:ByteArray),([]:List Int))=d.2.getD j Hg:=rfl;rw[hg2];simp only[Vj,e1];refine Cjb (by omega) (Cjb (by omega) (Cjb (by omega) (Cjb (by omega) (Cjb (by omega) ?_))));rw[V1 (h.2.2.gt hg2) (h.2.1.gt hg)];refine Cmb (λ he=>?_) (λ he=>?_)
     ·have hl2:(d.2.getD j Hg).2.length=(d.1.getD i Hg).2.length:=by rw[he]
      refine Cjb (by omega) (Cjb (by omega) (Cjb (by omega) (Cjb (by omega) (Cjb (by omega) (Cjb (by omega) (Cfb ?_))))))
      have ew2:d.2.set j ((d.2.getD j Hg).1,(d.2.getD j Hg).2.set (m/8) (Wu ((d.2.getD j Hg).2.getD (m/8) 0) (m % 8)))=wr d.2 s (Jo (d.1.getD i Hg).2 m):=by
       rw[hjn,he];exact Oha (Kt h.1) hf2 _
      rw[ew',ew2,he,decide_eq_true rfl];rfl
     ·refine Cfb ?_;rw[ew',decide_eq_false (λ c=>he (Deb c))];rfl
def clS (o:Dsk×Int) (x:Nmd):Dsk×Int:=match Ka x.2 with
 |some _=>o
 |none=>((cut o.1.1 x.1,cut o.1.2 x.1),o.2+1)
def Ji (d:Dsk):Dsk×Int:=d.1.foldl clS (d,0)
def Abb {d:Dsk} {s:ByteArray} (h:DG d):DG (cut d.1 s,cut d.2 s):=⟨E4.2 ⟨Sf (E4.1 h.1).1,Sf (E4.1 h.1).2⟩,h.2.1.cut s,h.2.2.cut s⟩
def Xia {o:Dsk×Int} {x:Nmd} (h:DG o.1):DG (clS o x).1:=by
 unfold clS
 cases Ka x.2 with
 |some _=>exact h
 |none=>exact Abb h
def Ina:∀ (l:List Nmd) (o:Dsk×Int),DG o.1→DG (l.foldl clS o).1
 |[],_,h=>h
 |_::l,_,h=>Ina l _ (Xia h)
def Sza {d:Dsk} (h:DG d):DG (Ji d).1:=Ina _ _ h
def B6a (l:List Nmd):List ByteArray:=(l.filter λ x=>(Ka x.2).isNone).map Prod.fst
def Pu:∀ (l:List Nmd) (o:Dsk×Int),DG o.1→((l.foldl clS o).2=o.2+((B6a l).length:Int))∧∀ t,(t∈B6a l→gt (l.foldl clS o).1.1 t=none∧gt (l.foldl clS o).1.2 t=none)∧(t∉B6a l→gt (l.foldl clS o).1.1 t=gt o.1.1 t∧gt (l.foldl clS o).1.2 t=gt o.1.2 t)
 |[],o,h=>⟨by simp[B6a],λ t=>⟨λ c=>by simp[B6a]at c,λ _=>⟨rfl,rfl⟩⟩⟩
 |x::l,o,h=>by
  obtain⟨h1,h2⟩:=Pu l (clS o x) (Xia h);rw[Za]
  cases hx:Ka x.2 with
  |some f=>
   have e:B6a (x::l)=B6a l:=by unfold B6a;rw[Cub,hx];rfl
   have ec:clS o x=o:=by unfold clS;rw[hx]
   rw[e];rw[ec]at h1 h2 ⊢;exact⟨h1,h2⟩
  |none=>
   have e:B6a (x::l)=x.1::B6a l:=by unfold B6a;rw[Cub,hx];rfl
   have ec:clS o x=((cut o.1.1 x.1,cut o.1.2 x.1),o.2+1):=by unfold clS;rw[hx]
   rw[e];rw[ec]at h1 h2 ⊢;refine⟨by rw[h1,Vh];omega,λ t=>⟨λ ht=>?_,λ ht=>?_⟩⟩
   ·by_cases hb:t∈B6a l
    ·exact(h2 t).1 hb
    ·obtain⟨a1,a2⟩:=(h2 t).2 hb
     have:x.1=t:=by
      rcases Vk.1 ht with e|e
      ·exact e.symm
      ·exact absurd e hb
     rw[a1,a2,Qp (Hq h.1),Qp (Kt h.1),if_pos this,if_pos this];exact⟨rfl,rfl⟩
   ·obtain⟨a1,a2⟩:=(h2 t).2 (λ c=>ht (Vd _ c));have:x.1≠t:=λ e=>ht (by rw[← e];exact Wj);rw[a1,a2,Qp (Hq h.1),Qp (Kt h.1),if_neg this,if_neg this];exact⟨rfl,rfl⟩
def Ioa {d:Dsk} (hd:C9 d=true) {t:ByteArray}:t∈B6a d.1↔∃ b,gt d.1 t=some b∧Ka b=none:=by
 unfold B6a;rw[Yt];constructor
 ·rintro⟨x,hx,rfl⟩;obtain⟨h1,h2⟩:=Dfb.1 hx;exact⟨x.2,Fza (Hq hd) h1,by simpa using h2⟩
 ·rintro⟨b,h1,h2⟩;exact⟨(t,b),Dfb.2 ⟨Kd h1,by simp[h2]⟩,rfl⟩
def P2a (d:Dsk) (hd:DG d):Tot (λ k=>G0 k d) (λ r=>r=Ji d):=by
 have hin:=P8 hd.1;have hl:=(B5.1 (E4.1 hd.1).1).2.2;unfold G0;refine Cqb (Fm d hin.1.1) ?_;refine Cqb (Ld d hin.1.1 hin.1.2) ?_;rw[hd.1];refine Chb rfl (Cgb (Q:=λ r=>r=((Ji d).2,([],[]),(Ji d).1)) ?_ (by rintro r rfl;exact Cfb rfl));refine Cob (L:=λ k i (s:Dsk×Int)=>Fe k s.2 d.1 (d.1.length:Int) i ([],[]) s.1) (Q:=λ r=>r=((Ji d).2,([],[]),(Ji d).1)) d.1.length (λ j s=>(d.1.drop j).foldl clS s=Ji d∧DG s.1∧0≤s.2∧s.2≤j) ?_ ?_ 0 (d,0) (Vu _) ⟨rfl,hd,Zza 0,by simp⟩
 ·rintro s ⟨h,_⟩;rw[Ye]at h;simp (disch:=omega) only [Fe,dF];exact Cfb (by rw[← h];rfl)
 ·rintro j s hj ⟨h,hg,s0,s1⟩ next;rw[C8 (d:=Hg) hj,Za]at h;have hsi:=P8 hg.1;have hx:=A3 (d:=Hg) hj;simp (disch:=omega) only [Fe,dT,Vj,w64];have e0:d.1.getD j ((⟨#[]⟩:ByteArray),([]:List Int))=d.1.getD j Hg:=rfl;rw[e0];refine Cqb (My _ (hd.2.1 _ hx) (hin.1.1.1.2 _ hx)) ?_;have hcg:=Xia (x:=d.1.getD j Hg) hg;unfold clS at h hcg;unfold Axa
  cases hf:Ka (d.1.getD j Hg).2 with
  |some f=>
   rw[hf]at h;exact Chb rfl (next _ ⟨h,hg,s0,by omega⟩)
  |none=>
   rw[hf]at h hcg;refine Cib rfl (Cqb (Qo s.1.1 _ hsi.1.1.1.1) ?_);refine Cqb (Qo s.1.2 _ hsi.1.1.2.1) ?_;rw[Ny (Hq hg.1),Ny (Kt hg.1)];exact next ((cut s.1.1 (d.1.getD j Hg).1,cut s.1.2 (d.1.getD j Hg).1),s.2+1) ⟨h,hcg,by dsimp only;omega,by dsimp only;omega⟩

def Xja (d:Dsk):List ByteArray:=(d.1.filter λ x=>(Ka x.2).isSome).map Prod.fst
def hI (d:Dsk) (out:List ByteArray) (x:Nmd):List ByteArray:=bif (lkD d x.1).2==0 then wt out x.1 else out
def N9 (d:Dsk):List ByteArray:=d.1.foldl (hI d) []
def V4a (d:Dsk):∀ (l:List Nmd) (out:List ByteArray),(l.foldl (hI d) out).length≤out.length+l.length
 |[],out=>by simp
 |x::l,out=>by
  have h1:=V4a d l (hI d out x)
  have h2:(hI d out x).length≤out.length+1:=by
   unfold hI
   cases (lkD d x.1).2==0 with
   |false=>exact Dab _
   |true=>exact Iaa
  rw[Za,Vh];omega
def T0a (d:Dsk) (hd:DIn d) (hb:DB d):Tot (λ k=>Gl k d) (λ r=>r=N9 d):=by
 have hl:=hd.2.1;unfold Gl;refine Cgb (Q:=λ r=>r=N9 d) ?_ (by rintro r rfl;exact Cfb rfl);refine Cob (L:=λ k i s=>G4 k s d.1 (d.1.length:Int) i d) (Q:=λ r=>r=N9 d) d.1.length (λ j s=>(d.1.drop j).foldl (hI d) s=N9 d∧s.length≤j) ?_ ?_ 0 [] (Vu _) ⟨rfl,Vw _⟩
 ·rintro s ⟨h,_⟩;rw[Ye]at h;simp (disch:=omega) only [G4,dF];exact Cfb h
 ·rintro j s hj ⟨h,hs⟩ next;rw[C8 (d:=Hg) hj,Za]at h;simp (disch:=omega) only [G4,dT,Vj,w64];have e0:d.1.getD j ((⟨#[]⟩:ByteArray),([]:List Int))=d.1.getD j Hg:=rfl;rw[e0];refine Cqb (Oy hd.1.1.1 hb.1 _) ?_;unfold hI at h
  cases hc:(lkD d (d.1.getD j Hg).1).2==0 with
  |false=>
   rw[hc]at h;exact Chb rfl (next _ ⟨h,by omega⟩)
  |true=>
   rw[hc]at h;refine Cib rfl (Cqb (Mu s _ (by omega)) ?_);have:=Iaa (l:=s) (s:=(d.1.getD j Hg).1);exact next _ ⟨h,by omega⟩
def Dua {p:ByteArray→Bool}:∀ {l:List ByteArray},(∀ y∈l,p y=true)→l.takeWhile p=l
 |[],_=>rfl
 |x::l,h=>by rw[Zo,if_pos (h x Wj),Dua (λ y hy=>h y (Vd _ hy))]
def Xka {l:List ByteArray} {s:ByteArray} (h:∀ y∈l,tlt y s=true):wt l s=l++[s]:=by
 have e:tpl l s=l.length:=by
  unfold tpl;rw[Dua h]
 unfold wt;rw[e,if_neg (by omega),Zf,Ye,Wo]
def Acb {d:Dsk} (hs:Db d.1) {x:Nmd} (hx:x∈d.1):((lkD d x.1).2==0)=(Ka x.2).isSome:=by
 unfold lkD;rw[Fza hs hx];simp only
 cases Ka x.2<;>rfl
def T1a {d:Dsk} (hs:Db d.1):N9 d=Xja d:=by
 have key:∀ (l:List Nmd) (out:List ByteArray),(∀ x∈l,x∈d.1)→Db l→(∀ y∈out,∀ x∈l,tlt y x.1=true)→l.foldl (hI d) out=out++(l.filter λ x=>(Ka x.2).isSome).map Prod.fst:=by
  intro l
  induction l with
  |nil=>intro out _ _ _;simp
  |cons x l ih=>
   intro out hm hsl ho;obtain⟨h1,h2⟩:=Wa.1 hsl;rw[Za,Cub];have hx:=Acb hs (hm x Wj);unfold hI;rw[hx];cases hf:(Ka x.2).isSome
   ·exact ih out (λ y hy=>hm y (Vd _ hy)) h2 (λ y hy z hz=>ho y hy z (Vd _ hz))
   rw[cond_true,Xka (λ y hy=>ho y hy x Wj),if_pos rfl,Ya]
   have:=ih (out++[x.1]) (λ y hy=>hm y (Vd _ hy)) h2 (λ y hy z hz=>by
    rcases Vm.1 hy with hy|hy
    ·exact ho y hy z (Vd _ hz)
    ·rw[Vp.1 hy];exact h1 z hz)
   unfold hI at this;rw[this,Vo];rfl
 unfold N9 Xja;rw[key d.1 [] (λ _ h=>h) hs (λ y hy=>by cases hy),Wn]
def T2a (l:List ByteArray) (s:ByteArray):Bool:=l.any λ y=>teq y s
def Mz {l:List ByteArray} {s:ByteArray}:T2a l s=true↔s∈l:=by
 unfold T2a;rw[Enb];constructor
 ·rintro⟨x,hx,e⟩;rw[← Cn.1 e];exact hx
 ·intro h;exact⟨s,h,Cn.2 rfl⟩
def Yoa (l:List ByteArray):Nat→ByteArray→List ByteArray×Nat
 |0,_=>(l,0)
 |k+1,s=>bif tlt s (l.getD k Le) then Yoa (l.set (k+1) (l.getD k Le)) k s else (l,k+1)
def B6b (l:List ByteArray) (s:ByteArray):List ByteArray:=(Yoa (l++[s]) l.length s).1.set (Yoa (l++[s]) l.length s).2 s
def hS1 (l:List Nmd) (j:Nat) (out:List ByteArray) (x:Nmd):List ByteArray:=bif (Ka x.2).isSome&&(!(T2a out x.1)&&(Sda l x.1==(j:Int))) then B6b out x.1 else out
def hS (l:List Nmd):List Nmd→Nat→List ByteArray→List ByteArray
 |[],_,out=>out
 |x::r,j,out=>hS l r (j+1) (hS1 l j out x)

def G9a (n:Nod) (s:ByteArray) (f:Fil) (sure:Bool) (hn:NIn n) (hs:Ky s):Tot (λ k=>Gk k n s f sure) (λ r=>r=B5b n s f sure):=by
 have hq:=hn.2.2.1;unfold Gk B5b;refine Cqb (Ig n hn) ?_;refine Cqb (Qr n hn) ?_;cases h1:J0 n
 ·exact Cib rfl (Cfb rfl)
 have h60:=(Bx.1 h1).2.2.2.2;refine Chb rfl (Cqb (Jv s hs) ?_);cases B8 s
 ·exact Cib rfl (Cfb rfl)
 refine Chb rfl (Cqb (Crb (Q:=λ r=>r=Ds f) (Ta f) rfl) ?_);cases Ds f
 ·exact Cib rfl (Cfb rfl)
 refine Chb rfl ?_;unfold Py;refine Cmb (λ h=>Cfb ?_) (λ h=>?_)
 ·rw[show ((n.2.2.2.length:Int)==60)=true from beq_iff_eq.2 (by omega)];rfl
 ·rw[show ((n.2.2.2.length:Int)==60)=false from beq_eq_false_iff_ne.2 (by omega)];refine Cqb (Iba n.2.1 s f sure hn.1.1 hn.1.2.1 hs) ?_;cases (keep n.2.1 s f sure).2==0
  ·exact Chb rfl (Cfb rfl)
  refine Cib rfl ?_;cases sure
  ·exact Chb rfl (Cfb rfl)
  refine Cib rfl (Cqb (Crb (Q:=λ r=>r=Su s f) (show I5 s f=some (Su s f) from rfl) rfl) ?_);exact Cnb (by simp only[Vh,Vs];omega) (Cfb rfl)
def Gaa (n:Nod) (s:ByteArray) (b:Int) (hn:NIn n) (h1:b≤9223372036854775807) (h0 : -9223372036854775808≤b):Tot (λ k=>Gn k n s b) (λ r=>r=Aza n s b):=by
 unfold Gn Aza;refine Cqb (Ig n hn) ?_;refine Cqb (Oy hn.1.1.1.1.1 hn.1.2.1 s) ?_;refine Cqb (Qr n hn) ?_;cases h:J0 n
 ·exact Cib rfl (Cfb rfl)
 refine Chb rfl ?_;cases hl:(lkD n.2.1 s).2==0
 ·exact Cib (by unfold bne;rw[hl];rfl) (Cfb rfl)
 refine Chb (by unfold bne;rw[hl];rfl) (Cqb (Xha (NG.g ⟨h,hn.1.2⟩) h1 h0) ?_);refine Cfb ?_;cases hr:(Qq n.2.1 s b).2
 case true=>rfl
 have e:(Qq n.2.1 s b).1=n.2.1:=by
  unfold Qq at hr ⊢
  cases hg:gt n.2.1.1 s with
  |none=>rfl
  |some c=>
   rw[hg]at hr;simp only at hr ⊢
   cases hc:inR b 0 (8*(c.length:Int)-1) with
   |false=>rfl
   |true=>rw[hc]at hr;cases hr
 rw[e];rfl
def V5a (n:Nod):Nod×Int:=((n.1,(Ji n.2.1).1,n.2.2),(Ji n.2.1).2)
def P3a (n:Nod) (kp:List Bool):Nod:=bif J0 n then (n.1,P0 n.2.1 kp,n.2.2) else n
def B7a {n:Nod} (hn:NG n) {d:Dsk} (hd:DG d):NG (n.1,d,n.2.2):=by
 obtain⟨h1,h2,h3,h4,h5⟩:=Bx.1 hn.1;exact⟨Bx.2 ⟨h1,h2,hd.1,h4,h5⟩,hd.2⟩
def Ipa {n:Nod} (hn:NG n):NG (V5a n).1:=B7a hn (Sza hn.g)
def Dva (n:Nod) (hn:NG n):Tot (λ k=>Da k n) (λ r=>r=V5a n):=by
 unfold Da;refine Cqb (Ig n (St hn)) ?_;refine Cqb (P2a n.2.1 hn.g) ?_;exact Cfb rfl
def P4a (n:Nod) (kp:List Bool) (hn:NIn n) (hk:kp.length≤4000000000000):Tot (λ k=>Fa k n kp) (λ r=>r=P3a n kp):=by
 unfold Fa P3a;refine Cqb (Ig n hn) ?_;refine Cqb (Qr n hn) ?_;cases h:J0 n
 ·exact Chb rfl (Cfb rfl)
 refine Cib rfl (Cqb (P1a n.2.1 kp (NG.g ⟨h,hn.1.2⟩) hk) ?_);exact Cfb rfl

def Dwa (v:BitVec 32) (b:Int):BitVec 32:=(v ^^^ ofInt 32 b)*16777619#32
def Koa (x:ByteArray):Nat→BitVec 32
 |0=>2166136261#32
 |n+1=>Dwa (Koa x n) (bt x (n:Int))
def V6a (x:ByteArray):Nat:=(Koa x x.size).toNat
def Ceb (v:BitVec 32):wrap .u32 ((v.toNat:Int)*16777619)=((v*16777619#32).toNat:Int):=by
 rw[IntKind.wrap_u32,BitVec.toNat_mul];show (v.toNat:Int)*16777619 % 4294967296=((v.toNat*16777619 % 4294967296:Nat):Int);omega
def T3a (x:ByteArray) (hx:x.size≤1000000000):Tot (λ k=>I3 k x) (λ r=>r=(V6a x:Int)):=by
 unfold I3
 refine Cgb (Q:=λ r=>r=(V6a x:Int)) ?_ (by
  rintro r rfl;have:=(Koa x x.size).isLt
  exact Cfb (w64 (n:=(V6a x:Int)) (by omega) (by show ((Koa x x.size).toNat:Int)≤_;omega)))
 refine Cob (L:=λ k i (s:Int)=>Gf k x s i) (Q:=λ r=>r=(V6a x:Int)) x.size (λ j s=>s=((Koa x j).toNat:Int)) ?_ ?_ 0 _ (Vu _) rfl
 ·rintro s rfl;simp (disch:=omega) only [Gf,dF];exact Cfb rfl
 ·rintro j s hj rfl next;have hb:=Nya x (j:Int);have e1:wrap .u32 (bt x (j:Int))=bt x (j:Int):=Fbb _ ⟨by omega,by omega⟩;simp (disch:=omega) only [Gf,dT,w64,e1,Bnb (Koa x j) _ (bt x (j:Int)) rfl,Ceb];exact next _ rfl
def O5 (r:Rng) (x:ByteArray):List Int:=r.2.getD (V6a x % r.2.length) []
def Bsb (a b:Nat):Int.tmod (a:Int) (b:Int)=((a % b:Nat):Int):=by
 rw[Cvb (by omega)];exact(Int.natCast_emod _ _).symm
def Th (r:Rng) (x:ByteArray) (hr:RBd r) (hx:x.size≤1000000000):Tot (λ k=>B3 k r x) (λ y=>y=O5 r x):=by
 have hrl:=hr.1;unfold B3
 by_cases h0:r.2.length=0
 ·refine Cib (by rw[h0];rfl) (Cfb ?_);unfold O5;rw[Wl h0];rfl
 ·have hm:=Ftb (V6a x) (show 0<r.2.length by omega);refine Chb (by rw[beq_eq_false_iff_ne];omega) (Cgb (Q:=λ y=>y=((V6a x % r.2.length:Nat):Int)) ?_ ?_)
  ·unfold Hf;refine Ckb (by omega) (Cqb (T3a x hx) ?_);exact Ckb (by omega) (Cfb (Bsb _ _))
  ·rintro y rfl;simp (disch:=omega) only [dT,Vj];have hp:=hr.2 _ (A3 (d:=[]) hm);rw[Sg _ (by omega)];exact Cfb rfl
def T4a {r:Rng} {l:List Dev} (h:Gb r l=true) (x:ByteArray):O5 r x∈r.2:=by
 obtain⟨_,_,h3,_⟩:=Bl.1 h;exact A3 (d:=[]) (Ftb _ (by omega))
def O6 {r:Rng} {l:List Dev} (h:Gb r l=true) (x:ByteArray):(O5 r x).Nodup∧((O5 r x).length:Int)=r.1∧∀ id∈O5 r x,∃ d,Ih l id=some d:=(Bl.1 h).2.2.2 _ (T4a h x)
def hoA (p zs:List Int) (z:Bool) (l:List Dev):List Int:=(l.filter λ d => !(Hr p d.1)&&(Hr zs d.2.1==z)).map (·.1)
def Li (r:Rng) (l:List Dev) (x:ByteArray):List Int:=hoA (O5 r x) (Fj (O5 r x) l) false l++hoA (O5 r x) (Fj (O5 r x) l) true l
def B8a (p zs:List Int) (z:Bool) (l:List Dev):(hoA p zs z l).length≤l.length:=by
 unfold hoA;rw[Vz];exact List.length_filter_le _ _
def T5a (p zs:List Int) (z:Bool) (d:Dev) (l:List Dev):hoA p zs z (d::l)=bif !(Hr p d.1)&&(Hr zs d.2.1==z) then d.1::hoA p zs z l else hoA p zs z l:=by
 unfold hoA;rw[Cub]
 cases !(Hr p d.1)&&(Hr zs d.2.1==z)<;>rfl
def T6a (r:Rng) (l:List Dev) (x:ByteArray) (h:Gb r l=true) (hx:x.size≤1000000000):Tot (λ k=>C0 k r l x) (λ y=>y=Li r l x):=by
 obtain⟨h1,h2,_,_⟩:=Bl.1 h;obtain⟨_,p2,_⟩:=O6 h x;obtain⟨_,_,_,h12⟩:=D7.1 h1;have hz:=V5 (O5 r x) l;unfold C0 Li;refine Cqb (Th r x (Jp h) hx) ?_;generalize O5 r x=p at *;refine Cqb (Dma p l (by omega) (by omega)) ?_;generalize Fj p l=zs at *;have m1:=B8a p zs false l;have m2:=B8a p zs true l;refine Cgb (Q:=λ y=>y=(hoA p zs false l,hoA p zs true l)) ?_ (by rintro y rfl;exact Cnb (by dsimp only;omega) (Cfb rfl));refine Cob (L:=λ k i (s:List Int×List Int)=>Cb k p zs s.1 s.2 l (l.length:Int) i) (Q:=λ y=>y=(hoA p zs false l,hoA p zs true l)) l.length (λ j s=>s.1++hoA p zs false (l.drop j)=hoA p zs false l∧s.2++hoA p zs true (l.drop j)=hoA p zs true l) ?_ ?_ 0 ([],[]) (Nat.zero_le _) ⟨rfl,rfl⟩
 ·rintro s ⟨e1,e2⟩;rw[Ye]at e1 e2;simp (disch:=omega) only [Cb,dF];refine Cfb ?_;rw[← e1,← e2];show _=(s.1++[],s.2++[]);rw[Wo,Wo]
 ·rintro j ⟨s1,s2⟩ hj ⟨e1,e2⟩ next;dsimp only at e1 e2 next ⊢;have g1:=congrArg length e1;have g2:=congrArg length e2;rw[List.length_append]at g1 g2;rw[C8 (d:=Kw) hj,T5a]at e1 e2;obtain⟨d,ed⟩:∃ d:Dev,l.getD j Kw=d:=⟨_,rfl⟩;rw[ed]at e1 e2;have e0:l.getD j ((0:Int),((0:Int),(0:Int)))=d:=ed;simp (disch:=omega) only [Cb,dT,Int.toNat_natCast,w64,e0];refine Cqb (Ps p d.1 (by omega)) ?_
  cases hp:Hr p d.1 with
  |true=>
   rw[hp]at e1 e2;exact Cib rfl (next (s1,s2) ⟨e1,e2⟩)
  |false=>
   refine Chb rfl (Cqb (Ps zs d.2.1 (by omega)) ?_)
   cases hz':Hr zs d.2.1 with
   |true=>
    rw[hp,hz']at e1 e2;exact Cib rfl (Cnb (by simp only[Vh,Vs];omega) (next (s1,s2++[d.1]) ⟨e1,by rw[← e2];simp⟩))
   |false=>
    rw[hp,hz']at e1 e2;exact Chb rfl (Cnb (by simp only[Vh,Vs];omega) (next (s1++[d.1],s2) ⟨by rw[← e1];simp,e2⟩))

section
variable {R:Type} {L:Nat→Int→Option (Sum Bool R)}
def Pa (p:Nat→Bool) (n:Nat):(List.range (n+1)).all p=((List.range n).all p&&p n):=by
 rw[Fnb,List.all_append,Dtb,List.all_nil,Cyb]
def Ww {p:Nat→Bool} {m n:Nat} (h:m≤n) (hn:(List.range n).all p=true):(List.range m).all p=true:=by
 rw[Yc]at hn ⊢;exact λ x hx=>hn x (Zy.2 (by have:=Zy.1 hx;omega))
def Cpb (n:Nat) (p:Nat→Bool) (e:R) (hend:Tot (λ k=>L (k+1) (n:Int)) (λ r=>r = .inr e))
  (Dwa:∀ j,j<n→∀ (Q:Sum Bool R→Prop),(p j=false→Q (.inl false))→(p j=true→Tot (λ k=>L k ((j:Int)+1)) Q)→Tot (λ k=>L (k+1) (j:Int)) Q):
  Tot (λ k=>L k 0) (λ r=>r=bif (List.range n).all p then .inr e else .inl false):=by
 refine Cob (L:=λ k i (_:Unit)=>L k i) (Q:=λ r=>r=bif (List.range n).all p then .inr e else .inl false) n (λ j _=>(List.range j).all p=true) ?_ ?_ 0 () (Vu _) rfl
 ·intro _ h;rw[h];exact hend
 ·intro j _ hj h next;refine Dwa j hj _ (λ hp=>?_) (λ hp=>next () (by rw[Pa,h,hp];rfl));cases hc:(List.range n).all p
  ·rfl
  have:=Ww (show j+1≤n by omega) hc;rw[Pa,hp,Yp]at this;cases this
end
def Dxa {α:Type} (l:List α) (d:α) (p:α→Bool):l.all p=(List.range l.length).all λ j=>p (l.getD j d):=by
 rw[Dhb,Yc,Yc];constructor
 ·intro h j hj;exact h _ (A3 (Zy.1 hj))
 ·intro h x hx;obtain⟨j,hj,rfl⟩:=Yn.1 hx;have:=h j (Zy.2 hj);rwa [Vb,Vg hj,Wm]at this
abbrev Wri:=ByteArray×Fil×Bool
abbrev Wld:=List Dev×Rng×List Nod×Stp×List Wri×List ByteArray
def Ypa:Wri:=((⟨#[]⟩:ByteArray),((((0:Int),((0:Int),(0:Int))),(false,[])),false))
def Qt (l:List ByteArray):Bool:=(List.range l.length).all λ j=>B8 (l.getD j Le)&&(decide (j=0)||tlt (l.getD (j-1) Le) (l.getD j Le))
def Gba (c:Stp) (w:Wri):Bool:=B8 w.1&&(Ds w.2.1&&!(sle c w.2.1.1))
def T7a (c:Stp) (l:List Wri):Bool:=l.all (Gba c)&&decide ((l.length:Int)≤200)
def Pb (l:List Dev) (ns:List Nod):Bool:=((ns.length:Int)==(l.length:Int))&&(List.range ns.length).all λ j=>((ns.getD j A8).1==(l.getD j Kw).1)&&J0 (ns.getD j A8)
def Na (w:Wld):Bool:=Gb w.2.1 w.1&&(Pb w.1 w.2.2.1&&(Gw w.2.2.2.1&&(T7a w.2.2.2.1 w.2.2.2.2.1&&Qt w.2.2.2.2.2)))
def WIn (w:Wld):Prop:=RBd w.2.1∧w.1.length≤2000000∧(w.2.2.1.length≤2000000∧∀ n∈w.2.2.1,NIn n)∧(w.2.2.2.2.1.length≤2000000∧∀ x∈w.2.2.2.2.1,Ky x.1)∧(w.2.2.2.2.2.length≤2000000∧∀ s∈w.2.2.2.2.2,Ky s)
def T8a (w:Wld) (hw:WIn w):Tot (λ k=>Co k w) (λ r=>r=T7a w.2.2.2.1 w.2.2.2.2.1):=by
 obtain⟨_,_,_,⟨h1,h2⟩,_⟩:=hw;unfold Co T7a
 refine Cgb (Q:=λ r=>r=bif w.2.2.2.2.1.all (Gba w.2.2.2.1) then .inr w else .inl false) ?_ (by
  rintro r rfl
  cases w.2.2.2.2.1.all (Gba w.2.2.2.1)<;>exact Cfb rfl)
 rw[Dxa _ Ypa];refine Cpb (L:=λ k i=>Di k w.2.2.2.2.1 (w.2.2.2.2.1.length:Int) i w) _ _ w ?_ ?_
 ·simp (disch:=omega) only [Di,dF];exact Cfb rfl
 ·intro j hj Q no yes;have hs:=h2 _ (A3 (d:=Ypa) hj);obtain⟨x,ex⟩:∃ x:Wri,w.2.2.2.2.1.getD j Ypa=x:=⟨_,rfl⟩;rw[ex]at hs;simp only[ex]at no yes;have e0:w.2.2.2.2.1.getD j ((⟨#[]⟩:ByteArray),((((0:Int),((0:Int),(0:Int))),(false,[])),false))=x:=ex;simp (disch:=omega) only [Di,dT,Vj,w64,e0,Ta,Ana,Vt];unfold Gba at no yes;refine Cqb (Jv x.1 hs) ?_;refine Clb (λ hc=>Cfb (no ?_)) (λ h3=>Clb (λ hc=>Cfb (no ?_)) (λ h4=>Clb (λ hc=>Cfb (no ?_)) (λ h5=>yes ?_)))
  ·rw[Wb]at hc;rw[hc];rfl
  ·rw[Wb]at hc;rw[hc,Zc,Yp]
  ·rw[hc,Zb,Yp,Yp]
  ·rw[Yg]at h3 h4;rw[h3,h4,h5];rfl
def Dya (w:Wld) (hw:WIn w):Tot (λ k=>Ca k w.2.2.2.2.2 (w.2.2.2.2.2.length:Int) 0 w) (λ r=>r=bif Qt w.2.2.2.2.2 then .inr () else .inl false):=by
 obtain⟨_,_,_,_,h1,h2⟩:=hw;unfold Qt;refine Cpb (L:=λ k i=>Ca k w.2.2.2.2.2 (w.2.2.2.2.2.length:Int) i w) _ _ () ?_ ?_
 ·simp (disch:=omega) only [Ca,dF];exact Cfb rfl
 ·intro j hj Q no yes;have hs:=h2 _ (A3 (d:=Le) hj);have e0:∀ i,w.2.2.2.2.2.getD i (⟨#[]⟩:ByteArray)=w.2.2.2.2.2.getD i Le:=λ _=>rfl;simp (disch:=omega) only [Ca,dT,Vj,w64,e0];refine Cqb (Jv _ hs) ?_;refine Clb (λ hc=>Cfb (no ?_)) (λ h3=>Cmb (λ h0=>?_) (λ h0=>yes ?_))
  ·rw[Wb]at hc;rw[hc];rfl
  ·simp (disch:=omega) only [dT,w64,show toNat ((j:Int)-1)=j-1 by omega];rw[Yg]at h3;rw[h3,decide_eq_false (show ¬ j=0 by omega),Feb,Wf]at no yes;refine Clb (λ hc=>Cfb (no ?_)) (λ h4=>yes ?_)
   ·rw[Wb]at hc;exact hc
   ·rw[Yg]at h4;exact h4
  ·rw[Yg]at h3;rw[h3,decide_eq_true (show j=0 by omega)];rfl
def Gca (w:Wld) (hw:WIn w) (hl:w.2.2.1.length=w.1.length):Tot (λ k=>Dk k w.2.2.1 (w.2.2.1.length:Int) 0 w) (λ r=>r=bif Pb w.1 w.2.2.1 then .inr w else .inl false):=by
 obtain⟨_,_,⟨h1,h2⟩,_⟩:=hw;unfold Pb;rw[show ((w.2.2.1.length:Int)==(w.1.length:Int))=true by rw[beq_iff_eq];omega,Wf];refine Cpb (L:=λ k i=>Dk k w.2.2.1 (w.2.2.1.length:Int) i w) _ _ w ?_ ?_
 ·simp (disch:=omega) only [Dk,dF];exact Cfb rfl
 ·intro j hj Q no yes;have hs:=h2 _ (A3 (d:=A8) hj);obtain⟨x,ex⟩:∃ x:Nod,w.2.2.1.getD j A8=x:=⟨_,rfl⟩;rw[ex]at hs no yes;have e0:w.2.2.1.getD j ((0:Int),(([],[]),([],[])))=x:=ex;have e1:w.1.getD j ((0:Int),((0:Int),(0:Int)))=w.1.getD j Kw:=rfl;simp (disch:=omega) only [Dk,dT,Vj,w64,e0,e1];refine Clb (λ hc=>Cfb (no ?_)) (λ h3=>Cgb (Qr x hs) ?_)
  ·rw[bne,Wb]at hc;rw[hc];rfl
  ·rw[bne,Yg]at h3;rw[h3,Wf]at no yes;rintro b rfl;refine Clb (λ hc=>Cfb (no ?_)) (λ h4=>yes ?_)
   ·rw[Wb]at hc;exact hc
   ·rw[Yg]at h4;exact h4
def O7 (w:Wld) (hw:WIn w):Tot (λ k=>Ar k w) (λ r=>r=Na w):=by
 unfold Ar Na;refine Cqb (Sta w.2.1 w.1 hw.1 (by have:=hw.2.1;omega)) ?_;cases hr:Gb w.2.1 w.1
 ·exact Cib rfl (Cfb rfl)
 refine Chb rfl ?_;rw[Wf]
 by_cases hl:w.2.2.1.length=w.1.length
 ·refine Chb (by rw[bne,hl,beq_self_eq_true];rfl) ?_;simp only[Qn,Vt];cases hs:Gw w.2.2.2.1
  ·exact Cib rfl (Cfb (by rw[Zc,Yp]))
  refine Chb rfl (Cqb (T8a w hw) ?_);cases hws:T7a w.2.2.2.1 w.2.2.2.2.1
  ·exact Cib rfl (Cfb (by rw[Zc,Yp,Yp]))
  refine Chb rfl (Cqb (Gca w hw hl) ?_);cases Pb w.1 w.2.2.1
  ·exact Cfb rfl
  refine Cqb (Dya w hw) ?_
  cases Qt w.2.2.2.2.2<;>exact Cfb rfl
 ·have hn:((w.2.2.1.length:Int)==(w.1.length:Int))=false:=by rw[beq_eq_false_iff_ne];omega
  refine Cib (by rw[bne,hn];rfl) (Cfb ?_);unfold Pb;rw[hn];rfl

def atN:List Nod→Int→Nat→List Int
 |[],_,_=>[]
 |n::ns,id,i=>bif n.1==id then (i:Int)::atN ns id (i+1) else atN ns id (i+1)
def Iqa (n:Nod) (ns:List Nod) (id:Int) (i:Nat):atN (n::ns) id i=bif n.1==id then (i:Int)::atN ns id (i+1) else atN ns id (i+1):=rfl
def whr (ns:List Nod) (ids:List Int):List Int:=ids.flatMap λ id=>atN ns id 0
def Gda (id:Int):∀ (ns:List Nod) (i:Nat),(atN ns id i).length≤ns.length
 |[],_=>Vw _
 |n::ns,i=>by
  unfold atN;have:=Gda id ns (i+1);cases n.1==id
  ·rw[cond_false,Vh];omega
  ·rw[cond_true,Vh,Vh];omega
def P5a (ns:List Nod):∀ (ids:List Int),(whr ns ids).length≤ids.length*ns.length
 |[]=>Vu _
 |id::ids=>by
  have h1:=Gda id ns 0;have h2:=P5a ns ids;unfold whr at h2 ⊢;rw[Egb,Vi,Vh,Nat.succ_mul];omega
def Qu {ns:List Nod} {ids:List Int} (h1:ns.length≤2000000) (h2:ids.length≤2000000):(whr ns ids).length≤4000000000000:=
 Zu (P5a ns ids) (Nat.mul_le_mul h2 h1)
def Ti (ns:List Nod) (id:Int) (ids:List Int):whr ns (id::ids)=atN ns id 0++whr ns ids:=Egb
def Xla (ns:List Nod) (a b:List Int):whr ns (a++b)=whr ns a++whr ns b:=List.flatMap_append
def Wx (w:Wld) (id:Int) (a b c:List Int) (m i0:Int) (out:List Int) (h1:w.2.2.1.length≤2000000) (ho:out.length≤4000000000000):
  Tot (λ k=>Cs k out id a m i0 w.2.2.1 (w.2.2.1.length:Int) 0 w) (λ r=>r=(out++atN w.2.2.1 id 0,a,m,i0,w)):=by
 have m1:=Gda id w.2.2.1 0;refine Cob (L:=λ k i (s:List Int)=>Cs k s id a m i0 w.2.2.1 (w.2.2.1.length:Int) i w) (Q:=λ r=>r=(out++atN w.2.2.1 id 0,a,m,i0,w)) w.2.2.1.length (λ j s=>s++atN (w.2.2.1.drop j) id j=out++atN w.2.2.1 id 0) ?_ ?_ 0 out (Vu _) rfl
 ·intro s h;rw[Ye]at h;simp (disch:=omega) only [Cs,dF];refine Cfb ?_;rw[← h];show _=(s++[],a,m,i0,w);rw[Wo]
 ·intro j s hj h next;have g:=congrArg length h;rw[Vi,Vi]at g;rw[C8 (d:=A8) hj,Iqa]at h;obtain⟨x,ex⟩:∃ x:Nod,w.2.2.1.getD j A8=x:=⟨_,rfl⟩;rw[ex]at h;have e0:w.2.2.1.getD j ((0:Int),(([],[]),([],[])))=x:=ex;simp (disch:=omega) only [Cs,dT,Vj,w64,e0]
  cases hx:x.1==id with
  |true=>
   rw[hx,cond_true]at h;refine Cib rfl (Cnb (by simp only[Vh,Vs];omega) (next (s++[(j:Int)]) ?_));rw[← h,Vo];rfl
  |false=>
   rw[hx,cond_false]at h;refine Chb rfl (next s h)
def Pv (w:Wld) (ids:List Int) (h1:w.2.2.1.length≤2000000) (h2:ids.length≤2000000):Tot (λ k=>Bw k w ids) (λ r=>r=whr w.2.2.1 ids):=by
 have m1:=Qu h1 h2;unfold Bw;refine Cgb (Q:=λ r=>r=whr w.2.2.1 ids) ?_ (by rintro r rfl;exact Cfb rfl);refine Cob (L:=λ k i (s:List Int)=>E8 k s ids (ids.length:Int) i w) (Q:=λ r=>r=whr w.2.2.1 ids) ids.length (λ j s=>s++whr w.2.2.1 (ids.drop j)=whr w.2.2.1 ids) ?_ ?_ 0 [] (Vu _) rfl
 ·intro s h;rw[Ye]at h;simp (disch:=omega) only [E8,dF];refine Cfb ?_;rw[← h];exact(Wo s).symm
 ·intro j s hj h next;have g:=congrArg length h;rw[Vi]at g;rw[C8 (d:=0) hj,Ti]at h;simp (disch:=omega) only [E8,dT,Vj,w64];refine Cqb (Wx w (ids.getD j 0) ids [] [] (ids.length:Int) (j:Int) s h1 (by omega)) ?_;simp (disch:=omega) only [w64];exact next _ (by rw[Vo];exact h)
def Rx (id:Int):∀ (ns:List Nod) (i:Nat) (x:Int),x∈atN ns id i↔∃ j,j<ns.length∧(ns.getD j A8).1=id∧x=((i+j:Nat):Int)
 |[],i,x=>by simp[atN]
 |n::ns,i,x=>by
  have ih:=Rx id ns (i+1) x
  have tl:(∃ j,j<(n::ns).length∧((n::ns).getD j A8).1=id∧x=((i+j:Nat):Int))↔(n.1=id∧x=(i:Int))∨x∈atN ns id (i+1):=by
   rw[ih];constructor
   ·rintro⟨j,h1,h2,h3⟩
    cases j with
    |zero=>exact .inl ⟨h2,by omega⟩
    |succ j=>exact .inr ⟨j,by simpa using h1,by simpa using h2,by omega⟩
   ·rintro (⟨h1,h2⟩|⟨j,h1,h2,h3⟩)
    ·exact⟨0,by simp,h1,by omega⟩
    ·exact⟨j+1,by simpa using h1,by simpa using h2,by omega⟩
  rw[tl,Iqa]
  cases hx:n.1==id with
  |true=>
   rw[cond_true,Vk,eq_of_beq hx];simp
  |false=>
   rw[cond_false];have:=beq_eq_false_iff_ne.1 hx;simp[this]
def Pw {ns:List Nod} {ids:List Int} {x:Int}:x∈whr ns ids↔∃ j,j<ns.length∧(ns.getD j A8).1∈ids∧x=(j:Int):=by
 unfold whr;rw[List.mem_flatMap];constructor
 ·rintro⟨id,h1,h2⟩;obtain⟨j,h3,h4,h5⟩:=(Rx _ _ _ _).1 h2;exact⟨j,h3,h4 ▸ h1,by omega⟩
 ·rintro⟨j,h3,h4,h5⟩;exact⟨_,h4,(Rx _ _ _ _).2 ⟨j,h3,rfl,by omega⟩⟩
def contacts (w:Wld) (x:ByteArray):List Int:=whr w.2.2.1 (O5 w.2.1 x++Li w.2.1 w.1 x)
def Md:ByteArray:=⟨#[108,105,115,116]⟩
def Cm (w:Wld):List Int:=whr w.2.2.1 (O5 w.2.1 Md)
def Tj {r:Rng} (hr:RBd r) (x:ByteArray):(O5 r x).length≤2000000:=by
 unfold O5
 by_cases hm:V6a x % r.2.length<r.2.length
 ·exact hr.2 _ (A3 (d:=[]) hm)
 ·rw[Vb,Yx (by omega)];exact Vu _
def O8 (r:Rng) (l:List Dev) (x:ByteArray):(Li r l x).length≤l.length+l.length:=by
 unfold Li;rw[Vi];have h1:=B8a (O5 r x) (Fj (O5 r x) l) false l;have h2:=B8a (O5 r x) (Fj (O5 r x) l) true l;omega
def O9 (w:Wld) (x:ByteArray) (h:Gb w.2.1 w.1=true) (hn:w.2.2.1.length≤2000000) (hx:x.size≤1000000000):Tot (λ k=>Az k w x) (λ r=>r=(contacts w x,w)):=by
 have h5:=(Bl.1 h).2.1;have p2:=(O6 h x).2.1;have h12:=(D7.1 (Bl.1 h).1).2.2.2;have hh:=O8 w.2.1 w.1 x;unfold Az contacts;refine Cqb (Th _ x (Jp h) hx) ?_;refine Cqb (T6a _ _ x h hx) ?_;refine Cnb (by omega) (Cqb (Pv w _ hn (by rw[Vi];omega)) ?_);exact Cfb rfl
def V7 (w:Wld) (hr:RBd w.2.1) (hn:w.2.2.1.length≤2000000):Tot (λ k=>Es k w) (λ r=>r=Cm w):=by
 unfold Es;refine Cqb (Th _ Md hr (by decide)) ?_;refine Cqb (Pv w _ hn (Tj hr _)) ?_;exact Cfb rfl
def quo (n:Int):Int:=n/2+1
def Btb {n:Int} (h0:0≤n):Int.tdiv n 2=n/2:=Dvb h0
def Xma {n:Int} (h0:0≤n) (h1:n≤1000000000):H3 n=some (quo n):=by
 unfold H3 quo;rw[Btb h0,w64 (n:=n/2) (by omega) (by omega),w64 (n:=n/2+1) (by omega) (by omega)]
def rch (l:List Int) (i:Nat):Int:=bif decide (i<l.length)&&inR (l.getD i 0) 1 3 then l.getD i 0 else 0
def B9a (l:List Int) (i:Nat):C4 l (i:Int)=some (rch l i):=by
 unfold C4 rch
 by_cases h:i<l.length
 ·simp (disch:=omega) only [dT,Vj,Lc,Vt];rw[decide_eq_true h,Wf]
  cases inR (l.getD i 0) 1 3<;>rfl
 ·rw[dF (by omega),decide_eq_false h];rfl

def Xna (a b:Fil):Bool:=((a.1.1==b.1.1)&&((a.1.2.1==b.1.2.1)&&(a.1.2.2==b.1.2.2)))&&((a.2.1==b.2.1)&&((Ir a.2.2).toList==(Ir b.2.2).toList))
def P6a {a b:Fil} (ha:Ax a.2.2) (hb:Ax b.2.2):Xna a b=true↔a=b:=by
 unfold Xna;rw[V1 ha hb];obtain⟨⟨a1,a2,a3⟩,a4,a5⟩:=a;obtain⟨⟨b1,b2,b3⟩,b4,b5⟩:=b;simp only[Va,beq_iff_eq,decide_eq_true_iff,Vx]

def Xoa (a b:Row):Bool:=(a.1==b.1)&&((a.2.1.1==b.2.1.1)&&((a.2.1.2.1==b.2.1.2.1)&&((a.2.1.2.2==b.2.1.2.2)&&((a.2.2.1==b.2.2.1)&&(a.2.2.2==b.2.2.2)))))
def Dza {a b:Row}:Xoa a b=true↔a=b:=by
 unfold Xoa;obtain⟨a0,⟨a1,a2,a3⟩,a4,a5⟩:=a;obtain⟨b0,⟨b1,b2,b3⟩,b4,b5⟩:=b;simp only[T8,Va,beq_iff_eq,Vx,Cn];constructor
 ·rintro⟨h0,h1,h2,h3,h4,h5⟩;exact⟨h0,⟨h1,h2,h3⟩,h4,h5⟩
 ·rintro⟨h0,⟨h1,h2,h3⟩,h4,h5⟩;exact⟨h0,h1,h2,h3,h4,h5⟩
def Ry (ws:List Wri) (r:Row):Bool:=ws.any λ x=>Xoa (Su x.1 x.2.1) r
def C4b:Row:=((⟨#[]⟩:ByteArray),(((0:Int),((0:Int),(0:Int))),(false,(0:Int))))

def run {α:Type} (st:α→Nat→α) (n:Nat) (a:α):α:=(List.range n).foldl st a
def I7 {α:Type} (st:α→Nat→α) (n:Nat) (a:α):run st (n+1) a=st (run st n a) n:=by
 unfold run;rw[Fnb,Dib];rfl
def T9a {α:Type} (st:α→Nat→α) (a:α):run st 0 a=a:=rfl
def Ira {α:Type} {st:α→Nat→α} {a:α} {j n:Nat} (hj:j≤n) (h:∀ i,st (run st j a) i=run st j a):run st n a=run st j a:=by
 obtain⟨m,rfl⟩:=Nat.exists_eq_add_of_le hj
 induction m with
 |zero=>rfl
 |succ m ih=>rw[← Zk,I7,ih (by omega),h]
def Hz {α:Type} {st:α→Nat→α} (P:Nat→α→Prop) {n:Nat} {a:α} (h0:P 0 a) (hs:∀ j b,j<n→P j b→P (j+1) (st b j)):P n (run st n a):=by
 have:∀ m,m≤n→P m (run st m a):=by
  intro m
  induction m with
  |zero=>intro _;exact h0
  |succ m ih=>intro hm;rw[I7];exact hs m _ (by omega) (ih (by omega))
 exact this n (Vw _)
def NS (ns:List Nod):Prop:=ns.length≤2000000∧∀ n∈ns,NG n
def NS.set {ns:List Nod} (h:NS ns) {i:Nat} {n:Nod} (hn:NG n):NS (ns.set i n):=⟨by rw[Vv];exact h.1,λ m hm=>by
 rcases Yw hm with hm|rfl
 ·exact h.2 m hm
 ·exact hn⟩
def NS.get {ns:List Nod} (h:NS ns) {i:Nat} (hi:i<ns.length):NG (ns.getD i A8):=h.2 _ (A3 hi)
abbrev wN (w:Wld) (ns:List Nod):Wld:=(w.1,w.2.1,ns,w.2.2.2)
def I9 (c:Stp) (t d:Int):Stp:=bif decide (t≤c.1) then (bif Gw (c.1,c.2.1+1,d) then (c.1,c.2.1+1,d) else c) else (bif Gw (t,0,d) then (t,0,d) else c)
def Baa {c:Stp} (hc:Gw c=true) (t d:Int):Gw (I9 c t d)=true∧(I9 c t d=c∨sle c (I9 c t d)=true):=by
 unfold I9
 by_cases h:t≤c.1
 ·rw[decide_eq_true h,cond_true]
  cases hs:Gw (c.1,c.2.1+1,d) with
  |true=>exact⟨hs,.inr (Ln.2 (.inr ⟨rfl,.inl (by show c.2.1<c.2.1+1;omega)⟩))⟩
  |false=>exact⟨hc,.inl rfl⟩
 ·rw[decide_eq_false h,cond_false]
  cases hs:Gw (t,0,d) with
  |true=>exact⟨hs,.inr (Ln.2 (.inl (by show c.1<t;omega)))⟩
  |false=>exact⟨hc,.inl rfl⟩
def wst (R:Int) (rc:List Int) (s:ByteArray) (f:Fil) (cs:List Int) (a:List Nod×Int×Int) (j:Nat):List Nod×Int×Int:=
 bif decide (a.2.1<R) then (bif rch rc j==0 then a else
  (a.1.set (cs.getD j 0).toNat (Py (a.1.getD (cs.getD j 0).toNat A8) s f (rch rc j != 3)).1,a.2.1+1,
   bif rch rc j==1&&((Py (a.1.getD (cs.getD j 0).toNat A8) s f (rch rc j != 3)).2==0||(Py (a.1.getD (cs.getD j 0).toNat A8) s f (rch rc j != 3)).2==1) then a.2.2+1 else a.2.2))
 else a
def wrN (w:Wld) (s:ByteArray) (f:Fil) (rc:List Int):List Nod×Int×Int:=run (wst w.2.1.1 rc s f (contacts w s)) (contacts w s).length (w.2.2.1,0,0)
def Pc (w:Wld) (s:ByteArray) (f:Fil) (rc:List Int):Int×Wld:=
 (bif decide ((wrN w s f rc).2.2≥quo w.2.1.1) then 0 else 1,(w.1,w.2.1,(wrN w s f rc).1,w.2.2.2.1,w.2.2.2.2.1++[(s,f,decide ((wrN w s f rc).2.2≥quo w.2.1.1))],w.2.2.2.2.2))
def I0 {w:Wld} {s:ByteArray} {x:Int} (h:x∈contacts w s):0≤x∧x<(w.2.2.1.length:Int):=by
 obtain⟨j,h1,_,rfl⟩:=Pw.1 h;omega
def Adb {R:Int} {rc:List Int} {s:ByteArray} {f:Fil} {cs:List Int} {a:List Nod×Int×Int} {j m:Nat} (hs:B8 s=true) (hf:Ds f=true) (h:NS a.1∧a.1.length=m∧(0≤a.2.1∧a.2.1≤j)∧0≤a.2.2∧a.2.2≤j) (hc:(cs.getD j 0).toNat<m):
  let b:=wst R rc s f cs a j
  NS b.1∧b.1.length=m∧(0≤b.2.1∧b.2.1≤((j+1:Nat):Int))∧0≤b.2.2∧b.2.2≤((j+1:Nat):Int):=by
 obtain⟨h1,h2,h3,h4,h5⟩:=h;intro b;have hb:b=wst R rc s f cs a j:=rfl;unfold wst at hb;cases hR:decide (a.2.1<R)
 ·rw[hR,cond_false]at hb;rw[hb];exact⟨h1,h2,⟨h3.1,by omega⟩,h4,by omega⟩
 rw[hR,cond_true]at hb;cases hr:rch rc j==0
 case true=>rw[hr,cond_true]at hb;rw[hb];exact⟨h1,h2,⟨h3.1,by omega⟩,h4,by omega⟩
 rw[hr,cond_false]at hb;rw[hb];refine⟨h1.set (Oka (h1.get (by omega)) hs hf),by rw[List.length_set];exact h2,⟨by dsimp only;omega,by dsimp only;omega⟩,?_⟩;dsimp only;cases rch rc j==1&&((Py (a.1.getD (cs.getD j 0).toNat A8) s f (rch rc j != 3)).2==0||(Py (a.1.getD (cs.getD j 0).toNat A8) s f (rch rc j != 3)).2==1)
 ·exact⟨h4,by rw[cond_false];omega⟩
 ·exact⟨by rw[cond_true];omega,by rw[cond_true];omega⟩
def ask (w:Wld) (s:ByteArray) (f:Fil) (t:Int) (rc:List Int):Int×Wld:=
 bif !(B8 s) then (2,w) else bif decide ((f.2.2.length:Int) > 200) then (2,w) else bif !(inR t 0 1000000000) then (2,w) else
 bif (w.2.2.2.2.1.length:Int)==200 then (3,w) else
 bif (I9 w.2.2.2.1 t 0).1==w.2.2.2.1.1&&((I9 w.2.2.2.1 t 0).2.1==w.2.2.2.1.2.1&&(I9 w.2.2.2.1 t 0).2.2==w.2.2.2.1.2.2) then (3,w) else
 Pc (w.1,w.2.1,w.2.2.1,I9 w.2.2.2.1 t 0,w.2.2.2.2) s (I9 w.2.2.2.1 t 0,f.2) rc
def pst (src:Int) (s:ByteArray) (f:Fil) (rc ps:List Int) (a:List Nod×Bool×Bool) (j:Nat):List Nod×Bool×Bool:=
 bif ps.getD j 0==src then (a.1,true,a.2.2) else bif rch rc j != 1 then (a.1,a.2.1,false) else
  (a.1.set (ps.getD j 0).toNat ((a.1.getD (ps.getD j 0).toNat A8).1,(keep (a.1.getD (ps.getD j 0).toNat A8).2.1 s f true).1,(a.1.getD (ps.getD j 0).toNat A8).2.2),a.2.1,
   bif (keep (a.1.getD (ps.getD j 0).toNat A8).2.1 s f true).2 != 0&&(keep (a.1.getD (ps.getD j 0).toNat A8).2.1 s f true).2 != 1 then false else a.2.2)
def I1 (w:Wld) (s:ByteArray):List Int:=whr w.2.2.1 (O5 w.2.1 s)
def puN (w:Wld) (i:Nat) (s:ByteArray) (rc:List Int):List Nod×Bool×Bool:=run (pst (i:Int) s (lkD (w.2.2.1.getD i A8).2.1 s).1 rc (I1 w s)) (I1 w s).length (w.2.2.1,false,true)
def Yqa (n:Nod) (s:ByteArray):Nod:=(n.1,(syD (rmD n.2.1 s).1 s).1,n.2.2)
def N2 (w:Wld) (i:Nat) (s:ByteArray) (rc:List Int):Bool×Wld:=bif (lkD (w.2.2.1.getD i A8).2.1 s).2 != 0 then (false,w) else
 (true,wN w (bif (puN w i s rc).2.2&&!(puN w i s rc).2.1 then (puN w i s rc).1.set i (Yqa ((puN w i s rc).1.getD i A8) s) else (puN w i s rc).1))
def V7a {n:Nod} (hn:NG n) {s:ByteArray} (hs:B8 s=true):NG (Yqa n s):=B7a hn (A4b (A5b hn.g) hs)
def V8 {n:Nod} (hn:NG n) {s:ByteArray} {f:Fil} {sure:Bool}:NG (n.1,(keep n.2.1 s f sure).1,n.2.2):=B7a hn (Uya hn.g)
def V8a {src:Int} {s:ByteArray} {f:Fil} {rc ps:List Int} {a:List Nod×Bool×Bool} {j m:Nat} (h:NS a.1∧a.1.length=m) (hc:(ps.getD j 0).toNat<m):NS (pst src s f rc ps a j).1∧(pst src s f rc ps a j).1.length=m:=by
 unfold pst;cases ps.getD j 0==src
 case true=>exact h
 cases rch rc j != 1 with
 |true=>exact h
 |false=>exact⟨h.1.set (V8 (h.1.get (by have:=h.2;omega))),by rw[cond_false,cond_false,Vv];exact h.2⟩
def Lj {w:Wld} {s:ByteArray} {x:Int} (h:x∈I1 w s):0≤x∧x<(w.2.2.1.length:Int):=by
 obtain⟨j,h1,_,rfl⟩:=Pw.1 h;omega
def P7a {w:Wld} {s:ByteArray} (hr:Gb w.2.1 w.1=true) (hn:w.2.2.1.length≤2000000):(I1 w s).length≤4000000000000:=Qu hn (Tj (Jp hr) s)
def Aeb {w:Wld} {i:Nat} {s:ByteArray} {rc:List Int} (hn:NS w.2.2.1):NS (puN w i s rc).1∧(puN w i s rc).1.length=w.2.2.1.length:=
 Hz (λ _ (b:List Nod×Bool×Bool)=>NS b.1∧b.1.length=w.2.2.1.length) ⟨hn,rfl⟩ (λ j b hj hb=>V8a hb (by have:=Lj (A3 (d:=0) hj);omega))

def tk (n:Nod) (l:List Row):Bool×Nod:=bif decide ((N8 n.2.2.1 l).length > 60) then (false,n) else (true,(n.1,n.2.1,N8 n.2.2.1 l,n.2.2.2))
def Bub {n:Nod} {l:List Row} (hn:NG n) (hl:I4 l=true):NG (tk n l).2:=by
 obtain⟨h1,h2,h3,h4,h5⟩:=Bx.1 hn.1;unfold tk
 by_cases h:(N8 n.2.2.1 l).length > 60
 ·rw[decide_eq_true h];exact hn
 ·rw[decide_eq_false h];exact⟨Bx.2 ⟨h1,h2,h3,G4a h4 hl (by omega),h5⟩,hn.2⟩
def gst (src:Int) (l:List Row) (self:Bool) (rc ls:List Int) (a:List Nod×Bool) (j:Nat):List Nod×Bool:=
 bif ls.getD j 0==src&&!self then a else bif rch rc j != 1 then (a.1,false) else
  (a.1.set (ls.getD j 0).toNat (tk (a.1.getD (ls.getD j 0).toNat A8) l).2,bif (tk (a.1.getD (ls.getD j 0).toNat A8) l).1 then a.2 else false)
def J5 (w:Wld) (src:Int) (l:List Row) (self:Bool) (rc:List Int):List Nod×Bool:=run (gst src l self rc (Cm w)) (Cm w).length (w.2.2.1,true)
def V9a {src:Int} {l:List Row} {self:Bool} {rc ls:List Int} {a:List Nod×Bool} {j m:Nat} (hl:I4 l=true) (h:NS a.1∧a.1.length=m) (hc:(ls.getD j 0).toNat<m):NS (gst src l self rc ls a j).1∧(gst src l self rc ls a j).1.length=m:=by
 unfold gst;cases ls.getD j 0==src&&!self
 case true=>exact h
 cases rch rc j != 1 with
 |true=>exact h
 |false=>exact⟨h.1.set (Bub (h.1.get (by have:=h.2;omega)) hl),by rw[cond_false,cond_false,Vv];exact h.2⟩
def Kj {w:Wld} {x:Int} (h:x∈Cm w):0≤x∧x<(w.2.2.1.length:Int):=by
 obtain⟨j,h1,_,rfl⟩:=Pw.1 h;omega
def V9 {w:Wld} (hr:RBd w.2.1) (hn:w.2.2.1.length≤2000000):(Cm w).length≤4000000000000:=Qu hn (Tj hr _)
def Bba {w:Wld} {src:Int} {l:List Row} {self:Bool} {rc:List Int} (hl:I4 l=true) (hn:NS w.2.2.1):NS (J5 w src l self rc).1∧(J5 w src l self rc).1.length=w.2.2.1.length:=
 Hz (λ _ (b:List Nod×Bool)=>NS b.1∧b.1.length=w.2.2.1.length) ⟨hn,rfl⟩ (λ j b hj hb=>V9a hl hb (by have:=Kj (A3 (d:=0) hj);omega))
def Kpa {r:Row} (h:Lo r=true):I4 [r]=true:=Im.2 ⟨Dkb _ _,λ x hx=>by rw[Vp.1 hx];exact h,by simp⟩
def Rz:I4 []=true:=Im.2 ⟨List.Pairwise.nil,(λ _ hx=>nomatch hx),Vu _⟩
def Qv (n:Nod):Nod:=(n.1,n.2.1,[],n.2.2.2)
def Xpa (n:Nod) (q:List Row):Nod:=(n.1,n.2.1,n.2.2.1,q)
def Isa {n:Nod} (hn:NG n):NG (Qv n):=by
 obtain⟨h1,h2,h3,h4,h5⟩:=Bx.1 hn.1;exact⟨Bx.2 ⟨h1,h2,h3,Rz,h5⟩,hn.2⟩
def Vaa {n:Nod} {q:List Row} (hn:NG n) (h:∀ r∈q,Lo r=true) (hl:q.length≤60):NG (Xpa n q):=by
 obtain⟨h1,h2,h3,h4,h5⟩:=Bx.1 hn.1;exact⟨Bx.2 ⟨h,h2,h3,h4,hl⟩,hn.2⟩
def J2 (w:Wld) (i:Nat) (rc:List Int):List Nod×Bool:=J5 w (i:Int) (w.2.2.1.getD i A8).2.2.1 false rc
def N3 (w:Wld) (i:Nat) (rc:List Int):Bool×Wld:=bif ((w.2.2.1.getD i A8).2.2.1.length:Int)==0 then (false,w) else
 (true,wN w (bif (J2 w i rc).2&&!(Hr (Cm (wN w (J2 w i rc).1)) (i:Int)) then (J2 w i rc).1.set i (Qv ((J2 w i rc).1.getD i A8)) else (J2 w i rc).1))
def K6 (w:Wld) (i:Nat) (rc:List Int):List Nod×Bool:=J5 w (i:Int) ((w.2.2.1.getD i A8).2.2.2.take 1) true rc
def P3 (w:Wld) (i:Nat) (rc:List Int):Bool×Wld:=bif ((w.2.2.1.getD i A8).2.2.2.length:Int)==0 then (false,w) else
 (true,wN w (bif (K6 w i rc).2 then (K6 w i rc).1.set i (Xpa ((K6 w i rc).1.getD i A8) ((w.2.2.1.getD i A8).2.2.2.drop 1)) else (K6 w i rc).1))
def Ku {q:List Row} (h:∀ r∈q,Lo r=true):I4 (q.take 1)=true:=by
 cases q with
 |nil=>exact Rz
 |cons r q=>exact Kpa (h r Wj)
def P8a:∀ (k:Nat) (l:List ByteArray) (s:ByteArray),k<l.length→∃ j,j≤k∧(Yoa l k s).2=j∧(Yoa l k s).1.set j s=l.take j++s::((l.take k).drop j++l.drop (k+1))∧(∀ y∈(l.take k).drop j,tlt s y=true)∧(0<j→tlt s (l.getD (j-1) Le)=false)
 |0,l,s,hk=>by
  refine⟨0,Vw _,rfl,?_,λ y hy=>by simp at hy,λ h=>by omega⟩
  cases l with
  |nil=>simp at hk
  |cons x l=>rfl
 |k+1,l,s,hk=>by
  unfold Yoa
  cases hc:tlt s (l.getD k Le) with
  |false=>
   rw[cond_false];refine⟨k+1,Vw _,rfl,?_,λ y hy=>?_,λ _=>hc⟩
   ·rw[Dyb,E6b,Cxb,Wn];exact D7b .. |>.trans (if_pos hk)
   ·rw[Dyb,E6b,Cxb]at hy;cases hy
  |true=>
   rw[cond_true];obtain⟨j,h1,h2,h3,h4,h5⟩:=P8a k (l.set (k+1) (l.getD k Le)) s (by rw[Vv];omega)
   have t1:(l.set (k+1) (l.getD k Le)).take j=l.take j:=by rw[Exb (by omega)]
   have t2:(l.set (k+1) (l.getD k Le)).take k=l.take k:=by rw[Exb (by omega)]
   have t3:(l.set (k+1) (l.getD k Le)).drop (k+1)=l.getD k Le::l.drop (k+2):=by
    rw[Zj (by rw[Vv];exact hk),List.getElem_set_self,List.drop_set_of_lt (by omega)]
   have t4:l.take (k+1)=l.take k++[l.getD k Le]:=by
    rw[Wg (by omega),Vb,Vg (by omega),Wm]
   have hlk:(l.take k).length=k:=by rw[Vq];omega
   rw[t1,t2,t3]at h3;rw[t2]at h4;refine⟨j,by omega,h2,?_,λ y hy=>?_,λ h=>?_⟩
   ·rw[h3,t4,Epb (by omega),Vo];rfl
   ·rw[t4,Epb (by omega)]at hy;rcases Vm.1 hy with hy|hy
    ·exact h4 y hy
    ·rw[Vp.1 hy];exact hc
   ·have:=h5 h;rwa [Vb,Dwb (by omega),← Vb]at this
def Y1 {l:List ByteArray} {s:ByteArray}:∃ j,j≤l.length∧B6b l s=l.take j++s::l.drop j∧(∀ y∈l.drop j,tlt s y=true)∧(0<j→tlt s (l.getD (j-1) Le)=false):=by
 obtain⟨j,h1,h2,h3,h4,h5⟩:=P8a l.length (l++[s]) s (by simp)
 have t1:(l++[s]).take l.length=l:=by rw[Eqb (Vw _),Zf]
 have t2:(l++[s]).drop (l.length+1)=[]:=Edb (by simp);have t3:(l++[s]).take j=l.take j:=Eqb h1;rw[t1]at h4;rw[t1,t2,t3,Wo]at h3;refine⟨j,h1,?_,h4,λ h=>?_⟩
 ·unfold B6b;rw[h2,h3]
 ·have:=h5 h;rwa [Vb,Yj (by omega),← Vb]at this
def spl (l:List ByteArray) (s:ByteArray):List ByteArray:=bif T2a l s then l else B6b l s
def Vr {l:List ByteArray} {s y:ByteArray}:y∈spl l s↔y=s∨y∈l:=by
 unfold spl
 cases h:T2a l s with
 |true=>
  have:=Mz.1 h;exact⟨.inr,λ h=>h.elim (λ e=>e ▸ this) id⟩
 |false=>
  obtain⟨j,_,e,_⟩:=Y1 (l:=l) (s:=s);rw[cond_false,e,Vm,Vk]
  conv=>rhs;rw[← Wi j l,Vm]
  constructor
  ·rintro (h|h|h)
   ·exact .inr (.inl h)
   ·exact .inl h
   ·exact .inr (.inr h)
  ·rintro (h|h|h)
   ·exact .inr (.inl h)
   ·exact .inl h
   ·exact .inr (.inr h)
def S4 {l:List ByteArray} {s:ByteArray} (h:TS l):TS (spl l s):=by
 unfold spl;cases hh:T2a l s
 case true=>exact h
 have hn:s∉l:=λ c=>by rw[Mz.2 c]at hh;cases hh
 obtain⟨j,h1,e,h4,h5⟩:=Y1 (l:=l) (s:=s);rw[cond_false,e]
 have hs:∀ y∈l.take j,tlt y s=true:=by
  intro y hy
  by_cases hj:0<j
  ·have hlast:l.getD (j-1) Le∈l:=A3 (by omega)
   have hlt:tlt (l.getD (j-1) Le) s=true:=by
    cases hc:tlt (l.getD (j-1) Le) s with
    |true=>rfl
    |false=>exact absurd (Um hc (h5 hj) ▸ hlast) hn
   obtain⟨i,hi,rfl⟩:=Yn.1 hy;rw[Vq]at hi;rw[Dub]
   by_cases hij:i=j-1
   ·subst hij;rwa [Vb,Vg (by omega),Wm]at hlt
   ·have:=Ys.1 h i (j-1) (by omega) (by omega) (by omega);rw[Vb,Vg (by omega),Wm]at hlt;exact Iy this hlt
  ·rw[show j=0 by omega,Cxb]at hy;cases hy
 have hd:TS (l.drop j):=h.sublist (List.drop_sublist _ _);have ht:TS (l.take j):=h.sublist (Fab _ _)
 exact Zg.2 ⟨ht,Wa.2 ⟨h4,hd⟩,λ a ha b hb=>by
  rcases Vk.1 hb with rfl|hb
  ·exact hs a ha
  ·exact Iy (hs a ha) (h4 b hb)⟩

abbrev Evt:=Int×Int×ByteArray×List Int×Int×List Int
def B7b (e:Evt):Prop:=Ky e.2.2.1∧e.2.2.2.1.length≤1000000000∧(-9223372036854775808≤e.2.2.2.2.1∧e.2.2.2.2.1≤9223372036854775807)∧e.2.2.2.2.2.length≤4000000000000
def E0a (l:List Int):List Bool:=l.map (· == 1)
def crN (n:Nod) (kp:List Bool):Nod:=(n.1,P0 n.2.1 kp,n.2.2)
def Afb {n:Nod} {kp:List Bool} (hn:NG n):NG (crN n kp):=B7a hn (Oza hn.g)
def Qia (w:Wld) (i:Nat) (s:ByteArray) (b:Int):Bool×Wld:=bif (Aza (w.2.2.1.getD i A8) s b).2 then (true,(w.1,w.2.1,w.2.2.1.set i (Aza (w.2.2.1.getD i A8) s b).1,w.2.2.2.1,w.2.2.2.2.1,spl w.2.2.2.2.2 s)) else (false,w)
def Nb (w:Wld) (e:Evt) (i:Nat):Bool×Wld:=
 bif e.1==3 then N2 w i e.2.2.1 e.2.2.2.2.2 else bif e.1==4 then N3 w i e.2.2.2.2.2 else bif e.1==5 then P3 w i e.2.2.2.2.2 else
 bif e.1==6 then (true,wN w (w.2.2.1.set i (V5a (w.2.2.1.getD i A8)).1)) else
 bif e.1==7 then (true,wN w (w.2.2.1.set i (crN (w.2.2.1.getD i A8) (E0a e.2.2.2.2.2)))) else Qia w i e.2.2.1 e.2.2.2.2.1
def Wy (w:Wld) (i wt:Int):Bool×Wld:=bif !(inR i 0 ((w.1.length:Int)-1)) then (false,w) else bif !(inR wt 1 1000) then (false,w) else
 (decide ((Dra w.2.1 (wgt w.1 i.toNat wt)).2≥0),(wgt w.1 i.toNat wt,(Dra w.2.1 (wgt w.1 i.toNat wt)).1,w.2.2))
def P9a (r:Int×Wld):Bool×Wld:=bif r.1 != 2 then (r.1 != 3,r.2) else (false,r.2)
def doW (w:Wld) (e:Evt):Bool×Wld:=
 bif e.1==1 then P9a (ask w e.2.2.1 ((0,0,0),false,e.2.2.2.1) e.2.2.2.2.1 e.2.2.2.2.2) else
 bif e.1==2 then P9a (ask w e.2.2.1 ((0,0,0),true,[]) e.2.2.2.2.1 e.2.2.2.2.2) else
 bif e.1==3||(e.1==4||(e.1==5||(e.1==6||(e.1==7||e.1==8)))) then (bif inR e.2.1 0 ((w.2.2.1.length:Int)-1) then Nb w e e.2.1.toNat else (false,w)) else
 bif e.1==9 then Wy w e.2.1 e.2.2.2.2.1 else (false,w)

def Sj {a b c:Stp} (h1:sle a b=false) (h2:sle b c=false):sle a c=false:=by
 cases h:sle a c
 ·rfl
 have n1:¬ _:=λ k=>by rw[Ln.2 k]at h1;cases h1
 have n2:¬ _:=λ k=>by rw[Ln.2 k]at h2;cases h2
 have h3:=Ln.1 h;omega
def Oa {a b:Stp} (h:sle a b=true):sle b a=false:=by
 cases h':sle b a
 ·rfl
 have h1:=Ln.1 h;have h2:=Ln.1 h';omega
def Bca (ws:List Wri):Prop:=∀ x∈ws,B8 x.1=true∧Ds x.2.1=true∧Ax x.2.1.2.2
def IsW (ws:List Wri) (s:ByteArray) (f:Fil):Prop:=∃ x∈ws,x.1=s∧x.2.1=f
def EO (ws:List Wri) (sp:List ByteArray) (s:ByteArray) (b:List Int):Prop:=∃ f,IsW ws s f∧(b=G5 f∨(s∈sp∧∃ n,n<8*(G5 f).length∧b=Jo (G5 f) n))
def ED (ws:List Wri) (sp:List ByteArray) (d:Dsk) (s:ByteArray):Prop:=
 (∀ b,gt d.1 s=some b→EO ws sp s b)∧(∀ b,gt d.2 s=some b→EO ws sp s b)∧
 (s∉sp→∀ b f,gt d.2 s=some b→Ka b=some f→∃ b' f',gt d.1 s=some b'∧Ka b'=some f'∧sle f'.1 f.1=false)
def DI (ws:List Wri) (sp:List ByteArray) (d:Dsk):Prop:=∀ s,ED ws sp d s
def HD (d:Dsk) (s:ByteArray) (st:Stp):Prop:=∃ b f,gt d.2 s=some b∧Ka b=some f∧sle f.1 st=false
def MO (sp:List ByteArray) (d d':Dsk):Prop:=∀ s,s∉sp→∀ st,HD d s st→HD d' s st
def IsW.good {ws:List Wri} (hw:Bca ws) {s:ByteArray} {f:Fil} (h:IsW ws s f):B8 s=true∧Ds f=true∧Ax f.2.2:=by
 obtain⟨x,hx,rfl,rfl⟩:=h;exact hw x hx
def EO.get {ws:List Wri} {sp:List ByteArray} (hw:Bca ws) {s:ByteArray} {b:List Int} (h:EO ws sp s b) {f:Fil} (hf:Ka b=some f):IsW ws s f∧b=G5 f:=by
 obtain⟨g,h1,h2⟩:=h;obtain⟨_,g2,g3⟩:=h1.good hw;rcases h2 with rfl|⟨_,n,hn,rfl⟩
 ·rw[Mx g2 g3]at hf;cases hf;exact⟨h1,rfl⟩
 ·rw[Ila g2 hn]at hf;cases hf
def EO.fine {ws:List Wri} {sp:List ByteArray} (hw:Bca ws) {s:ByteArray} {b:List Int} (h:EO ws sp s b) (hs:s∉sp):∃ f,Ka b=some f∧IsW ws s f:=by
 obtain⟨g,h1,h2⟩:=h;obtain⟨_,g2,g3⟩:=h1.good hw;rcases h2 with rfl|⟨h,_⟩
 ·exact⟨g,Mx g2 g3,h1⟩
 ·exact absurd h hs
def EO.mono {ws ws':List Wri} {sp sp':List ByteArray} (h1:∀ x∈ws,x∈ws') (h2:∀ s∈sp,s∈sp') {s:ByteArray} {b:List Int} (h:EO ws sp s b):EO ws' sp' s b:=by
 obtain⟨g,⟨x,hx,e⟩,h3⟩:=h;refine⟨g,⟨x,h1 x hx,e⟩,?_⟩;rcases h3 with h3|⟨h3,h4⟩
 ·exact .inl h3
 ·exact .inr ⟨h2 s h3,h4⟩
def ED.mono {ws ws':List Wri} {sp sp':List ByteArray} (h1:∀ x∈ws,x∈ws') (h2:∀ s∈sp,s∈sp') {d:Dsk} {s:ByteArray} (h:ED ws sp d s):ED ws' sp' d s:=
 ⟨λ b hb=>(h.1 b hb).mono h1 h2,λ b hb=>(h.2.1 b hb).mono h1 h2,λ hs=>h.2.2 (λ c=>hs (h2 s c))⟩
def DI.mono {ws ws':List Wri} {sp sp':List ByteArray} (h1:∀ x∈ws,x∈ws') (h2:∀ s∈sp,s∈sp') {d:Dsk} (h:DI ws sp d):DI ws' sp' d:=λ s=>(h s).mono h1 h2
def ED.same {ws:List Wri} {sp:List ByteArray} {d d':Dsk} {s:ByteArray} (h:ED ws sp d s) (e1:gt d'.1 s=gt d.1 s) (e2:gt d'.2 s=gt d.2 s):ED ws sp d' s:=by
 unfold ED;rw[e1,e2];exact h
def HD.same {d d':Dsk} {s:ByteArray} {st:Stp} (h:HD d s st) (e2:gt d'.2 s=gt d.2 s):HD d' s st:=by
 unfold HD;rw[e2];exact h
def MO.refl (sp:List ByteArray) (d:Dsk):MO sp d d:=λ _ _ _ h=>h
def MO.trans {sp:List ByteArray} {a b c:Dsk} (h1:MO sp a b) (h2:MO sp b c):MO sp a c:=λ s hs st h=>h2 s hs st (h1 s hs st h)
section
variable {ws:List Wri} {sp:List ByteArray} {d:Dsk} {s:ByteArray}
def ED.now (hw:Bca ws) (h:ED ws sp d s) {f:Fil} (ho:old d s=some f):IsW ws s f:=by
 unfold old at ho
 cases hg:gt d.1 s with
 |none=>rw[hg]at ho;cases ho
 |some b=>rw[hg]at ho;exact((h.1 b hg).get hw ho).1
def ED.ge (h:ED ws sp d s) (hs:s∉sp) {st:Stp} (hh:HD d s st):∃ b f,gt d.1 s=some b∧Ka b=some f∧sle f.1 st=false:=by
 obtain⟨b,f,h1,h2,h3⟩:=hh;obtain⟨b',f',h4,h5,h6⟩:=h.2.2 hs b f h1 h2;exact⟨b',f',h4,h5,Sj h6 h3⟩
def Xqa (hd:C9 d=true) (h:DI ws sp d):DI ws sp (d.1,sy d s):=by
 intro t
 by_cases ht:s=t
 ·subst ht
  have e:gt (sy d s) s=gt d.1 s:=by rw[G2a hd,if_pos rfl]
  refine⟨(h s).1,λ b hb=>(h s).1 b (by rw[← e];exact hb),λ hs b f hb hf=>⟨b,f,by rw[← e];exact hb,hf,Gu _⟩⟩
 ·exact(h t).same rfl (by show gt (sy d s) t=_;rw[G2a hd,if_neg ht])
def Agb (hd:C9 d=true) (h:DI ws sp d):MO sp d (d.1,sy d s):=by
 intro t ht st hh
 by_cases hst:s=t
 ·subst hst;obtain⟨b,f,h1,h2,h3⟩:=(h s).ge ht hh;exact⟨b,f,by show gt (sy d s) s=_;rw[G2a hd,if_pos rfl,h1],h2,h3⟩
 ·exact hh.same (by show gt (sy d s) t=_;rw[G2a hd,if_neg hst])
def Bvb (hw:Bca ws) (hd:C9 d=true) (h:DI ws sp d) {f:Fil} (hf:IsW ws s f) (hn:∀ o,old d s=some o→sle o.1 f.1=true):DI ws sp (wr d.1 s (G5 f),d.2):=by
 intro t
 by_cases ht:s=t
 ·subst ht
  have e:gt (wr d.1 s (G5 f)) s=some (G5 f):=by rw[Wv (Hq hd),if_pos rfl]
  obtain⟨_,g2,g3⟩:=hf.good hw;refine⟨λ b hb=>?_,(h s).2.1,λ hs b g hb hg=>⟨G5 f,f,e,Mx g2 g3,?_⟩⟩
  ·rw[show gt (wr d.1 s (G5 f)) s=some b from hb]at e;cases e;exact⟨f,hf,.inl rfl⟩
  ·obtain⟨b',f',k1,k2,k3⟩:=(h s).2.2 hs b g hb hg;have:=hn f' (by unfold old;rw[k1];exact k2);exact Sj (Oa this) k3
 ·exact(h t).same (by show gt (wr d.1 s (G5 f)) t=_;rw[Wv (Hq hd),if_neg ht]) rfl
def Gea (hw:Bca ws) (hd:DG d) (h:DI ws sp d) {f:Fil} {sure:Bool} (hf:IsW ws s f):DI ws sp (keep d s f sure).1∧MO sp d (keep d s f sure).1:=by
 obtain⟨g1,g2,g3⟩:=hf.good hw;rw[O3 hd.1 g1 g2];rcases Oz (f:=f) (sure:=sure) hd g1 with k|⟨o,_,_,k,hg,h3⟩|⟨h1,h2,k,hg,h3⟩
 ·rw[k];exact⟨h,MO.refl _ _⟩
 ·rcases h3 with⟨_,h3⟩|⟨_,h3⟩
  ·rw[h3];exact⟨h,MO.refl _ _⟩
  ·rw[h3];exact⟨Xqa hd.1 h,Agb hd.1 h⟩
 ·have hw':=Bvb hw hd.1 h hf h1;rcases h3 with⟨_,h3⟩|⟨_,h3⟩
  ·rw[h3];exact⟨hw',λ t _ st hh=>hh.same rfl⟩
  ·rw[h3];exact⟨Xqa h2.1 hw',(show MO sp d (wr d.1 s (G5 f),d.2) from λ t _ st hh=>hh.same rfl).trans (Agb h2.1 hw')⟩
def Paa (hw:Bca ws) (hd:DG d) {f:Fil} (hf:IsW ws s f) (hc:(keep d s f true).2=0∨(keep d s f true).2=1):HD (keep d s f true).1 s f.1:=by
 obtain⟨g1,g2,g3⟩:=hf.good hw;rw[O3 hd.1 g1 g2]at hc ⊢;obtain⟨o,g,b,ho,_,e,h1,h2,h3⟩:=Oja hd g1 g2 g3 hc;rw[e];exact⟨b,g,by show gt (sy o s) s=_;rw[G2a ho.1,if_pos rfl,h1],h2,h3⟩
def Xra (hd:DG d) (h:DI ws sp d) (kp:List Bool):DI ws sp (P0 d kp):=by
 intro t;rcases P0a (d:=d) (kp:=kp) t with e|⟨e1,e2⟩
 ·rw[e];exact h t
 ·unfold ED;rw[e1]
  have eo:∀ b,gt (P0 d kp).1 t=some b→EO ws sp t b:=by
   intro b hb;rcases e2 with e2|e2
   ·exact(h t).1 b (by rw[← e2];exact hb)
   ·exact(h t).2.1 b (by rw[← e2];exact hb)
  exact⟨eo,eo,λ _ b f hb hf=>⟨b,f,hb,hf,Gu _⟩⟩
def Xsa (hd:DG d) (h:DI ws sp d) (kp:List Bool):MO sp d (P0 d kp):=by
 intro t ht st hh;rcases P0a (d:=d) (kp:=kp) t with e|⟨e1,e2⟩
 ·rw[e];exact hh
 ·unfold HD;rw[e1];rcases e2 with e2|e2
  ·rw[e2];exact(h t).ge ht hh
  ·rw[e2];exact hh
def Ita (hw:Bca ws) (hd:DG d) (h:DI ws sp d):DI ws sp (Ji d).1∧MO sp d (Ji d).1:=by
 obtain⟨_,hc⟩:=Pu d.1 (d,0) hd;have hc':∀ t,(t∈B6a d.1→gt (Ji d).1.1 t=none∧gt (Ji d).1.2 t=none)∧(t∉B6a d.1→gt (Ji d).1.1 t=gt d.1 t∧gt (Ji d).1.2 t=gt d.2 t):=hc
 have hb:∀ t,t∈B6a d.1→t∈sp:=by
  intro t ht;obtain⟨b,h1,h2⟩:=(Ioa hd.1).1 ht
  by_cases hs:t∈sp
  ·exact hs
  ·obtain⟨f,hf,_⟩:=((h t).1 b h1).fine hw hs;rw[hf]at h2;cases h2
 constructor
 ·intro t
  by_cases ht:t∈B6a d.1
  ·obtain⟨e1,e2⟩:=(hc' t).1 ht;unfold ED;rw[e1,e2];exact⟨λ b hb=>(by cases hb),λ b hb=>(by cases hb),λ _ b f hb=>(by cases hb)⟩
  ·obtain⟨e1,e2⟩:=(hc' t).2 ht;exact(h t).same e1 e2
 ·intro t ht st hh;exact hh.same ((hc' t).2 (λ c=>ht (hb t c))).2
def Ahb (hd:DG d) (h:DI ws sp d) (hs:B8 s=true):DI ws sp (syD (rmD d s).1 s).1∧∀ t,t≠s→∀ st,HD d t st→HD (syD (rmD d s).1 s).1 t st:=by
 have hr:DI ws sp (rmD d s).1∨True := .inr trivial;unfold rmD
 cases hg:gt d.1 s with
 |none=>
  have e:(bif (none:Option (List Int)).isSome then ((cut d.1 s,d.2),true) else (d,false)).1=d:=rfl;rw[e];unfold syD
  by_cases hl:(sy d s).length≤60
  ·rw[decide_eq_true hl];exact⟨Xqa hd.1 h,λ t ht st hh=>hh.same (by show gt (sy d s) t=_;rw[G2a hd.1,if_neg (E1b ht)])⟩
  ·rw[decide_eq_false hl];exact⟨h,λ t ht st hh=>hh⟩
 |some b=>
  have e:(bif (some b:Option (List Int)).isSome then ((cut d.1 s,d.2),true) else (d,false)).1=(cut d.1 s,d.2):=rfl;rw[e];have hd':C9 (cut d.1 s,d.2)=true:=E4.2 ⟨Sf (E4.1 hd.1).1,(E4.1 hd.1).2⟩
  have e1:∀ t,gt (cut d.1 s) t=if s=t then none else gt d.1 t:=λ t=>Qp (Hq hd.1)
  have e2:∀ t,gt (sy (cut d.1 s,d.2) s) t=if s=t then none else gt d.2 t:=λ t=>by
   rw[G2a hd']
   by_cases hst:s=t
   ·rw[if_pos hst,if_pos hst];show gt (cut d.1 s) s=none;rw[e1,if_pos rfl]
   ·rw[if_neg hst,if_neg hst]
  have hlen:(sy (cut d.1 s,d.2) s).length≤60:=by
   have:sy (cut d.1 s,d.2) s=cut d.2 s:=by
    unfold sy;have:=e1 s;rw[if_pos rfl]at this;rw[show gt (cut d.1 s,d.2).1 s=none from this]
   rw[this];exact Zu Uy.length_le (B5.1 (E4.1 hd.1).2).2.2
  unfold syD;rw[decide_eq_true hlen];constructor
  ·intro t;show ED ws sp (cut d.1 s,sy (cut d.1 s,d.2) s) t
   by_cases hst:s=t
   ·unfold ED;dsimp only;rw[e1,e2,if_pos hst,if_pos hst];exact⟨λ b hb=>(by cases hb),λ b hb=>(by cases hb),λ _ b f hb=>(by cases hb)⟩
   ·exact(h t).same (by show gt (cut d.1 s) t=_;rw[e1,if_neg hst]) (by show gt (sy (cut d.1 s,d.2) s) t=_;rw[e2,if_neg hst])
  ·intro t ht st hh;exact hh.same (by show gt (sy (cut d.1 s,d.2) s) t=_;rw[e2,if_neg (E1b ht)])
def Aib (hw:Bca ws) (hd:DG d) (h:DI ws sp d) {n:Int} (hl:(lkD d s).2=0) (hr:(Qq d s n).2=true) (sp':List ByteArray) (hsp:∀ t,t∈sp'↔t=s∨t∈sp):DI ws sp' (Qq d s n).1∧MO sp' d (Qq d s n).1∧∃ f,IsW ws s f:=by
 obtain⟨b,hb,hf⟩:=M7.1 (show lkD d s=((lkD d s).1,0) by rw[← hl]);obtain⟨hW,e⟩:=((h s).1 b hb).get hw hf;have hsub:∀ t∈sp,t∈sp':=λ t ht=>(hsp t).2 (.inr ht);generalize (lkD d s).1=f at *;unfold Qq at hr ⊢;rw[hb]at hr ⊢;dsimp only at hr ⊢;cases hin:inR n 0 (8*(b.length:Int)-1)
 ·rw[hin]at hr;cases hr
 rw[cond_true];obtain⟨n0,n1⟩:=Dg.1 hin
 have hn:n.toNat<8*(G5 f).length:=by rw[← e];omega
 have e1:∀ t,gt (wr d.1 s (Jo b n.toNat)) t=if s=t then some (Jo b n.toNat) else gt d.1 t:=λ t=>Wv (Hq hd.1)
 have e2:∀ t,gt (bif decide (gt d.2 s=some b) then wr d.2 s (Jo b n.toNat) else d.2) t=if s=t∧gt d.2 s=some b then some (Jo b n.toNat) else gt d.2 t:=by
  intro t
  by_cases hg:gt d.2 s=some b
  ·rw[decide_eq_true hg,cond_true,Wv (Kt hd.1)]
   by_cases hst:s=t
   ·rw[if_pos hst,if_pos ⟨hst,hg⟩]
   ·rw[if_neg hst,if_neg (λ c=>hst c.1)]
  ·rw[decide_eq_false hg,cond_false,if_neg (λ c=>hg c.2)]
 have hflip:EO ws sp' s (Jo b n.toNat):=⟨f,hW,.inr ⟨(hsp s).2 (.inl rfl),n.toNat,hn,by rw[e]⟩⟩;refine⟨λ t=>?_,λ t ht st hh=>?_,f,hW⟩
 ·by_cases hst:s=t
  ·subst hst;refine⟨λ x hx=>?_,λ x hx=>?_,λ c=>absurd ((hsp s).2 (.inl rfl)) c⟩
   ·have:=e1 s;rw[if_pos rfl]at this;rw[show gt (wr d.1 s (Jo b n.toNat)) s=some x from hx]at this;cases this;exact hflip
   ·have:=e2 s;rw[show gt (bif decide (gt d.2 s=some b) then wr d.2 s (Jo b n.toNat) else d.2) s=some x from hx]at this
    by_cases hg:gt d.2 s=some b
    ·rw[if_pos ⟨rfl,hg⟩]at this;cases this;exact hflip
    ·rw[if_neg (λ c=>hg c.2)]at this;exact((h s).2.1 x this.symm).mono (λ _ h=>h) hsub
  ·refine((h t).mono (λ _ h=>h) hsub).same ?_ ?_
   ·show gt (wr d.1 s (Jo b n.toNat)) t=_;rw[e1,if_neg hst]
   ·show gt (bif decide (gt d.2 s=some b) then wr d.2 s (Jo b n.toNat) else d.2) t=_;rw[e2,if_neg (λ c=>hst c.1)]
 ·have hst:s≠t:=λ c=>ht ((hsp t).2 (.inl c.symm));exact hh.same (by show gt (bif decide (gt d.2 s=some b) then wr d.2 s (Jo b n.toNat) else d.2) t=_;rw[e2,if_neg (λ c=>hst c.1)])
end

def NI (ws:List Wri) (sp:List ByteArray) (n:Nod):Prop:=NG n∧DI ws sp n.2.1∧(∀ r∈n.2.2.1,Ry ws r=true)∧∀ r∈n.2.2.2,Ry ws r=true
def KN (ns:List Nod) (s:ByteArray) (st:Stp):Prop:=∃ i,i<ns.length∧HD (ns.getD i A8).2.1 s st
def MS (sp:List ByteArray) (ns ns':List Nod):Prop:=∀ s,s∉sp→∀ st,KN ns s st→KN ns' s st
def Qw {ws:List Wri} {r:Row}:Ry ws r=true↔∃ x∈ws,Su x.1 x.2.1=r:=by
 unfold Ry;rw[Enb];exact⟨λ ⟨x,h1,h2⟩=>⟨x,h1,Dza.1 h2⟩,λ ⟨x,h1,h2⟩=>⟨x,h1,Dza.2 h2⟩⟩
def Y2 {ws ws':List Wri} (h:∀ x∈ws,x∈ws') {r:Row} (hr:Ry ws r=true):Ry ws' r=true:=by
 obtain⟨x,h1,h2⟩:=Qw.1 hr;exact Qw.2 ⟨x,h x h1,h2⟩
def Taa {ws:List Wri} {s:ByteArray} {f:Fil} (h:IsW ws s f):Ry ws (Su s f)=true:=by
 obtain⟨x,h1,rfl,rfl⟩:=h;exact Qw.2 ⟨x,h1,rfl⟩
def NI.mono {ws ws':List Wri} {sp sp':List ByteArray} (h1:∀ x∈ws,x∈ws') (h2:∀ s∈sp,s∈sp') {n:Nod} (h:NI ws sp n):NI ws' sp' n:=
 ⟨h.1,h.2.1.mono h1 h2,λ r hr=>Y2 h1 (h.2.2.1 r hr),λ r hr=>Y2 h1 (h.2.2.2 r hr)⟩
def NR (ws:List Wri) (sp:List ByteArray) (ns ns':List Nod):Prop:=(∀ n∈ns',NI ws sp n)∧ns'.map (·.1)=ns.map (·.1)∧MS sp ns ns'
def NR.refl {ws:List Wri} {sp:List ByteArray} {ns:List Nod} (h:∀ n∈ns,NI ws sp n):NR ws sp ns ns:=⟨h,rfl,λ _ _ _ h=>h⟩
def NR.len {ws:List Wri} {sp:List ByteArray} {ns ns':List Nod} (h:NR ws sp ns ns'):ns'.length=ns.length:=by
 have:=congrArg length h.2.1;rwa [Vz,Vz]at this
def E5 {α:Type} {l:List α} {i j:Nat} {x d:α} (hj:j<l.length):(l.set i x).getD j d=if i=j then x else l.getD j d:=by
 rw[Vb,List.getElem?_set]
 by_cases h:i=j
 ·subst h;rw[if_pos rfl,if_pos rfl,if_pos hj];rfl
 ·rw[if_neg h,if_neg h,Vb]
def Gfa {ns:List Nod} {i:Nat} {n:Nod} (hi:i<ns.length) (h:n.1=(ns.getD i A8).1):(ns.set i n).map (·.1)=ns.map (·.1):=by
 refine Ffb (by simp) (λ j h1 h2=>?_);rw[Vz,Vv]at h1;rw[Erb,Erb,Fgb]
 by_cases hij:i=j
 ·subst hij;rw[if_pos rfl,h,Vb,Vg hi];rfl
 ·rw[if_neg hij]
def NR.set {ws:List Wri} {sp:List ByteArray} {ns ns':List Nod} (h:NR ws sp ns ns') {i:Nat} (hi:i<ns'.length) {n:Nod} (h1:NI ws sp n) (h2:n.1=(ns'.getD i A8).1) (h3:MO sp (ns'.getD i A8).2.1 n.2.1):NR ws sp ns (ns'.set i n):=by
 obtain⟨g1,g2,g3⟩:=h;refine⟨λ m hm=>?_,by rw[Gfa hi h2,g2],λ s hs st hk=>?_⟩
 ·rcases Yw hm with hm|rfl
  ·exact g1 m hm
  ·exact h1
 ·obtain⟨j,hj,hd⟩:=g3 s hs st hk;refine⟨j,by rw[Vv];exact hj,?_⟩;rw[E5 hj]
  by_cases hij:i=j
  ·subst hij;rw[if_pos rfl];exact h3 s hs st hd
  ·rw[if_neg hij];exact hd
section
variable {ws:List Wri} {sp:List ByteArray} {n:Nod} {s:ByteArray} {f:Fil}
def Xta (hw:Bca ws) (h:NI ws sp n) (hf:IsW ws s f) (sure:Bool):NI ws sp (Py n s f sure).1∧(Py n s f sure).1.1=n.1∧MO sp n.2.1 (Py n s f sure).1.2.1:=by
 obtain⟨g1,g2,g3⟩:=hf.good hw;obtain⟨h1,h2,h3,h4⟩:=h;have hg:=Oka (sure:=sure) h1 g1 g2;obtain⟨k1,k2⟩:=Gea (sure:=sure) hw h1.g h2 hf;unfold Py at hg ⊢;cases hq:(n.2.2.2.length:Int)==60
 case true=>exact⟨⟨h1,h2,h3,h4⟩,rfl,MO.refl _ _⟩
 rw[hq]at hg;refine⟨⟨hg,k1,h3,?_⟩,rfl,k2⟩
 show ∀ r∈bif (keep n.2.1 s f sure).2==0&&sure then n.2.2.2++[Su s f] else n.2.2.2,Ry ws r=true
 cases (keep n.2.1 s f sure).2==0&&sure
 ·exact h4
 intro r hr;rcases Vm.1 hr with hr|hr
 ·exact h4 r hr
 ·rw[Vp.1 hr];exact Taa hf
def Xua (hw:Bca ws) (h:NI ws sp n) (hf:IsW ws s f) (hc:(Py n s f true).2=0∨(Py n s f true).2=1):HD (Py n s f true).1.2.1 s f.1:=by
 unfold Py at hc ⊢
 cases hq:((n.2.2.2.length:Int)==60) with
 |true=>rw[hq]at hc;rcases hc with hc|hc<;>cases hc
 |false=>rw[hq]at hc;exact Paa hw h.1.g hf hc
def Ajb (h:NI ws sp n) {l:List Row} (hl:I4 l=true) (hr:∀ r∈l,Ry ws r=true):NI ws sp (tk n l).2∧(tk n l).2.1=n.1∧(tk n l).2.2.1=n.2.1:=by
 obtain⟨h1,h2,h3,h4⟩:=h;have hg:=Bub h1 hl;unfold tk at hg ⊢;cases hq:decide ((N8 n.2.2.1 l).length > 60)
 case true=>exact⟨⟨h1,h2,h3,h4⟩,rfl,rfl⟩
 rw[hq]at hg;exact⟨⟨hg,h2,λ r hr'=>(Asa hr').elim (h3 r) (hr r),h4⟩,rfl,rfl⟩
end
def Akb {ws:List Wri} {sp:List ByteArray} {ns:List Nod} {R:Int} {rc:List Int} {s:ByteArray} {f:Fil} {cs:List Int} {a:List Nod×Int×Int} {j:Nat} (hw:Bca ws) (hf:IsW ws s f)
  (h:NR ws sp ns a.1∧(s∉sp→a.2.2≥1→KN a.1 s f.1)∧a.2.2≥0) (hc:(cs.getD j 0).toNat<ns.length):
  NR ws sp ns (wst R rc s f cs a j).1∧(s∉sp→(wst R rc s f cs a j).2.2≥1→KN (wst R rc s f cs a j).1 s f.1)∧(wst R rc s f cs a j).2.2≥0:=by
 obtain⟨h1,h2,h3⟩:=h;unfold wst;cases decide (a.2.1<R)
 ·exact⟨h1,h2,h3⟩
 cases rch rc j==0
 case true=>exact⟨h1,h2,h3⟩
 rw[cond_true,cond_false]
 have hi:(cs.getD j 0).toNat<a.1.length:=by rw[h1.len];exact hc
 generalize (cs.getD j 0).toNat=i at *;have hn:=h1.1 _ (A3 (d:=A8) hi);obtain⟨p1,p2,p3⟩:=Xta hw hn hf (rch rc j != 3);refine⟨h1.set hi p1 p2 p3,λ hs hg=>?_,?_⟩
 ·cases hr:rch rc j==1&&((Py (a.1.getD i A8) s f (rch rc j != 3)).2==0||(Py (a.1.getD i A8) s f (rch rc j != 3)).2==1) with
  |true=>
   rw[Va,Zw,beq_iff_eq,beq_iff_eq,beq_iff_eq]at hr
   have e:(rch rc j != 3)=true:=by rw[hr.1];rfl
   rw[e]at hr ⊢;refine⟨i,by rw[Vv];exact hi,?_⟩;rw[E5 hi,if_pos rfl];exact Xua hw hn hf hr.2
  |false=>
   rw[hr]at hg;obtain⟨m,hm,hd⟩:=h2 hs hg;refine⟨m,by rw[Vv];exact hm,?_⟩;rw[E5 hm]
   by_cases hij:i=m
   ·subst hij;rw[if_pos rfl];exact p3 s hs _ hd
   ·rw[if_neg hij];exact hd
 ·dsimp only;cases rch rc j==1&&((Py (a.1.getD i A8) s f (rch rc j != 3)).2==0||(Py (a.1.getD i A8) s f (rch rc j != 3)).2==1)
  ·exact h3
  ·rw[cond_true];omega
def Alb {ws:List Wri} {sp:List ByteArray} {w:Wld} {rc:List Int} {s:ByteArray} {f:Fil} (hw:Bca ws) (hf:IsW ws s f) (hn:∀ n∈w.2.2.1,NI ws sp n):
  NR ws sp w.2.2.1 (wrN w s f rc).1∧(s∉sp→(wrN w s f rc).2.2≥1→KN (wrN w s f rc).1 s f.1)∧(wrN w s f rc).2.2≥0:=
 Hz (λ _ (a:List Nod×Int×Int)=>NR ws sp w.2.2.1 a.1∧(s∉sp→a.2.2≥1→KN a.1 s f.1)∧a.2.2≥0) ⟨NR.refl hn,λ _ h=>absurd h (show ¬ (0:Int)≥1 by omega),Zza _⟩
  (λ j b hj hb=>Akb hw hf hb (by have:=I0 (A3 (d:=0) hj);omega))
def Amb {ws:List Wri} {sp:List ByteArray} {ns:List Nod} {rc:List Int} {s:ByteArray} {f:Fil} {ps:List Int} {a:List Nod×Bool×Bool} {src j:Nat} (hw:Bca ws) (hf:IsW ws s f) (hsrc:src<ns.length)
  (h:NR ws sp ns a.1∧(a.2.1=false→a.1.getD src A8=ns.getD src A8∧(a.2.2=true→0<j→∃ i,i≠src∧i<ns.length∧HD (a.1.getD i A8).2.1 s f.1))) (hc:(ps.getD j 0).toNat<ns.length) (hc0:0≤ps.getD j 0):
  NR ws sp ns (pst (src:Int) s f rc ps a j).1∧((pst (src:Int) s f rc ps a j).2.1=false→(pst (src:Int) s f rc ps a j).1.getD src A8=ns.getD src A8∧((pst (src:Int) s f rc ps a j).2.2=true→0<j+1→∃ i,i≠src∧i<ns.length∧HD ((pst (src:Int) s f rc ps a j).1.getD i A8).2.1 s f.1)):=by
 obtain⟨h1,h2⟩:=h;unfold pst;cases hz:ps.getD j 0==(src:Int)
 case true=>exact⟨h1,λ c=>by cases c⟩
 have hne:(ps.getD j 0).toNat≠src:=by
  have:=beq_eq_false_iff_ne.1 hz;omega
 cases hr:rch rc j != 1
 case true=>exact⟨h1,λ c=>⟨(h2 c).1,λ c'=>by cases c'⟩⟩
 rw[cond_false,cond_false]
 have hi:(ps.getD j 0).toNat<a.1.length:=by rw[h1.len];exact hc
 generalize (ps.getD j 0).toNat=i at *;have hn:=h1.1 _ (A3 (d:=A8) hi);obtain⟨k1,k2⟩:=Gea (sure:=true) hw hn.1.g hn.2.1 hf;refine⟨h1.set hi ⟨V8 hn.1,k1,hn.2.2⟩ rfl k2,λ c=>⟨?_,λ c' _=>?_⟩⟩
 ·show (a.1.set i _).getD src A8=_;rw[E5 (by rw[h1.len];exact hsrc),if_neg hne];exact(h2 c).1
 ·refine⟨i,hne,hc,?_⟩;show HD ((a.1.set i _).getD i A8).2.1 s f.1;rw[E5 hi,if_pos rfl];refine Paa hw hn.1.g hf ?_
  cases hk:(keep (a.1.getD i A8).2.1 s f true).2 != 0&&(keep (a.1.getD i A8).2.1 s f true).2 != 1 with
  |true=>
   have:(bif (keep (a.1.getD i A8).2.1 s f true).2 != 0&&(keep (a.1.getD i A8).2.1 s f true).2 != 1 then false else a.2.2)=true:=c';rw[hk]at this;cases this
  |false=>
   rw[Ekb,bne,bne,Yg,Yg,beq_iff_eq,beq_iff_eq]at hk;exact hk
def Anb {ws:List Wri} {sp:List ByteArray} {w:Wld} {rc:List Int} {s:ByteArray} {i:Nat} (hw:Bca ws) (hn:∀ n∈w.2.2.1,NI ws sp n) (hi:i<w.2.2.1.length) (hf:IsW ws s (lkD (w.2.2.1.getD i A8).2.1 s).1):
  NR ws sp w.2.2.1 (puN w i s rc).1∧((puN w i s rc).2.1=false→(puN w i s rc).1.getD i A8=w.2.2.1.getD i A8∧((puN w i s rc).2.2=true→0<(I1 w s).length→∃ j,j≠i∧j<w.2.2.1.length∧HD ((puN w i s rc).1.getD j A8).2.1 s (lkD (w.2.2.1.getD i A8).2.1 s).1.1)):=
 Hz (λ n (a:List Nod×Bool×Bool)=>NR ws sp w.2.2.1 a.1∧(a.2.1=false→a.1.getD i A8=w.2.2.1.getD i A8∧(a.2.2=true→0<n→∃ j,j≠i∧j<w.2.2.1.length∧HD (a.1.getD j A8).2.1 s (lkD (w.2.2.1.getD i A8).2.1 s).1.1))) ⟨NR.refl hn,λ _=>⟨rfl,λ _ c=>absurd c (Nat.lt_irrefl _)⟩⟩
  (λ j b hj hb=>Amb hw hf hi hb (by have:=Lj (A3 (d:=0) hj);omega) (Lj (A3 (d:=0) hj)).1)
def E1a {w:Wld} {s:ByteArray} (hr:Gb w.2.1 w.1=true) (hid:w.2.2.1.map (·.1)=w.1.map (·.1)):0<(I1 w s).length:=by
 obtain⟨_,p2,p3⟩:=O6 hr s;have h5:=(Bl.1 hr).2.1;obtain⟨id,hidm⟩:=Dlb (l:=O5 w.2.1 s) (by omega);have:=Lh.1 (p3 id hidm);rw[← hid]at this;obtain⟨n,hn,rfl⟩:=Yt.1 this;obtain⟨j,hj,rfl⟩:=Yn.1 hn;have hm:(j:Int)∈I1 w s:=Pw.2 ⟨j,hj,by rw[Vb,Vg hj];exact hidm,rfl⟩;exact Cwb hm
def Bda {ws:List Wri} {sp:List ByteArray} {w:Wld} {rc:List Int} {s:ByteArray} {i:Nat} (hw:Bca ws) (hn:∀ n∈w.2.2.1,NI ws sp n) (hi:i<w.2.2.1.length) (hr:Gb w.2.1 w.1=true) (hid:w.2.2.1.map (·.1)=w.1.map (·.1)):
  ∃ ns,(N2 w i s rc).2=wN w ns∧NR ws sp w.2.2.1 ns:=by
 have hni:=hn _ (A3 (d:=A8) hi);unfold N2;cases hl:(lkD (w.2.2.1.getD i A8).2.1 s).2 != 0
 case true=>exact⟨w.2.2.1,rfl,NR.refl hn⟩
 rw[bne,Yg,beq_iff_eq]at hl;obtain⟨b,hb,hg⟩:=M7.1 (show lkD (w.2.2.1.getD i A8).2.1 s=((lkD (w.2.2.1.getD i A8).2.1 s).1,0) from by rw[← hl]);have hf:IsW ws s (lkD (w.2.2.1.getD i A8).2.1 s).1:=(((hni.2.1 s).1 b hb).get hw hg).1;obtain⟨h1,h2⟩:=Anb (rc:=rc) hw hn hi hf;refine⟨_,rfl,?_⟩;cases hc:(puN w i s rc).2.2&&!(puN w i s rc).2.1
 ·exact h1
 rw[Va,Wb]at hc;obtain⟨h3,h4⟩:=h2 hc.2;obtain⟨j,hj,hjl,hd⟩:=h4 hc.1 (E1a hr hid);rw[cond_true,h3];obtain⟨g1,_,_⟩:=hf.good hw
 have hi':i<(puN w i s rc).1.length:=by rw[h1.len];exact hi
 obtain⟨o1,o2⟩:=Ahb (s:=s) hni.1.g hni.2.1 g1;refine⟨λ m hm=>?_,by rw[Gfa hi' (by rw[h3];rfl),h1.2.1],λ t ht st hk=>?_⟩
 ·rcases Yw hm with hm|rfl
  ·exact h1.1 m hm
  ·exact⟨V7a hni.1 g1,o1,hni.2.2⟩
 ·obtain⟨m,hm,hh⟩:=h1.2.2 t ht st hk
  by_cases hmi:m=i
  ·subst hmi;rw[h3]at hh
   by_cases hts:t=s
   ·subst hts;obtain⟨b',f',e1,e2,e3⟩:=(hni.2.1 t).ge ht hh;rw[hb]at e1;cases e1;rw[hg]at e2;cases e2;obtain⟨c,g,k1,k2,k3⟩:=hd;refine⟨j,by rw[Vv,h1.len];exact hjl,?_⟩;rw[E5 (by rw[h1.len];exact hjl),if_neg (E1b hj)];exact⟨c,g,k1,k2,Sj k3 e3⟩
   ·refine⟨m,by rw[Vv];exact hm,?_⟩;rw[E5 hm,if_pos rfl];exact o2 t hts st hh
  ·refine⟨m,by rw[Vv];exact hm,?_⟩;rw[E5 hm,if_neg (E1b hmi)];exact hh
def Bea {ws:List Wri} {sp:List ByteArray} {w:Wld} {src:Int} {l:List Row} {self:Bool} {rc:List Int} (hn:∀ n∈w.2.2.1,NI ws sp n) (hl:I4 l=true) (hr:∀ r∈l,Ry ws r=true):NR ws sp w.2.2.1 (J5 w src l self rc).1:=by
 refine Hz (λ _ (a:List Nod×Bool)=>NR ws sp w.2.2.1 a.1) (NR.refl hn) (λ j b hj hb=>?_);have hc:=Kj (A3 (d:=0) hj);unfold gst;cases (Cm w).getD j 0==src&&!self
 case true=>exact hb
 cases rch rc j != 1
 case true=>exact hb
 have hi:((Cm w).getD j 0).toNat<b.1.length:=by rw[hb.len];omega
 obtain⟨t1,t2,t3⟩:=Ajb (hb.1 _ (A3 (d:=A8) hi)) hl hr;exact hb.set hi t1 t2 (by rw[t3];exact MO.refl _ _)
def Iua {ws:List Wri} {sp:List ByteArray} {w:Wld} {rc:List Int} {i:Nat} (hn:∀ n∈w.2.2.1,NI ws sp n) (hi:i<w.2.2.1.length):∃ ns,(N3 w i rc).2=wN w ns∧NR ws sp w.2.2.1 ns:=by
 have hni:=hn _ (A3 (d:=A8) hi);have hl:=(Bx.1 hni.1.1).2.2.2.1;unfold N3;cases ((w.2.2.1.getD i A8).2.2.1.length:Int)==0
 case true=>exact⟨w.2.2.1,rfl,NR.refl hn⟩
 refine⟨_,rfl,?_⟩;have hg:NR ws sp w.2.2.1 (J2 w i rc).1:=Bea hn hl hni.2.2.1;cases (J2 w i rc).2&&!(Hr (Cm (wN w (J2 w i rc).1)) (i:Int))
 ·exact hg
 have hi':i<(J2 w i rc).1.length:=by rw[hg.len];exact hi
 have hm:=hg.1 _ (A3 (d:=A8) hi');exact hg.set hi' ⟨Isa hm.1,hm.2.1,(λ _ h=>nomatch h),hm.2.2.2⟩ rfl (MO.refl _ _)
def Iva {ws:List Wri} {sp:List ByteArray} {w:Wld} {rc:List Int} {i:Nat} (hn:∀ n∈w.2.2.1,NI ws sp n) (hi:i<w.2.2.1.length):∃ ns,(P3 w i rc).2=wN w ns∧NR ws sp w.2.2.1 ns:=by
 have hni:=hn _ (A3 (d:=A8) hi);obtain⟨hq,_,_,_,hq60⟩:=Bx.1 hni.1.1;unfold P3;cases ((w.2.2.1.getD i A8).2.2.2.length:Int)==0
 case true=>exact⟨w.2.2.1,rfl,NR.refl hn⟩
 refine⟨_,rfl,?_⟩;have hg:NR ws sp w.2.2.1 (K6 w i rc).1:=Bea hn (Ku hq) (λ r hr=>hni.2.2.2 r (Csb hr));cases (K6 w i rc).2
 ·exact hg
 have hi':i<(K6 w i rc).1.length:=by rw[hg.len];exact hi
 have hm:=hg.1 _ (A3 (d:=A8) hi');exact hg.set hi' ⟨Vaa hm.1 (λ r hr=>hq r (Zp hr)) (by rw[We];omega),hm.2.1,hm.2.2.1,λ r hr=>hni.2.2.2 r (Zp hr)⟩ rfl (MO.refl _ _)

structure WI (w:Wld):Prop where
 ring:Gb w.2.1 w.1=true
 ids:w.2.2.1.map (·.1)=w.1.map (·.1)
 nodes:∀ n∈w.2.2.1,NI w.2.2.2.2.1 w.2.2.2.2.2 n
 clk:Gw w.2.2.2.1=true
 wlen:w.2.2.2.2.1.length≤200
 wok:Bca w.2.2.2.2.1
 wge:∀ x∈w.2.2.2.2.1,sle w.2.2.2.1 x.2.1.1=false
 asc:w.2.2.2.2.1.Pairwise (λ a b=>sle a.2.1.1 b.2.1.1=true)
 kept:∀ x∈w.2.2.2.2.1,x.2.2=true→x.1∉w.2.2.2.2.2→KN w.2.2.1 x.1 x.2.1.1
 sps:TS w.2.2.2.2.2
 spw:∀ s∈w.2.2.2.2.2,∃ x∈w.2.2.2.2.1,x.1=s
theorem Bwb:LawfulBEq ByteArray := { eq_of_beq:=λ {a b} h=>Cn.1 (by rw[← T8];exact h),rfl:=λ {a}=>by rw[T8];exact Cn.2 rfl }
def Qx:∀ (p q:List ByteArray),p.Nodup→(∀ x∈p,x∈q)→p.length≤q.length
 |[],_,_,_=>Vu _
 |x::p,q,h,hs=>by
  haveI:=Bwb;obtain⟨h1,h2⟩:=Yl.1 h;have hx:=hs x Wj;have hlen:(q.erase x).length=q.length-1:=E9b hx;have hpos:=Cwb hx;have:=Qx p (q.erase x) h2 (λ y hy=>(Etb (λ c=>by subst c;exact h1 hy)).2 (hs y (Vd _ hy)));rw[Vh];omega
namespace WI
variable {w:Wld}
def splen (h:WI w):w.2.2.2.2.2.length≤200:=by
 have hn:w.2.2.2.2.2.Nodup:=h.sps.imp (λ {a b} hab e=>by subst e;rw[Ek]at hab;cases hab)
 have:=Qx _ (w.2.2.2.2.1.map (·.1)) hn (λ s hs=>by
  obtain⟨x,hx,e⟩:=h.spw s hs
  exact Yt.2 ⟨x,hx,e⟩)
 rw[Vz]at this;have:=h.wlen;omega
def nlen (h:WI w):w.2.2.1.length=w.1.length:=by
 have:=congrArg length h.ids;rwa [Vz,Vz]at this
def dlen (h:WI w):1≤w.1.length∧w.1.length≤12:=(D7.1 (Bl.1 h.ring).1).2.2
def ns (h:WI w):NS w.2.2.1:=⟨by have:=h.nlen;have:=h.dlen;omega,λ n hn=>(h.nodes n hn).1⟩
def win (h:WI w):WIn w:=by
 have h1:=h.nlen;have h2:=h.dlen;have h3:=h.wlen;have h4:=h.splen;refine⟨Jp h.ring,by omega,⟨by omega,λ n hn=>St (h.nodes n hn).1⟩,⟨by omega,λ x hx=>Hb (h.wok x hx).1⟩,by omega,λ s hs=>?_⟩;obtain⟨x,hx,e⟩:=h.spw s hs;rw[← e];exact Hb (h.wok x hx).1
def other (h:WI w) {ns:List Nod} (hn:NR w.2.2.2.2.1 w.2.2.2.2.2 w.2.2.1 ns):WI (wN w ns):=
 ⟨h.ring,hn.2.1.trans h.ids,hn.1,h.clk,h.wlen,h.wok,h.wge,h.asc,λ x hx hk hs=>hn.2.2 _ hs _ (h.kept x hx hk hs),h.sps,h.spw⟩
def other' (h:WI w) {r:Bool×Wld} (hr:∃ ns,r.2=wN w ns∧NR w.2.2.2.2.1 w.2.2.2.2.2 w.2.2.1 ns):WI r.2:=by
 obtain⟨ns,e,hn⟩:=hr;rw[e];exact h.other hn
def write (h:WI w) {s:ByteArray} {f:Fil} {rc:List Int} (hs:B8 s=true) (hf:Ds f=true) (hb:Ax f.2.2) (hc:sle w.2.2.2.1 f.1=true) (hl:w.2.2.2.2.1.length<200):WI (Pc (w.1,w.2.1,w.2.2.1,f.1,w.2.2.2.2) s f rc).2:=by
 obtain⟨g1,g2,g3⟩:=Alb (ws:=w.2.2.2.2.1++[(s,f,decide ((wrN (w.1,w.2.1,w.2.2.1,f.1,w.2.2.2.2) s f rc).2.2≥quo w.2.1.1))]) (sp:=w.2.2.2.2.2) (w:=(w.1,w.2.1,w.2.2.1,f.1,w.2.2.2.2)) (rc:=rc) (s:=s) (f:=f)
  (λ x hx=>by
   rcases Vm.1 hx with hx|hx
   ·exact h.wok x hx
   ·rw[Vp.1 hx];exact⟨hs,hf,hb⟩)
  ⟨_,Vm.2 (.inr (Vp.2 rfl)),rfl,rfl⟩
  (λ n hn=>(h.nodes n hn).mono (λ x hx=>Vm.2 (.inl hx)) (λ _ h=>h))
 unfold Pc;generalize wrN (w.1,w.2.1,w.2.2.1,f.1,w.2.2.2.2) s f rc=a at *
 have hq:quo w.2.1.1≥1:=by
  have:=(Bl.1 h.ring).2.1;unfold quo;omega
 exact {
  ring:=h.ring
  ids:=g1.2.1.trans h.ids
  nodes:=g1.1
  clk:=(Ha.1 hf).1
  wlen:=by show (w.2.2.2.2.1++[_]).length≤200;rw[Vi];simp only[Vh,Vs];omega
  wok:=λ x hx=>by
   rcases Vm.1 hx with hx|hx
   ·exact h.wok x hx
   ·rw[Vp.1 hx];exact⟨hs,hf,hb⟩
  wge:=λ x hx=>by
   rcases Vm.1 hx with hx|hx
   ·exact Sj (Oa hc) (h.wge x hx)
   ·rw[Vp.1 hx];exact Gu _
  asc:=Zg.2 ⟨h.asc,Dkb _ _,λ x hx y hy=>by
   rw[Vp.1 hy];have:=h.wge x hx;cases hxy:sle x.2.1.1 f.1
   case true=>rfl
   have:=Sj this hxy;rw[this]at hc
   cases hc⟩
  kept:=λ x hx hk hsp=>by
   rcases Vm.1 hx with hx|hx
   ·exact g1.2.2 _ hsp _ (h.kept x hx hk hsp)
   ·rw[Vp.1 hx]at hk hsp ⊢;have hk':a.2.2≥quo w.2.1.1:=of_decide_eq_true hk;exact g2 hsp (by omega)
  sps:=h.sps
  spw:=λ s hs=>by
   obtain⟨x,hx,e⟩:=h.spw s hs
   exact⟨x,Vm.2 (.inl hx),e⟩ }
def ask (h:WI w) {s:ByteArray} {f:Fil} {t:Int} {rc:List Int} (hb:Ax f.2.2) (hd:f.2.1=true→f.2.2=[]):WI (ask w s f t rc).2:=by
 unfold Vf.ask;cases hs:B8 s
 ·exact h
 rw[Zb,cond_false]
 by_cases hl:(f.2.2.length:Int) > 200
 ·rw[decide_eq_true hl];exact h
 ·rw[decide_eq_false hl,cond_false];cases inR t 0 1000000000
  ·exact h
  rw[Zb,cond_false];cases hw:(w.2.2.2.2.1.length:Int)==200
  case true=>exact h
  rw[cond_false];have hw':=beq_eq_false_iff_ne.1 hw;have hwl:=h.wlen;obtain⟨n1,n2⟩:=Baa h.clk t 0;cases he:(I9 w.2.2.2.1 t 0).1==w.2.2.2.1.1&&((I9 w.2.2.2.1 t 0).2.1==w.2.2.2.1.2.1&&(I9 w.2.2.2.1 t 0).2.2==w.2.2.2.1.2.2)
  case true=>exact h
  rw[cond_false]
  have hlt:sle w.2.2.2.1 (I9 w.2.2.2.1 t 0)=true:=by
   rcases n2 with n2|n2
   ·rw[n2,beq_self_eq_true,beq_self_eq_true,beq_self_eq_true]at he;cases he
   ·exact n2
  exact h.write (f:=(I9 w.2.2.2.1 t 0,f.2)) hs (Ha.2 ⟨n1,by show f.2.2.length≤200;omega,hd⟩) hb hlt (by omega)
def rot (h:WI w) {i:Nat} (hi:i<w.2.2.1.length) {s:ByteArray} {b:Int}:WI (Qia w i s b).2:=by
 have hni:=h.nodes _ (A3 (d:=A8) hi);unfold Qia;cases hr:(Aza (w.2.2.1.getD i A8) s b).2
 ·exact h
 have hg:=Uza (s:=s) (b:=b) hni.1;unfold Aza at hr hg ⊢;cases hc:J0 (w.2.2.1.getD i A8)&&((lkD (w.2.2.1.getD i A8).2.1 s).2==0&&(Qq (w.2.2.1.getD i A8).2.1 s b).2)
 ·rw[hc]at hr;cases hr
 rw[hc]at hg;rw[Va,Va,beq_iff_eq]at hc;obtain⟨d1,d2,f,hf⟩:=Aib h.wok hni.1.g hni.2.1 hc.2.1 hc.2.2 (spl w.2.2.2.2.2 s) (λ t=>Vr);have hsub:∀ t∈w.2.2.2.2.2,t∈spl w.2.2.2.2.2 s:=λ t ht=>Vr.2 (.inr ht)
 have hN:NR w.2.2.2.2.1 (spl w.2.2.2.2.2 s) w.2.2.1 (w.2.2.1.set i ((w.2.2.1.getD i A8).1,(Qq (w.2.2.1.getD i A8).2.1 s b).1,(w.2.2.1.getD i A8).2.2)):=
  (NR.refl (λ n hn=>(h.nodes n hn).mono (λ _ h=>h) hsub)).set hi ⟨hg,d1,hni.2.2⟩ rfl d2
 exact {
  ring:=h.ring
  ids:=hN.2.1.trans h.ids
  nodes:=hN.1
  clk:=h.clk
  wlen:=h.wlen
  wok:=h.wok
  wge:=h.wge
  asc:=h.asc
  kept:=λ x hx hk hs=>hN.2.2 _ hs _ (h.kept x hx hk (λ c=>hs (hsub _ c)))
  sps:=S4 h.sps
  spw:=λ t ht=>by
   rcases Vr.1 ht with rfl|ht
   ·obtain⟨x,hx,e,_⟩:=hf;exact⟨x,hx,e⟩
   ·exact h.spw t ht }
def node (h:WI w) {i:Nat} (hi:i<w.2.2.1.length) {e:Evt}:WI (Nb w e i).2:=by
 have hni:=h.nodes _ (A3 (d:=A8) hi);unfold Nb;cases e.1==3
 case true=>exact h.other' (Bda h.wok h.nodes hi h.ring h.ids)
 cases e.1==4
 case true=>exact h.other' (Iua h.nodes hi)
 cases e.1==5
 case true=>exact h.other' (Iva h.nodes hi)
 cases e.1==6 with
 |true=>
  obtain⟨c1,c2⟩:=Ita h.wok hni.1.g hni.2.1;exact h.other ((NR.refl h.nodes).set hi ⟨Ipa hni.1,c1,hni.2.2⟩ rfl c2)
 |false=>
  cases e.1==7 with
  |true=>exact h.other ((NR.refl h.nodes).set hi ⟨Afb hni.1,Xra hni.1.g hni.2.1 _,hni.2.2⟩ rfl (Xsa hni.1.g hni.2.1 _))
  |false=>exact h.rot hi
def weigh (h:WI w) {i t:Int}:WI (Wy w i t).2:=by
 unfold Wy;cases h1:inR i 0 ((w.1.length:Int)-1)
 ·exact h
 cases h2:inR t 1 1000
 ·exact h
 obtain⟨i0,i1⟩:=Dg.1 h1;obtain⟨w0,w1⟩:=Dg.1 h2;exact⟨(Tf (Tg h.ring (by omega) w0 w1)).1,h.ids.trans (B3a _ _ _).symm,h.nodes,h.clk,h.wlen,h.wok,h.wge,h.asc,h.kept,h.sps,h.spw⟩
def ev (h:WI w) {e:Evt} (hb:Ax e.2.2.2.1):WI (doW w e).2:=by
 have ae:∀ {q:Int×Wld},WI q.2→WI (P9a q).2:=λ {q} hq=>by
  unfold P9a
  cases q.1 != 2<;>exact hq
 unfold doW;cases e.1==1
 case true=>exact ae (h.ask hb (λ c=>by cases c))
 cases e.1==2
 case true=>exact ae (h.ask V2 (λ _=>rfl))
 cases e.1==3||(e.1==4||(e.1==5||(e.1==6||(e.1==7||e.1==8)))) with
 |true=>
  cases hi:inR e.2.1 0 ((w.2.2.1.length:Int)-1)
  ·exact h
  have:=Dg.1 hi;exact h.node (by omega)
 |false=>
  cases e.1==9 with
  |true=>exact h.weigh
  |false=>exact h
def rightB (h:WI w):Na w=true:=by
 have h2:=h.dlen;have hl:=h.nlen;unfold Na
 have a1:Pb w.1 w.2.2.1=true:=by
  unfold Pb;rw[show ((w.2.2.1.length:Int)==(w.1.length:Int))=true by rw[beq_iff_eq];omega,Wf,Yc];intro j hj;have hj':=Zy.1 hj;rw[Va,beq_iff_eq];refine⟨?_,(h.nodes _ (A3 (d:=A8) hj')).1.1⟩
  have e1:(w.2.2.1.getD j A8).1=(w.2.2.1.map (·.1)).getD j 0:=by
   rw[Vb,Vb,Zx,Vg hj'];rfl
  have e2:(w.1.getD j Kw).1=(w.1.map (·.1)).getD j 0:=by
   rw[Vb,Vb,Zx,Vg (by omega)];rfl
  rw[e1,e2,h.ids]
 have a2:T7a w.2.2.2.1 w.2.2.2.2.1=true:=by
  unfold T7a;rw[Va,Yc];refine⟨λ x hx=>?_,decide_eq_true (by have:=h.wlen;omega)⟩;unfold Gba;rw[(h.wok x hx).1,(h.wok x hx).2.1,h.wge x hx];rfl
 have a3:Qt w.2.2.2.2.2=true:=by
  unfold Qt;rw[Yc];intro j hj;have hj':=Zy.1 hj;rw[Va,Zw];refine⟨?_,?_⟩
  ·obtain⟨x,hx,e⟩:=h.spw _ (A3 (d:=Le) hj');rw[← e];exact(h.wok x hx).1
  ·by_cases h0:j=0
   ·exact .inl (decide_eq_true h0)
   ·right;have:=Ys.1 h.sps (j-1) j (by omega) hj' (by omega);rwa [Vb,Vb,Vg hj',Vg (by omega)]
 rw[h.ring,a1,h.clk,a2,a3];rfl
end WI

def C5b (l:List Dev) (last:Int):Prop:=l.Pairwise (λ a b=>a.1<b.1)∧∀ d∈l,(0≤d.1∧d.1≤last)∧(0≤d.2.1∧d.2.1≤20)∧1≤d.2.2∧d.2.2≤1000
def Pba (z:Int) (hz:1≤z∧z≤20):∀ (n:Nat) (i:Int) (l:List Dev) (last:Int) (c:Cur),i=n→n≤6→Ul c→C5b l last→0≤last→last+2*n≤12→l.length+n≤6→
  Tot (λ k=>F9 k l z last i c) (λ r=>(∃ last,C5b r.1 last∧last≤20)∧r.1.length=l.length+n∧Ul r.2):=by
 intro n
 induction n with
 |zero=>
  rintro i l last c rfl _ hc h h0 h1 _;refine Tot.succ ?_;simp (disch:=omega) only [F9,dF];exact Cfb ⟨⟨last,h,by omega⟩,rfl,hc⟩
 |succ n ih=>
  rintro i l last c rfl hn hc h h0 h1 hl;refine Tot.succ ?_;simp (disch:=omega) only [F9,dT];obtain⟨x,c1,e1,hx,k1⟩:=Ama c hc [1,1,2] (by decide) (by decide);obtain⟨y,c2,e2,y0,y1,_,k2⟩:=Ou c1 k1 z (by omega);obtain⟨v,c3,e3,hv,k3⟩:=Ama c2 k2 [1,1,1,2,10,100] (by decide) (by decide);have y1:=y1 (by omega)
  have hx':1≤x∧x≤2:=by
   simp only[Vk,E0b,or_false]at hx;omega
  have hv':1≤v∧v≤1000:=by
   simp only[Vk,E0b,or_false]at hv;omega
  refine Cqb (Crb (Q:=λ r=>r=(x,c1)) e1 rfl) ?_;refine Cqb (Crb (Q:=λ r=>r=(y,c2)) e2 rfl) ?_;refine Cqb (Crb (Q:=λ r=>r=(v,c3)) e3 rfl) ?_;simp (disch:=omega) only [w64];refine Cnb (by simp only[Vh,Vs];omega) ?_;refine(ih _ (l++[(last+x,y,v)]) (last+x) c3 (by omega) (by omega) k3 ⟨?_,?_⟩ (by omega) (by omega) (by rw[Vi];simp only[Vh,Vs];omega)).mono ?_
  ·refine Zg.2 ⟨h.1,Dkb _ _,λ a ha b hb=>?_⟩;rw[Vp.1 hb];have:=(h.2 a ha).1.2;show a.1<last+x;omega
  ·intro d hd;rcases Vm.1 hd with hd|hd
   ·obtain⟨⟨a1,a2⟩,a3⟩:=h.2 d hd;exact⟨⟨a1,by omega⟩,a3⟩
   ·rw[Vp.1 hd];exact⟨⟨by show 0≤last+x;omega,Zza _⟩,⟨y0,by show y≤20;omega⟩,hv'⟩
  ·rintro r ⟨g1,g2,g3⟩;refine⟨g1,?_,g3⟩;rw[g2,Vi];simp only[Vh,Vs];omega
def Kqa (c:Cur) (hc:Ul c):Tot (λ k=>Eo k c) (λ r=>H7 r.1=true∧(2≤r.1.length∧r.1.length≤6)∧Ul r.2):=by
 unfold Eo;obtain⟨x,c1,e1,x0,x1,_,k1⟩:=Ou c hc 4 (by decide);obtain⟨y,c2,e2,y0,y1,_,k2⟩:=Ou c1 k1 5 (by decide);have x1:=x1 (by decide);have y1:=y1 (by decide);refine Cqb (Crb (Q:=λ r=>r=(x,c1)) e1 rfl) ?_;refine Cqb (Crb (Q:=λ r=>r=(y,c2)) e2 rfl) ?_;simp (disch:=omega) only [w64];refine Cgb (Pba (1+x) (by omega) (2+y).toNat (2+y) [] 0 c2 (by omega) (by omega) k2 ⟨List.Pairwise.nil,λ d hd=>(nomatch hd)⟩ (Int.le_refl _) (by omega) (by simp only[List.length_nil];omega)) ?_;rintro r ⟨⟨last,g1,g2⟩,g3,g4⟩;rw[List.length_nil]at g3;exact Cfb ⟨D7.2 ⟨g1.1,λ d hd=>J1.2 ⟨⟨(g1.2 d hd).1.1,by have:=(g1.2 d hd).1.2;omega⟩,(g1.2 d hd).2⟩,by dsimp only;omega,by dsimp only;omega⟩,⟨by dsimp only;omega,by dsimp only;omega⟩,g4⟩
abbrev Qja:Wld:=(([]:List Dev),((0:Int),([]:List (List Int))),([]:List Nod),((0:Int),((0:Int),(0:Int))),([]:List Wri),([]:List ByteArray))
def Wz (d:Dev):Nod:=(d.1,([],[]),[],[])
def Y3 (l:List Dev) (parts reps:Int):Wld:=(l,(build l parts reps).1,l.map Wz,(0,0,0),[],[])
def Xva {ws:List Wri} {sp:List ByteArray} {l:List Dev} (h:H7 l=true) {d:Dev} (hd:d∈l):NI ws sp (Wz d):=by
 obtain⟨⟨i0,i1⟩,_⟩:=J1.1 ((D7.1 h).2.1 d hd);refine⟨⟨Bx.2 ⟨(λ r hr=>nomatch hr),⟨i0,i1⟩,dg0.1,Rz,Vu _⟩,dg0.2⟩,λ s=>⟨λ b hb=>?_,λ b hb=>?_,λ _ b f hb=>?_⟩,(λ r hr=>nomatch hr),(λ r hr=>nomatch hr)⟩
 ·rw[show gt (Wz d).2.1.1 s=none from rfl]at hb;cases hb
 ·rw[show gt (Wz d).2.1.2 s=none from rfl]at hb;cases hb
 ·rw[show gt (Wz d).2.1.2 s=none from rfl]at hb;cases hb
def Gga {l:List Dev} {parts reps:Int} (hb:(build l parts reps).2=true):WI (Y3 l parts reps):=by
 obtain⟨h1,h2,_,_⟩:=Te hb
 exact {
  ring:=h2
  ids:=by show (l.map Wz).map (·.1)=_;rw[Dqb];rfl
  nodes:=λ n hn=>by
   obtain⟨d,hd,rfl⟩:=Yt.1 hn;exact Xva h1 hd
  clk:=rfl
  wlen:=Vu _
  wok:=λ x hx=>nomatch hx
  wge:=λ x hx=>nomatch hx
  asc:=List.Pairwise.nil
  kept:=λ x hx=>nomatch hx
  sps:=List.Pairwise.nil
  spw:=λ s hs=>nomatch hs }

def WIm (m:Nat) (w:Wld):Prop:=RBd w.2.1∧w.1.length≤2000000∧(w.2.2.1.length≤2000000∧∀ n∈w.2.2.1,NIn n)∧(w.2.2.2.2.1.length≤m∧∀ x∈w.2.2.2.2.1,Ky x.1∧x.2.1.2.2.length≤2000000∧Ax x.2.1.2.2)∧(w.2.2.2.2.2.length≤m∧∀ s∈w.2.2.2.2.2,Ky s)
def WIm.win {m:Nat} {w:Wld} (h:WIm m w) (hm:m≤2000000):WIn w:=by
 obtain⟨h1,h2,⟨h3,h4⟩,⟨h5,h6⟩,h7,h8⟩:=h;exact⟨h1,h2,⟨h3,h4⟩,⟨by omega,λ x hx=>(h6 x hx).1⟩,by omega,h8⟩
def WI.wim {w:Wld} (h:WI w):WIm 200 w:=by
 have hi:=h.win;have h2:=h.dlen;have h1:=h.nlen;exact⟨hi.1,hi.2.1,hi.2.2.1,⟨h.wlen,λ x hx=>⟨Hb (h.wok x hx).1,by have:=(Ha.1 (h.wok x hx).2.1).2.1;omega,(h.wok x hx).2.2⟩⟩,h.splen,hi.2.2.2.2.2⟩

def Pca {c:Stp} (hc:Gw c=true) (t d:Int):F6 c t d=some (I9 c t d):=by
 have h2:0≤c.2.1∧c.2.1≤1000000:=by
  unfold Gw at hc;rw[Va,Va,Dg,Dg]at hc;exact hc.2.1
 unfold F6 I9;rw[w64 (n:=c.2.1+1) (by omega) (by omega)];simp only[Qn,Vt]
 cases decide (t≤c.1) with
 |true=>cases Gw (c.1,c.2.1+1,d)<;>rfl
 |false=>cases Gw (t,0,d)<;>rfl
def Sk {f:Fil} (h:f.2.2.length≤1000000000):E3 f=some f:=by
 unfold E3;rw[Hx _ (by omega)];rfl
def Pda {n:Nod} {s:ByteArray} {f:Fil} {sure:Bool} (hn:NG n) (hs:B8 s=true) (hf:Ds f=true):B5b n s f sure=Py n s f sure:=by
 unfold B5b;rw[hn.1,hs,hf];rfl
def Kra {n:Nod} (r:Int) (s:ByteArray) (f:Fil) (g:Int) (hn:NG n) (hs:B8 s=true) (hf:Ds f=true) (h0:0≤g) (h1:g≤9000000000000):
  Tot (λ k=>Ck k n r s f g) (λ x=>x=((Py n s f (r != 3)).1,s,f,bif r==1&&((Py n s f (r != 3)).2==0||(Py n s f (r != 3)).2==1) then g+1 else g)):=by
 unfold Ck;refine Cqb (G9a n s f (r != 3) (St hn) (Hb hs)) ?_;rw[Pda hn hs hf,w64 (n:=g+1) (by omega) (by omega)];generalize Py n s f (r != 3)=p;cases r==1
 ·exact Chb rfl (Cfb rfl)
 refine Cib rfl ?_;cases p.2==0
 case true=>exact Cib rfl (Cfb rfl)
 refine Chb rfl ?_
 cases p.2==1 with
 |true=>exact Cib rfl (Cfb rfl)
 |false=>exact Chb rfl (Cfb rfl)
def Tba (w:Wld) (s:ByteArray) (f:Fil) (rc:List Int) (hr:Gb w.2.1 w.1=true) (hn:NS w.2.2.1) (hs:B8 s=true) (hf:Ds f=true):
  Tot (λ k=>Aa k w s rc true s f 0) (λ r=>r=(wN w (wrN w s f rc).1,s,f,(wrN w s f rc).2.2)):=by
 have hsz:s.size≤1000000000:=by
  have:=Dg.1 (Va _ _ ▸ hs:_∧_).2;omega
 obtain⟨_,hR,_⟩:=Bl.1 hr;unfold Aa;refine Cqb (O9 w s hr hn.1 hsz) ?_;have hc:=λ x=>I0 (w:=w) (s:=s) (x:=x)
 have hcl:(contacts w s).length≤4000000000000:=by
  unfold contacts;refine Qu hn.1 ?_;have h5:=(Bl.1 hr).2.1;have p2:=(O6 hr s).2.1;have h12:=(D7.1 (Bl.1 hr).1).2.2.2;have hh:=O8 w.2.1 w.1 s;rw[Vi];omega
 have hrun:wrN w s f rc=run (wst w.2.1.1 rc s f (contacts w s)) (contacts w s).length (w.2.2.1,0,0):=rfl
 have inv:∀ n,n≤(contacts w s).length→NS (run (wst w.2.1.1 rc s f (contacts w s)) n (w.2.2.1,0,0)).1∧(run (wst w.2.1.1 rc s f (contacts w s)) n (w.2.2.1,0,0)).1.length=w.2.2.1.length∧(0≤(run (wst w.2.1.1 rc s f (contacts w s)) n (w.2.2.1,0,0)).2.1∧(run (wst w.2.1.1 rc s f (contacts w s)) n (w.2.2.1,0,0)).2.1≤n)∧0≤(run (wst w.2.1.1 rc s f (contacts w s)) n (w.2.2.1,0,0)).2.2∧(run (wst w.2.1.1 rc s f (contacts w s)) n (w.2.2.1,0,0)).2.2≤n:=by
  intro n hn';refine Hz (λ j (b:List Nod×Int×Int)=>NS b.1∧b.1.length=w.2.2.1.length∧(0≤b.2.1∧b.2.1≤(j:Int))∧0≤b.2.2∧b.2.2≤(j:Int)) ⟨hn,rfl,⟨Zza _,Zza _⟩,Zza _,Zza _⟩ (λ j b hj hb=>Adb hs hf hb ?_);have:=hc _ (A3 (d:=0) (show j<(contacts w s).length by omega));omega
 generalize hcs:contacts w s=cs at *;refine Cgb (Q:=λ r=>r=(wN w (wrN w s f rc).1,s,f,(wrN w s f rc).2.2)) ?_ (by rintro r rfl;exact Cfb rfl);refine Cob (L:=λ k i (a:List Nod×Int×Int)=>Ah k rc a.2.1 cs (cs.length:Int) i (wN w a.1) s f a.2.2) (Q:=λ r=>r=(wN w (wrN w s f rc).1,s,f,(wrN w s f rc).2.2)) cs.length (λ j a=>a=run (wst w.2.1.1 rc s f cs) j (w.2.2.1,0,0)) ?_ ?_ 0 (w.2.2.1,0,0) (Vu _) rfl
 ·rintro a rfl;simp (disch:=omega) only [Ah,dF];exact Cfb (by rw[hrun])
 ·rintro j a hj rfl next;obtain⟨i1,i2,i3,i4,i5⟩:=inv j (by omega);rw[I7]at next;generalize run (wst w.2.1.1 rc s f cs) j (w.2.2.1,0,0)=a at *;obtain⟨ns,o,g⟩:=a;dsimp only at i1 i2 i3 i4 i5;have hci:=hc _ (A3 (d:=0) hj);obtain⟨i,ei⟩:∃ i:Nat,cs.getD j 0=(i:Int):=⟨(cs.getD j 0).toNat,by omega⟩;rw[ei]at hci;unfold wst at next;rw[ei,Int.toNat_natCast]at next;dsimp only at next;have e0:ns.getD i ((0:Int),(([],[]),([],[])))=ns.getD i A8:=rfl;simp (disch:=omega) only [Ah,dT,wN,Int.toNat_natCast,w64,ei,e0,B9a,Option.bind_some]
  cases h0:rch rc j==0 with
  |true=>
   refine Chb (by rw[bne,h0];rfl) ?_;rw[h0]at next;refine next (ns,o,g) ?_
   cases decide (o<w.2.1.1)<;>rfl
  |false=>
   refine Cib (by rw[bne,h0];rfl) ?_;rw[h0]at next;refine Cmb (λ hR'=>?_) (λ hR'=>?_)
   ·rw[decide_eq_true hR']at next;refine Cqb (Kra (rch rc j) s f g (i1.get (by omega)) hs hf i4 (by omega)) ?_;exact next _ rfl
   ·rw[decide_eq_false hR']at next;exact next _ rfl
def Gha (w:Wld) (s:ByteArray) (f:Fil) (t:Int) (rc:List Int) (hr:Gb w.2.1 w.1=true) (hn:NS w.2.2.1) (hst:Gw w.2.2.2.1=true) (hs:Ky s) (hd:f.2.1=true→f.2.2=[]) (hw:w.2.2.2.2.1.length≤200):
  Tot (λ k=>B9 k w s f t rc) (λ r=>r=ask w s f t rc):=by
 unfold B9 ask;refine Cqb (Jv s hs) ?_;cases hs':B8 s
 ·exact Cib rfl (Cfb rfl)
 refine Chb rfl ?_;rw[Zb,cond_false]
 by_cases hl:(f.2.2.length:Int) > 200
 ·rw[decide_eq_true hl];exact Cib rfl (Cfb rfl)
 ·rw[decide_eq_false hl,cond_false];refine Chb rfl ?_;simp only[Lc,Pca hst,Vt];cases inR t 0 1000000000
  ·exact Cib rfl (Cfb rfl)
  refine Chb rfl ?_;rw[Zb,cond_false]
  by_cases h200:w.2.2.2.2.1.length=200
  ·rw[show ((w.2.2.2.2.1.length:Int)==200)=true by rw[beq_iff_eq];omega];exact Cjb (by omega) (Cfb rfl)
  ·rw[show ((w.2.2.2.2.1.length:Int)==200)=false by rw[beq_eq_false_iff_ne];omega,cond_false];refine Ckb (by omega) ?_;cases (I9 w.2.2.2.1 t 0).1==w.2.2.2.1.1&&((I9 w.2.2.2.1 t 0).2.1==w.2.2.2.1.2.1&&(I9 w.2.2.2.1 t 0).2.2==w.2.2.2.1.2.2)
   case true=>exact Cib rfl (Cfb rfl)
   rw[cond_false];have hfo:Ds (I9 w.2.2.2.1 t 0,f.2)=true:=Ha.2 ⟨(Baa hst t 0).1,by show f.2.2.length≤200;omega,hd⟩;refine Chb rfl (Cqb (Tba (w.1,w.2.1,w.2.2.1,I9 w.2.2.2.1 t 0,w.2.2.2.2) s (I9 w.2.2.2.1 t 0,f.2) rc hr hn hs' hfo) ?_);have h5:=(Bl.1 hr).2.1;dsimp only[wN];rw[Xma (by omega) (by omega),Sk (f:=(I9 w.2.2.2.1 t 0,f.2)) (show f.2.2.length≤_ by omega)];simp only[Option.bind_some];refine Cnb (by simp only[List.length_cons,List.length_nil];omega) ?_;unfold Pc
   cases decide ((wrN (w.1,w.2.1,w.2.2.1,I9 w.2.2.2.1 t 0,w.2.2.2.2) s (I9 w.2.2.2.1 t 0,f.2) rc).2.2≥quo w.2.1.1) with
   |true=>exact Cfb rfl
   |false=>exact Cfb rfl

end Go.Proofs.YtcpligincipmhaaGreat.Vf
