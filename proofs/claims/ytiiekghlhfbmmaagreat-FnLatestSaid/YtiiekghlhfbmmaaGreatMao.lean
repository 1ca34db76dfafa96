import Derived.Test.YtiiekghlhfbmmaaGreatMan
set_option linter.all false
namespace Go.Proofs.YtiiekghlhfbmmaaGreat.Vf
open Go
open List (length getD)
open Int (toNat)
open Go.IntKind (wrap)
open BitVec (ofInt)
def I2b:=@List.mem_range
def J0b:=@List.pairwise_singleton
def Jdb:=@List.drop_append_of_le_length
def Jeb:=@List.take_append_of_le_length

def mk0 (s:ByteArray):Nmd:=(s,[])
def X3 {ns:List ByteArray} (h:TS ns):H0 (ns.map mk0):=by
 unfold H0;rw[Hhb];exact h
def Agb {ns:List ByteArray} (h:TS ns) {t:ByteArray}:(t∈ns→gt (ns.map mk0) t=some [])∧(t∉ns→gt (ns.map mk0) t=none):=by
 refine⟨λ ht=>?_,λ ht=>O5.2 λ x hx e=>?_⟩
 ·exact Tva (X3 h) (x:=mk0 t) (Ys ht)
 ·obtain⟨s,hs,rfl⟩:=Zc.1 hx;exact ht (by rw[← e];exact hs)
def F8b {ns:List ByteArray} (h:TS ns) (s:ByteArray):ptl (s,[]) false (ns.map mk0)=(wt ns s).map mk0:=by
 have h1:=X3 h;rw[Ww _ h1];refine A5b (Ss (O4 h1) B9a) (X3 (Rz h)) λ t=>?_;have e:=I3a h1 (s:=s) (t:=t) (b:=[]);unfold wr at e;rw[e];have g1:=Agb h (t:=t);have g2:=Agb (Rz (s:=s) h) (t:=t)
 by_cases hst:s=t
 ·rw[if_pos hst,g2.1 (Nia.2 (.inl hst.symm))]
 ·rw[if_neg hst]
  by_cases ht:t∈ns
  ·rw[g1.1 ht,g2.1 (Nia.2 (.inr ht))]
  ·rw[g1.2 ht,g2.2 (λ c=>(Nia.1 c).elim (λ e=>hst e.symm) ht)]
def Usa (a b:List Nmd) (ha:a.length≤2000000) (hb:b.length≤2000000):Tot (λ k=>Ct k a b) (λ r=>r=nms (a,b)):=by
 unfold Ct
 have put:∀ {ns:List ByteArray} (x:Nmd),TS ns→ns.length≤5000000→Tot (λ k=>Fw k (ns.map mk0) x.1 []) (λ r=>r=(wt ns x.1).map mk0):=λ x ht hl=>(F3a _ x.1 [] (by rw[Wh];omega) (by simp)).mono λ r hr=>by rw[hr,F8b ht]
 refine H5b (Q:=λ r=>r=(b,(Re a []).map mk0)) ?_ ?_
 ·refine Hdb (L:=λ k i s=>G7 k a b s i) (Q:=λ r=>r=(b,(Re a []).map mk0)) a.length (λ j s=>∃ ns,s=ns.map mk0∧TS ns∧Re (a.drop j) ns=Re a []∧ns.length≤j) ?_ ?_ 0 [] (Vq _) ⟨[],rfl,List.Pairwise.nil,rfl,Vx _⟩
  ·rintro s ⟨ns,rfl,_,h,_⟩;rw[Wd]at h;simp (disch:=omega) only [G7,dF];exact H4b (by rw[← h];rfl)
  ·rintro j s hj ⟨ns,rfl,ht,h,hl⟩ next;rw[Ah (d:=Ea) hj]at h;simp (disch:=omega) only [G7,dT,Vc,w64];refine Hfb (put (a.getD j Ea) ht (by omega)) ?_;have:=Hua (l:=ns) (s:=(a.getD j Ea).1);exact next _ ⟨_,rfl,Rz ht,h,by omega⟩
 ·rintro r rfl
  have hla:(Re a []).length≤2000000:=by have:=V0 a [];rw[Vj]at this;omega
  have e:Re b (Re a [])=nms (a,b):=by unfold nms Re;rw[I6b]
  refine H5b (Q:=λ r=>r=(nms (a,b)).map mk0) ?_ ?_
  ·refine Hdb (L:=λ k i s=>G6 k b s i) (Q:=λ r=>r=(nms (a,b)).map mk0) b.length (λ j s=>∃ ns,s=ns.map mk0∧TS ns∧Re (b.drop j) ns=nms (a,b)∧ns.length≤2000000+j) ?_ ?_ 0 _ (Vq _) ⟨_,rfl,F9a _ _ List.Pairwise.nil,e,by omega⟩
   ·rintro s ⟨ns,rfl,_,h,_⟩;rw[Wd]at h;simp (disch:=omega) only [G6,dF];exact H4b (by rw[← h];rfl)
   ·rintro j s hj ⟨ns,rfl,ht,h,hl⟩ next;rw[Ah (d:=Ea) hj]at h;simp (disch:=omega) only [G6,dT,Vc,w64];refine Hfb (put (b.getD j Ea) ht (by omega)) ?_;have:=Hua (l:=ns) (s:=(b.getD j Ea).1);exact next _ ⟨_,rfl,Rz ht,h,by omega⟩
  ·rintro r rfl
   have hln:(nms (a,b)).length≤4000000:=by rw[← e];have:=V0 b (Re a []);omega
   refine H5b (Q:=λ r=>r=nms (a,b)) ?_ (by rintro r rfl;exact H4b rfl);refine Hdb (L:=λ k i s=>Ez k ((nms (a,b)).map mk0) s i) (Q:=λ r=>r=nms (a,b)) (nms (a,b)).length (λ j s=>s=(nms (a,b)).take j) ?_ ?_ 0 [] (Vq _) rfl
   ·rintro s rfl;simp (disch:=omega) only [Ez,Wh,dF,Yn];exact H4b rfl
   ·rintro j s hj rfl next;simp (disch:=omega) only [Ez,Wh,dT,Vc,w64];refine Hcb (by simp only[Vt,Vd,Vj];omega) (next _ ?_);rw[We hj,Vb,Hob,Vk hj];rfl
def Uta (d:Dsk) (kp:List Bool) (hd:DG d) (hk:kp.length≤4000000000000):Tot (λ k=>Dk k d kp) (λ r=>r=Tv d kp):=by
 have hin:=Nk hd.1;have g1:=(Ae.1 (Df.1 hd.1).1).2.2;have g2:=(Ae.1 (Df.1 hd.1).2).2.2;unfold Dk;refine Hfb (Qt d hin.1.1 hin.1.2) ?_;rw[hd.1];refine H6b rfl (Hfb (Usa d.1 d.2 (by omega) (by omega)) ?_)
 have hn:(nms d).length≤120:=by
  have:=V0 (d.1++d.2) [];rw[Vj,Ve]at this;exact Zt this (by omega)
 refine H5b (Q:=λ r=>r=(U0 kp d.1 d.2 (nms d) 0,d,([],[]))) ?_ ?_
 ·refine Hdb (L:=λ k i s=>Aw k kp (nms d) s i d ([],[])) (Q:=λ r=>r=(U0 kp d.1 d.2 (nms d) 0,d,([],[]))) (nms d).length (λ j s=>s++U0 kp d.1 d.2 ((nms d).drop j) j=U0 kp d.1 d.2 (nms d) 0∧s.length≤j) ?_ ?_ 0 [] (Vq _) ⟨rfl,Vx _⟩
  ·rintro s ⟨h,_⟩;rw[Wd,Cpb,Wp]at h;simp (disch:=omega) only [Aw,dF];exact H4b (by rw[h])
  ·rintro j s hj ⟨h,hs⟩ next;rw[Ah (d:=Nw) hj]at h;rw[Yea,← Vo]at h;simp (disch:=omega) only [Aw,dT,Vc,w64];have hl:=Cob (pk (bif kp.getD j false then d.1 else d.2) ((nms d).getD j Nw));have nx:=next (s++pk1 (pk (bif kp.getD j false then d.1 else d.2) ((nms d).getD j Nw))) ⟨h,by rw[Ve];omega⟩;have e0:(nms d).getD j (⟨#[]⟩:ByteArray)=(nms d).getD j Nw:=rfl;rw[e0];refine Hbb (λ hc=>?_) (λ hc=>?_)
   ·refine H8b (by omega) (Hab (λ hk=>?_) (λ hk=>?_))
    ·rw[hk]at nx;exact Faa (L:=λ k acc=>Aw k kp (nms d) acc ((j:Int)+1) d ([],[])) d.1 _ s (by omega) (by omega) nx
    ·rw[hk]at nx;exact Faa (L:=λ k acc=>Aw k kp (nms d) acc ((j:Int)+1) d ([],[])) d.2 _ s (by omega) (by omega) nx
   ·have hk:kp.getD j false=false:=by rw[Vb,Zb (by omega)];rfl
    rw[hk]at nx;exact Faa (L:=λ k acc=>Aw k kp (nms d) acc ((j:Int)+1) d ([],[])) d.2 _ s (by omega) (by omega) nx
 ·rintro r rfl;have hp:=Csb kp d.1 d.2 (nms d) 0;unfold Tv;refine Hbb (λ h=>?_) (λ h=>?_)
  ·dsimp only at h;rw[decide_eq_true (show (U0 kp d.1 d.2 (nms d) 0).length > 60 by omega)];refine Hfb (Mg d hin.1.1) ?_;exact H4b rfl
  ·dsimp only at h;have hc:decide ((U0 kp d.1 d.2 (nms d) 0).length > 60)=false:=decide_eq_false (by omega);have hg:=Uqa (kp:=kp) hd;unfold Tv at hg;rw[hc]at hg ⊢;rw[cond_false]at hg;have hf:=(Nk hg.1).1.1.1;refine Hfb (Pl _ hf) ?_;refine Hfb (Pl _ hf) ?_;exact H4b rfl
def clS (o:Dsk×Int) (x:Nmd):Dsk×Int:=match Oe x.2 with
 |some _=>o
 |none=>((cut o.1.1 x.1,cut o.1.2 x.1),o.2+1)
def Mh (d:Dsk):Dsk×Int:=d.1.foldl clS (d,0)
def Q4a {l:List Nmd} {s:ByteArray} (h:gt l s=none):cut l s=l:=by
 refine List.filter_eq_self.2 λ x hx=>?_
 cases ht:teq x.1 s with
 |false=>rfl
 |true=>exact absurd (Km.1 ht) (O5.1 h x hx)
def F9b {d:Dsk} {s:ByteArray} (h:DG d):DG (cut d.1 s,cut d.2 s):=⟨Df.2 ⟨Xh (Df.1 h.1).1,Xh (Df.1 h.1).2⟩,h.2.1.cut s,h.2.2.cut s⟩
def Yfa {o:Dsk×Int} {x:Nmd} (h:DG o.1):DG (clS o x).1:=by
 unfold clS
 cases Oe x.2 with
 |some _=>exact h
 |none=>exact F9b h
def O3a:∀ (l:List Nmd) (o:Dsk×Int),DG o.1→DG (l.foldl clS o).1
 |[],_,h=>h
 |_::l,_,h=>O3a l _ (Yfa h)
def Yga {d:Dsk} (h:DG d):DG (Mh d).1:=O3a _ _ h
def Fba (l:List Nmd):List ByteArray:=(l.filter λ x=>(Oe x.2).isNone).map Prod.fst
def Tw:∀ (l:List Nmd) (o:Dsk×Int),DG o.1→((l.foldl clS o).2=o.2+((Fba l).length:Int))∧∀ t,(t∈Fba l→gt (l.foldl clS o).1.1 t=none∧gt (l.foldl clS o).1.2 t=none)∧(t∉Fba l→gt (l.foldl clS o).1.1 t=gt o.1.1 t∧gt (l.foldl clS o).1.2 t=gt o.1.2 t)
 |[],o,h=>⟨by simp[Fba],λ t=>⟨λ c=>by simp[Fba]at c,λ _=>⟨rfl,rfl⟩⟩⟩
 |x::l,o,h=>by
  obtain⟨h1,h2⟩:=Tw l (clS o x) (Yfa h);rw[Ym]
  cases hx:Oe x.2 with
  |some f=>
   have e:Fba (x::l)=Fba l:=by unfold Fba;rw[Zy,hx];rfl
   have ec:clS o x=o:=by unfold clS;rw[hx]
   rw[e];rw[ec]at h1 h2 ⊢;exact⟨h1,h2⟩
  |none=>
   have e:Fba (x::l)=x.1::Fba l:=by unfold Fba;rw[Zy,hx];rfl
   have ec:clS o x=((cut o.1.1 x.1,cut o.1.2 x.1),o.2+1):=by unfold clS;rw[hx]
   rw[e];rw[ec]at h1 h2 ⊢;refine⟨by rw[h1,Vd];omega,λ t=>⟨λ ht=>?_,λ ht=>?_⟩⟩
   ·by_cases hb:t∈Fba l
    ·exact(h2 t).1 hb
    ·obtain⟨a1,a2⟩:=(h2 t).2 hb
     have:x.1=t:=by
      rcases Vl.1 ht with e|e
      ·exact e.symm
      ·exact absurd e hb
     rw[a1,a2,T5 (Mq h.1),T5 (R3 h.1),if_pos this,if_pos this];exact⟨rfl,rfl⟩
   ·obtain⟨a1,a2⟩:=(h2 t).2 (λ c=>ht (Vi _ c));have:x.1≠t:=λ e=>ht (by rw[← e];exact Yv);rw[a1,a2,T5 (Mq h.1),T5 (R3 h.1),if_neg this,if_neg this];exact⟨rfl,rfl⟩
def O4a {d:Dsk} (hd:Al d=true) {t:ByteArray}:t∈Fba d.1↔∃ b,gt d.1 t=some b∧Oe b=none:=by
 unfold Fba;rw[Zc];constructor
 ·rintro⟨x,hx,rfl⟩;obtain⟨h1,h2⟩:=Izb.1 hx;exact⟨x.2,Tva (Mq hd) h1,by simpa using h2⟩
 ·rintro⟨b,h1,h2⟩;exact⟨(t,b),Izb.2 ⟨P9 h1,by simp[h2]⟩,rfl⟩
def Uua (d:Dsk) (hd:DG d):Tot (λ k=>Ja k d) (λ r=>r=Mh d):=by
 have hin:=Nk hd.1;have hl:=(Ae.1 (Df.1 hd.1).1).2.2;unfold Ja;refine Hfb (K8 d hin.1.1) ?_;refine Hfb (Sr d hin.1.1 hin.1.2) ?_;rw[hd.1];refine H6b rfl (H5b (Q:=λ r=>r=((Mh d).2,([],[]),(Mh d).1)) ?_ (by rintro r rfl;exact H4b rfl));refine Hdb (L:=λ k i (s:Dsk×Int)=>I7 k s.2 d.1 (d.1.length:Int) i ([],[]) s.1) (Q:=λ r=>r=((Mh d).2,([],[]),(Mh d).1)) d.1.length (λ j s=>(d.1.drop j).foldl clS s=Mh d∧DG s.1∧0≤s.2∧s.2≤j) ?_ ?_ 0 (d,0) (Vq _) ⟨rfl,hd,Hmb 0,by simp⟩
 ·rintro s ⟨h,_⟩;rw[Wd]at h;simp (disch:=omega) only [I7,dF];exact H4b (by rw[← h];rfl)
 ·rintro j s hj ⟨h,hg,s0,s1⟩ next;rw[Ah (d:=Ea) hj,Ym]at h;have hsi:=Nk hg.1;have hx:=A4 (d:=Ea) hj;simp (disch:=omega) only [I7,dT,Vc,w64];have e0:d.1.getD j ((⟨#[]⟩:ByteArray),([]:List Int))=d.1.getD j Ea:=rfl;rw[e0];refine Hfb (Qz _ (hd.2.1 _ hx) (hin.1.1.1.2 _ hx)) ?_;have hcg:=Yfa (x:=d.1.getD j Ea) hg;unfold clS at h hcg;unfold Tq
  cases hf:Oe (d.1.getD j Ea).2 with
  |some f=>
   rw[hf]at h;exact H6b rfl (next _ ⟨h,hg,s0,by omega⟩)
  |none=>
   rw[hf]at h hcg;refine H7b rfl (Hfb (Uu s.1.1 _ hsi.1.1.1.1) ?_);refine Hfb (Uu s.1.2 _ hsi.1.1.2.1) ?_;rw[Qv (Mq hg.1),Qv (R3 hg.1)];exact next ((cut s.1.1 (d.1.getD j Ea).1,cut s.1.2 (d.1.getD j Ea).1),s.2+1) ⟨h,hcg,by dsimp only;omega,by dsimp only;omega⟩
def Uva (d:Dsk) (hd:DG d):Tot (λ k=>J8 k d) (λ r=>r=Mh d):=by
 have hin:=Nk hd.1;have hl:=(Ae.1 (Df.1 hd.1).1).2.2;have hnk:=(Ae.1 (Df.1 hd.1).1).2.1;unfold J8;refine Hfb (Mg d hin.1.1) ?_;refine H5b (Q:=λ r=>r=((Mh d).2,([],[]),(Mh d).1)) ?_ (by rintro r rfl;exact H4b rfl);refine Hdb (L:=λ k i (s:Dsk×Int)=>I3 k s.2 i d ([],[]) s.1) (Q:=λ r=>r=((Mh d).2,([],[]),(Mh d).1)) d.1.length (λ j s=>(d.1.drop j).foldl clS s=Mh d∧DG s.1∧0≤s.2∧s.2≤j) ?_ ?_ 0 (d,0) (Vq _) ⟨rfl,hd,Hmb 0,by simp⟩
 ·rintro s ⟨h,_⟩;rw[Wd]at h;simp (disch:=omega) only [I3,dF];exact H4b (by rw[← h];rfl)
 ·rintro j s hj ⟨h,hg,s0,s1⟩ next;rw[Ah (d:=Ea) hj,Ym]at h;have hsi:=Nk hg.1;have hx:=A4 (d:=Ea) hj;simp (disch:=omega) only [I3,dT,Vc,w64];have e0:d.1.getD j ((⟨#[]⟩:ByteArray),([]:List Int))=d.1.getD j Ea:=rfl;rw[e0];refine Hfb (Qt d hin.1.1 hin.1.2) ?_;refine H7b hd.1 (Hfb (Uy hin.1.1.1 hd.2.1 _) ?_);have hnm:=(Qu.1 (hnk _ hx)).1;have hcg:=Yfa (x:=d.1.getD j Ea) hg;unfold clS at h hcg;unfold lkD;rw[Tva (Mq hd.1) hx];simp only
  cases hf:Oe (d.1.getD j Ea).2 with
  |some f=>
   rw[hf]at h;exact H6b rfl (next _ ⟨h,hg,s0,by omega⟩)
  |none=>
   rw[hf]at h hcg;refine H7b rfl (Hfb (Tr hg.1 (Jc hnm)) ?_)
   have er:(rmD s.1 (d.1.getD j Ea).1).1=(cut s.1.1 (d.1.getD j Ea).1,s.1.2):=by
    unfold rmD
    cases hg1:gt s.1.1 (d.1.getD j Ea).1 with
    |none=>rw[Q4a hg1];rfl
    |some b=>rfl
   have hrg:=U0a (s:=(d.1.getD j Ea).1) hg;rw[er]at hrg ⊢;refine Hfb (Ux hrg.1 hnm) ?_
   have es:(syD (cut s.1.1 (d.1.getD j Ea).1,s.1.2) (d.1.getD j Ea).1).1=(cut s.1.1 (d.1.getD j Ea).1,cut s.1.2 (d.1.getD j Ea).1):=by
    have e2:sy (cut s.1.1 (d.1.getD j Ea).1,s.1.2) (d.1.getD j Ea).1=cut s.1.2 (d.1.getD j Ea).1:=by
     unfold sy;rw[T5 (Mq hg.1),if_pos rfl]
    unfold syD;rw[e2,decide_eq_true (Ae.1 (Df.1 hcg.1).2).2.2];rfl
   rw[es];exact next ((cut s.1.1 (d.1.getD j Ea).1,cut s.1.2 (d.1.getD j Ea).1),s.2+1) ⟨h,hcg,by dsimp only;omega,by dsimp only;omega⟩

def hI (d:Dsk) (out:List ByteArray) (x:Nmd):List ByteArray:=bif (lkD d x.1).2==0 then wt out x.1 else out
def Cfa (d:Dsk):List ByteArray:=d.1.foldl (hI d) []
def Ahb (d:Dsk):∀ (l:List Nmd) (out:List ByteArray),(l.foldl (hI d) out).length≤out.length+l.length
 |[],out=>by simp
 |x::l,out=>by
  have h1:=Ahb d l (hI d out x)
  have h2:(hI d out x).length≤out.length+1:=by
   unfold hI
   cases (lkD d x.1).2==0 with
   |false=>exact Hqb _
   |true=>exact Hua
  rw[Ym,Vd];omega
def Yha (d:Dsk) (hd:DIn d) (hb:DB d):Tot (λ k=>K6 k d) (λ r=>r=Cfa d):=by
 have hl:=hd.2.1;unfold K6;refine H5b (Q:=λ r=>r=Cfa d) ?_ (by rintro r rfl;exact H4b rfl);refine Hdb (L:=λ k i s=>Je k s d.1 (d.1.length:Int) i d) (Q:=λ r=>r=Cfa d) d.1.length (λ j s=>(d.1.drop j).foldl (hI d) s=Cfa d∧s.length≤j) ?_ ?_ 0 [] (Vq _) ⟨rfl,Vx _⟩
 ·rintro s ⟨h,_⟩;rw[Wd]at h;simp (disch:=omega) only [Je,dF];exact H4b h
 ·rintro j s hj ⟨h,hs⟩ next;rw[Ah (d:=Ea) hj,Ym]at h;simp (disch:=omega) only [Je,dT,Vc,w64];have e0:d.1.getD j ((⟨#[]⟩:ByteArray),([]:List Int))=d.1.getD j Ea:=rfl;rw[e0];refine Hfb (Z3 hd.1.1.1 hb.1 _) ?_;unfold hI at h
  cases hc:(lkD d (d.1.getD j Ea).1).2==0 with
  |false=>
   rw[hc]at h;exact H6b rfl (next _ ⟨h,by omega⟩)
  |true=>
   rw[hc]at h;refine H7b rfl (Hfb (F4a s _ (by omega)) ?_);have:=Hua (l:=s) (s:=(d.1.getD j Ea).1);exact next _ ⟨h,by omega⟩
def Fqa (l:List ByteArray) (s:ByteArray):Bool:=l.any λ y=>teq y s
def O5a {l:List ByteArray} {s:ByteArray}:Fqa l s=true↔s∈l:=by
 unfold Fqa;rw[Ikb];constructor
 ·rintro⟨x,hx,e⟩;rw[← Km.1 e];exact hx
 ·intro h;exact⟨s,h,Km.2 rfl⟩
def O6a (l:List ByteArray) (s:ByteArray) (hl:l.length≤1000000000):Tot (λ k=>Ib k l s) (λ r=>r=Fqa l s):=by
 unfold Ib
 refine H5b (Q:=λ r=>r=bif Fqa l s then .inl true else .inr ()) ?_ (by rintro r rfl;cases Fqa l s<;>exact H4b rfl)
 refine Hdb (L:=λ k i (_:Unit)=>Hn k l s i) (Q:=λ r=>r=bif Fqa l s then .inl true else .inr ()) l.length (λ j _=>Fqa (l.drop j) s=Fqa l s) ?_ ?_ 0 () (Vq _) rfl
 ·intro _ h;rw[Wd]at h;simp (disch:=omega) only [Hn,dF,← h];exact H4b rfl
 ·intro j _ hj h next;rw[Ah (d:=Nw) hj]at h;unfold Fqa at h;rw[Irb]at h;simp (disch:=omega) only [Hn,dT,Vc,w64];refine Hab (λ hc=>H4b ?_) (λ hc=>next () ?_)
  ·rw[show teq (l.getD j Nw) s=true from hc,K9b]at h;unfold Fqa;rw[← h];rfl
  ·rw[show teq (l.getD j Nw) s=false from hc,Hzb]at h;exact h
def J6a (l:List ByteArray):Nat→ByteArray→List ByteArray×Nat
 |0,_=>(l,0)
 |k+1,s=>bif tlt s (l.getD k Nw) then J6a (l.set (k+1) (l.getD k Nw)) k s else (l,k+1)
def Aib (l:List ByteArray) (s:ByteArray):List ByteArray:=(J6a (l++[s]) l.length s).1.set (J6a (l++[s]) l.length s).2 s
def Bra:∀ (k:Nat) (l:List ByteArray) (s:ByteArray),(J6a l k s).1.length=l.length∧(J6a l k s).2≤k∧∀ y∈(J6a l k s).1,y∈l∨y=Nw
 |0,_,_=>⟨rfl,Vx _,λ _ h => .inl h⟩
 |k+1,l,s=>by
  unfold J6a;cases tlt s (l.getD k Nw)
  ·exact⟨rfl,Vx _,λ _ h => .inl h⟩
  obtain⟨h1,h2,h3⟩:=Bra k (l.set (k+1) (l.getD k Nw)) s;rw[cond_true];refine⟨by rw[h1,Vw],by omega,λ y hy=>?_⟩;rcases h3 y hy with h|h
  ·rcases Yc h with h|h
   ·exact .inl h
   ·by_cases hk:k<l.length
    ·rw[h];exact .inl (A4 hk)
    ·rw[h,Vb,Zb (by omega)];exact .inr rfl
  ·exact .inr h
def Yia (l:List ByteArray) (s:ByteArray):(Aib l s).length=l.length+1:=by
 unfold Aib;rw[Vw,(Bra _ _ _).1,Ve];rfl
def Yja {l:List ByteArray} {s y:ByteArray} (h:y∈Aib l s):y∈l∨y=s∨y=Nw:=by
 unfold Aib at h;rcases Yc h with h|h
 ·rcases (Bra _ _ _).2.2 y h with h|h
  ·rcases Vp.1 h with h|h
   ·exact .inl h
   ·exact .inr (.inl (Vu.1 h))
  ·exact .inr (.inr h)
 ·exact .inr (.inl h)
def hS1 (l:List Nmd) (j:Nat) (out:List ByteArray) (x:Nmd):List ByteArray:=bif (Oe x.2).isSome&&(!(Fqa out x.1)&&(Hka l x.1==(j:Int))) then Aib out x.1 else out
def hS (l:List Nmd):List Nmd→Nat→List ByteArray→List ByteArray
 |[],_,out=>out
 |x::r,j,out=>hS l r (j+1) (hS1 l j out x)
def Q5a (d:Dsk):List ByteArray:=hS d.1 d.1 0 []
def Uwa (l:List Nmd) (j:Nat) (out:List ByteArray) (x:Nmd):(hS1 l j out x).length≤out.length+1:=by
 unfold hS1
 cases (Oe x.2).isSome&&(!(Fqa out x.1)&&(Hka l x.1==(j:Int))) with
 |false=>exact Hqb _
 |true=>rw[cond_true,Yia];exact Vx _
def Fab (l:List Nmd) (hl:P7 l):∀ (r:List Nmd) (j:Nat) (out:List ByteArray),(∀ x∈r,x∈l)→(∀ y∈out,Lc y)→(hS l r j out).length≤out.length+r.length∧∀ y∈hS l r j out,Lc y
 |[],_,out,_,h=>⟨by simp[hS],h⟩
 |x::r,j,out,hm,h=>by
  have h2:=Uwa l j out x
  obtain⟨a1,a2⟩:=Fab l hl r (j+1) (hS1 l j out x) (λ y hy=>hm y (Vi _ hy)) (λ y hy=>by
   unfold hS1 at hy;cases hc:(Oe x.2).isSome&&(!(Fqa out x.1)&&(Hka l x.1==(j:Int)))
   ·rw[hc]at hy;exact h y hy
   rw[hc]at hy;rcases Yja hy with hy|rfl|rfl
   ·exact h y hy
   ·exact hl x (hm x Yv)
   ·unfold Lc;decide)
  refine⟨?_,a2⟩;show (hS l r (j+1) (hS1 l j out x)).length≤_;rw[Vd];omega
def L9a (a b:List Nmd) (j:Nat) (hj:j<a.length) (ha:a.length≤5000000):∀ (k:Nat) (x:List ByteArray),k<x.length→x.length≤5000000→
  Tot (λ n=>Jz n x (j:Int) (k:Int) (a,b)) (λ r=>r=((J6a x k (a.getD j Ea).1).1,(j:Int),((J6a x k (a.getD j Ea).1).2:Int),(a,b))):=by
 intro k
 induction k with
 |zero=>
  intro x hk hx;refine Tot.succ ?_;simp (disch:=omega) only [Jz,dF];exact H4b rfl
 |succ k ih=>
  intro x hk hx;refine Tot.succ ?_
  have e1:((k+1:Nat):Int)-1=(k:Int):=by omega
  simp (disch:=omega) only [Jz,dT,w64,e1,Vc];have e0:a.getD j ((⟨#[]⟩:ByteArray),([]:List Int))=a.getD j Ea:=rfl;rw[e0];unfold J6a;refine Hab (λ h=>?_) (λ h=>?_)
  ·rw[Hba]at h;rw[show tlt (a.getD j Ea).1 (x.getD k Nw)=true from h,cond_true];exact ih _ (by rw[Vw];omega) (by rw[Vw];omega)
  ·rw[Hba]at h;rw[show tlt (a.getD j Ea).1 (x.getD k Nw)=false from h,cond_false];exact H4b rfl
def Yka (d:Dsk) (hd:DIn d) (hb:DB d):Tot (λ k=>H2 k d) (λ r=>r=Q5a d):=by
 have hl:=hd.2.1;unfold H2;refine H5b (Q:=λ r=>r=Q5a d) ?_ (by rintro r rfl;exact H4b rfl);refine Hdb (L:=λ k i s=>Ha k s i d) (Q:=λ r=>r=Q5a d) d.1.length (λ j s=>hS d.1 (d.1.drop j) j s=Q5a d∧s.length≤j) ?_ ?_ 0 [] (Vq _) ⟨rfl,Vx _⟩
 ·rintro s ⟨h,_⟩;rw[Wd]at h;simp (disch:=omega) only [Ha,dF];exact H4b h
 ·rintro j s hj ⟨h,hs⟩ next;rw[Ah (d:=Ea) hj]at h;have hlen:=Uwa d.1 j s (d.1.getD j Ea);have nx:=next _ ⟨show hS d.1 (d.1.drop (j+1)) (j+1) (hS1 d.1 j s (d.1.getD j Ea))=Q5a d from h,by omega⟩;have hx:=A4 (d:=Ea) hj;simp (disch:=omega) only [Ha,dT,Vc,w64];have e0:d.1.getD j ((⟨#[]⟩:ByteArray),([]:List Int))=d.1.getD j Ea:=rfl;rw[e0];unfold hS1 at nx;refine Hfb (Bfa _ (hb.1 _ hx) (hd.1.1.1.2 _ hx)) ?_;unfold Tq
  cases hf:Oe (d.1.getD j Ea).2 with
  |none=>
   rw[hf]at nx;exact H7b rfl nx
  |some f=>
   rw[hf]at nx;refine H6b rfl (Hfb (O6a s _ (by omega)) ?_)
   cases hc:Fqa s (d.1.getD j Ea).1 with
   |true=>
    rw[hc]at nx;exact H7b rfl nx
   |false=>
    rw[hc]at nx;refine H6b rfl (Hfb (Dia d.1 _ (by omega)) ?_)
    cases he:Hka d.1 (d.1.getD j Ea).1==(j:Int) with
    |false=>
     rw[he]at nx;exact H7b (by unfold bne;rw[he];rfl) nx
    |true=>
     rw[he]at nx;refine H6b (by unfold bne;rw[he];rfl) (Hcb (by simp only[Vd,Vj];omega) ?_);have hq:=L9a d.1 d.2 j hj (by omega) s.length (s++[(d.1.getD j Ea).1]) (by simp) (by simp only[Ve,Vd,Vj];omega);refine H5b hq ?_;rintro r rfl;obtain⟨w1,w2,_⟩:=Bra s.length (s++[(d.1.getD j Ea).1]) (d.1.getD j Ea).1;rw[Ve]at w1;simp only[Vd,Vj]at w1;simp (disch:=omega) only [dT,Vc,w64];exact nx

def Dob (n:Nod):Nod×Int:=((n.1,(Mh n.2.1).1,n.2.2),(Mh n.2.1).2)
def Fca {n:Nod} (hn:NG n) {d:Dsk} (hd:DG d):NG (n.1,d,n.2.2):=by
 obtain⟨h1,h2,h3,h4,h5⟩:=Bw.1 hn.1;exact⟨Bw.2 ⟨h1,h2,hd.1,h4,h5⟩,hd.2⟩
def Uxa {n:Nod} (hn:NG n):NG (Dob n).1:=Fca hn (Yga hn.g)
def Uya (n:Nod) (hn:NG n):Tot (λ k=>Hw k n) (λ r=>r=Dob n):=by
 unfold Hw;refine Hfb (Pm n (Sy hn)) ?_;refine Hfb (Uua n.2.1 hn.g) ?_;exact H4b rfl

def Uza (v:BitVec 32) (b:Int):BitVec 32:=(v ^^^ ofInt 32 b)*16777619#32
def Cga (x:ByteArray):Nat→BitVec 32
 |0=>2166136261#32
 |n+1=>Uza (Cga x n) (bt x (n:Int))
def Q6a (x:ByteArray):Nat:=(Cga x x.size).toNat
def H2b (v:BitVec 32):wrap .u32 ((v.toNat:Int)*16777619)=((v*16777619#32).toNat:Int):=by
 rw[IntKind.wrap_u32,BitVec.toNat_mul];show (v.toNat:Int)*16777619 % 4294967296=((v.toNat*16777619 % 4294967296:Nat):Int);omega
def H3b (v:BitVec 32):wrap .i64 ((ofInt (IntKind.bits .i64) ((v.toNat:Int)*16777619) &&& ofInt (IntKind.bits .i64) 4294967295).toNat)=((v*16777619#32).toNat:Int):=by
 have h:=v.isLt;rw[Ilb,show (v.toNat:Int)*16777619=((v.toNat*16777619:Nat):Int) by omega,Ry _ (by omega),show (ofInt (IntKind.bits .i64) 4294967295).toNat=2 ^ 32-1 from by decide,Jbb,BitVec.toNat_mul];show wrap .i64 ((v.toNat*16777619 % 4294967296:Nat):Int)=((v.toNat*16777619 % 4294967296:Nat):Int);exact w64 (by omega) (by omega)
def Yla (x:ByteArray) (hx:x.size≤1000000000):Tot (λ k=>Mc k x) (λ r=>r=(Q6a x:Int)):=by
 unfold Mc
 refine H5b (Q:=λ r=>r=(Q6a x:Int)) ?_ (by
  rintro r rfl;have:=(Cga x x.size).isLt
  exact H4b (w64 (n:=(Q6a x:Int)) (by omega) (by show ((Cga x x.size).toNat:Int)≤_;omega)))
 refine Hdb (L:=λ k i (s:Int)=>K7 k x s i) (Q:=λ r=>r=(Q6a x:Int)) x.size (λ j s=>s=((Cga x j).toNat:Int)) ?_ ?_ 0 _ (Vq _) rfl
 ·rintro s rfl;simp (disch:=omega) only [K7,dF];exact H4b rfl
 ·rintro j s hj rfl next;have hb:=B0a x (j:Int);have e1:wrap .u32 (bt x (j:Int))=bt x (j:Int):=K0b _ ⟨by omega,by omega⟩;simp (disch:=omega) only [K7,dT,w64,e1,Gdb (Cga x j) _ (bt x (j:Int)) rfl,H2b];exact next _ rfl
def Yma (x:ByteArray) (hx:x.size≤1000000000):Tot (λ k=>Mb k x) (λ r=>r=(Q6a x:Int)):=by
 unfold Mb;refine H5b (Q:=λ r=>r=(Q6a x:Int)) ?_ (by rintro r rfl;exact H4b rfl);refine Hdb (L:=λ k i (s:Int)=>Js k x s i) (Q:=λ r=>r=(Q6a x:Int)) x.size (λ j s=>s=((Cga x j).toNat:Int)) ?_ ?_ 0 _ (Vq _) rfl
 ·rintro s rfl;simp (disch:=omega) only [Js,dF];exact H4b rfl
 ·rintro j s hj rfl next;have hb:=B0a x (j:Int)
  have hx:wrap .i64 ((ofInt (IntKind.bits .i64) ((Cga x j).toNat:Int) ^^^ ofInt (IntKind.bits .i64) (bt x (j:Int))).toNat)=((Cga x j ^^^ ofInt 32 (bt x (j:Int))).toNat:Int):=by
   have:=Ftb (Cga x j) (ofInt 32 (bt x (j:Int)));rwa [← Nka hb]at this
  simp (disch:=omega) only [Js,dT,w64,hx,H3b];exact next _ rfl
def X4 (r:Rng) (x:ByteArray):List Int:=r.2.getD (Q6a x % r.2.length) []
def Fbb (a b:Nat):Int.tmod (a:Int) (b:Int)=((a % b:Nat):Int):=by
 rw[Zz (by omega)];exact(Int.natCast_emod _ _).symm
def O7a (r:Rng) (x:ByteArray) (hr:RBd r) (hx:x.size≤1000000000):Tot (λ k=>Ec k r x) (λ y=>y=X4 r x):=by
 have hrl:=hr.1;unfold Ec
 by_cases h0:r.2.length=0
 ·refine H7b (by rw[h0];rfl) (H4b ?_);unfold X4;rw[Wq h0];rfl
 ·have hm:=Kfb (Q6a x) (show 0<r.2.length by omega);refine H6b (by rw[beq_eq_false_iff_ne];omega) (H5b (Q:=λ y=>y=((Q6a x % r.2.length:Nat):Int)) ?_ ?_)
  ·unfold Lq;refine H9b (by omega) (Hfb (Yla x hx) ?_);exact H9b (by omega) (H4b (Fbb _ _))
  ·rintro y rfl;simp (disch:=omega) only [dT,Vc];have hp:=hr.2 _ (A4 (d:=[]) hm);rw[Xj _ (by omega)];exact H4b rfl
def Z7 (r:Rng) (x:ByteArray) (hr:RBd r) (hx:x.size≤1000000000):Tot (λ k=>Bg k r x) (λ y=>y=X4 r x):=by
 have hrl:=hr.1;unfold Bg
 by_cases h0:r.2.length=0
 ·refine H7b (by rw[h0];rfl) (H4b ?_);unfold X4;rw[Wq h0];rfl
 ·have hm:=Kfb (Q6a x) (show 0<r.2.length by omega);refine H6b (by rw[beq_eq_false_iff_ne];omega) (H5b (Q:=λ y=>y=((Q6a x % r.2.length:Nat):Int)) ?_ ?_)
  ·unfold Lm;refine H9b (by omega) (Hfb (Yma x hx) ?_);exact H9b (by omega) (H4b (Fbb _ _))
  ·rintro y rfl;have hp:=hr.2 _ (A4 (d:=[]) hm);simp (disch:=omega) only [dT,Vc];exact Hcb (by simp only[Vj];omega) (H4b rfl)
def Yna {r:Rng} {l:List Dev} (h:Jf r l=true) (x:ByteArray):X4 r x∈r.2:=by
 obtain⟨_,_,h3,_⟩:=D6.1 h;exact A4 (d:=[]) (Kfb _ (by omega))
def Fda {r:Rng} {l:List Dev} (h:Jf r l=true) (x:ByteArray):(X4 r x).Nodup∧((X4 r x).length:Int)=r.1∧∀ id∈X4 r x,∃ d,Ks l id=some d:=(D6.1 h).2.2.2 _ (Yna h x)
def hoA (p zs:List Int) (z:Bool) (l:List Dev):List Int:=(l.filter λ d => !(O7 p d.1)&&(O7 zs d.2.1==z)).map (·.1)
def St (r:Rng) (l:List Dev) (x:ByteArray):List Int:=hoA (X4 r x) (La (X4 r x) l) false l++hoA (X4 r x) (La (X4 r x) l) true l
def Fea (p zs:List Int) (z:Bool) (l:List Dev):(hoA p zs z l).length≤l.length:=by
 unfold hoA;rw[Wh];exact List.length_filter_le _ _
def Yoa (p zs:List Int) (z:Bool) (d:Dev) (l:List Dev):hoA p zs z (d::l)=bif !(O7 p d.1)&&(O7 zs d.2.1==z) then d.1::hoA p zs z l else hoA p zs z l:=by
 unfold hoA;rw[Zy]
 cases !(O7 p d.1)&&(O7 zs d.2.1==z)<;>rfl
def Bsa (p zs:List Int) (l:List Dev) (hp:p.length≤2000000) (hz:zs.length≤2000000) (hl:l.length≤2000000) (out:List Int) (ho:out.length≤5000000) (t:Int):Tot (λ k=>Ch k l p zs out t 0) (λ y=>y=(l,p,zs,out++hoA p zs (t==1) l,t)):=by
 have m1:=Fea p zs (t==1) l;refine Hdb (L:=λ k i (s:List Int)=>Ch k l p zs s t i) (Q:=λ y=>y=(l,p,zs,out++hoA p zs (t==1) l,t)) l.length (λ j s=>s++hoA p zs (t==1) (l.drop j)=out++hoA p zs (t==1) l) ?_ ?_ 0 out (Vq _) rfl
 ·rintro s e1;rw[Wd]at e1;simp (disch:=omega) only [Ch,dF];refine H4b ?_;rw[← e1];show _=(l,p,zs,s++[],t);rw[Wp]
 ·rintro j s hj e1 next;have g1:=congrArg length e1;rw[Ve,Ve]at g1;rw[Ah (d:=Nu) hj,Yoa]at e1;obtain⟨d,ed⟩:∃ d:Dev,l.getD j Nu=d:=⟨_,rfl⟩;rw[ed]at e1;have e0:l.getD j ((0:Int),((0:Int),(0:Int)))=d:=ed;simp (disch:=omega) only [Ch,dT,Vc,w64,e0];refine Hfb (Tt p d.1 (by omega)) ?_
  cases hp':O7 p d.1 with
  |true=>
   rw[hp']at e1;exact H6b rfl (next s e1)
  |false=>
   rw[hp']at e1;refine H7b rfl (Hfb (Tt zs d.2.1 (by omega)) ?_)
   cases hz':O7 zs d.2.1==(t==1) with
   |true=>
    rw[hz']at e1;exact H7b rfl (Hcb (by simp only[Vd,Vj];omega) (next (s++[d.1]) (by rw[← e1];simp)))
   |false=>
    rw[hz']at e1;exact H6b rfl (next s e1)
def Ypa (r:Rng) (l:List Dev) (x:ByteArray) (h:Jf r l=true) (hx:x.size≤1000000000):Tot (λ k=>Co k r l x) (λ y=>y=St r l x):=by
 obtain⟨h1,h2,_,_⟩:=D6.1 h;obtain⟨_,p2,_⟩:=Fda h x;obtain⟨_,_,_,h12⟩:=H1.1 h1;have hz:=Bpa (X4 r x) l;unfold Co St;refine Hfb (Z7 r x (N6 h) hx) ?_;generalize X4 r x=p at *;refine Hfb (Iaa p l (by omega) (by omega)) ?_;generalize La p l=zs at *;have m1:=Fea p zs false l;refine H5b (Q:=λ y=>y=hoA p zs false l++hoA p zs true l) ?_ (by rintro y rfl;exact H4b rfl);refine Tot.succ ?_;simp (disch:=omega) only [Ev,dT];refine Hfb (Bsa p zs l (by omega) (by omega) (by omega) [] (by simp) 0) ?_;refine Tot.succ ?_;simp (disch:=omega) only [Ev,dT,w64,Wa];refine Hfb (Bsa p zs l (by omega) (by omega) (by omega) (hoA p zs false l) (by omega) 1) ?_;refine Tot.succ ?_;simp (disch:=omega) only [Ev,dF,w64];exact H4b rfl

section
variable {R:Type} {L:Nat→Int→Option (Sum Bool R)}
def T6 (p:Nat→Bool) (n:Nat):(List.range (n+1)).all p=((List.range n).all p&&p n):=by
 rw[Keb,List.all_append,Hjb,List.all_nil,Igb]
def Cha {p:Nat→Bool} {m n:Nat} (h:m≤n) (hn:(List.range n).all p=true):(List.range m).all p=true:=by
 rw[Yt]at hn ⊢;exact λ x hx=>hn x (I2b.2 (by have:=I2b.1 hx;omega))
def Heb (n:Nat) (p:Nat→Bool) (e:R) (hend:Tot (λ k=>L (k+1) (n:Int)) (λ r=>r = .inr e))
  (Uza:∀ j,j<n→∀ (Q:Sum Bool R→Prop),(p j=false→Q (.inl false))→(p j=true→Tot (λ k=>L k ((j:Int)+1)) Q)→Tot (λ k=>L (k+1) (j:Int)) Q):
  Tot (λ k=>L k 0) (λ r=>r=bif (List.range n).all p then .inr e else .inl false):=by
 refine Hdb (L:=λ k i (_:Unit)=>L k i) (Q:=λ r=>r=bif (List.range n).all p then .inr e else .inl false) n (λ j _=>(List.range j).all p=true) ?_ ?_ 0 () (Vq _) rfl
 ·intro _ h;rw[h];exact hend
 ·intro j _ hj h next;refine Uza j hj _ (λ hp=>?_) (λ hp=>next () (by rw[T6,h,hp];rfl));cases hc:(List.range n).all p
  ·rfl
  have:=Cha (show j+1≤n by omega) hc;rw[T6,hp,Yj]at this;cases this
end
def Iia {α:Type} (l:List α) (d:α) (p:α→Bool):l.all p=(List.range l.length).all λ j=>p (l.getD j d):=by
 rw[Ieb,Yt,Yt];constructor
 ·intro h j hj;exact h _ (A4 (I2b.1 hj))
 ·intro h x hx;obtain⟨j,hj,rfl⟩:=Zl.1 hx;have:=h j (I2b.2 hj);rwa [Vb,Vk hj,Yq]at this
abbrev Wri:=ByteArray×Fil×Bool
abbrev Wld:=List Dev×Rng×List Nod×Stp×List Wri×List ByteArray
def V0a:Wri:=((⟨#[]⟩:ByteArray),((((0:Int),((0:Int),(0:Int))),(false,[])),false))
def T7 (l:List ByteArray):Bool:=(List.range l.length).all λ j=>B1 (l.getD j Nw)&&(decide (j=0)||tlt (l.getD (j-1) Nw) (l.getD j Nw))
def Ffa (c:Stp) (w:Wri):Bool:=B1 w.1&&(Ej w.2.1&&!(sle c w.2.1.1))
def Yqa (c:Stp) (l:List Wri):Bool:=l.all (Ffa c)&&decide ((l.length:Int)≤200)
def S8 (l:List Dev) (ns:List Nod):Bool:=((ns.length:Int)==(l.length:Int))&&(List.range ns.length).all λ j=>((ns.getD j Au).1==(l.getD j Nu).1)&&N1 (ns.getD j Au)
def Xz (w:Wld):Bool:=Jf w.2.1 w.1&&(S8 w.1 w.2.2.1&&(Gz w.2.2.2.1&&(Yqa w.2.2.2.1 w.2.2.2.2.1&&T7 w.2.2.2.2.2)))
def WIn (w:Wld):Prop:=RBd w.2.1∧w.1.length≤2000000∧(w.2.2.1.length≤2000000∧∀ n∈w.2.2.1,NIn n)∧(w.2.2.2.2.1.length≤2000000∧∀ x∈w.2.2.2.2.1,Lc x.1)∧(w.2.2.2.2.2.length≤2000000∧∀ s∈w.2.2.2.2.2,Lc s)
def Yra (w:Wld) (hw:WIn w):Tot (λ k=>Dn k w) (λ r=>r=Yqa w.2.2.2.1 w.2.2.2.2.1):=by
 obtain⟨_,_,_,⟨h1,h2⟩,_⟩:=hw;unfold Dn Yqa
 refine H5b (Q:=λ r=>r=bif w.2.2.2.2.1.all (Ffa w.2.2.2.1) then .inr w else .inl false) ?_ (by
  rintro r rfl
  cases w.2.2.2.2.1.all (Ffa w.2.2.2.1)<;>exact H4b rfl)
 rw[Iia _ V0a];refine Heb (L:=λ k i=>F5 k w.2.2.2.2.1 (w.2.2.2.2.1.length:Int) i w) _ _ w ?_ ?_
 ·simp (disch:=omega) only [F5,dF];exact H4b rfl
 ·intro j hj Q no yes;have hs:=h2 _ (A4 (d:=V0a) hj);obtain⟨x,ex⟩:∃ x:Wri,w.2.2.2.2.1.getD j V0a=x:=⟨_,rfl⟩;rw[ex]at hs;simp only[ex]at no yes;have e0:w.2.2.2.2.1.getD j ((⟨#[]⟩:ByteArray),((((0:Int),((0:Int),(0:Int))),(false,[])),false))=x:=ex;simp (disch:=omega) only [F5,dT,Vc,w64,e0,F5a,Eta,Vn];unfold Ffa at no yes;refine Hfb (Qq x.1 hs) ?_;refine Hab (λ hc=>H4b (no ?_)) (λ h3=>Hab (λ hc=>H4b (no ?_)) (λ h4=>Hab (λ hc=>H4b (no ?_)) (λ h5=>yes ?_)))
  ·rw[Vv]at hc;rw[hc];rfl
  ·rw[Vv]at hc;rw[hc,Zr,Yj]
  ·rw[hc,Zh,Yj,Yj]
  ·rw[Wi]at h3 h4;rw[h3,h4,h5];rfl
def Ija (w:Wld) (hw:WIn w):Tot (λ k=>D0 k w.2.2.2.2.2 (w.2.2.2.2.2.length:Int) 0 w) (λ r=>r=bif T7 w.2.2.2.2.2 then .inr () else .inl false):=by
 obtain⟨_,_,_,_,h1,h2⟩:=hw;unfold T7;refine Heb (L:=λ k i=>D0 k w.2.2.2.2.2 (w.2.2.2.2.2.length:Int) i w) _ _ () ?_ ?_
 ·simp (disch:=omega) only [D0,dF];exact H4b rfl
 ·intro j hj Q no yes;have hs:=h2 _ (A4 (d:=Nw) hj);have e0:∀ i,w.2.2.2.2.2.getD i (⟨#[]⟩:ByteArray)=w.2.2.2.2.2.getD i Nw:=λ _=>rfl;simp (disch:=omega) only [D0,dT,Vc,w64,e0];refine Hfb (Qq _ hs) ?_;refine Hab (λ hc=>H4b (no ?_)) (λ h3=>Hbb (λ h0=>?_) (λ h0=>yes ?_))
  ·rw[Vv]at hc;rw[hc];rfl
  ·simp (disch:=omega) only [dT,w64,show toNat ((j:Int)-1)=j-1 by omega];rw[Wi]at h3;rw[h3,decide_eq_false (show ¬ j=0 by omega),Hzb,Vz]at no yes;refine Hab (λ hc=>H4b (no ?_)) (λ h4=>yes ?_)
   ·rw[Vv]at hc;exact hc
   ·rw[Wi]at h4;exact h4
  ·rw[Wi]at h3;rw[h3,decide_eq_true (show j=0 by omega)];rfl
def Ika (w:Wld) (hw:WIn w):Tot (λ k=>D5 k 0 w) (λ r=>r=bif T7 w.2.2.2.2.2 then .inr () else .inl false):=by
 obtain⟨_,_,_,_,h1,h2⟩:=hw;unfold T7;refine Heb (L:=λ k i=>D5 k i w) _ _ () ?_ ?_
 ·simp (disch:=omega) only [D5,dF];exact H4b rfl
 ·intro j hj Q no yes;have hs:=h2 _ (A4 (d:=Nw) hj);have e0:∀ i,w.2.2.2.2.2.getD i (⟨#[]⟩:ByteArray)=w.2.2.2.2.2.getD i Nw:=λ _=>rfl;simp (disch:=omega) only [D5,dT,Vc,w64,e0];refine Hfb (Pk _ hs) ?_;refine Hab (λ hc=>H4b (no ?_)) (λ h3=>Hbb (λ h0=>?_) (λ h0=>yes ?_))
  ·rw[Vv]at hc;rw[hc];rfl
  ·simp (disch:=omega) only [dT,w64,show toNat ((j:Int)-1)=j-1 by omega];rw[Wi]at h3;rw[h3,decide_eq_false (show ¬ j=0 by omega),Hzb,Vz]at no yes;refine Hab (λ hc=>H4b (no ?_)) (λ h4=>yes ?_)
   ·rw[Vv]at hc;exact hc
   ·rw[Wi]at h4;exact h4
  ·rw[Wi]at h3;rw[h3,decide_eq_true (show j=0 by omega)];rfl
def Laa (w:Wld) (hw:WIn w) (hl:w.2.2.1.length=w.1.length):Tot (λ k=>F7 k w.2.2.1 (w.2.2.1.length:Int) 0 w) (λ r=>r=bif S8 w.1 w.2.2.1 then .inr w else .inl false):=by
 obtain⟨_,_,⟨h1,h2⟩,_⟩:=hw;unfold S8;rw[show ((w.2.2.1.length:Int)==(w.1.length:Int))=true by rw[beq_iff_eq];omega,Vz];refine Heb (L:=λ k i=>F7 k w.2.2.1 (w.2.2.1.length:Int) i w) _ _ w ?_ ?_
 ·simp (disch:=omega) only [F7,dF];exact H4b rfl
 ·intro j hj Q no yes;have hs:=h2 _ (A4 (d:=Au) hj);obtain⟨x,ex⟩:∃ x:Nod,w.2.2.1.getD j Au=x:=⟨_,rfl⟩;rw[ex]at hs no yes;have e0:w.2.2.1.getD j ((0:Int),(([],[]),([],[])))=x:=ex;have e1:w.1.getD j ((0:Int),((0:Int),(0:Int)))=w.1.getD j Nu:=rfl;simp (disch:=omega) only [F7,dT,Vc,w64,e0,e1];refine Hab (λ hc=>H4b (no ?_)) (λ h3=>H5b (Npa x hs) ?_)
  ·rw[bne,Vv]at hc;rw[hc];rfl
  ·rw[bne,Wi]at h3;rw[h3,Vz]at no yes;rintro b rfl;refine Hab (λ hc=>H4b (no ?_)) (λ h4=>yes ?_)
   ·rw[Vv]at hc;exact hc
   ·rw[Wi]at h4;exact h4
def Ysa (w:Wld) (hw:WIn w):Tot (λ k=>Dq k w) (λ r=>r=S8 w.1 w.2.2.1):=by
 obtain⟨_,_,⟨h1,h2⟩,_⟩:=hw;unfold S8 Dq;refine Hab (λ hc=>H4b ?_) (λ hl=>?_)
 ·rw[bne,Vv]at hc;rw[hc];rfl
 ·rw[bne,Wi]at hl;rw[hl,Vz];rw[beq_iff_eq]at hl
  refine H5b (Q:=λ r=>r=bif (List.range w.2.2.1.length).all (λ j=>((w.2.2.1.getD j Au).1==(w.1.getD j Nu).1)&&N1 (w.2.2.1.getD j Au)) then .inr () else .inl false) ?_ (by
   rintro r rfl
   cases (List.range w.2.2.1.length).all (λ j=>((w.2.2.1.getD j Au).1==(w.1.getD j Nu).1)&&N1 (w.2.2.1.getD j Au))<;>exact H4b rfl)
  refine Heb (L:=λ k i=>Fe k i w) _ _ () ?_ ?_
  ·simp (disch:=omega) only [Fe,dF];exact H4b rfl
  ·intro j hj Q no yes;have hs:=h2 _ (A4 (d:=Au) hj);obtain⟨x,ex⟩:∃ x:Nod,w.2.2.1.getD j Au=x:=⟨_,rfl⟩;rw[ex]at hs no yes;have e0:w.2.2.1.getD j ((0:Int),(([],[]),([],[])))=x:=ex;have e1:w.1.getD j ((0:Int),((0:Int),(0:Int)))=w.1.getD j Nu:=rfl;simp (disch:=omega) only [Fe,dT,Vc,w64,e0,e1];refine Hab (λ hc=>H4b (no ?_)) (λ h3=>H5b (Z4 x hs) ?_)
   ·rw[bne,Vv]at hc;rw[hc];rfl
   ·rw[bne,Wi]at h3;rw[h3,Vz]at no yes;rintro b rfl;refine Hab (λ hc=>H4b (no ?_)) (λ h4=>yes ?_)
    ·rw[Vv]at hc;exact hc
    ·rw[Wi]at h4;exact h4
def V1a (w:Wld) (hw:WIn w):Tot (λ k=>Di k w) (λ r=>r=Xz w):=by
 unfold Di Xz;refine Hfb (Y6a w.2.1 w.1 hw.1 (by have:=hw.2.1;omega)) ?_;cases hr:Jf w.2.1 w.1
 ·exact H7b rfl (H4b rfl)
 refine H6b rfl ?_;rw[Vz]
 by_cases hl:w.2.2.1.length=w.1.length
 ·refine H6b (by rw[bne,hl,beq_self_eq_true];rfl) ?_;simp only[B1a,Vn];cases hs:Gz w.2.2.2.1
  ·exact H7b rfl (H4b (by rw[Zr,Yj]))
  refine H6b rfl (Hfb (Yra w hw) ?_);cases hws:Yqa w.2.2.2.1 w.2.2.2.2.1
  ·exact H7b rfl (H4b (by rw[Zr,Yj,Yj]))
  refine H6b rfl (Hfb (Laa w hw hl) ?_);cases S8 w.1 w.2.2.1
  ·exact H4b rfl
  refine Hfb (Ija w hw) ?_
  cases T7 w.2.2.2.2.2<;>exact H4b rfl
 ·have hn:((w.2.2.1.length:Int)==(w.1.length:Int))=false:=by rw[beq_eq_false_iff_ne];omega
  refine H7b (by rw[bne,hn];rfl) (H4b ?_);unfold S8;rw[hn];rfl
def Ila (w:Wld) (hw:WIn w):Tot (λ k=>Dj k w) (λ r=>r=Xz w):=by
 have hw':=hw;obtain⟨_,_,_,⟨h1,h2⟩,_⟩:=hw';unfold Dj Xz;refine Hfb (Y7a w.2.1 w.1 hw.1 (by have:=hw.2.1;omega)) ?_;cases hr:Jf w.2.1 w.1
 ·exact H7b rfl (H4b rfl)
 refine H6b rfl (Hfb (Ysa w hw) ?_);rw[Vz];cases hn:S8 w.1 w.2.2.1
 ·exact H7b rfl (H4b rfl)
 refine H6b rfl ?_;simp only[Rx,Vn];cases hs:Gz w.2.2.2.1
 ·exact H7b rfl (H4b rfl)
 refine H6b rfl ?_
 by_cases hl:(w.2.2.2.2.1.length:Int) > 200
 ·refine H8b hl (H4b ?_);unfold Yqa;rw[decide_eq_false (show ¬ (w.2.2.2.2.1.length:Int)≤200 by omega),Yj];rfl
 ·refine H9b hl (H5b (Q:=λ r=>r=bif w.2.2.2.2.1.all (Ffa w.2.2.2.1) then .inr w else .inl false) ?_ ?_)
  ·rw[Iia _ V0a];refine Heb (L:=λ k i=>Gl k i w) _ _ w ?_ ?_
   ·simp (disch:=omega) only [Gl,dF];exact H4b rfl
   ·intro j hj Q no yes;have hs:=h2 _ (A4 (d:=V0a) hj);obtain⟨x,ex⟩:∃ x:Wri,w.2.2.2.2.1.getD j V0a=x:=⟨_,rfl⟩;rw[ex]at hs;simp only[ex]at no yes;have e0:w.2.2.2.2.1.getD j ((⟨#[]⟩:ByteArray),((((0:Int),((0:Int),(0:Int))),(false,[])),false))=x:=ex;simp (disch:=omega) only [Gl,dT,Vc,w64,e0,Uv,Esa,Vn];unfold Ffa at no yes;refine Hfb (Pk x.1 hs) ?_;refine Hab (λ hc=>H4b (no ?_)) (λ h3=>Hab (λ hc=>H4b (no ?_)) (λ h4=>Hab (λ hc=>H4b (no ?_)) (λ h5=>yes ?_)))
    ·rw[Vv]at hc;rw[hc];rfl
    ·rw[Vv]at hc;rw[hc,Zr,Yj]
    ·rw[hc,Zh,Yj,Yj]
    ·rw[Wi]at h3 h4;rw[h3,h4,h5];rfl
  ·rintro b rfl;unfold Yqa;rw[decide_eq_true (show (w.2.2.2.2.1.length:Int)≤200 by omega),Igb];cases w.2.2.2.2.1.all (Ffa w.2.2.2.1)
   ·exact H4b rfl
   refine Hfb (Ika w hw) ?_
   cases T7 w.2.2.2.2.2<;>exact H4b rfl

def atN:List Nod→Int→Nat→List Int
 |[],_,_=>[]
 |n::ns,id,i=>bif n.1==id then (i:Int)::atN ns id (i+1) else atN ns id (i+1)
def Fga (n:Nod) (ns:List Nod) (id:Int) (i:Nat):atN (n::ns) id i=bif n.1==id then (i:Int)::atN ns id (i+1) else atN ns id (i+1):=rfl
def whr (ns:List Nod) (ids:List Int):List Int:=ids.flatMap λ id=>atN ns id 0
def Fha (id:Int):∀ (ns:List Nod) (i:Nat),(atN ns id i).length≤ns.length
 |[],_=>Vx _
 |n::ns,i=>by
  unfold atN;have:=Fha id ns (i+1);cases n.1==id
  ·rw[cond_false,Vd];omega
  ·rw[cond_true,Vd,Vd];omega
def V2a (ns:List Nod):∀ (ids:List Int),(whr ns ids).length≤ids.length*ns.length
 |[]=>Vq _
 |id::ids=>by
  have h1:=Fha id ns 0;have h2:=V2a ns ids;unfold whr at h2 ⊢;rw[J5b,Ve,Vd,Nat.succ_mul];omega
def R5 {ns:List Nod} {ids:List Int} (h1:ns.length≤2000000) (h2:ids.length≤2000000):(whr ns ids).length≤4000000000000:=
 Zt (V2a ns ids) (Jwb h2 h1)
def O8a (ns:List Nod) (id:Int) (ids:List Int):whr ns (id::ids)=atN ns id 0++whr ns ids:=J5b
def Ctb (ns:List Nod) (a b:List Int):whr ns (a++b)=whr ns a++whr ns b:=List.flatMap_append
def Cia (w:Wld) (id:Int) (a b c:List Int) (m i0:Int) (out:List Int) (h1:w.2.2.1.length≤2000000) (ho:out.length≤4000000000000):
  Tot (λ k=>E7 k out id a m i0 w.2.2.1 (w.2.2.1.length:Int) 0 w) (λ r=>r=(out++atN w.2.2.1 id 0,a,m,i0,w)):=by
 have m1:=Fha id w.2.2.1 0;refine Hdb (L:=λ k i (s:List Int)=>E7 k s id a m i0 w.2.2.1 (w.2.2.1.length:Int) i w) (Q:=λ r=>r=(out++atN w.2.2.1 id 0,a,m,i0,w)) w.2.2.1.length (λ j s=>s++atN (w.2.2.1.drop j) id j=out++atN w.2.2.1 id 0) ?_ ?_ 0 out (Vq _) rfl
 ·intro s h;rw[Wd]at h;simp (disch:=omega) only [E7,dF];refine H4b ?_;rw[← h];show _=(s++[],a,m,i0,w);rw[Wp]
 ·intro j s hj h next;have g:=congrArg length h;rw[Ve,Ve]at g;rw[Ah (d:=Au) hj,Fga]at h;obtain⟨x,ex⟩:∃ x:Nod,w.2.2.1.getD j Au=x:=⟨_,rfl⟩;rw[ex]at h;have e0:w.2.2.1.getD j ((0:Int),(([],[]),([],[])))=x:=ex;simp (disch:=omega) only [E7,dT,Vc,w64,e0]
  cases hx:x.1==id with
  |true=>
   rw[hx,cond_true]at h;refine H7b rfl (Hcb (by simp only[Vd,Vj];omega) (next (s++[(j:Int)]) ?_));rw[← h,Vo];rfl
  |false=>
   rw[hx,cond_false]at h;refine H6b rfl (next s h)
def Bta (w:Wld) (ids:List Int) (h1:w.2.2.1.length≤2000000) (h2:ids.length≤2000000):Tot (λ k=>Fl k w ids) (λ r=>r=whr w.2.2.1 ids):=by
 have m1:=R5 h1 h2;unfold Fl;refine H5b (Q:=λ r=>r=whr w.2.2.1 ids) ?_ (by rintro r rfl;exact H4b rfl);refine Hdb (L:=λ k i (s:List Int)=>Gk k s ids (ids.length:Int) i w) (Q:=λ r=>r=whr w.2.2.1 ids) ids.length (λ j s=>s++whr w.2.2.1 (ids.drop j)=whr w.2.2.1 ids) ?_ ?_ 0 [] (Vq _) rfl
 ·intro s h;rw[Wd]at h;simp (disch:=omega) only [Gk,dF];refine H4b ?_;rw[← h];exact(Wp s).symm
 ·intro j s hj h next;have g:=congrArg length h;rw[Ve]at g;rw[Ah (d:=0) hj,O8a]at h;simp (disch:=omega) only [Gk,dT,Vc,w64];refine Hfb (Cia w (ids.getD j 0) ids [] [] (ids.length:Int) (j:Int) s h1 (by omega)) ?_;simp (disch:=omega) only [w64];exact next _ (by rw[Vo];exact h)
def Fia (w:Wld) (ids:List Int) (n:Nat) (hn:n<ids.length) (out:List Int) (h1:w.2.2.1.length≤2000000) (ho:out.length≤4000000000000):
  Tot (λ k=>Cf k ids out (n:Int) 0 w) (λ r=>r=(ids,out++atN w.2.2.1 (ids.getD n 0) 0,(n:Int),w)):=by
 have m1:=Fha (ids.getD n 0) w.2.2.1 0;refine Hdb (L:=λ k i (s:List Int)=>Cf k ids s (n:Int) i w) (Q:=λ r=>r=(ids,out++atN w.2.2.1 (ids.getD n 0) 0,(n:Int),w)) w.2.2.1.length (λ j s=>s++atN (w.2.2.1.drop j) (ids.getD n 0) j=out++atN w.2.2.1 (ids.getD n 0) 0) ?_ ?_ 0 out (Vq _) rfl
 ·intro s h;rw[Wd]at h;simp (disch:=omega) only [Cf,dF];refine H4b ?_;rw[← h];show _=(ids,s++[],(n:Int),w);rw[Wp]
 ·intro j s hj h next;have g:=congrArg length h;rw[Ve,Ve]at g;rw[Ah (d:=Au) hj,Fga]at h;obtain⟨x,ex⟩:∃ x:Nod,w.2.2.1.getD j Au=x:=⟨_,rfl⟩;rw[ex]at h;have e0:w.2.2.1.getD j ((0:Int),(([],[]),([],[])))=x:=ex;simp (disch:=omega) only [Cf,dT,Vc,w64,e0]
  cases hx:x.1==ids.getD n 0 with
  |true=>
   rw[hx,cond_true]at h;refine H7b rfl (Hcb (by simp only[Vd,Vj];omega) (next (s++[(j:Int)]) ?_));rw[← h,Vo];rfl
  |false=>
   rw[hx,cond_false]at h;refine H6b rfl (next s h)
def Su (w:Wld) (ids:List Int) (h1:w.2.2.1.length≤2000000) (h2:ids.length≤2000000):Tot (λ k=>Bf k w ids) (λ r=>r=whr w.2.2.1 ids):=by
 have m1:=R5 h1 h2;unfold Bf;refine H5b (Q:=λ r=>r=whr w.2.2.1 ids) ?_ (by rintro r rfl;exact H4b rfl);refine Hdb (L:=λ k i (s:List Int)=>Dt k ids s i w) (Q:=λ r=>r=whr w.2.2.1 ids) ids.length (λ j s=>s++whr w.2.2.1 (ids.drop j)=whr w.2.2.1 ids) ?_ ?_ 0 [] (Vq _) rfl
 ·intro s h;rw[Wd]at h;simp (disch:=omega) only [Dt,dF];refine H4b ?_;rw[← h];exact(Wp s).symm
 ·intro j s hj h next;have g:=congrArg length h;rw[Ve]at g;rw[Ah (d:=0) hj,O8a]at h;simp (disch:=omega) only [Dt,dT,Vc,w64];refine Hfb (Fia w ids j hj s h1 (by omega)) ?_;simp (disch:=omega) only [w64];exact next _ (by rw[Vo];exact h)
def Lba (id:Int):∀ (ns:List Nod) (i:Nat) (x:Int),x∈atN ns id i↔∃ j,j<ns.length∧(ns.getD j Au).1=id∧x=((i+j:Nat):Int)
 |[],i,x=>by simp[atN]
 |n::ns,i,x=>by
  have ih:=Lba id ns (i+1) x
  have tl:(∃ j,j<(n::ns).length∧((n::ns).getD j Au).1=id∧x=((i+j:Nat):Int))↔(n.1=id∧x=(i:Int))∨x∈atN ns id (i+1):=by
   rw[ih];constructor
   ·rintro⟨j,h1,h2,h3⟩
    cases j with
    |zero=>exact .inl ⟨h2,by omega⟩
    |succ j=>exact .inr ⟨j,by simpa using h1,by simpa using h2,by omega⟩
   ·rintro (⟨h1,h2⟩|⟨j,h1,h2,h3⟩)
    ·exact⟨0,by simp,h1,by omega⟩
    ·exact⟨j+1,by simpa using h1,by simpa using h2,by omega⟩
  rw[tl,Fga]
  cases hx:n.1==id with
  |true=>
   rw[cond_true,Vl,eq_of_beq hx];simp
  |false=>
   rw[cond_false];have:=beq_eq_false_iff_ne.1 hx;simp[this]
def Fja {ns:List Nod} {ids:List Int} {x:Int}:x∈whr ns ids↔∃ j,j<ns.length∧(ns.getD j Au).1∈ids∧x=(j:Int):=by
 unfold whr;rw[List.mem_flatMap];constructor
 ·rintro⟨id,h1,h2⟩;obtain⟨j,h3,h4,h5⟩:=(Lba _ _ _ _).1 h2;exact⟨j,h3,h4 ▸ h1,by omega⟩
 ·rintro⟨j,h3,h4,h5⟩;exact⟨_,h4,(Lba _ _ _ _).2 ⟨j,h3,rfl,by omega⟩⟩
def Lb (w:Wld) (x:ByteArray):List Int:=whr w.2.2.1 (X4 w.2.1 x++St w.2.1 w.1 x)
def Gjb:ByteArray:=⟨#[108,105,115,116]⟩
def Fv (w:Wld):List Int:=whr w.2.2.1 (X4 w.2.1 Gjb)
def Sw {r:Rng} (hr:RBd r) (x:ByteArray):(X4 r x).length≤2000000:=by
 unfold X4
 by_cases hm:Q6a x % r.2.length<r.2.length
 ·exact hr.2 _ (A4 (d:=[]) hm)
 ·rw[Vb,Zb (by omega)];exact Vq _
def Xm (r:Rng) (l:List Dev) (x:ByteArray):(St r l x).length≤l.length+l.length:=by
 unfold St;rw[Ve];have h1:=Fea (X4 r x) (La (X4 r x) l) false l;have h2:=Fea (X4 r x) (La (X4 r x) l) true l;omega
def Ima (w:Wld) (x:ByteArray) (h:Jf w.2.1 w.1=true) (hn:w.2.2.1.length≤2000000) (hx:x.size≤1000000000):Tot (λ k=>Ew k w x) (λ r=>r=Lb w x):=by
 have h5:=(D6.1 h).2.1;have p2:=(Fda h x).2.1;have h12:=(H1.1 (D6.1 h).1).2.2.2;have hh:=Xm w.2.1 w.1 x;unfold Ew Lb;rw[Ctb];refine Hfb (Z7 _ x (N6 h) hx) ?_;refine Hfb (Su w _ hn (by omega)) ?_;refine Hfb (Ypa _ _ x h hx) ?_;refine Hfb (Su w _ hn (by omega)) ?_;have l1:=R5 hn (show (X4 w.2.1 x).length≤2000000 by omega);have l2:=R5 hn (show (St w.2.1 w.1 x).length≤2000000 by omega);exact Hcb (by omega) (H4b rfl)
def Bua (w:Wld) (hr:RBd w.2.1) (hn:w.2.2.1.length≤2000000):Tot (λ k=>Hc k w) (λ r=>r=Fv w):=by
 unfold Hc;refine Hfb (O7a _ Gjb hr (by decide)) ?_;refine Hfb (Bta w _ hn (Sw hr _)) ?_;exact H4b rfl
def Bva (w:Wld) (hr:RBd w.2.1) (hn:w.2.2.1.length≤2000000):Tot (λ k=>H9 k w) (λ r=>r=Fv w):=by
 unfold H9;refine Hfb (Z7 _ Gjb hr (by decide)) ?_;refine Hfb (Su w _ hn (Sw hr _)) ?_;exact H4b rfl
def quo (n:Int):Int:=n/2+1
def Gkb {n:Int} (h0:0≤n):Int.tdiv n 2=n/2:=Htb h0
def Cub {n:Int} (h0:0≤n) (h1:n≤1000000000):Kz n=some (quo n):=by
 unfold Kz quo;rw[Gkb h0,w64 (n:=n/2) (by omega) (by omega),w64 (n:=n/2+1) (by omega) (by omega)]
def rch (l:List Int) (i:Nat):Int:=bif decide (i<l.length)&&inR (l.getD i 0) 1 3 then l.getD i 0 else 0
def V3a (l:List Int) (i:Nat):Hb l (i:Int)=some (rch l i):=by
 unfold Hb rch
 by_cases h:i<l.length
 ·simp (disch:=omega) only [dT,Vc,Xf,Vn];rw[decide_eq_true h,Vz]
  cases inR (l.getD i 0) 1 3<;>rfl
 ·rw[dF (by omega),decide_eq_false h];rfl
def Lca (l:List Int) (i:Nat):C9 l (i:Int)=some (rch l i):=by
 unfold C9 rch
 by_cases h:i<l.length
 ·rw[dF (by omega)];simp (disch:=omega) only [dT,Vc,Oq,Vn];rw[decide_eq_true h,Vz]
  cases inR (l.getD i 0) 1 3<;>rfl
 ·rw[dT (by omega),decide_eq_false h];rfl

section
open Go
end

def Cvb (a b:Row):Bool:=(a.1==b.1)&&((a.2.1.1==b.2.1.1)&&((a.2.1.2.1==b.2.1.2.1)&&((a.2.1.2.2==b.2.1.2.2)&&((a.2.2.1==b.2.2.1)&&(a.2.2.2==b.2.2.2)))))
def Ina {a b:Row}:Cvb a b=true↔a=b:=by
 unfold Cvb;obtain⟨a0,⟨a1,a2,a3⟩,a4,a5⟩:=a;obtain⟨b0,⟨b1,b2,b3⟩,b4,b5⟩:=b;simp only[Ewa,Va,beq_iff_eq,Vy,Km];constructor
 ·rintro⟨h0,h1,h2,h3,h4,h5⟩;exact⟨h0,⟨h1,h2,h3⟩,h4,h5⟩
 ·rintro⟨h0,⟨h1,h2,h3⟩,h4,h5⟩;exact⟨h0,h1,h2,h3,h4,h5⟩
def Cja (ws:List Wri) (r:Row):Bool:=ws.any λ x=>Cvb (Bka x.1 x.2.1) r

def run {α:Type} (st:α→Nat→α) (n:Nat) (a:α):α:=(List.range n).foldl st a
def Nt {α:Type} (st:α→Nat→α) (n:Nat) (a:α):run st (n+1) a=st (run st n a) n:=by
 unfold run;rw[Keb,I6b];rfl
def Yta {α:Type} {st:α→Nat→α} {a:α} {j n:Nat} (hj:j≤n) (h:∀ i,st (run st j a) i=run st j a):run st n a=run st j a:=by
 obtain⟨m,rfl⟩:=Nat.exists_eq_add_of_le hj
 induction m with
 |zero=>rfl
 |succ m ih=>rw[← Zg,Nt,ih (by omega),h]
def Ms {α:Type} {st:α→Nat→α} (P:Nat→α→Prop) {n:Nat} {a:α} (h0:P 0 a) (hs:∀ j b,j<n→P j b→P (j+1) (st b j)):P n (run st n a):=by
 have:∀ m,m≤n→P m (run st m a):=by
  intro m
  induction m with
  |zero=>intro _;exact h0
  |succ m ih=>intro hm;rw[Nt];exact hs m _ (by omega) (ih (by omega))
 exact this n (Vx _)
def NS (ns:List Nod):Prop:=ns.length≤2000000∧∀ n∈ns,NG n
def NS.set {ns:List Nod} (h:NS ns) {i:Nat} {n:Nod} (hn:NG n):NS (ns.set i n):=⟨by rw[Vw];exact h.1,λ m hm=>by
 rcases Yc hm with hm|rfl
 ·exact h.2 m hm
 ·exact hn⟩
def NS.get {ns:List Nod} (h:NS ns) {i:Nat} (hi:i<ns.length):NG (ns.getD i Au):=h.2 _ (A4 hi)
abbrev wN (w:Wld) (ns:List Nod):Wld:=(w.1,w.2.1,ns,w.2.2.2)
def Oh (c:Stp) (t d:Int):Stp:=bif decide (t≤c.1) then (bif Gz (c.1,c.2.1+1,d) then (c.1,c.2.1+1,d) else c) else (bif Gz (t,0,d) then (t,0,d) else c)
def V4a {c:Stp} (hc:Gz c=true) (t d:Int):Hi c t d=some (Oh c t d):=by
 have h2:0≤c.2.1∧c.2.1≤1000000:=by
  unfold Gz at hc;rw[Va,Va,Et,Et]at hc;exact hc.2.1
 unfold Hi Oh;rw[w64 (n:=c.2.1+1) (by omega) (by omega)];simp only[Rx,Vn]
 cases decide (t≤c.1) with
 |true=>cases Gz (c.1,c.2.1+1,d)<;>rfl
 |false=>cases Gz (t,0,d)<;>rfl
def Fka {c:Stp} (hc:Gz c=true) (t d:Int):Gz (Oh c t d)=true∧(Oh c t d=c∨sle c (Oh c t d)=true):=by
 unfold Oh
 by_cases h:t≤c.1
 ·rw[decide_eq_true h,cond_true]
  cases hs:Gz (c.1,c.2.1+1,d) with
  |true=>exact⟨hs,.inr (Qo.2 (.inr ⟨rfl,.inl (by show c.2.1<c.2.1+1;omega)⟩))⟩
  |false=>exact⟨hc,.inl rfl⟩
 ·rw[decide_eq_false h,cond_false]
  cases hs:Gz (t,0,d) with
  |true=>exact⟨hs,.inr (Qo.2 (.inl (by show c.1<t;omega)))⟩
  |false=>exact⟨hc,.inl rfl⟩
def wst (R:Int) (rc:List Int) (s:ByteArray) (f:Fil) (cs:List Int) (a:List Nod×Int×Int) (j:Nat):List Nod×Int×Int:=
 bif decide (a.2.1<R) then (bif rch rc j==0 then a else
  (a.1.set (cs.getD j 0).toNat (Xi (a.1.getD (cs.getD j 0).toNat Au) s f (rch rc j != 3)).1,a.2.1+1,
   bif rch rc j==1&&((Xi (a.1.getD (cs.getD j 0).toNat Au) s f (rch rc j != 3)).2==0||(Xi (a.1.getD (cs.getD j 0).toNat Au) s f (rch rc j != 3)).2==1) then a.2.2+1 else a.2.2))
 else a
def wrN (w:Wld) (s:ByteArray) (f:Fil) (rc:List Int):List Nod×Int×Int:=run (wst w.2.1.1 rc s f (Lb w s)) (Lb w s).length (w.2.2.1,0,0)
def Bwa (w:Wld) (s:ByteArray) (f:Fil) (rc:List Int):Int×Wld:=
 (bif decide ((wrN w s f rc).2.2≥quo w.2.1.1) then 0 else 1,(w.1,w.2.1,(wrN w s f rc).1,w.2.2.2.1,w.2.2.2.2.1++[(s,f,decide ((wrN w s f rc).2.2≥quo w.2.1.1))],w.2.2.2.2.2))
def Tx {w:Wld} {s:ByteArray} {x:Int} (h:x∈Lb w s):0≤x∧x<(w.2.2.1.length:Int):=by
 obtain⟨j,h1,_,rfl⟩:=Fja.1 h;omega
def Fcb {R:Int} {rc:List Int} {s:ByteArray} {f:Fil} {cs:List Int} {a:List Nod×Int×Int} {j m:Nat} (hs:B1 s=true) (hf:Ej f=true) (h:NS a.1∧a.1.length=m∧(0≤a.2.1∧a.2.1≤j)∧0≤a.2.2∧a.2.2≤j) (hc:(cs.getD j 0).toNat<m):
  let b:=wst R rc s f cs a j
  NS b.1∧b.1.length=m∧(0≤b.2.1∧b.2.1≤((j+1:Nat):Int))∧0≤b.2.2∧b.2.2≤((j+1:Nat):Int):=by
 obtain⟨h1,h2,h3,h4,h5⟩:=h;intro b;have hb:b=wst R rc s f cs a j:=rfl;unfold wst at hb;cases hR:decide (a.2.1<R)
 ·rw[hR,cond_false]at hb;rw[hb];exact⟨h1,h2,⟨h3.1,by omega⟩,h4,by omega⟩
 rw[hR,cond_true]at hb;cases hr:rch rc j==0
 case true=>rw[hr,cond_true]at hb;rw[hb];exact⟨h1,h2,⟨h3.1,by omega⟩,h4,by omega⟩
 rw[hr,cond_false]at hb;rw[hb];refine⟨h1.set (Nqa (h1.get (by omega)) hs hf),by rw[List.length_set];exact h2,⟨by dsimp only;omega,by dsimp only;omega⟩,?_⟩;dsimp only;cases rch rc j==1&&((Xi (a.1.getD (cs.getD j 0).toNat Au) s f (rch rc j != 3)).2==0||(Xi (a.1.getD (cs.getD j 0).toNat Au) s f (rch rc j != 3)).2==1)
 ·exact⟨h4,by rw[cond_false];omega⟩
 ·exact⟨by rw[cond_true];omega,by rw[cond_true];omega⟩
def Q7a (w:Wld) (s:ByteArray) (f:Fil) (rc:List Int) (hr:Jf w.2.1 w.1=true) (hn:NS w.2.2.1) (hs:B1 s=true) (hf:Ej f=true) (hw:w.2.2.2.2.1.length≤2000000):
  Tot (λ k=>C7 k w s f rc) (λ r=>r=Bwa w s f rc):=by
 have hsz:s.size≤1000000000:=by
  have:=Et.1 (Va _ _ ▸ hs:_∧_).2;omega
 obtain⟨_,hR,_⟩:=D6.1 hr;unfold C7 Bwa;refine Hfb (Ima w s hr hn.1 hsz) ?_;have hc:=λ x=>Tx (w:=w) (s:=s) (x:=x)
 have hcl:(Lb w s).length≤4000000000000:=by
  unfold Lb;refine R5 hn.1 ?_;have h5:=(D6.1 hr).2.1;have p2:=(Fda hr s).2.1;have h12:=(H1.1 (D6.1 hr).1).2.2.2;have hh:=Xm w.2.1 w.1 s;rw[Ve];omega
 have hrun:wrN w s f rc=run (wst w.2.1.1 rc s f (Lb w s)) (Lb w s).length (w.2.2.1,0,0):=rfl
 have inv:∀ n,n≤(Lb w s).length→NS (run (wst w.2.1.1 rc s f (Lb w s)) n (w.2.2.1,0,0)).1∧(run (wst w.2.1.1 rc s f (Lb w s)) n (w.2.2.1,0,0)).1.length=w.2.2.1.length∧(0≤(run (wst w.2.1.1 rc s f (Lb w s)) n (w.2.2.1,0,0)).2.1∧(run (wst w.2.1.1 rc s f (Lb w s)) n (w.2.2.1,0,0)).2.1≤n)∧0≤(run (wst w.2.1.1 rc s f (Lb w s)) n (w.2.2.1,0,0)).2.2∧(run (wst w.2.1.1 rc s f (Lb w s)) n (w.2.2.1,0,0)).2.2≤n:=by
  intro n hn';refine Ms (λ j (b:List Nod×Int×Int)=>NS b.1∧b.1.length=w.2.2.1.length∧(0≤b.2.1∧b.2.1≤(j:Int))∧0≤b.2.2∧b.2.2≤(j:Int)) ⟨hn,rfl,⟨Hmb _,Hmb _⟩,Hmb _,Hmb _⟩ (λ j b hj hb=>Fcb hs hf hb ?_);have:=hc _ (A4 (d:=0) (show j<(Lb w s).length by omega));omega
 generalize hcs:Lb w s=cs at *;refine H5b (Q:=λ r=>r=(s,(wrN w s f rc).2.2,wN w (wrN w s f rc).1,f)) ?_ ?_
 ·refine Hdb (L:=λ k i (a:List Nod×Int×Int)=>B8 k s rc cs a.2.1 a.2.2 i (wN w a.1) f) (Q:=λ r=>r=(s,(wrN w s f rc).2.2,wN w (wrN w s f rc).1,f)) cs.length (λ j a=>a=run (wst w.2.1.1 rc s f cs) j (w.2.2.1,0,0)) ?_ ?_ 0 (w.2.2.1,0,0) (Vq _) rfl
  ·rintro a rfl;simp (disch:=omega) only [B8,dF];exact H4b (by rw[hrun])
  ·rintro j a hj rfl next;obtain⟨i1,i2,i3,i4,i5⟩:=inv j (by omega);rw[Nt]at next;have hst:=Yta (st:=wst w.2.1.1 rc s f cs) (a:=(w.2.2.1,(0:Int),(0:Int))) (j:=j) (n:=cs.length) (by omega);generalize run (wst w.2.1.1 rc s f cs) j (w.2.2.1,0,0)=a at *;obtain⟨ns,o,g⟩:=a;dsimp only at i1 i2 i3 i4 i5;have hci:=hc _ (A4 (d:=0) hj);obtain⟨i,ei⟩:∃ i:Nat,cs.getD j 0=(i:Int):=⟨(cs.getD j 0).toNat,by omega⟩;rw[ei]at hci;unfold wst at next;rw[ei,Int.toNat_natCast]at next;simp (disch:=omega) only [B8,dT,wN];refine Hbb (λ hR'=>?_) (λ hR'=>H4b ?_)
   ·dsimp only at next;rw[decide_eq_true hR']at next;simp only[Lca,Option.bind_some]
    cases h0:rch rc j==0 with
    |true=>
     rw[h0]at next;simp (disch:=omega) only [w64];exact H7b rfl (next _ rfl)
    |false=>
     rw[h0]at next;have e0:ns.getD i ((0:Int),(([],[]),([],[])))=ns.getD i Au:=rfl;simp (disch:=omega) only [dT,Int.toNat_natCast,w64,ei,e0,cond_false];refine Hfb (I5a (ns.getD i Au) s f (rch rc j != 3) (Sy (i1.get (by omega))) (Jc hs)) ?_;dsimp only at next ⊢;generalize Xi (ns.getD i Au) s f (rch rc j != 3)=p at *
     cases h1:rch rc j==1 with
     |false=>
      rw[h1]at next;exact H6b rfl (next _ rfl)
     |true=>
      rw[h1]at next;refine H7b rfl ?_;cases h2:p.2==0
      case true=>rw[h2]at next;exact H7b rfl (next _ rfl)
      rw[h2]at next;refine H6b rfl ?_
      cases h3:p.2==1 with
      |true=>rw[h3]at next;exact H7b rfl (next _ rfl)
      |false=>rw[h3]at next;exact H6b rfl (next _ rfl)
   ·rw[hrun,hst (λ i=>by unfold wst;dsimp only;rw[decide_eq_false hR'];rfl)]
 ·rintro r rfl;obtain⟨_,_,_,h4,h5⟩:=inv cs.length (Nat.le_refl _);dsimp only[wN];rw[Cub (by omega) (by omega)]
  have ec:Bs f=some f:=by
   have:=(Kg.1 hf).2.1;unfold Bs;rw[bT (by simp only[Vj];omega),Wa]
  rw[ec];simp only[Vn];refine Hcb (by simp only[Vd,Vj];omega) ?_
  cases decide ((wrN w s f rc).2.2≥quo w.2.1.1) with
  |true=>exact H4b rfl
  |false=>exact H4b rfl
def ask (w:Wld) (s:ByteArray) (f:Fil) (t:Int) (rc:List Int):Int×Wld:=
 bif !(B1 s) then (2,w) else bif decide ((f.2.2.length:Int) > 200) then (2,w) else bif !(inR t 0 1000000000) then (2,w) else
 bif (w.2.2.2.2.1.length:Int)==200 then (3,w) else
 bif (Oh w.2.2.2.1 t 0).1==w.2.2.2.1.1&&((Oh w.2.2.2.1 t 0).2.1==w.2.2.2.1.2.1&&(Oh w.2.2.2.1 t 0).2.2==w.2.2.2.1.2.2) then (3,w) else
 Bwa (w.1,w.2.1,w.2.2.1,Oh w.2.2.2.1 t 0,w.2.2.2.2) s (Oh w.2.2.2.1 t 0,f.2) rc
def V5a (w:Wld) (s:ByteArray) (f:Fil) (t:Int) (rc:List Int) (hr:Jf w.2.1 w.1=true) (hn:NS w.2.2.1) (hst:Gz w.2.2.2.1=true) (hs:Lc s) (hd:f.2.1=true→f.2.2=[]) (hw:w.2.2.2.2.1.length≤2000000):
  Tot (λ k=>I2 k w s f t rc) (λ r=>r=ask w s f t rc):=by
 unfold I2 ask;refine Hfb (Pk s hs) ?_;cases hs':B1 s
 ·exact H7b rfl (H4b rfl)
 refine H6b rfl ?_;rw[Zh,cond_false]
 by_cases hl:(f.2.2.length:Int) > 200
 ·rw[decide_eq_true hl];exact H7b rfl (H4b rfl)
 ·rw[decide_eq_false hl,cond_false];refine H6b rfl ?_;simp only[Oq,V4a hst,Vn];cases inR t 0 1000000000
  ·exact H7b rfl (H4b rfl)
  refine H6b rfl ?_;rw[Zh,cond_false];cases (w.2.2.2.2.1.length:Int)==200
  case true=>exact H7b rfl (H4b rfl)
  refine H6b rfl ?_;rw[cond_false];cases (Oh w.2.2.2.1 t 0).1==w.2.2.2.1.1&&((Oh w.2.2.2.1 t 0).2.1==w.2.2.2.1.2.1&&(Oh w.2.2.2.1 t 0).2.2==w.2.2.2.1.2.2)
  case true=>exact H7b rfl (H4b rfl)
  refine H6b rfl (Hfb (Q7a (w.1,w.2.1,w.2.2.1,Oh w.2.2.2.1 t 0,w.2.2.2.2) s (Oh w.2.2.2.1 t 0,f.2) rc hr hn hs' (Kg.2 ⟨(Fka hst t 0).1,by show f.2.2.length≤200;omega,hd⟩) hw) ?_);exact H4b rfl
def pst (src:Int) (s:ByteArray) (f:Fil) (rc ps:List Int) (a:List Nod×Bool×Bool) (j:Nat):List Nod×Bool×Bool:=
 bif ps.getD j 0==src then (a.1,true,a.2.2) else bif rch rc j != 1 then (a.1,a.2.1,false) else
  (a.1.set (ps.getD j 0).toNat ((a.1.getD (ps.getD j 0).toNat Au).1,(keep (a.1.getD (ps.getD j 0).toNat Au).2.1 s f true).1,(a.1.getD (ps.getD j 0).toNat Au).2.2),a.2.1,
   bif (keep (a.1.getD (ps.getD j 0).toNat Au).2.1 s f true).2 != 0&&(keep (a.1.getD (ps.getD j 0).toNat Au).2.1 s f true).2 != 1 then false else a.2.2)
def O8 (w:Wld) (s:ByteArray):List Int:=whr w.2.2.1 (X4 w.2.1 s)
def puN (w:Wld) (i:Nat) (s:ByteArray) (rc:List Int):List Nod×Bool×Bool:=run (pst (i:Int) s (lkD (w.2.2.1.getD i Au).2.1 s).1 rc (O8 w s)) (O8 w s).length (w.2.2.1,false,true)
def Fvb (n:Nod) (s:ByteArray):Nod:=(n.1,(syD (rmD n.2.1 s).1 s).1,n.2.2)
def V1 (w:Wld) (i:Nat) (s:ByteArray) (rc:List Int):Bool×Wld:=bif (lkD (w.2.2.1.getD i Au).2.1 s).2 != 0 then (false,w) else
 (true,wN w (bif (puN w i s rc).2.2&&!(puN w i s rc).2.1 then (puN w i s rc).1.set i (Fvb ((puN w i s rc).1.getD i Au) s) else (puN w i s rc).1))
def Ajb {n:Nod} (hn:NG n) {s:ByteArray} (hs:B1 s=true):NG (Fvb n s):=Fca hn (Chb (U0a hn.g) hs)
def Fla {n:Nod} (hn:NG n) {s:ByteArray} {f:Fil} {sure:Bool}:NG (n.1,(keep n.2.1 s f sure).1,n.2.2):=Fca hn (A9b hn.g)
def V6a {src:Int} {s:ByteArray} {f:Fil} {rc ps:List Int} {a:List Nod×Bool×Bool} {j m:Nat} (h:NS a.1∧a.1.length=m) (hc:(ps.getD j 0).toNat<m):NS (pst src s f rc ps a j).1∧(pst src s f rc ps a j).1.length=m:=by
 unfold pst;cases ps.getD j 0==src
 case true=>exact h
 cases rch rc j != 1 with
 |true=>exact h
 |false=>exact⟨h.1.set (Fla (h.1.get (by have:=h.2;omega))),by rw[cond_false,cond_false,Vw];exact h.2⟩
def Pn {w:Wld} {s:ByteArray} {x:Int} (h:x∈O8 w s):0≤x∧x<(w.2.2.1.length:Int):=by
 obtain⟨j,h1,_,rfl⟩:=Fja.1 h;omega
def Ioa {w:Wld} {s:ByteArray} (hr:Jf w.2.1 w.1=true) (hn:w.2.2.1.length≤2000000):(O8 w s).length≤4000000000000:=R5 hn (Sw (N6 hr) s)
def Akb {w:Wld} {i:Nat} {s:ByteArray} {rc:List Int} (hn:NS w.2.2.1):NS (puN w i s rc).1∧(puN w i s rc).1.length=w.2.2.1.length:=
 Ms (λ _ (b:List Nod×Bool×Bool)=>NS b.1∧b.1.length=w.2.2.1.length) ⟨hn,rfl⟩ (λ j b hj hb=>V6a hb (by have:=Pn (A4 (d:=0) hj);omega))
def Yua (w:Wld) (i:Nat) (s:ByteArray) (rc:List Int) (hr:Jf w.2.1 w.1=true) (hn:NS w.2.2.1) (hi:i<w.2.2.1.length):Tot (λ k=>Cu k w (i:Int) s rc) (λ r=>r=V1 w i s rc):=by
 have hni:=hn.get hi;unfold Cu V1;have e0:w.2.2.1.getD i ((0:Int),(([],[]),([],[])))=w.2.2.1.getD i Au:=rfl;simp (disch:=omega) only [dT,Vc,e0];have hin:=(Sy hni).1;refine Hfb (Uy hin.1.1.1.1 hin.2.1 s) ?_;cases hl:(lkD (w.2.2.1.getD i Au).2.1 s).2 != 0
 case true=>exact H7b rfl (H4b rfl)
 refine H6b rfl ?_;rw[cond_false]
 have hlk:∃ b,gt (w.2.2.1.getD i Au).2.1.1 s=some b:=by
  rw[bne,Wi,beq_iff_eq]at hl;obtain⟨b,hb,_⟩:=Pa.1 (show lkD (w.2.2.1.getD i Au).2.1 s=((lkD (w.2.2.1.getD i Au).2.1 s).1,0) from by rw[← hl]);exact⟨b,hb⟩
 have hs:B1 s=true:=Pta hni.g.1 (by obtain⟨b,hb⟩:=hlk;rw[hb];rfl)
 have hsz:s.size≤1000000000:=by
  have:=Et.1 (Va _ _ ▸ hs:_∧_).2;omega
 refine Hfb (Z7 _ s (N6 hr) hsz) ?_;refine Hfb (Su w _ hn.1 (Sw (N6 hr) s)) ?_;have hpl:=Ioa (s:=s) hr hn.1;have hc:=λ x=>Pn (w:=w) (s:=s) (x:=x);have hrun:puN w i s rc=run (pst (i:Int) s (lkD (w.2.2.1.getD i Au).2.1 s).1 rc (O8 w s)) (O8 w s).length (w.2.2.1,false,true):=rfl;obtain⟨p1,p2⟩:=Akb (w:=w) (i:=i) (s:=s) (rc:=rc) hn
 have inv:∀ n,n≤(O8 w s).length→NS (run (pst (i:Int) s (lkD (w.2.2.1.getD i Au).2.1 s).1 rc (O8 w s)) n (w.2.2.1,false,true)).1∧(run (pst (i:Int) s (lkD (w.2.2.1.getD i Au).2.1 s).1 rc (O8 w s)) n (w.2.2.1,false,true)).1.length=w.2.2.1.length:=λ n hn'=>
  Ms (λ _ (b:List Nod×Bool×Bool)=>NS b.1∧b.1.length=w.2.2.1.length) ⟨hn,rfl⟩ (λ j b hj hb=>V6a hb (by have:=hc _ (A4 (d:=0) (show j<(O8 w s).length by omega));omega))
 rw[show whr w.2.2.1 (X4 w.2.1 s)=O8 w s from rfl];generalize (lkD (w.2.2.1.getD i Au).2.1 s).1=f at *;generalize O8 w s=ps at *;refine H5b (Q:=λ r=>r=((i:Int),s,(puN w i s rc).2.1,(puN w i s rc).2.2,wN w (puN w i s rc).1)) ?_ ?_
 ·refine Hdb (L:=λ k j (a:List Nod×Bool×Bool)=>Bq k (i:Int) s rc ps a.2.1 a.2.2 j (wN w a.1) f) (Q:=λ r=>r=((i:Int),s,(puN w i s rc).2.1,(puN w i s rc).2.2,wN w (puN w i s rc).1)) ps.length (λ j a=>a=run (pst (i:Int) s f rc ps) j (w.2.2.1,false,true)) ?_ ?_ 0 (w.2.2.1,false,true) (Vq _) rfl
  ·rintro a rfl;simp (disch:=omega) only [Bq,dF];exact H4b (by rw[hrun])
  ·rintro j a hj rfl next;obtain⟨i1,i2⟩:=inv j (by omega);rw[Nt]at next;generalize run (pst (i:Int) s f rc ps) j (w.2.2.1,false,true)=a at *;obtain⟨ns,o,g⟩:=a;dsimp only at i1 i2;have hci:=hc _ (A4 (d:=0) hj);obtain⟨m,em⟩:∃ m:Nat,ps.getD j 0=(m:Int):=⟨(ps.getD j 0).toNat,by omega⟩;rw[em]at hci;unfold pst at next;rw[em,Int.toNat_natCast]at next;have e0:ns.getD m ((0:Int),(([],[]),([],[])))=ns.getD m Au:=rfl;simp (disch:=omega) only [Bq,dT,Int.toNat_natCast,w64,em,wN]
   cases hz:(m:Int)==(i:Int) with
   |true=>
    rw[hz]at next;exact H7b rfl (next _ rfl)
   |false=>
    rw[hz]at next;refine H6b rfl ?_;simp only[Lca,Vn]
    cases h1:rch rc j != 1 with
    |true=>
     rw[h1]at next;exact H7b rfl (next _ rfl)
    |false=>
     rw[h1]at next;refine H6b rfl ?_;simp (disch:=omega) only [dT,Int.toNat_natCast,e0];have hm:=Sy (i1.get (i:=m) (by omega));refine Hfb (Nma (ns.getD m Au).2.1 s f true hm.1.1 hm.1.2.1 (Jc hs)) ?_;dsimp only at next;generalize keep (ns.getD m Au).2.1 s f true=q at *;cases h2:q.2 != 0
     ·rw[h2]at next;exact H6b rfl (next _ rfl)
     rw[h2]at next;refine H7b rfl ?_
     cases h3:q.2 != 1 with
     |true=>rw[h3]at next;exact H7b rfl (next _ rfl)
     |false=>rw[h3]at next;exact H6b rfl (next _ rfl)
 ·rintro r rfl;dsimp only[wN];generalize puN w i s rc=a at *;obtain⟨ns,o,g⟩:=a;dsimp only at p1 p2 ⊢;cases g
  ·exact H6b rfl (H4b rfl)
  refine H7b rfl ?_;cases o
  case true=>exact H6b rfl (H4b rfl)
  refine H7b rfl ?_;have e0:ns.getD i ((0:Int),(([],[]),([],[])))=ns.getD i Au:=rfl
  have hil:(i:Int)<(ns.length:Int):=by omega
  simp (disch:=omega) only [dT,Vc,e0];have hg:=(p1.get (i:=i) (by omega)).g;refine Hfb (Tr hg.1 (Jc hs)) ?_;refine Hfb (Ux (U0a hg).1 hs) ?_;exact H4b rfl

def tk (n:Nod) (l:List Row):Bool×Nod:=bif decide ((Tl n.2.2.1 l).length > 60) then (false,n) else (true,(n.1,n.2.1,Tl n.2.2.1 l,n.2.2.2))
def Glb {n:Nod} {l:List Row} (hn:NG n) (hl:Ko l=true):NG (tk n l).2:=by
 obtain⟨h1,h2,h3,h4,h5⟩:=Bw.1 hn.1;unfold tk
 by_cases h:(Tl n.2.2.1 l).length > 60
 ·rw[decide_eq_true h];exact hn
 ·rw[decide_eq_false h];exact⟨Bw.2 ⟨h1,h2,h3,Bja h4 hl (by omega),h5⟩,hn.2⟩
def gst (src:Int) (l:List Row) (self:Bool) (rc ls:List Int) (a:List Nod×Bool) (j:Nat):List Nod×Bool:=
 bif ls.getD j 0==src&&!self then a else bif rch rc j != 1 then (a.1,false) else
  (a.1.set (ls.getD j 0).toNat (tk (a.1.getD (ls.getD j 0).toNat Au) l).2,bif (tk (a.1.getD (ls.getD j 0).toNat Au) l).1 then a.2 else false)
def Me (w:Wld) (src:Int) (l:List Row) (self:Bool) (rc:List Int):List Nod×Bool:=run (gst src l self rc (Fv w)) (Fv w).length (w.2.2.1,true)
def V7a {src:Int} {l:List Row} {self:Bool} {rc ls:List Int} {a:List Nod×Bool} {j m:Nat} (hl:Ko l=true) (h:NS a.1∧a.1.length=m) (hc:(ls.getD j 0).toNat<m):NS (gst src l self rc ls a j).1∧(gst src l self rc ls a j).1.length=m:=by
 unfold gst;cases ls.getD j 0==src&&!self
 case true=>exact h
 cases rch rc j != 1 with
 |true=>exact h
 |false=>exact⟨h.1.set (Glb (h.1.get (by have:=h.2;omega)) hl),by rw[cond_false,cond_false,Vw];exact h.2⟩
def Ow {w:Wld} {x:Int} (h:x∈Fv w):0≤x∧x<(w.2.2.1.length:Int):=by
 obtain⟨j,h1,_,rfl⟩:=Fja.1 h;omega
def R6 {w:Wld} (hr:RBd w.2.1) (hn:w.2.2.1.length≤2000000):(Fv w).length≤4000000000000:=R5 hn (Sw hr _)
def Z8 {w:Wld} {src:Int} {l:List Row} {self:Bool} {rc:List Int} (hl:Ko l=true) (hn:NS w.2.2.1):NS (Me w src l self rc).1∧(Me w src l self rc).1.length=w.2.2.1.length:=
 Ms (λ _ (b:List Nod×Bool)=>NS b.1∧b.1.length=w.2.2.1.length) ⟨hn,rfl⟩ (λ j b hj hb=>V7a hl hb (by have:=Ow (A4 (d:=0) hj);omega))
def O9a (w:Wld) (src:Int) (l:List Row) (self:Bool) (rc:List Int) (hr:RBd w.2.1) (hn:NS w.2.2.1) (hl:Ko l=true):
  Tot (λ k=>Bu k w src l self rc) (λ r=>r=((Me w src l self rc).2,wN w (Me w src l self rc).1)):=by
 have hll:=(Bia hl).1;unfold Bu;refine Hfb (Bva w hr hn.1) ?_;have hpl:=R6 hr hn.1;have hc:=λ x=>Ow (w:=w) (x:=x);have hrun:Me w src l self rc=run (gst src l self rc (Fv w)) (Fv w).length (w.2.2.1,true):=rfl
 have inv:∀ n,n≤(Fv w).length→NS (run (gst src l self rc (Fv w)) n (w.2.2.1,true)).1∧(run (gst src l self rc (Fv w)) n (w.2.2.1,true)).1.length=w.2.2.1.length:=λ n hn'=>
  Ms (λ _ (b:List Nod×Bool)=>NS b.1∧b.1.length=w.2.2.1.length) ⟨hn,rfl⟩ (λ j b hj hb=>V7a hl hb (by have:=hc _ (A4 (d:=0) (show j<(Fv w).length by omega));omega))
 generalize Fv w=ls at *;refine H5b (Q:=λ r=>r=((Me w src l self rc).2,wN w (Me w src l self rc).1)) ?_ (by rintro r rfl;exact H4b rfl);refine Hdb (L:=λ k j (a:List Nod×Bool)=>Am k src l self rc ls a.2 j (wN w a.1)) (Q:=λ r=>r=((Me w src l self rc).2,wN w (Me w src l self rc).1)) ls.length (λ j a=>a=run (gst src l self rc ls) j (w.2.2.1,true)) ?_ ?_ 0 (w.2.2.1,true) (Vq _) rfl
 ·rintro a rfl;simp (disch:=omega) only [Am,dF];exact H4b (by rw[hrun])
 ·rintro j a hj rfl next;obtain⟨i1,i2⟩:=inv j (by omega);rw[Nt]at next;generalize run (gst src l self rc ls) j (w.2.2.1,true)=a at *;obtain⟨ns,g⟩:=a;dsimp only at i1 i2;have hci:=hc _ (A4 (d:=0) hj);obtain⟨m,em⟩:∃ m:Nat,ls.getD j 0=(m:Int):=⟨(ls.getD j 0).toNat,by omega⟩;rw[em]at hci;unfold gst at next;rw[em,Int.toNat_natCast]at next;have e0:ns.getD m ((0:Int),(([],[]),([],[])))=ns.getD m Au:=rfl;have hm:=Sy (i1.get (i:=m) (by omega));have h12:=Doa (ns.getD m Au) l hm.2.1.1 hll;rw[show (bif decide ((Tl (ns.getD m Au).2.2.1 l).length > 60) then (false,(ns.getD m Au)) else (true,((ns.getD m Au).1,(ns.getD m Au).2.1,Tl (ns.getD m Au).2.2.1 l,(ns.getD m Au).2.2.2)))=tk (ns.getD m Au) l from rfl]at h12
  have body:(bif (m:Int)==src&&!self then false else true)=true→Tot (λ k=>(C9 rc (j:Int)).bind λ r2=>cond (r2 != 1) (Am k src l self rc ls false ((j:Int)+1) (wN w ns)) (cond (decide ((0:Int)≤(m:Int))) (cond (decide ((m:Int)<(length ns:Int))) ((Ii k (ns.getD m Au) l).bind λ r5=>cond (!r5.1) (Am k src l self rc ls false ((j:Int)+1) (wN w (ns.set m r5.2))) (Am k src l self rc ls g ((j:Int)+1) (wN w (ns.set m r5.2)))) none) none)) (λ r=>r=((Me w src l self rc).2,wN w (Me w src l self rc).1)):=by
   intro hb
   have hb':((m:Int)==src&&!self)=false:=by
    cases hx:((m:Int)==src&&!self) with
    |false=>rfl
    |true=>rw[hx]at hb;cases hb
   rw[hb']at next;simp only[Lca,Vn]
   cases h1:rch rc j != 1 with
   |true=>
    rw[h1]at next;exact H7b rfl (next _ rfl)
   |false=>
    rw[h1]at next;refine H6b rfl (H8b (by omega) (H8b (by omega) (H5b h12 ?_)));rintro q rfl;dsimp only at next;generalize tk (ns.getD m Au) l=q at *
    cases h2:q.1 with
    |false=>rw[h2]at next;exact H7b rfl (next _ rfl)
    |true=>rw[h2]at next;exact H6b rfl (next _ rfl)
  simp (disch:=omega) only [Am,dT,Vc,w64,em,e0]
  cases hz:(m:Int)==src with
  |true=>
   rw[hz]at next body;refine H7b rfl ?_;cases self
   ·exact H7b rfl (next _ rfl)
   refine H6b rfl ?_;have:=body rfl;dsimp only[wN]at this ⊢;simp (disch:=omega) only [dT]at this;exact this
  |false=>
   rw[hz]at next body;refine H6b rfl ?_;have:=body rfl;dsimp only[wN]at this ⊢;simp (disch:=omega) only [dT]at this;exact this
def Q8a {r:Row} (h:Nq r=true):Ko [r]=true:=My.2 ⟨J0b _ _,λ x hx=>by rw[Vu.1 hx];exact h,by simp⟩
def X5:Ko []=true:=My.2 ⟨List.Pairwise.nil,(λ _ hx=>nomatch hx),Vq _⟩
def Oaa (n:Nod):Nod:=(n.1,n.2.1,[],n.2.2.2)
def Fwb (n:Nod) (q:List Row):Nod:=(n.1,n.2.1,n.2.2.1,q)
def Oba {n:Nod} (hn:NG n):NG (Oaa n):=by
 obtain⟨h1,h2,h3,h4,h5⟩:=Bw.1 hn.1;exact⟨Bw.2 ⟨h1,h2,h3,X5,h5⟩,hn.2⟩
def Alb {n:Nod} {q:List Row} (hn:NG n) (h:∀ r∈q,Nq r=true) (hl:q.length≤60):NG (Fwb n q):=by
 obtain⟨h1,h2,h3,h4,h5⟩:=Bw.1 hn.1;exact⟨Bw.2 ⟨h,h2,h3,h4,hl⟩,hn.2⟩
def Om (w:Wld) (i:Nat) (rc:List Int):List Nod×Bool:=Me w (i:Int) (w.2.2.1.getD i Au).2.2.1 false rc
def X6 (w:Wld) (i:Nat) (rc:List Int):Bool×Wld:=bif ((w.2.2.1.getD i Au).2.2.1.length:Int)==0 then (false,w) else
 (true,wN w (bif (Om w i rc).2&&!(O7 (Fv (wN w (Om w i rc).1)) (i:Int)) then (Om w i rc).1.set i (Oaa ((Om w i rc).1.getD i Au)) else (Om w i rc).1))
def V8a (w:Wld) (i:Nat) (rc:List Int) (hr:RBd w.2.1) (hn:NS w.2.2.1) (hi:i<w.2.2.1.length):Tot (λ k=>Hl k w (i:Int) rc) (λ r=>r=X6 w i rc):=by
 have hni:=hn.get hi;have e0:w.2.2.1.getD i ((0:Int),(([],[]),([],[])))=w.2.2.1.getD i Au:=rfl;have hl:=(Bw.1 hni.1).2.2.2.1;unfold Hl X6;simp (disch:=omega) only [dT,Vc,e0];cases hz:((w.2.2.1.getD i Au).2.2.1.length:Int)==0
 case true=>exact H7b rfl (H4b rfl)
 refine H6b rfl (Hfb (O9a w (i:Int) _ false rc hr hn hl) ?_);obtain⟨p1,p2⟩:=Z8 (w:=w) (src:=(i:Int)) (self:=false) (rc:=rc) hl hn;rw[show Me w (i:Int) (w.2.2.1.getD i Au).2.2.1 false rc=Om w i rc from rfl]at p1 p2 ⊢;generalize Om w i rc=a at *;obtain⟨ns,g⟩:=a;dsimp only at p1 p2 ⊢;cases g
 ·exact H6b rfl (H4b rfl)
 refine H7b rfl ?_;refine H5b (Q:=λ r=>r=O7 (Fv (wN w ns)) (i:Int)) ?_ ?_
 ·unfold Jn;refine Hfb (Bva (wN w ns) hr p1.1) ?_;refine Hfb (Tt _ _ (by have:=R6 (w:=wN w ns) hr p1.1;omega)) ?_;exact H4b rfl
 ·rintro b rfl;cases O7 (Fv (wN w ns)) (i:Int)
  case true=>exact H6b rfl (H4b rfl)
  have e1:ns.getD i ((0:Int),(([],[]),([],[])))=ns.getD i Au:=rfl;refine H7b rfl ?_;simp (disch:=omega) only [dT,Vc,e1];exact H4b rfl
def Pc (w:Wld) (i:Nat) (rc:List Int):List Nod×Bool:=Me w (i:Int) ((w.2.2.1.getD i Au).2.2.2.take 1) true rc
def X7 (w:Wld) (i:Nat) (rc:List Int):Bool×Wld:=bif ((w.2.2.1.getD i Au).2.2.2.length:Int)==0 then (false,w) else
 (true,wN w (bif (Pc w i rc).2 then (Pc w i rc).1.set i (Fwb ((Pc w i rc).1.getD i Au) ((w.2.2.1.getD i Au).2.2.2.drop 1)) else (Pc w i rc).1))
def R7 {q:List Row} (h:∀ r∈q,Nq r=true):Ko (q.take 1)=true:=by
 cases q with
 |nil=>exact X5
 |cons r q=>exact Q8a (h r Yv)
def V9a (w:Wld) (i:Nat) (rc:List Int) (hr:RBd w.2.1) (hn:NS w.2.2.1) (hi:i<w.2.2.1.length):Tot (λ k=>Hk k w (i:Int) rc) (λ r=>r=X7 w i rc):=by
 have hni:=hn.get hi;have e0:w.2.2.1.getD i ((0:Int),(([],[]),([],[])))=w.2.2.1.getD i Au:=rfl;obtain⟨hq,_,_,_,hq60⟩:=Bw.1 hni.1;have hl:=R7 hq;unfold Hk X7;simp (disch:=omega) only [dT,Vc,e0];cases hz:((w.2.2.1.getD i Au).2.2.2.length:Int)==0
 case true=>exact H7b rfl (H4b rfl)
 have h1:=beq_eq_false_iff_ne.1 hz;refine H6b rfl (H8b (by omega) (Hfb (O9a w (i:Int) _ true rc hr hn hl) ?_));obtain⟨p1,p2⟩:=Z8 (w:=w) (src:=(i:Int)) (self:=true) (rc:=rc) hl hn;rw[show Me w (i:Int) ((w.2.2.1.getD i Au).2.2.2.take (toNat 1)) true rc=Pc w i rc from rfl];rw[show Me w (i:Int) ((w.2.2.1.getD i Au).2.2.2.take 1) true rc=Pc w i rc from rfl]at p1 p2;generalize Pc w i rc=a at *;obtain⟨ns,g⟩:=a;dsimp only at p1 p2 ⊢;cases g
 ·exact H6b rfl (H4b rfl)
 refine H7b rfl (H8b (by omega) (Hcb (by rw[Wc,Vj];omega) ?_));have e1:ns.getD i ((0:Int),(([],[]),([],[])))=ns.getD i Au:=rfl;simp (disch:=omega) only [dT,Vc,e1,Wa];exact H4b rfl
def Vaa:∀ (k:Nat) (l:List ByteArray) (s:ByteArray),k<l.length→∃ j,j≤k∧(J6a l k s).2=j∧(J6a l k s).1.set j s=l.take j++s::((l.take k).drop j++l.drop (k+1))∧(∀ y∈(l.take k).drop j,tlt s y=true)∧(0<j→tlt s (l.getD (j-1) Nw)=false)
 |0,l,s,hk=>by
  refine⟨0,Vx _,rfl,?_,λ y hy=>by simp at hy,λ h=>by omega⟩
  cases l with
  |nil=>simp at hk
  |cons x l=>rfl
 |k+1,l,s,hk=>by
  unfold J6a
  cases hc:tlt s (l.getD k Nw) with
  |false=>
   rw[cond_false];refine⟨k+1,Vx _,rfl,?_,λ y hy=>?_,λ _=>hc⟩
   ·rw[Ibb,I8b,Hib,Wa];exact Hxb .. |>.trans (if_pos hk)
   ·rw[Ibb,I8b,Hib]at hy;cases hy
  |true=>
   rw[cond_true];obtain⟨j,h1,h2,h3,h4,h5⟩:=Vaa k (l.set (k+1) (l.getD k Nw)) s (by rw[Vw];omega)
   have t1:(l.set (k+1) (l.getD k Nw)).take j=l.take j:=by rw[Jkb (by omega)]
   have t2:(l.set (k+1) (l.getD k Nw)).take k=l.take k:=by rw[Jkb (by omega)]
   have t3:(l.set (k+1) (l.getD k Nw)).drop (k+1)=l.getD k Nw::l.drop (k+2):=by
    rw[Za (by rw[Vw];exact hk),List.getElem_set_self,List.drop_set_of_lt (by omega)]
   have t4:l.take (k+1)=l.take k++[l.getD k Nw]:=by
    rw[We (by omega),Vb,Vk (by omega),Yq]
   have hlk:(l.take k).length=k:=by rw[Vt];omega
   rw[t1,t2,t3]at h3;rw[t2]at h4;refine⟨j,by omega,h2,?_,λ y hy=>?_,λ h=>?_⟩
   ·rw[h3,t4,Jdb (by omega),Vo];rfl
   ·rw[t4,Jdb (by omega)]at hy;rcases Vp.1 hy with hy|hy
    ·exact h4 y hy
    ·rw[Vu.1 hy];exact hc
   ·have:=h5 h;rwa [Vb,Ihb (by omega),← Vb]at this
def Dqa {l:List ByteArray} {s:ByteArray}:∃ j,j≤l.length∧Aib l s=l.take j++s::l.drop j∧(∀ y∈l.drop j,tlt s y=true)∧(0<j→tlt s (l.getD (j-1) Nw)=false):=by
 obtain⟨j,h1,h2,h3,h4,h5⟩:=Vaa l.length (l++[s]) s (by simp)
 have t1:(l++[s]).take l.length=l:=by rw[Jeb (Vx _),Yn]
 have t2:(l++[s]).drop (l.length+1)=[]:=J1b (by simp);have t3:(l++[s]).take j=l.take j:=Jeb h1;rw[t1]at h4;rw[t1,t2,t3,Wp]at h3;refine⟨j,h1,?_,h4,λ h=>?_⟩
 ·unfold Aib;rw[h2,h3]
 ·have:=h5 h;rwa [Vb,Yb (by omega),← Vb]at this
def spl (l:List ByteArray) (s:ByteArray):List ByteArray:=bif Fqa l s then l else Aib l s
def Fma {l:List ByteArray} {s y:ByteArray}:y∈spl l s↔y=s∨y∈l:=by
 unfold spl
 cases h:Fqa l s with
 |true=>
  have:=O5a.1 h;exact⟨.inr,λ h=>h.elim (λ e=>e ▸ this) id⟩
 |false=>
  obtain⟨j,_,e,_⟩:=Dqa (l:=l) (s:=s);rw[cond_false,e,Vp,Vl]
  conv=>rhs;rw[← Wo j l,Vp]
  constructor
  ·rintro (h|h|h)
   ·exact .inr (.inl h)
   ·exact .inl h
   ·exact .inr (.inr h)
  ·rintro (h|h|h)
   ·exact .inr (.inl h)
   ·exact .inl h
   ·exact .inr (.inr h)
def Dra {l:List ByteArray} {s:ByteArray} (h:TS l):TS (spl l s):=by
 unfold spl;cases hh:Fqa l s
 case true=>exact h
 have hn:s∉l:=λ c=>by rw[O5a.2 c]at hh;cases hh
 obtain⟨j,h1,e,h4,h5⟩:=Dqa (l:=l) (s:=s);rw[cond_false,e]
 have hs:∀ y∈l.take j,tlt y s=true:=by
  intro y hy
  by_cases hj:0<j
  ·have hlast:l.getD (j-1) Nw∈l:=A4 (by omega)
   have hlt:tlt (l.getD (j-1) Nw) s=true:=by
    cases hc:tlt (l.getD (j-1) Nw) s with
    |true=>rfl
    |false=>exact absurd (Awa hc (h5 hj) ▸ hlast) hn
   obtain⟨i,hi,rfl⟩:=Zl.1 hy;rw[Vt]at hi;rw[List.getElem_take]
   by_cases hij:i=j-1
   ·subst hij;rwa [Vb,Vk (by omega),Yq]at hlt
   ·have:=Hkb.1 h i (j-1) (by omega) (by omega) (by omega);rw[Vb,Vk (by omega),Yq]at hlt;exact Nb this hlt
  ·rw[show j=0 by omega,Hib]at hy;cases hy
 have hd:TS (l.drop j):=h.sublist (List.drop_sublist _ _);have ht:TS (l.take j):=h.sublist (Jzb _ _)
 exact Ze.2 ⟨ht,Wk.2 ⟨h4,hd⟩,λ a ha b hb=>by
  rcases Vl.1 hb with rfl|hb
  ·exact hs a ha
  ·exact Nb (hs a ha) (h4 b hb)⟩
def Vba (l:List ByteArray) (s:ByteArray) (hl:l.length≤5000000):Tot (λ k=>Dl k l s) (λ r=>r=spl l s):=by
 unfold Dl spl;refine Hfb (O6a l s (by omega)) ?_;cases Fqa l s
 case true=>exact H7b rfl (H4b rfl)
 have loop:∀ (k:Nat) (x:List ByteArray),k<x.length→x.length≤5000001→Tot (λ n=>F3 n s x (k:Int)) (λ r=>r=(s,(J6a x k s).1,((J6a x k s).2:Int))):=by
  intro k
  induction k with
  |zero=>
   intro x hk hx;refine Tot.succ ?_;simp (disch:=omega) only [F3,dF];exact H4b rfl
  |succ k ih=>
   intro x hk hx;refine Tot.succ ?_
   have e1:((k+1:Nat):Int)-1=(k:Int):=by omega
   have e0:x.getD k (⟨#[]⟩:ByteArray)=x.getD k Nw:=rfl;simp (disch:=omega) only [F3,dT,w64,e1,Vc,e0,Hba];unfold J6a;refine Hab (λ h=>?_) (λ h=>?_)
   ·rw[h,cond_true];exact ih _ (by rw[Vw];omega) (by rw[Vw];omega)
   ·rw[h,cond_false];exact H4b rfl
 have n0:([]:List ByteArray).length=0:=rfl;have n1:([s]:List ByteArray).length=1:=rfl
 have nl:(l++[s]).length=l.length+1:=by simp
 refine H6b rfl (Hcb (by rw[n0];omega) ?_);simp only[Wa];refine Hcb (by rw[n1];omega) ?_;rw[nl,w64 (n:=((l.length+1:Nat):Int)-1) (by omega) (by omega),show ((l.length+1:Nat):Int)-1=(l.length:Int) by omega];refine Hfb (loop l.length (l++[s]) (by omega) (by omega)) ?_;obtain⟨i1,i2,_⟩:=Bra l.length (l++[s]) s;simp (disch:=omega) only [dT,Vc];exact H4b rfl

abbrev Evt:=Int×Int×ByteArray×List Int×Int×List Int
def Fxb (e:Evt):Prop:=Lc e.2.2.1∧e.2.2.2.1.length≤1000000000∧(-9223372036854775808≤e.2.2.2.2.1∧e.2.2.2.2.1≤9223372036854775807)∧e.2.2.2.2.2.length≤4000000000000
def Ipa (l:List Int):List Bool:=l.map (· == 1)
def crN (n:Nod) (kp:List Bool):Nod:=(n.1,Tv n.2.1 kp,n.2.2)
def Fdb {n:Nod} {kp:List Bool} (hn:NG n):NG (crN n kp):=Fca hn (Uqa hn.g)
def Dpb (w:Wld) (i:Nat) (s:ByteArray) (b:Int):Bool×Wld:=bif (Nra (w.2.2.1.getD i Au) s b).2 then (true,(w.1,w.2.1,w.2.2.1.set i (Nra (w.2.2.1.getD i Au) s b).1,w.2.2.2.1,w.2.2.2.2.1,spl w.2.2.2.2.2 s)) else (false,w)
def Iqa (w:Wld) (e:Evt) (i:Nat):Bool×Wld:=
 bif e.1==3 then V1 w i e.2.2.1 e.2.2.2.2.2 else bif e.1==4 then X6 w i e.2.2.2.2.2 else bif e.1==5 then X7 w i e.2.2.2.2.2 else
 bif e.1==6 then (true,wN w (w.2.2.1.set i (Dob (w.2.2.1.getD i Au)).1)) else
 bif e.1==7 then (true,wN w (w.2.2.1.set i (crN (w.2.2.1.getD i Au) (Ipa e.2.2.2.2.2)))) else Dpb w i e.2.2.1 e.2.2.2.2.1
def Vca (w:Wld) (e:Evt) (i:Nat) (hei:e.2.1=(i:Int)) (he:Fxb e) (hr:Jf w.2.1 w.1=true) (hn:NS w.2.2.1) (hi:i<w.2.2.1.length) (hsp:w.2.2.2.2.2.length≤2000000):
  Tot (λ k=>B3 k w e) (λ r=>r=Iqa w e i):=by
 have hni:=hn.get hi;have e0:w.2.2.1.getD i ((0:Int),(([],[]),([],[])))=w.2.2.1.getD i Au:=rfl;obtain⟨he1,he2,he3,he4⟩:=he;unfold B3 Iqa
 cases e.1==3 with
 |true=>
  rw[hei];refine H7b rfl (Hfb (Yua w i _ _ hr hn hi) ?_);exact H4b rfl
 |false=>
  refine H6b rfl ?_
  cases e.1==4 with
  |true=>
   rw[hei];refine H7b rfl (Hfb (V8a w i _ (N6 hr) hn hi) ?_);exact H4b rfl
  |false=>
   refine H6b rfl ?_
   cases e.1==5 with
   |true=>
    rw[hei];refine H7b rfl (Hfb (V9a w i _ (N6 hr) hn hi) ?_);exact H4b rfl
   |false=>
    refine H6b rfl ?_
    cases e.1==6 with
    |true=>
     refine H7b rfl ?_;simp (disch:=omega) only [hei,dT,Vc,e0];refine Hfb (Uva _ hni.g) ?_;exact H4b rfl
    |false=>
     refine H6b rfl ?_
     cases e.1==7 with
     |true=>
      refine H7b rfl (H5b (Q:=λ r=>r=(Ipa e.2.2.2.2.2,w,e)) ?_ ?_)
      ·refine Hdb (L:=λ k j (s:List Bool)=>Da k s j w e) (Q:=λ r=>r=(Ipa e.2.2.2.2.2,w,e)) e.2.2.2.2.2.length (λ j s=>s=Ipa (e.2.2.2.2.2.take j)) ?_ ?_ 0 [] (Vq _) rfl
       ·rintro s rfl;simp (disch:=omega) only [Da,dF];exact H4b (by rw[Yn])
       ·rintro j s hj rfl next;simp (disch:=omega) only [Da,dT,Vc,w64]
        have hk:(Ipa (e.2.2.2.2.2.take j)).length=j:=by unfold Ipa;rw[Wh,Vt];omega
        refine Hcb (by rw[hk,J7b];omega) (next _ ?_);unfold Ipa;rw[We hj,Hrb,Vb,Vk hj];rfl
      ·rintro r rfl;simp (disch:=omega) only [hei,dT,Vc,e0];refine Hfb (Uta _ _ hni.g (by unfold Ipa;rw[Wh];exact he4)) ?_;exact H4b rfl
     |false=>
      refine H6b rfl ?_;simp (disch:=omega) only [hei,dT,Vc,e0];refine Hfb (Bla _ _ _ (Sy hni) he3.2 he3.1) ?_;unfold Dpb;rw[cond_false,cond_false,cond_false,cond_false,cond_false];generalize Nra (w.2.2.1.getD i Au) e.2.2.1 e.2.2.2.2.1=q
      cases h:q.2 with
      |true=>
       refine H7b rfl (Hfb (Vba _ _ (by omega)) ?_);exact H4b rfl
      |false=>exact H6b rfl (H4b rfl)
def Lda (w:Wld) (i wt:Int):Bool×Wld:=bif !(inR i 0 ((w.1.length:Int)-1)) then (false,w) else bif !(inR wt 1 1000) then (false,w) else
 (decide ((L8a w.2.1 (wgt w.1 i.toNat wt)).2≥0),(wgt w.1 i.toNat wt,(L8a w.2.1 (wgt w.1 i.toNat wt)).1,w.2.2))
def Vda (w:Wld) (i wt:Int) (hr:Jf w.2.1 w.1=true):Tot (λ k=>Hq k w i wt) (λ r=>r=Lda w i wt):=by
 have h12:=(H1.1 (D6.1 hr).1).2.2.2;unfold Hq Lda;rw[w64 (n:=(w.1.length:Int)-1) (by omega) (by omega)];simp only[Oq,Vn];cases h1:inR i 0 ((w.1.length:Int)-1)
 ·exact H7b rfl (H4b rfl)
 refine H6b rfl ?_;cases h2:inR wt 1 1000
 ·exact H7b rfl (H4b rfl)
 refine H6b rfl ?_;obtain⟨i0,i1⟩:=Et.1 h1;obtain⟨w0,w1⟩:=Et.1 h2;simp (disch:=omega) only [dT];refine Hfb (Una (r:=w.2.1) (l:=wgt w.1 i.toNat wt) (F8a hr (by omega) w0 w1)) ?_;exact H4b rfl
def Amb (r:Int×Wld):Bool×Wld:=bif r.1 != 2 then (r.1 != 3,r.2) else (false,r.2)
def doW (w:Wld) (e:Evt):Bool×Wld:=
 bif e.1==1 then Amb (ask w e.2.2.1 ((0,0,0),false,e.2.2.2.1) e.2.2.2.2.1 e.2.2.2.2.2) else
 bif e.1==2 then Amb (ask w e.2.2.1 ((0,0,0),true,[]) e.2.2.2.2.1 e.2.2.2.2.2) else
 bif e.1==3||(e.1==4||(e.1==5||(e.1==6||(e.1==7||e.1==8)))) then (bif inR e.2.1 0 ((w.2.2.1.length:Int)-1) then Iqa w e e.2.1.toNat else (false,w)) else
 bif e.1==9 then Lda w e.2.1 e.2.2.2.2.1 else (false,w)
def Feb (w:Wld) (e:Evt) (he:Fxb e) (hr:Jf w.2.1 w.1=true) (hn:NS w.2.2.1) (hst:Gz w.2.2.2.1=true) (hw:w.2.2.2.2.1.length≤2000000) (hsp:w.2.2.2.2.2.length≤2000000):
  Tot (λ k=>Jd k w e) (λ r=>r=doW w e):=by
 have hnl:=hn.1
 have node:∀ {f:Nat→Option (Bool×Wld)} ,Tot (λ k=>(A9 e.2.1 0 (wrap .i64 ((length w.2.2.1:Int)-1))).bind λ r4=>cond r4 ((B3 k w e).bind λ r5=>some (r5.1,r5.2)) (some (false,w))) (λ r=>r=bif inR e.2.1 0 ((w.2.2.1.length:Int)-1) then Iqa w e e.2.1.toNat else (false,w)):=by
  intro f;rw[w64 (n:=(w.2.2.1.length:Int)-1) (by omega) (by omega)];simp only[Oq,Vn];cases h1:inR e.2.1 0 ((w.2.2.1.length:Int)-1)
  ·exact H6b rfl (H4b rfl)
  obtain⟨i0,i1⟩:=Et.1 h1;refine H7b rfl (Hfb (Vca w e e.2.1.toNat (by omega) he hr hn (by omega) hsp) ?_);exact H4b rfl
 have answer:∀ (q:Int×Wld),Tot (λ _=>cond (q.1 != 2) (some (q.1 != 3,q.2)) (some (false,q.2))) (λ r=>r=Amb q):=by
  intro q;unfold Amb
  cases q.1 != 2<;>exact H4b rfl
 unfold Jd doW
 cases e.1==1 with
 |true=>
  refine H7b rfl (Hcb (by have:=he.2.1;rw[Vj];omega) (Hfb (V5a w e.2.2.1 ((0,0,0),false,e.2.2.2.1) e.2.2.2.2.1 e.2.2.2.2.2 hr hn hst he.1 (λ h=>by cases h) hw) ?_));exact answer _
 |false=>
  refine H6b rfl ?_
  cases e.1==2 with
  |true=>
   refine H7b rfl (Hfb (V5a w e.2.2.1 ((0,0,0),true,[]) e.2.2.2.2.1 e.2.2.2.2.2 hr hn hst he.1 (λ _=>rfl) hw) ?_);exact answer _
  |false=>
   refine H6b rfl ?_;cases e.1==3
   case true=>exact H7b rfl (node (f:=λ _=>none))
   refine H6b rfl ?_;cases e.1==4
   case true=>exact H7b rfl (node (f:=λ _=>none))
   refine H6b rfl ?_;cases e.1==5
   case true=>exact H7b rfl (node (f:=λ _=>none))
   refine H6b rfl ?_;cases e.1==6
   case true=>exact H7b rfl (node (f:=λ _=>none))
   refine H6b rfl ?_;cases e.1==7
   case true=>exact H7b rfl (node (f:=λ _=>none))
   refine H6b rfl ?_;cases e.1==8
   case true=>exact H7b rfl (node (f:=λ _=>none))
   refine H6b rfl ?_
   cases e.1==9 with
   |true=>
    refine H7b rfl (Hfb (Vda w _ _ hr) ?_);exact H4b rfl
   |false=>exact H6b rfl (H4b rfl)

end Go.Proofs.YtiiekghlhfbmmaaGreat.Vf
