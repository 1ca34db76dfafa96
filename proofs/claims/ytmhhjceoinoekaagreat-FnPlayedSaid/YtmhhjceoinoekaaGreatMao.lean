import Derived.Test.YtmhhjceoinoekaaGreatMan
set_option linter.all false
namespace Go.Proofs.YtmhhjceoinoekaaGreat.Vf
open Go
open List (length getD)
open Int (toNat)
open Go.IntKind (wrap)
open BitVec (ofInt)
def Zg:=@List.mem_range
def Kgb:=@List.all_append

def mk0 (s:ByteArray):Nmd:=(s,[])
def Y2 {ns:List ByteArray} (h:TS ns):Hh (ns.map mk0):=by
 unfold Hh
 rw[Hqb]
 exact h
def Amb {ns:List ByteArray} (h:TS ns) {t:ByteArray}:(t∈ns→gt (ns.map mk0) t=some [])∧(t∉ns→gt (ns.map mk0) t=none):=by
 refine⟨λ ht=>?_,λ ht=>Ox.2 λ x hx e=>?_⟩
 ·exact Lba (Y2 h) (x:=mk0 t) (Ys ht)
 ·obtain⟨s,hs,rfl⟩:=Zc.1 hx
  exact ht (by rw[← e];exact hs)
def F8b {ns:List ByteArray} (h:TS ns) (s:ByteArray):ptl (s,[]) false (ns.map mk0)=(wt ns s).map mk0:=by
 have h1:=Y2 h
 rw[Xw _ h1]
 refine Aeb (Tg (Ov h1) C6a) (Y2 (Qu h)) λ t=>?_
 have e:=Lea h1 (s:=s) (t:=t) (b:=[])
 unfold wr at e
 rw[e]
 have g1:=Amb h (t:=t)
 have g2:=Amb (Qu (s:=s) h) (t:=t)
 by_cases hst:s=t
 ·rw[if_pos hst,g2.1 (Ifa.2 (.inl hst.symm))]
 ·rw[if_neg hst]
  by_cases ht:t∈ns
  ·rw[g1.1 ht,g2.1 (Ifa.2 (.inr ht))]
  ·rw[g1.2 ht,g2.2 (λ c=>(Ifa.1 c).elim (λ e=>hst e.symm) ht)]
def Uwa (a b:List Nmd) (ha:a.length≤2000000) (hb:b.length≤2000000):Tot (λ k=>Ct k a b) (λ r=>r=nms (a,b)):=by
 unfold Ct
 have put:∀ {ns:List ByteArray} (x:Nmd),TS ns→ns.length≤5000000→Tot (λ k=>Gb k (ns.map mk0) x.1 []) (λ r=>r=(wt ns x.1).map mk0):=λ x ht hl=>(Fna _ x.1 [] (by rw[Wf];omega) (by simp)).mono λ r hr=>by rw[hr,F8b ht]
 refine H4b (Q:=λ r=>r=(b,(Rn a []).map mk0)) ?_ ?_
 ·refine Hcb (L:=λ k i s=>Gw k a b s i) (Q:=λ r=>r=(b,(Rn a []).map mk0)) a.length (λ j s=>∃ ns,s=ns.map mk0∧TS ns∧Rn (a.drop j) ns=Rn a []∧ns.length≤j) ?_ ?_ 0 [] (Vo _) ⟨[],rfl,List.Pairwise.nil,rfl,Vv _⟩
  ·rintro s ⟨ns,rfl,_,h,_⟩
   rw[Vz]at h
   simp (disch:=omega) only [Gw,dF]
   exact H3b (by rw[← h];rfl)
  ·rintro j s hj ⟨ns,rfl,ht,h,hl⟩ next
   rw[Ad (d:=C3) hj]at h
   simp (disch:=omega) only [Gw,dT,Va,w64]
   refine Hfb (put (a.getD j C3) ht (by omega)) ?_
   have:=O1a (l:=ns) (s:=(a.getD j C3).1)
   exact next _ ⟨_,rfl,Qu ht,h,by omega⟩
 ·rintro r rfl
  have hla:(Rn a []).length≤2000000:=by have:=Sz a [];rw[Vj]at this;omega
  have e:Rn b (Rn a [])=nms (a,b):=by unfold nms Rn;rw[Ibb]
  refine H4b (Q:=λ r=>r=(nms (a,b)).map mk0) ?_ ?_
  ·refine Hcb (L:=λ k i s=>Gv k b s i) (Q:=λ r=>r=(nms (a,b)).map mk0) b.length (λ j s=>∃ ns,s=ns.map mk0∧TS ns∧Rn (b.drop j) ns=nms (a,b)∧ns.length≤2000000+j) ?_ ?_ 0 _ (Vo _) ⟨_,rfl,G1a _ _ List.Pairwise.nil,e,by omega⟩
   ·rintro s ⟨ns,rfl,_,h,_⟩
    rw[Vz]at h
    simp (disch:=omega) only [Gv,dF]
    exact H3b (by rw[← h];rfl)
   ·rintro j s hj ⟨ns,rfl,ht,h,hl⟩ next
    rw[Ad (d:=C3) hj]at h
    simp (disch:=omega) only [Gv,dT,Va,w64]
    refine Hfb (put (b.getD j C3) ht (by omega)) ?_
    have:=O1a (l:=ns) (s:=(b.getD j C3).1)
    exact next _ ⟨_,rfl,Qu ht,h,by omega⟩
  ·rintro r rfl
   have hln:(nms (a,b)).length≤4000000:=by rw[← e];have:=Sz b (Rn a []);omega
   refine H4b (Q:=λ r=>r=nms (a,b)) ?_ (by rintro r rfl;exact H3b rfl)
   refine Hcb (L:=λ k i s=>Fo k ((nms (a,b)).map mk0) s i) (Q:=λ r=>r=nms (a,b)) (nms (a,b)).length (λ j s=>s=(nms (a,b)).take j) ?_ ?_ 0 [] (Vo _) rfl
   ·rintro s rfl
    simp (disch:=omega) only [Fo,Wf,dF,Yo]
    exact H3b rfl
   ·rintro j s hj rfl next
    simp (disch:=omega) only [Fo,Wf,dT,Va,w64]
    refine Hbb (by simp only[Vs,Vd,Vj];omega) (next _ ?_)
    rw[Wk hj,Vc,Hib,Vk hj]
    rfl
def Uxa (d:Dsk) (kp:List Bool) (hd:DG d) (hk:kp.length≤4000000000000):Tot (λ k=>E5 k d kp) (λ r=>r=Ro d kp):=by
 have hin:=Oi hd.1
 have g1:=(Am.1 (E8.1 hd.1).1).2.2
 have g2:=(Am.1 (E8.1 hd.1).2).2.2
 unfold E5
 refine Hfb (Rh d hin.1.1 hin.1.2) ?_
 rw[hd.1]
 refine H5b rfl (Hfb (Uwa d.1 d.2 (by omega) (by omega)) ?_)
 have hn:(nms d).length≤120:=by
  have:=Sz (d.1++d.2) []
  rw[Vj,Ve]at this
  exact Zl this (by omega)
 refine H4b (Q:=λ r=>r=(S4 kp d.1 d.2 (nms d) 0,d,([],[]))) ?_ ?_
 ·refine Hcb (L:=λ k i s=>Ax k kp (nms d) s i d ([],[])) (Q:=λ r=>r=(S4 kp d.1 d.2 (nms d) 0,d,([],[]))) (nms d).length (λ j s=>s++S4 kp d.1 d.2 ((nms d).drop j) j=S4 kp d.1 d.2 (nms d) 0∧s.length≤j) ?_ ?_ 0 [] (Vo _) ⟨rfl,Vv _⟩
  ·rintro s ⟨h,_⟩
   rw[Vz,Ura,Wn]at h
   simp (disch:=omega) only [Ax,dF]
   exact H3b (by rw[h])
  ·rintro j s hj ⟨h,hs⟩ next
   rw[Ad (d:=Nm) hj]at h
   rw[Ofa,← Vp]at h
   simp (disch:=omega) only [Ax,dT,Va,w64]
   have hl:=Uqa (pk (bif kp.getD j false then d.1 else d.2) ((nms d).getD j Nm))
   have nx:=next (s++pk1 (pk (bif kp.getD j false then d.1 else d.2) ((nms d).getD j Nm))) ⟨h,by rw[Ve];omega⟩
   have e0:(nms d).getD j (⟨#[]⟩:ByteArray)=(nms d).getD j Nm:=rfl
   rw[e0]
   refine Hab (λ hc=>?_) (λ hc=>?_)
   ·refine H7b (by omega) (H9b (λ hk=>?_) (λ hk=>?_))
    ·rw[hk]at nx
     exact G3a (L:=λ k acc=>Ax k kp (nms d) acc ((j:Int)+1) d ([],[])) d.1 _ s (by omega) (by omega) nx
    ·rw[hk]at nx
     exact G3a (L:=λ k acc=>Ax k kp (nms d) acc ((j:Int)+1) d ([],[])) d.2 _ s (by omega) (by omega) nx
   ·have hk:kp.getD j false=false:=by rw[Vc,Zf (by omega)];rfl
    rw[hk]at nx
    exact G3a (L:=λ k acc=>Ax k kp (nms d) acc ((j:Int)+1) d ([],[])) d.2 _ s (by omega) (by omega) nx
 ·rintro r rfl
  have hp:=Usa kp d.1 d.2 (nms d) 0
  unfold Ro
  refine Hab (λ h=>?_) (λ h=>?_)
  ·dsimp only at h
   rw[decide_eq_true (show (S4 kp d.1 d.2 (nms d) 0).length > 60 by omega)]
   refine Hfb (N3 d hin.1.1) ?_
   exact H3b rfl
  ·dsimp only at h
   have hc:decide ((S4 kp d.1 d.2 (nms d) 0).length > 60)=false:=decide_eq_false (by omega)
   have hg:=Lla (kp:=kp) hd
   unfold Ro at hg
   rw[hc]at hg ⊢
   rw[cond_false]at hg
   have hf:=(Oi hg.1).1.1.1
   refine Hfb (Q4 _ hf) ?_
   refine Hfb (Q4 _ hf) ?_
   exact H3b rfl
def Cub {d:Dsk} {s:ByteArray} {n:Int} (h:DG d) (hn:n≤9223372036854775807) (hn0 : -9223372036854775808≤n):Tot (λ k=>Ln k d s n) (λ r=>r=Cya d s n):=by
 have hin:=Oi h.1
 unfold Ln
 refine Hfb (J4 d hin.1.1) ?_
 refine Hfb (Z2 d.1 s hin.1.1.1.1) ?_
 refine Hfb (Z2 d.2 s hin.1.1.2.1) ?_
 refine Hfb (Q3 d hin.1.1 hin.1.2) ?_
 rw[h.1]
 refine H5b rfl ?_
 unfold Cya
 unfold Cxa
 cases hf:fnd d.1 s with
 |none=>
  have hg:gt d.1 s=none:=by unfold gt;rw[hf]
  rw[hg]
  exact H7b (by decide) (H3b rfl)
 |some i=>
  have hg:gt d.1 s=some (d.1.getD i C3).2:=by unfold gt;rw[hf]
  have hi:=(Oa hf).1
  have hnm:=(Oa hf).2
  have hb:=U7a h.1 hg
  rw[hg]
  have e0:d.1.getD i ((⟨#[]⟩:ByteArray),([]:List Int))=d.1.getD i C3:=rfl
  simp only[Va,e0]
  refine H8b (by omega) ?_
  have out:∀ {b:Bool},inR n 0 (8*((d.1.getD i C3).2.length:Int)-1)=b→b=false→(d,false)=bif inR n 0 (8*((d.1.getD i C3).2.length:Int)-1) then ((wr d.1 s (O3 (d.1.getD i C3).2 n.toNat),bif decide (gt d.2 s=some (d.1.getD i C3).2) then wr d.2 s (O3 (d.1.getD i C3).2 n.toNat) else d.2),true) else (d,false):=λ e e'=>by rw[e,e'];rfl
  refine Hab (λ hneg=>H3b (out rfl ?_)) (λ hneg=>?_)
  ·cases hc:inR n 0 (8*((d.1.getD i C3).2.length:Int)-1) with
   |false=>rfl
   |true=>have:=Cf.1 hc;omega
  ·obtain⟨m,rfl⟩:∃ m:Nat,n=(m:Int):=⟨n.toNat,by omega⟩
   have et:wrap .i64 (Int.tdiv (m:Int) 8)=((m/8:Nat):Int):=by
    rw[Hob (by omega),w64 (by omega) (by omega)]
    omega
   have eu:Int.tmod (m:Int) 8=((m % 8:Nat):Int):=by
    rw[Zw (by omega)]
    omega
   simp only[et,eu,Va,U9a _ _ (K2b m (show 0<8 by omega))]
   refine H7b (by omega) (H7b (by omega) (Hab (λ hc=>H3b (out rfl ?_)) (λ hc=>?_)))
   ·cases hr:inR (m:Int) 0 (8*((d.1.getD i C3).2.length:Int)-1) with
    |false=>rfl
    |true=>have:=Cf.1 hr;omega
   ·have hr:inR (m:Int) 0 (8*((d.1.getD i C3).2.length:Int)-1)=true:=Cf.2 ⟨by omega,by omega⟩
    have hm8:m/8<(d.1.getD i C3).2.length:=by omega
    rw[hr]
    refine H8b (by omega) (H7b (by omega) (H7b (by omega) (H7b (by omega) (H7b (by omega) (H7b (by omega) (H7b (by omega) ?_))))))
    have ew':d.1.set i ((d.1.getD i C3).1,(d.1.getD i C3).2.set (m/8) (Aaa ((d.1.getD i C3).2.getD (m/8) 0) (m % 8)))=wr d.1 s (O3 (d.1.getD i C3).2 m):=by rw[hnm];exact Ija (N9 h.1) hf _
    cases hf2:fnd d.2 s with
    |none=>
     have hg2:gt d.2 s=none:=by unfold gt;rw[hf2]
     rw[hg2]
     refine H8b (by decide) (H3b ?_)
     rw[ew']
     rfl
    |some j=>
     have hg2:gt d.2 s=some (d.2.getD j C3).2:=by unfold gt;rw[hf2]
     have hj:=(Oa hf2).1
     have hjn:=(Oa hf2).2
     have e1:d.2.getD j ((⟨#[]⟩:ByteArray),([]:List Int))=d.2.getD j C3:=rfl
     rw[hg2]
     simp only[Va,e1]
     refine H7b (by omega) (H7b (by omega) (H7b (by omega) (H7b (by omega) (H7b (by omega) ?_))))
     rw[St (h.2.2.gt hg2) (h.2.1.gt hg)]
     refine Hab (λ he=>?_) (λ he=>?_)
     ·have hl2:(d.2.getD j C3).2.length=(d.1.getD i C3).2.length:=by rw[he]
      refine H7b (by omega) (H7b (by omega) (H7b (by omega) (H7b (by omega) (H7b (by omega) (H7b (by omega) (H3b ?_))))))
      have ew2:d.2.set j ((d.2.getD j C3).1,(d.2.getD j C3).2.set (m/8) (Aaa ((d.2.getD j C3).2.getD (m/8) 0) (m % 8)))=wr d.2 s (O3 (d.1.getD i C3).2 m):=by
       rw[hjn,he]
       exact Ija (Pu h.1) hf2 _
      rw[ew',ew2,he,decide_eq_true rfl]
      rfl
     ·refine H3b ?_
      rw[ew',decide_eq_false (λ c=>he (K9b c))]
      rfl
def clS (o:Dsk×Int) (x:Nmd):Dsk×Int:=match On x.2 with
 |some _=>o
 |none=>((cut o.1.1 x.1,cut o.1.2 x.1),o.2+1)
def Nx (d:Dsk):Dsk×Int:=d.1.foldl clS (d,0)
def Qaa {l:List Nmd} {s:ByteArray} (h:gt l s=none):cut l s=l:=by
 refine List.filter_eq_self.2 λ x hx=>?_
 cases ht:teq x.1 s with
 |false=>rfl
 |true=>exact absurd (Iw.1 ht) (Ox.1 h x hx)
def F9b {d:Dsk} {s:ByteArray} (h:DG d):DG (cut d.1 s,cut d.2 s):=⟨E8.2 ⟨Z4 (E8.1 h.1).1,Z4 (E8.1 h.1).2⟩,h.2.1.cut s,h.2.2.cut s⟩
def Yoa {o:Dsk×Int} {x:Nmd} (h:DG o.1):DG (clS o x).1:=by
 unfold clS
 cases On x.2 with
 |some _=>exact h
 |none=>exact F9b h
def Oga:∀ (l:List Nmd) (o:Dsk×Int),DG o.1→DG (l.foldl clS o).1
 |[],_,h=>h
 |_::l,_,h=>Oga l _ (Yoa h)
def Ypa {d:Dsk} (h:DG d):DG (Nx d).1:=Oga _ _ h
def Gha (l:List Nmd):List ByteArray:=(l.filter λ x=>(On x.2).isNone).map Prod.fst
def Cha:∀ (l:List Nmd) (o:Dsk×Int),DG o.1→((l.foldl clS o).2=o.2+((Gha l).length:Int))∧∀ t,(t∈Gha l→gt (l.foldl clS o).1.1 t=none∧gt (l.foldl clS o).1.2 t=none)∧(t∉Gha l→gt (l.foldl clS o).1.1 t=gt o.1.1 t∧gt (l.foldl clS o).1.2 t=gt o.1.2 t)
 |[],o,h=>⟨by simp[Gha],λ t=>⟨λ c=>by simp[Gha]at c,λ _=>⟨rfl,rfl⟩⟩⟩
 |x::l,o,h=>by
  obtain⟨h1,h2⟩:=Cha l (clS o x) (Yoa h)
  rw[Yv]
  cases hx:On x.2 with
  |some f=>
   have e:Gha (x::l)=Gha l:=by unfold Gha;rw[Hnb,hx];rfl
   have ec:clS o x=o:=by unfold clS;rw[hx]
   rw[e]
   rw[ec]at h1 h2 ⊢
   exact⟨h1,h2⟩
  |none=>
   have e:Gha (x::l)=x.1::Gha l:=by unfold Gha;rw[Hnb,hx];rfl
   have ec:clS o x=((cut o.1.1 x.1,cut o.1.2 x.1),o.2+1):=by unfold clS;rw[hx]
   rw[e]
   rw[ec]at h1 h2 ⊢
   refine⟨by rw[h1,Vd];omega,λ t=>⟨λ ht=>?_,λ ht=>?_⟩⟩
   ·by_cases hb:t∈Gha l
    ·exact(h2 t).1 hb
    ·obtain⟨a1,a2⟩:=(h2 t).2 hb
     have:x.1=t:=by
      rcases Vl.1 ht with e|e
      ·exact e.symm
      ·exact absurd e hb
     rw[a1,a2,Wu (N9 h.1),Wu (Pu h.1),if_pos this,if_pos this]
     exact⟨rfl,rfl⟩
   ·obtain⟨a1,a2⟩:=(h2 t).2 (λ c=>ht (Vh _ c))
    have:x.1≠t:=λ e=>ht (by rw[← e];exact Yb)
    rw[a1,a2,Wu (N9 h.1),Wu (Pu h.1),if_neg this,if_neg this]
    exact⟨rfl,rfl⟩
def Yqa {d:Dsk} (hd:B8 d=true) {t:ByteArray}:t∈Gha d.1↔∃ b,gt d.1 t=some b∧On b=none:=by
 unfold Gha
 rw[Zc]
 constructor
 ·rintro⟨x,hx,rfl⟩
  obtain⟨h1,h2⟩:=J0b.1 hx
  exact⟨x.2,Lba (N9 hd) h1,by simpa using h2⟩
 ·rintro⟨b,h1,h2⟩
  exact⟨(t,b),J0b.2 ⟨Q5 h1,by simp[h2]⟩,rfl⟩
def Uya (d:Dsk) (hd:DG d):Tot (λ k=>Jn k d) (λ r=>r=Nx d):=by
 have hin:=Oi hd.1
 have hl:=(Am.1 (E8.1 hd.1).1).2.2
 unfold Jn
 refine Hfb (J4 d hin.1.1) ?_
 refine Hfb (Q3 d hin.1.1 hin.1.2) ?_
 rw[hd.1]
 refine H5b rfl (H4b (Q:=λ r=>r=((Nx d).2,([],[]),(Nx d).1)) ?_ (by rintro r rfl;exact H3b rfl))
 refine Hcb (L:=λ k i (s:Dsk×Int)=>Io k s.2 d.1 (d.1.length:Int) i ([],[]) s.1) (Q:=λ r=>r=((Nx d).2,([],[]),(Nx d).1)) d.1.length (λ j s=>(d.1.drop j).foldl clS s=Nx d∧DG s.1∧0≤s.2∧s.2≤j) ?_ ?_ 0 (d,0) (Vo _) ⟨rfl,hd,Zr 0,by simp⟩
 ·rintro s ⟨h,_⟩
  rw[Vz]at h
  simp (disch:=omega) only [Io,dF]
  exact H3b (by rw[← h];rfl)
 ·rintro j s hj ⟨h,hg,s0,s1⟩ next
  rw[Ad (d:=C3) hj,Yv]at h
  have hsi:=Oi hg.1
  have hx:=A3 (d:=C3) hj
  simp (disch:=omega) only [Io,dT,Va,w64]
  have e0:d.1.getD j ((⟨#[]⟩:ByteArray),([]:List Int))=d.1.getD j C3:=rfl
  rw[e0]
  refine Hfb (Ow _ (hd.2.1 _ hx) (hin.1.1.1.2 _ hx)) ?_
  have hcg:=Yoa (x:=d.1.getD j C3) hg
  unfold clS at h hcg
  unfold Ss
  cases hf:On (d.1.getD j C3).2 with
  |some f=>
   rw[hf]at h
   exact H5b rfl (next _ ⟨h,hg,s0,by omega⟩)
  |none=>
   rw[hf]at h hcg
   refine H6b rfl (Hfb (Wr s.1.1 _ hsi.1.1.1.1) ?_)
   refine Hfb (Wr s.1.2 _ hsi.1.1.2.1) ?_
   rw[Rj (N9 hg.1),Rj (Pu hg.1)]
   exact next ((cut s.1.1 (d.1.getD j C3).1,cut s.1.2 (d.1.getD j C3).1),s.2+1) ⟨h,hcg,by dsimp only;omega,by dsimp only;omega⟩
def Uza (d:Dsk) (hd:DG d):Tot (λ k=>Jq k d) (λ r=>r=Nx d):=by
 have hin:=Oi hd.1
 have hl:=(Am.1 (E8.1 hd.1).1).2.2
 have hnk:=(Am.1 (E8.1 hd.1).1).2.1
 unfold Jq
 refine Hfb (N3 d hin.1.1) ?_
 refine H4b (Q:=λ r=>r=((Nx d).2,([],[]),(Nx d).1)) ?_ (by rintro r rfl;exact H3b rfl)
 refine Hcb (L:=λ k i (s:Dsk×Int)=>Ir k s.2 i d ([],[]) s.1) (Q:=λ r=>r=((Nx d).2,([],[]),(Nx d).1)) d.1.length (λ j s=>(d.1.drop j).foldl clS s=Nx d∧DG s.1∧0≤s.2∧s.2≤j) ?_ ?_ 0 (d,0) (Vo _) ⟨rfl,hd,Zr 0,by simp⟩
 ·rintro s ⟨h,_⟩
  rw[Vz]at h
  simp (disch:=omega) only [Ir,dF]
  exact H3b (by rw[← h];rfl)
 ·rintro j s hj ⟨h,hg,s0,s1⟩ next
  rw[Ad (d:=C3) hj,Yv]at h
  have hsi:=Oi hg.1
  have hx:=A3 (d:=C3) hj
  simp (disch:=omega) only [Ir,dT,Va,w64]
  have e0:d.1.getD j ((⟨#[]⟩:ByteArray),([]:List Int))=d.1.getD j C3:=rfl
  rw[e0]
  refine Hfb (Rh d hin.1.1 hin.1.2) ?_
  refine H6b hd.1 (Hfb (Asa hin.1.1.1 hd.2.1 _) ?_)
  have hnm:=(Ri.1 (hnk _ hx)).1
  have hcg:=Yoa (x:=d.1.getD j C3) hg
  unfold clS at h hcg
  unfold lkD
  rw[Lba (N9 hd.1) hx]
  simp only
  cases hf:On (d.1.getD j C3).2 with
  |some f=>
   rw[hf]at h
   exact H5b rfl (next _ ⟨h,hg,s0,by omega⟩)
  |none=>
   rw[hf]at h hcg
   refine H6b rfl (Hfb (Cda hg.1 (J5 hnm)) ?_)
   have er:(rmD s.1 (d.1.getD j C3).1).1=(cut s.1.1 (d.1.getD j C3).1,s.1.2):=by
    unfold rmD
    cases hg1:gt s.1.1 (d.1.getD j C3).1 with
    |none=>rw[Qaa hg1];rfl
    |some b=>rfl
   have hrg:=Y8a (s:=(d.1.getD j C3).1) hg
   rw[er]at hrg ⊢
   refine Hfb (Cca hrg.1 hnm) ?_
   have es:(syD (cut s.1.1 (d.1.getD j C3).1,s.1.2) (d.1.getD j C3).1).1=(cut s.1.1 (d.1.getD j C3).1,cut s.1.2 (d.1.getD j C3).1):=by
    have e2:sy (cut s.1.1 (d.1.getD j C3).1,s.1.2) (d.1.getD j C3).1=cut s.1.2 (d.1.getD j C3).1:=by
     unfold sy
     rw[Wu (N9 hg.1),if_pos rfl]
    unfold syD
    rw[e2,decide_eq_true (Am.1 (E8.1 hcg.1).2).2.2]
    rfl
   rw[es]
   exact next ((cut s.1.1 (d.1.getD j C3).1,cut s.1.2 (d.1.getD j C3).1),s.2+1) ⟨h,hcg,by dsimp only;omega,by dsimp only;omega⟩

def D1a (l:List ByteArray) (s:ByteArray):Bool:=l.any λ y=>teq y s
def G4a {l:List ByteArray} {s:ByteArray}:D1a l s=true↔s∈l:=by
 unfold D1a
 rw[Hkb]
 constructor
 ·rintro⟨x,hx,e⟩;rw[← Iw.1 e];exact hx
 ·intro h;exact⟨s,h,Iw.2 rfl⟩
def Oha (l:List ByteArray) (s:ByteArray) (hl:l.length≤1000000000):Tot (λ k=>Iv k l s) (λ r=>r=D1a l s):=by
 unfold Iv
 refine H4b (Q:=λ r=>r=bif D1a l s then .inl true else .inr ()) ?_ (by rintro r rfl;cases D1a l s<;>exact H3b rfl)
 refine Hcb (L:=λ k i (_:Unit)=>I6 k l s i) (Q:=λ r=>r=bif D1a l s then .inl true else .inr ()) l.length (λ j _=>D1a (l.drop j) s=D1a l s) ?_ ?_ 0 () (Vo _) rfl
 ·intro _ h
  rw[Vz]at h
  simp (disch:=omega) only [I6,dF,← h]
  exact H3b rfl
 ·intro j _ hj h next
  rw[Ad (d:=Nm) hj]at h
  unfold D1a at h
  rw[Itb]at h
  simp (disch:=omega) only [I6,dT,Va,w64]
  refine H9b (λ hc=>H3b ?_) (λ hc=>next () ?_)
  ·rw[show teq (l.getD j Nm) s=true from hc,Irb]at h
   unfold D1a
   rw[← h]
   rfl
  ·rw[show teq (l.getD j Nm) s=false from hc,Zu]at h
   exact h
def Jia (l:List ByteArray):Nat→ByteArray→List ByteArray×Nat
 |0,_=>(l,0)
 |k+1,s=>bif tlt s (l.getD k Nm) then Jia (l.set (k+1) (l.getD k Nm)) k s else (l,k+1)
def Anb (l:List ByteArray) (s:ByteArray):List ByteArray:=(Jia (l++[s]) l.length s).1.set (Jia (l++[s]) l.length s).2 s
def Cia:∀ (k:Nat) (l:List ByteArray) (s:ByteArray),(Jia l k s).1.length=l.length∧(Jia l k s).2≤k∧∀ y∈(Jia l k s).1,y∈l∨y=Nm
 |0,_,_=>⟨rfl,Vv _,λ _ h => .inl h⟩
 |k+1,l,s=>by
  unfold Jia
  cases tlt s (l.getD k Nm)
  ·exact⟨rfl,Vv _,λ _ h => .inl h⟩
  obtain⟨h1,h2,h3⟩:=Cia k (l.set (k+1) (l.getD k Nm)) s
  rw[cond_true]
  refine⟨by rw[h1,Wb],by omega,λ y hy=>?_⟩
  rcases h3 y hy with h|h
  ·rcases Yk h with h|h
   ·exact .inl h
   ·by_cases hk:k<l.length
    ·rw[h];exact .inl (A3 hk)
    ·rw[h,Vc,Zf (by omega)];exact .inr rfl
  ·exact .inr h
def Yra (l:List ByteArray) (s:ByteArray):(Anb l s).length=l.length+1:=by
 unfold Anb
 rw[Wb,(Cia _ _ _).1,Ve]
 rfl
def Ysa {l:List ByteArray} {s y:ByteArray} (h:y∈Anb l s):y∈l∨y=s∨y=Nm:=by
 unfold Anb at h
 rcases Yk h with h|h
 ·rcases (Cia _ _ _).2.2 y h with h|h
  ·rcases Vq.1 h with h|h
   ·exact .inl h
   ·exact .inr (.inl (Vu.1 h))
  ·exact .inr (.inr h)
 ·exact .inr (.inl h)
def hS1 (l:List Nmd) (j:Nat) (out:List ByteArray) (x:Nmd):List ByteArray:=bif (On x.2).isSome&&(!(D1a out x.1)&&(Cxa l x.1==(j:Int))) then Anb out x.1 else out
def hS (l:List Nmd):List Nmd→Nat→List ByteArray→List ByteArray
 |[],_,out=>out
 |x::r,j,out=>hS l r (j+1) (hS1 l j out x)
def Qba (d:Dsk):List ByteArray:=hS d.1 d.1 0 []
def V0a (l:List Nmd) (j:Nat) (out:List ByteArray) (x:Nmd):(hS1 l j out x).length≤out.length+1:=by
 unfold hS1
 cases (On x.2).isSome&&(!(D1a out x.1)&&(Cxa l x.1==(j:Int))) with
 |false=>exact I5b _
 |true=>rw[cond_true,Yra];exact Vv _
def Fab (l:List Nmd) (hl:Qt l):∀ (r:List Nmd) (j:Nat) (out:List ByteArray),(∀ x∈r,x∈l)→(∀ y∈out,Mo y)→(hS l r j out).length≤out.length+r.length∧∀ y∈hS l r j out,Mo y
 |[],_,out,_,h=>⟨by simp[hS],h⟩
 |x::r,j,out,hm,h=>by
  have h2:=V0a l j out x
  obtain⟨a1,a2⟩:=Fab l hl r (j+1) (hS1 l j out x) (λ y hy=>hm y (Vh _ hy)) (λ y hy=>by
   unfold hS1 at hy
   cases hc:(On x.2).isSome&&(!(D1a out x.1)&&(Cxa l x.1==(j:Int)))
   ·rw[hc]at hy;exact h y hy
   rw[hc]at hy
   rcases Ysa hy with hy|rfl|rfl
   ·exact h y hy
   ·exact hl x (hm x Yb)
   ·unfold Mo;decide)
  refine⟨?_,a2⟩
  show (hS l r (j+1) (hS1 l j out x)).length≤_
  rw[Vd]
  omega
def Lma (a b:List Nmd) (j:Nat) (hj:j<a.length) (ha:a.length≤5000000):∀ (k:Nat) (x:List ByteArray),k<x.length→x.length≤5000000→
  Tot (λ n=>Ko n x (j:Int) (k:Int) (a,b)) (λ r=>r=((Jia x k (a.getD j C3).1).1,(j:Int),((Jia x k (a.getD j C3).1).2:Int),(a,b))):=by
 intro k
 induction k with
 |zero=>
  intro x hk hx
  refine Tot.succ ?_
  simp (disch:=omega) only [Ko,dF]
  exact H3b rfl
 |succ k ih=>
  intro x hk hx
  refine Tot.succ ?_
  have e1:((k+1:Nat):Int)-1=(k:Int):=by omega
  simp (disch:=omega) only [Ko,dT,w64,e1,Va]
  have e0:a.getD j ((⟨#[]⟩:ByteArray),([]:List Int))=a.getD j C3:=rfl
  rw[e0]
  unfold Jia
  refine H9b (λ h=>?_) (λ h=>?_)
  ·rw[I1a]at h
   rw[show tlt (a.getD j C3).1 (x.getD k Nm)=true from h,cond_true]
   exact ih _ (by rw[Wb];omega) (by rw[Wb];omega)
  ·rw[I1a]at h
   rw[show tlt (a.getD j C3).1 (x.getD k Nm)=false from h,cond_false]
   exact H3b rfl
def Yta (d:Dsk) (hd:DIn d) (hb:DB d):Tot (λ k=>Hi k d) (λ r=>r=Qba d):=by
 have hl:=hd.2.1
 unfold Hi
 refine H4b (Q:=λ r=>r=Qba d) ?_ (by rintro r rfl;exact H3b rfl)
 refine Hcb (L:=λ k i s=>Hr k s i d) (Q:=λ r=>r=Qba d) d.1.length (λ j s=>hS d.1 (d.1.drop j) j s=Qba d∧s.length≤j) ?_ ?_ 0 [] (Vo _) ⟨rfl,Vv _⟩
 ·rintro s ⟨h,_⟩
  rw[Vz]at h
  simp (disch:=omega) only [Hr,dF]
  exact H3b h
 ·rintro j s hj ⟨h,hs⟩ next
  rw[Ad (d:=C3) hj]at h
  have hlen:=V0a d.1 j s (d.1.getD j C3)
  have nx:=next _ ⟨show hS d.1 (d.1.drop (j+1)) (j+1) (hS1 d.1 j s (d.1.getD j C3))=Qba d from h,by omega⟩
  have hx:=A3 (d:=C3) hj
  simp (disch:=omega) only [Hr,dT,Va,w64]
  have e0:d.1.getD j ((⟨#[]⟩:ByteArray),([]:List Int))=d.1.getD j C3:=rfl
  rw[e0]
  unfold hS1 at nx
  refine Hfb (Caa _ (hb.1 _ hx) (hd.1.1.1.2 _ hx)) ?_
  unfold Ss
  cases hf:On (d.1.getD j C3).2 with
  |none=>
   rw[hf]at nx
   exact H6b rfl nx
  |some f=>
   rw[hf]at nx
   refine H5b rfl (Hfb (Oha s _ (by omega)) ?_)
   cases hc:D1a s (d.1.getD j C3).1 with
   |true=>
    rw[hc]at nx
    exact H6b rfl nx
   |false=>
    rw[hc]at nx
    refine H5b rfl (Hfb (E8a d.1 _ (by omega)) ?_)
    cases he:Cxa d.1 (d.1.getD j C3).1==(j:Int) with
    |false=>
     rw[he]at nx
     exact H6b (by unfold bne;rw[he];rfl) nx
    |true=>
     rw[he]at nx
     refine H5b (by unfold bne;rw[he];rfl) (Hbb (by simp only[Vd,Vj];omega) ?_)
     have hq:=Lma d.1 d.2 j hj (by omega) s.length (s++[(d.1.getD j C3).1]) (by simp) (by simp only[Ve,Vd,Vj];omega)
     refine H4b hq ?_
     rintro r rfl
     obtain⟨w1,w2,_⟩:=Cia s.length (s++[(d.1.getD j C3).1]) (d.1.getD j C3).1
     rw[Ve]at w1
     simp only[Vd,Vj]at w1
     simp (disch:=omega) only [dT,Va,w64]
     exact nx

def Lna (n:Nod) (s:ByteArray) (f:Fil) (sure:Bool) (hn:NIn n) (hs:Mo s):Tot (λ k=>Kg k n s f sure) (λ r=>r=Fub n s f sure):=by
 have hq:=hn.2.2.1
 unfold Kg Fub
 refine Hfb (Nb n hn) ?_
 refine Hfb (Wv n hn) ?_
 cases h1:Na n
 ·exact H6b rfl (H3b rfl)
 have h60:=(Dv.1 h1).2.2.2.2
 refine H5b rfl (Hfb (Pc s hs) ?_)
 cases B2 s
 ·exact H6b rfl (H3b rfl)
 refine H5b rfl (Hfb (Hhb (Q:=λ r=>r=F8 f) (Aqa f) rfl) ?_)
 cases F8 f
 ·exact H6b rfl (H3b rfl)
 refine H5b rfl ?_
 unfold Tz
 refine Hab (λ h=>H3b ?_) (λ h=>?_)
 ·rw[show ((n.2.2.2.length:Int)==60)=true from beq_iff_eq.2 (by omega)]
  rfl
 ·rw[show ((n.2.2.2.length:Int)==60)=false from beq_eq_false_iff_ne.2 (by omega)]
  refine Hfb (O4a n.2.1 s f sure hn.1.1 hn.1.2.1 hs) ?_
  cases (keep n.2.1 s f sure).2==0
  ·exact H5b rfl (H3b rfl)
  refine H6b rfl ?_
  cases sure
  ·exact H5b rfl (H3b rfl)
  refine H6b rfl (Hfb (Hhb (Q:=λ r=>r=Ww s f) (show Kz s f=some (Ww s f) from rfl) rfl) ?_)
  exact Hbb (by simp only[Vd,Vj];omega) (H3b rfl)
def Loa (n:Nod) (s:ByteArray) (b:Int) (hn:NIn n) (h1:b≤9223372036854775807) (h0 : -9223372036854775808≤b):Tot (λ k=>Kh k n s b) (λ r=>r=Cza n s b):=by
 unfold Kh Cza
 refine Hfb (Nb n hn) ?_
 refine Hfb (O3a hn.1.1.1.1.1 hn.1.2.1 s) ?_
 refine Hfb (Wv n hn) ?_
 cases h:Na n
 ·exact H6b rfl (H3b rfl)
 refine H5b rfl ?_
 cases hl:(lkD n.2.1 s).2==0
 ·exact H6b (by unfold bne;rw[hl];rfl) (H3b rfl)
 refine H5b (by unfold bne;rw[hl];rfl) (Hfb (Cub (NG.g ⟨h,hn.1.2⟩) h1 h0) ?_)
 refine H3b ?_
 cases hr:(Cya n.2.1 s b).2
 case true=>rfl
 have e:(Cya n.2.1 s b).1=n.2.1:=by
  unfold Cya at hr ⊢
  cases hg:gt n.2.1.1 s with
  |none=>rfl
  |some c=>
   rw[hg]at hr
   simp only at hr ⊢
   cases hc:inR b 0 (8*(c.length:Int)-1) with
   |false=>rfl
   |true=>rw[hc]at hr;cases hr
 rw[e]
 rfl
def Ggb (n:Nod):Nod×Int:=((n.1,(Nx n.2.1).1,n.2.2),(Nx n.2.1).2)
def V1a (n:Nod) (kp:List Bool):Nod:=bif Na n then (n.1,Ro n.2.1 kp,n.2.2) else n
def G5a {n:Nod} (hn:NG n) {d:Dsk} (hd:DG d):NG (n.1,d,n.2.2):=by
 obtain⟨h1,h2,h3,h4,h5⟩:=Dv.1 hn.1
 exact⟨Dv.2 ⟨h1,h2,hd.1,h4,h5⟩,hd.2⟩
def Aob {n:Nod} (hn:NG n):NG (Ggb n).1:=G5a hn (Ypa hn.g)
def V2a (n:Nod) (hn:NG n):Tot (λ k=>I3 k n) (λ r=>r=Ggb n):=by
 unfold I3
 refine Hfb (Nb n (Ug hn)) ?_
 refine Hfb (Uya n.2.1 hn.g) ?_
 exact H3b rfl
def V3a (n:Nod) (kp:List Bool) (hn:NIn n) (hk:kp.length≤4000000000000):Tot (λ k=>I4 k n kp) (λ r=>r=V1a n kp):=by
 unfold I4 V1a
 refine Hfb (Nb n hn) ?_
 refine Hfb (Wv n hn) ?_
 cases h:Na n
 ·exact H5b rfl (H3b rfl)
 refine H6b rfl (Hfb (Uva n.2.1 kp (NG.g ⟨h,hn.1.2⟩) hk) ?_)
 exact H3b rfl
def G6a (a b:List ByteArray) (hl:a.length≤4000000000000):Tot (λ k=>H8 k a b) (λ r=>r=decide (a=b)):=by
 unfold H8
 cases hc:((a.length:Int)==(b.length:Int)) with
 |false=>
  refine H6b (by unfold bne;rw[hc];rfl) (H3b (decide_eq_false ?_).symm)
  rintro rfl
  simp at hc
 |true=>
  have hlen:a.length=b.length:=by have:=eq_of_beq hc;omega
  refine H5b (by unfold bne;rw[hc];rfl) (H4b (Q:=λ r=>r=bif decide (a=b) then .inr () else .inl false) ?_ (by rintro r rfl;cases decide (a=b)<;>exact H3b rfl))
  refine Hcb (L:=λ k i (_:Unit)=>Es k a b i) (Q:=λ r=>r=bif decide (a=b) then .inr () else .inl false) a.length (λ j _=>decide (a.drop j=b.drop j)=decide (a=b)) ?_ ?_ 0 () (Vo _) rfl
  ·intro _ h
   rw[Vz,Wa (by omega),decide_eq_true rfl]at h
   simp (disch:=omega) only [Es,dF,← h]
   exact H3b rfl
  ·intro j _ hj h next
   rw[Ad (d:=Nm) hj,Ad (d:=Nm) (show j<b.length by omega)]at h
   simp (disch:=omega) only [Es,dT,Va,w64]
   refine H9b (λ hc=>H3b ?_) (λ hc=>next () ?_)
   ·have hne:a.getD j Nm≠b.getD j Nm:=λ e=>by
     rw[Vw]at hc
     have:teq (a.getD j Nm) (b.getD j Nm)=false:=hc
     rw[e,Iw.2 rfl]at this
     cases this
    rw[decide_eq_false (λ e=>hne (List.cons.inj e).1)]at h
    rw[← h]
    rfl
   ·have he:a.getD j Nm=b.getD j Nm:=by
     rw[Wo]at hc
     exact Iw.1 hc
    rw[← h,he]
    simp

def Lpa (v:BitVec 32) (b:Int):BitVec 32:=(v ^^^ ofInt 32 b)*16777619#32
def D9a (x:ByteArray):Nat→BitVec 32
 |0=>2166136261#32
 |n+1=>Lpa (D9a x n) (bt x (n:Int))
def Qca (x:ByteArray):Nat:=(D9a x x.size).toNat
def H1b (v:BitVec 32):wrap .u32 ((v.toNat:Int)*16777619)=((v*16777619#32).toNat:Int):=by
 rw[IntKind.wrap_u32,BitVec.toNat_mul]
 show (v.toNat:Int)*16777619 % 4294967296=((v.toNat*16777619 % 4294967296:Nat):Int)
 omega
def H2b (v:BitVec 32):wrap .i64 ((ofInt (IntKind.bits .i64) ((v.toNat:Int)*16777619) &&& ofInt (IntKind.bits .i64) 4294967295).toNat)=((v*16777619#32).toNat:Int):=by
 have h:=v.isLt
 rw[Imb,show (v.toNat:Int)*16777619=((v.toNat*16777619:Nat):Int) by omega,Sq _ (by omega),show (ofInt (IntKind.bits .i64) 4294967295).toNat=2 ^ 32-1 from by decide,Jab,BitVec.toNat_mul]
 show wrap .i64 ((v.toNat*16777619 % 4294967296:Nat):Int)=((v.toNat*16777619 % 4294967296:Nat):Int)
 exact w64 (by omega) (by omega)
def Yua (x:ByteArray) (hx:x.size≤1000000000):Tot (λ k=>Mx k x) (λ r=>r=(Qca x:Int)):=by
 unfold Mx
 refine H4b (Q:=λ r=>r=(Qca x:Int)) ?_ (by
  rintro r rfl
  have:=(D9a x x.size).isLt
  exact H3b (w64 (n:=(Qca x:Int)) (by omega) (by show ((D9a x x.size).toNat:Int)≤_;omega)))
 refine Hcb (L:=λ k i (s:Int)=>Kd k x s i) (Q:=λ r=>r=(Qca x:Int)) x.size (λ j s=>s=((D9a x j).toNat:Int)) ?_ ?_ 0 _ (Vo _) rfl
 ·rintro s rfl
  simp (disch:=omega) only [Kd,dF]
  exact H3b rfl
 ·rintro j s hj rfl next
  have hb:=Bxa x (j:Int)
  have e1:wrap .u32 (bt x (j:Int))=bt x (j:Int):=K1b _ ⟨by omega,by omega⟩
  simp (disch:=omega) only [Kd,dT,w64,e1,Gcb (D9a x j) _ (bt x (j:Int)) rfl,H1b]
  exact next _ rfl
def Yva (x:ByteArray) (hx:x.size≤1000000000):Tot (λ k=>My k x) (λ r=>r=(Qca x:Int)):=by
 unfold My
 refine H4b (Q:=λ r=>r=(Qca x:Int)) ?_ (by rintro r rfl;exact H3b rfl)
 refine Hcb (L:=λ k i (s:Int)=>Kq k x s i) (Q:=λ r=>r=(Qca x:Int)) x.size (λ j s=>s=((D9a x j).toNat:Int)) ?_ ?_ 0 _ (Vo _) rfl
 ·rintro s rfl
  simp (disch:=omega) only [Kq,dF]
  exact H3b rfl
 ·rintro j s hj rfl next
  have hb:=Bxa x (j:Int)
  have hx:wrap .i64 ((ofInt (IntKind.bits .i64) ((D9a x j).toNat:Int) ^^^ ofInt (IntKind.bits .i64) (bt x (j:Int))).toNat)=((D9a x j ^^^ ofInt 32 (bt x (j:Int))).toNat:Int):=by
   have:=Ftb (D9a x j) (ofInt 32 (bt x (j:Int)))
   rwa [← O2a hb]at this
  simp (disch:=omega) only [Kq,dT,w64,hx,H2b]
  exact next _ rfl
def Wz (r:Rng) (x:ByteArray):List Int:=r.2.getD (Qca x % r.2.length) []
def Fbb (a b:Nat):Int.tmod (a:Int) (b:Int)=((a % b:Nat):Int):=by
 rw[Zw (by omega)]
 exact(Int.natCast_emod _ _).symm
def Ava (r:Rng) (x:ByteArray) (hr:RBd r) (hx:x.size≤1000000000):Tot (λ k=>Bj k r x) (λ y=>y=Wz r x):=by
 have hrl:=hr.1
 unfold Bj
 by_cases h0:r.2.length=0
 ·refine H6b (by rw[h0];rfl) (H3b ?_)
  unfold Wz
  rw[Xs h0]
  rfl
 ·have hm:=K2b (Qca x) (show 0<r.2.length by omega)
  refine H5b (by rw[beq_eq_false_iff_ne];omega) (H4b (Q:=λ y=>y=((Qca x % r.2.length:Nat):Int)) ?_ ?_)
  ·unfold M5
   refine H8b (by omega) (Hfb (Yua x hx) ?_)
   exact H8b (by omega) (H3b (Fbb _ _))
  ·rintro y rfl
   simp (disch:=omega) only [dT,Va]
   have hp:=hr.2 _ (A3 (d:=[]) hm)
   rw[Z6 _ (by omega)]
   exact H3b rfl
def Awa (r:Rng) (x:ByteArray) (hr:RBd r) (hx:x.size≤1000000000):Tot (λ k=>Bm k r x) (λ y=>y=Wz r x):=by
 have hrl:=hr.1
 unfold Bm
 by_cases h0:r.2.length=0
 ·refine H6b (by rw[h0];rfl) (H3b ?_)
  unfold Wz
  rw[Xs h0]
  rfl
 ·have hm:=K2b (Qca x) (show 0<r.2.length by omega)
  refine H5b (by rw[beq_eq_false_iff_ne];omega) (H4b (Q:=λ y=>y=((Qca x % r.2.length:Nat):Int)) ?_ ?_)
  ·unfold M7
   refine H8b (by omega) (Hfb (Yva x hx) ?_)
   exact H8b (by omega) (H3b (Fbb _ _))
  ·rintro y rfl
   have hp:=hr.2 _ (A3 (d:=[]) hm)
   simp (disch:=omega) only [dT,Va]
   exact Hbb (by simp only[Vj];omega) (H3b rfl)
def Ywa {r:Rng} {l:List Dev} (h:Il r l=true) (x:ByteArray):Wz r x∈r.2:=by
 obtain⟨_,_,h3,_⟩:=B1.1 h
 exact A3 (d:=[]) (K2b _ (by omega))
def Uk {r:Rng} {l:List Dev} (h:Il r l=true) (x:ByteArray):(Wz r x).Nodup∧((Wz r x).length:Int)=r.1∧∀ id∈Wz r x,∃ d,Li l id=some d:=(B1.1 h).2.2.2 _ (Ywa h x)
def hoA (p zs:List Int) (z:Bool) (l:List Dev):List Int:=(l.filter λ d => !(Oj p d.1)&&(Oj zs d.2.1==z)).map (·.1)
def Q6 (r:Rng) (l:List Dev) (x:ByteArray):List Int:=hoA (Wz r x) (D9 (Wz r x) l) false l++hoA (Wz r x) (D9 (Wz r x) l) true l
def Y3 (p zs:List Int) (z:Bool) (l:List Dev):(hoA p zs z l).length≤l.length:=by
 unfold hoA
 rw[Wf]
 exact List.length_filter_le _ _
def Oia (p zs:List Int) (z:Bool) (d:Dev) (l:List Dev):hoA p zs z (d::l)=bif !(Oj p d.1)&&(Oj zs d.2.1==z) then d.1::hoA p zs z l else hoA p zs z l:=by
 unfold hoA
 rw[Hnb]
 cases !(Oj p d.1)&&(Oj zs d.2.1==z)<;>rfl
def Yxa (r:Rng) (l:List Dev) (x:ByteArray) (h:Il r l=true) (hx:x.size≤1000000000):Tot (λ k=>E4 k r l x) (λ y=>y=Q6 r l x):=by
 obtain⟨h1,h2,_,_⟩:=B1.1 h
 obtain⟨_,p2,_⟩:=Uk h x
 obtain⟨_,_,_,h12⟩:=Cu.1 h1
 have hz:=Rm (Wz r x) l
 unfold E4 Q6
 refine Hfb (Ava r x (Mn h) hx) ?_
 generalize Wz r x=p at *
 refine Hfb (Iqa p l (by omega) (by omega)) ?_
 generalize D9 p l=zs at *
 have m1:=Y3 p zs false l
 have m2:=Y3 p zs true l
 refine H4b (Q:=λ y=>y=(hoA p zs false l,hoA p zs true l)) ?_ (by rintro y rfl;exact Hbb (by dsimp only;omega) (H3b rfl))
 refine Hcb (L:=λ k i (s:List Int×List Int)=>Dd k p zs s.1 s.2 l (l.length:Int) i) (Q:=λ y=>y=(hoA p zs false l,hoA p zs true l)) l.length (λ j s=>s.1++hoA p zs false (l.drop j)=hoA p zs false l∧s.2++hoA p zs true (l.drop j)=hoA p zs true l) ?_ ?_ 0 ([],[]) (Vo _) ⟨rfl,rfl⟩
 ·rintro s ⟨e1,e2⟩
  rw[Vz]at e1 e2
  simp (disch:=omega) only [Dd,dF]
  refine H3b ?_
  rw[← e1,← e2]
  show _=(s.1++[],s.2++[])
  rw[Wn,Wn]
 ·rintro j ⟨s1,s2⟩ hj ⟨e1,e2⟩ next
  dsimp only at e1 e2 next ⊢
  have g1:=congrArg length e1
  have g2:=congrArg length e2
  rw[Ve]at g1 g2
  rw[Ad (d:=Oc) hj,Oia]at e1 e2
  obtain⟨d,ed⟩:∃ d:Dev,l.getD j Oc=d:=⟨_,rfl⟩
  rw[ed]at e1 e2
  have e0:l.getD j ((0:Int),((0:Int),(0:Int)))=d:=ed
  simp (disch:=omega) only [Dd,dT,Va,w64,e0]
  refine Hfb (Uh p d.1 (by omega)) ?_
  cases hp:Oj p d.1 with
  |true=>
   rw[hp]at e1 e2
   exact H6b rfl (next (s1,s2) ⟨e1,e2⟩)
  |false=>
   refine H5b rfl (Hfb (Uh zs d.2.1 (by omega)) ?_)
   cases hz':Oj zs d.2.1 with
   |true=>
    rw[hp,hz']at e1 e2
    exact H6b rfl (Hbb (by simp only[Vd,Vj];omega) (next (s1,s2++[d.1]) ⟨e1,by rw[← e2];simp⟩))
   |false=>
    rw[hp,hz']at e1 e2
    exact H5b rfl (Hbb (by simp only[Vd,Vj];omega) (next (s1++[d.1],s2) ⟨by rw[← e1];simp,e2⟩))
def Cja (p zs:List Int) (l:List Dev) (hp:p.length≤2000000) (hz:zs.length≤2000000) (hl:l.length≤2000000) (out:List Int) (ho:out.length≤5000000) (t:Int):Tot (λ k=>Ci k l p zs out t 0) (λ y=>y=(l,p,zs,out++hoA p zs (t==1) l,t)):=by
 have m1:=Y3 p zs (t==1) l
 refine Hcb (L:=λ k i (s:List Int)=>Ci k l p zs s t i) (Q:=λ y=>y=(l,p,zs,out++hoA p zs (t==1) l,t)) l.length (λ j s=>s++hoA p zs (t==1) (l.drop j)=out++hoA p zs (t==1) l) ?_ ?_ 0 out (Vo _) rfl
 ·rintro s e1
  rw[Vz]at e1
  simp (disch:=omega) only [Ci,dF]
  refine H3b ?_
  rw[← e1]
  show _=(l,p,zs,s++[],t)
  rw[Wn]
 ·rintro j s hj e1 next
  have g1:=congrArg length e1
  rw[Ve,Ve]at g1
  rw[Ad (d:=Oc) hj,Oia]at e1
  obtain⟨d,ed⟩:∃ d:Dev,l.getD j Oc=d:=⟨_,rfl⟩
  rw[ed]at e1
  have e0:l.getD j ((0:Int),((0:Int),(0:Int)))=d:=ed
  simp (disch:=omega) only [Ci,dT,Va,w64,e0]
  refine Hfb (Ui p d.1 (by omega)) ?_
  cases hp':Oj p d.1 with
  |true=>
   rw[hp']at e1
   exact H5b rfl (next s e1)
  |false=>
   rw[hp']at e1
   refine H6b rfl (Hfb (Ui zs d.2.1 (by omega)) ?_)
   cases hz':Oj zs d.2.1==(t==1) with
   |true=>
    rw[hz']at e1
    exact H6b rfl (Hbb (by simp only[Vd,Vj];omega) (next (s++[d.1]) (by rw[← e1];simp)))
   |false=>
    rw[hz']at e1
    exact H5b rfl (next s e1)
def Yya (r:Rng) (l:List Dev) (x:ByteArray) (h:Il r l=true) (hx:x.size≤1000000000):Tot (λ k=>Co k r l x) (λ y=>y=Q6 r l x):=by
 obtain⟨h1,h2,_,_⟩:=B1.1 h
 obtain⟨_,p2,_⟩:=Uk h x
 obtain⟨_,_,_,h12⟩:=Cu.1 h1
 have hz:=Rm (Wz r x) l
 unfold Co Q6
 refine Hfb (Awa r x (Mn h) hx) ?_
 generalize Wz r x=p at *
 refine Hfb (Ira p l (by omega) (by omega)) ?_
 generalize D9 p l=zs at *
 have m1:=Y3 p zs false l
 refine H4b (Q:=λ y=>y=hoA p zs false l++hoA p zs true l) ?_ (by rintro y rfl;exact H3b rfl)
 refine Tot.succ ?_
 simp (disch:=omega) only [Fl,dT]
 refine Hfb (Cja p zs l (by omega) (by omega) (by omega) [] (by simp) 0) ?_
 refine Tot.succ ?_
 simp (disch:=omega) only [Fl,dT,w64,Vx]
 refine Hfb (Cja p zs l (by omega) (by omega) (by omega) (hoA p zs false l) (by omega) 1) ?_
 refine Tot.succ ?_
 simp (disch:=omega) only [Fl,dF,w64]
 exact H3b rfl

section
variable {R:Type} {L:Nat→Int→Option (Sum Bool R)}
def U0 (p:Nat→Bool) (n:Nat):(List.range (n+1)).all p=((List.range n).all p&&p n):=by
 rw[Job,Kgb,I2b,List.all_nil,Ijb]
def Daa (p:Nat→Bool) (n:Nat):(List.range (n+1)).any p=((List.range n).any p||p n):=by
 rw[Job,List.any_append,Itb,List.any_nil,Bool.or_false]
def Dba {p:Nat→Bool} {m n:Nat} (h:m≤n) (hn:(List.range n).all p=true):(List.range m).all p=true:=by
 rw[Wm]at hn ⊢
 exact λ x hx=>hn x (Zg.2 (by have:=Zg.1 hx;omega))
def Hdb (n:Nat) (p:Nat→Bool) (e:R) (hend:Tot (λ k=>L (k+1) (n:Int)) (λ r=>r = .inr e))
  (Lpa:∀ j,j<n→∀ (Q:Sum Bool R→Prop),(p j=false→Q (.inl false))→(p j=true→Tot (λ k=>L k ((j:Int)+1)) Q)→Tot (λ k=>L (k+1) (j:Int)) Q):
  Tot (λ k=>L k 0) (λ r=>r=bif (List.range n).all p then .inr e else .inl false):=by
 refine Hcb (L:=λ k i (_:Unit)=>L k i) (Q:=λ r=>r=bif (List.range n).all p then .inr e else .inl false) n (λ j _=>(List.range j).all p=true) ?_ ?_ 0 () (Vo _) rfl
 ·intro _ h
  rw[h]
  exact hend
 ·intro j _ hj h next
  refine Lpa j hj _ (λ hp=>?_) (λ hp=>next () (by rw[U0,h,hp];rfl))
  cases hc:(List.range n).all p
  ·rfl
  have:=Dba (show j+1≤n by omega) hc
  rw[U0,hp,Yt]at this
  cases this
def Heb (n:Nat) (p:Nat→Bool) (e:R) (hend:Tot (λ k=>L (k+1) (n:Int)) (λ r=>r = .inr e))
  (Lpa:∀ j,j<n→∀ (Q:Sum Bool R→Prop),(p j=true→Q (.inl true))→(p j=false→Tot (λ k=>L k ((j:Int)+1)) Q)→Tot (λ k=>L (k+1) (j:Int)) Q):
  Tot (λ k=>L k 0) (λ r=>r=bif (List.range n).any p then .inl true else .inr e):=by
 refine Hcb (L:=λ k i (_:Unit)=>L k i) (Q:=λ r=>r=bif (List.range n).any p then .inl true else .inr e) n (λ j _=>(List.range j).any p=false) ?_ ?_ 0 () (Vo _) rfl
 ·intro _ h
  rw[h]
  exact hend
 ·intro j _ hj h next
  refine Lpa j hj _ (λ hp=>?_) (λ hp=>next () (by rw[Daa,h,hp];rfl))
  rw[Hkb.2 ⟨j,Zg.2 hj,hp⟩]
  rfl
end
def X1 {α:Type} (l:List α) (d:α) (p:α→Bool):l.all p=(List.range l.length).all λ j=>p (l.getD j d):=by
 rw[J1b,Wm,Wm]
 constructor
 ·intro h j hj
  exact h _ (A3 (Zg.1 hj))
 ·intro h x hx
  obtain⟨j,hj,rfl⟩:=Zx.1 hx
  have:=h j (Zg.2 hj)
  rwa [Vc,Vk hj,Yn]at this
def Cka {α:Type} (l:List α) (d:α) (p:α→Bool):l.any p=(List.range l.length).any λ j=>p (l.getD j d):=by
 rw[J1b,Hkb,Hkb]
 constructor
 ·rintro⟨x,hx,h⟩
  obtain⟨j,hj,rfl⟩:=Zx.1 hx
  exact⟨j,Zg.2 hj,by rwa [Vc,Vk hj,Yn]⟩
 ·rintro⟨j,hj,h⟩
  exact⟨_,A3 (Zg.1 hj),h⟩
abbrev Wri:=ByteArray×Fil×Bool
abbrev Wld:=List Dev×Rng×List Nod×Stp×List Wri×List ByteArray
def Dca:Wri:=((⟨#[]⟩:ByteArray),((((0:Int),((0:Int),(0:Int))),(false,[])),false))
def X2 (l:List ByteArray):Bool:=(List.range l.length).all λ j=>B2 (l.getD j Nm)&&(decide (j=0)||tlt (l.getD (j-1) Nm) (l.getD j Nm))
def Lqa (c:Stp) (w:Wri):Bool:=B2 w.1&&(F8 w.2.1&&!(sle c w.2.1.1))
def Yza (c:Stp) (l:List Wri):Bool:=l.all (Lqa c)&&decide ((l.length:Int)≤200)
def U1 (l:List Dev) (ns:List Nod):Bool:=((ns.length:Int)==(l.length:Int))&&(List.range ns.length).all λ j=>((ns.getD j Bb).1==(l.getD j Oc).1)&&Na (ns.getD j Bb)
def Y4 (w:Wld):Bool:=Il w.2.1 w.1&&(U1 w.1 w.2.2.1&&(Ga w.2.2.2.1&&(Yza w.2.2.2.1 w.2.2.2.2.1&&X2 w.2.2.2.2.2)))
def WIn (w:Wld):Prop:=RBd w.2.1∧w.1.length≤2000000∧(w.2.2.1.length≤2000000∧∀ n∈w.2.2.1,NIn n)∧(w.2.2.2.2.1.length≤2000000∧∀ x∈w.2.2.2.2.1,Mo x.1)∧(w.2.2.2.2.2.length≤2000000∧∀ s∈w.2.2.2.2.2,Mo s)
def Z0a (w:Wld) (hw:WIn w):Tot (λ k=>E3 k w) (λ r=>r=Yza w.2.2.2.1 w.2.2.2.2.1):=by
 obtain⟨_,_,_,⟨h1,h2⟩,_⟩:=hw
 unfold E3 Yza
 refine H4b (Q:=λ r=>r=bif w.2.2.2.2.1.all (Lqa w.2.2.2.1) then .inr w else .inl false) ?_ (by
  rintro r rfl
  cases w.2.2.2.2.1.all (Lqa w.2.2.2.1)<;>exact H3b rfl)
 rw[X1 _ Dca]
 refine Hdb (L:=λ k i=>Fe k w.2.2.2.2.1 (w.2.2.2.2.1.length:Int) i w) _ _ w ?_ ?_
 ·simp (disch:=omega) only [Fe,dF]
  exact H3b rfl
 ·intro j hj Q no yes
  have hs:=h2 _ (A3 (d:=Dca) hj)
  obtain⟨x,ex⟩:∃ x:Wri,w.2.2.2.2.1.getD j Dca=x:=⟨_,rfl⟩
  rw[ex]at hs
  simp only[ex]at no yes
  have e0:w.2.2.2.2.1.getD j ((⟨#[]⟩:ByteArray),((((0:Int),((0:Int),(0:Int))),(false,[])),false))=x:=ex
  simp (disch:=omega) only [Fe,dT,Va,w64,e0,Aqa,W1,Vn]
  unfold Lqa at no yes
  refine Hfb (Pc x.1 hs) ?_
  refine H9b (λ hc=>H3b (no ?_)) (λ h3=>H9b (λ hc=>H3b (no ?_)) (λ h4=>H9b (λ hc=>H3b (no ?_)) (λ h5=>yes ?_)))
  ·rw[Vw]at hc;rw[hc];rfl
  ·rw[Vw]at hc;rw[hc,Zt,Yt]
  ·rw[hc,Za,Yt,Yt]
  ·rw[Wo]at h3 h4;rw[h3,h4,h5];rfl
def J0a (w:Wld) (hw:WIn w):Tot (λ k=>Da k w.2.2.2.2.2 (w.2.2.2.2.2.length:Int) 0 w) (λ r=>r=bif X2 w.2.2.2.2.2 then .inr () else .inl false):=by
 obtain⟨_,_,_,_,h1,h2⟩:=hw
 unfold X2
 refine Hdb (L:=λ k i=>Da k w.2.2.2.2.2 (w.2.2.2.2.2.length:Int) i w) _ _ () ?_ ?_
 ·simp (disch:=omega) only [Da,dF]
  exact H3b rfl
 ·intro j hj Q no yes
  have hs:=h2 _ (A3 (d:=Nm) hj)
  have e0:∀ i,w.2.2.2.2.2.getD i (⟨#[]⟩:ByteArray)=w.2.2.2.2.2.getD i Nm:=λ _=>rfl
  simp (disch:=omega) only [Da,dT,Va,w64,e0]
  refine Hfb (Pc _ hs) ?_
  refine H9b (λ hc=>H3b (no ?_)) (λ h3=>Hab (λ h0=>?_) (λ h0=>yes ?_))
  ·rw[Vw]at hc;rw[hc];rfl
  ·simp (disch:=omega) only [dT,w64,show toNat ((j:Int)-1)=j-1 by omega]
   rw[Wo]at h3
   rw[h3,decide_eq_false (show ¬ j=0 by omega),Zu,Wd]at no yes
   refine H9b (λ hc=>H3b (no ?_)) (λ h4=>yes ?_)
   ·rw[Vw]at hc;exact hc
   ·rw[Wo]at h4;exact h4
  ·rw[Wo]at h3
   rw[h3,decide_eq_true (show j=0 by omega)]
   rfl
def Lra (w:Wld) (hw:WIn w) (hl:w.2.2.1.length=w.1.length):Tot (λ k=>Fg k w.2.2.1 (w.2.2.1.length:Int) 0 w) (λ r=>r=bif U1 w.1 w.2.2.1 then .inr w else .inl false):=by
 obtain⟨_,_,⟨h1,h2⟩,_⟩:=hw
 unfold U1
 rw[show ((w.2.2.1.length:Int)==(w.1.length:Int))=true by rw[beq_iff_eq];omega,Wd]
 refine Hdb (L:=λ k i=>Fg k w.2.2.1 (w.2.2.1.length:Int) i w) _ _ w ?_ ?_
 ·simp (disch:=omega) only [Fg,dF]
  exact H3b rfl
 ·intro j hj Q no yes
  have hs:=h2 _ (A3 (d:=Bb) hj)
  obtain⟨x,ex⟩:∃ x:Nod,w.2.2.1.getD j Bb=x:=⟨_,rfl⟩
  rw[ex]at hs no yes
  have e0:w.2.2.1.getD j ((0:Int),(([],[]),([],[])))=x:=ex
  have e1:w.1.getD j ((0:Int),((0:Int),(0:Int)))=w.1.getD j Oc:=rfl
  simp (disch:=omega) only [Fg,dT,Va,w64,e0,e1]
  refine H9b (λ hc=>H3b (no ?_)) (λ h3=>H4b (Wv x hs) ?_)
  ·rw[bne,Vw]at hc;rw[hc];rfl
  ·rw[bne,Wo]at h3
   rw[h3,Wd]at no yes
   rintro b rfl
   refine H9b (λ hc=>H3b (no ?_)) (λ h4=>yes ?_)
   ·rw[Vw]at hc;exact hc
   ·rw[Wo]at h4;exact h4
def J1a (w:Wld) (hw:WIn w):Tot (λ k=>Cb k w) (λ r=>r=Y4 w):=by
 unfold Cb Y4
 refine Hfb (Yga w.2.1 w.1 hw.1 (by have:=hw.2.1;omega)) ?_
 cases hr:Il w.2.1 w.1
 ·exact H6b rfl (H3b rfl)
 refine H5b rfl ?_
 rw[Wd]
 by_cases hl:w.2.2.1.length=w.1.length
 ·refine H5b (by rw[bne,hl,beq_self_eq_true];rfl) ?_
  simp only[W5,Vn]
  cases hs:Ga w.2.2.2.1
  ·exact H6b rfl (H3b (by rw[Zt,Yt]))
  refine H5b rfl (Hfb (Z0a w hw) ?_)
  cases hws:Yza w.2.2.2.1 w.2.2.2.2.1
  ·exact H6b rfl (H3b (by rw[Zt,Yt,Yt]))
  refine H5b rfl (Hfb (Lra w hw hl) ?_)
  cases U1 w.1 w.2.2.1
  ·exact H3b rfl
  refine Hfb (J0a w hw) ?_
  cases X2 w.2.2.2.2.2<;>exact H3b rfl
 ·have hn:((w.2.2.1.length:Int)==(w.1.length:Int))=false:=by rw[beq_eq_false_iff_ne];omega
  refine H6b (by rw[bne,hn];rfl) (H3b ?_)
  unfold U1
  rw[hn]
  rfl

def atN:List Nod→Int→Nat→List Int
 |[],_,_=>[]
 |n::ns,id,i=>bif n.1==id then (i:Int)::atN ns id (i+1) else atN ns id (i+1)
def G7a (n:Nod) (ns:List Nod) (id:Int) (i:Nat):atN (n::ns) id i=bif n.1==id then (i:Int)::atN ns id (i+1) else atN ns id (i+1):=rfl
def whr (ns:List Nod) (ids:List Int):List Int:=ids.flatMap λ id=>atN ns id 0
def G8a (id:Int):∀ (ns:List Nod) (i:Nat),(atN ns id i).length≤ns.length
 |[],_=>Vv _
 |n::ns,i=>by
  unfold atN
  have:=G8a id ns (i+1)
  cases n.1==id
  ·rw[cond_false,Vd];omega
  ·rw[cond_true,Vd,Vd];omega
def V4a (ns:List Nod):∀ (ids:List Int),(whr ns ids).length≤ids.length*ns.length
 |[]=>Vo _
 |id::ids=>by
  have h1:=G8a id ns 0
  have h2:=V4a ns ids
  unfold whr at h2 ⊢
  rw[J7b,Ve,Vd,Nat.succ_mul]
  omega
def Q7 {ns:List Nod} {ids:List Int} (h1:ns.length≤2000000) (h2:ids.length≤2000000):(whr ns ids).length≤4000000000000:=
 Zl (V4a ns ids) (Jxb h2 h1)
def Oja (ns:List Nod) (id:Int) (ids:List Int):whr ns (id::ids)=atN ns id 0++whr ns ids:=J7b
def Cvb (ns:List Nod) (a b:List Int):whr ns (a++b)=whr ns a++whr ns b:=List.flatMap_append
def Dda (w:Wld) (id:Int) (a b c:List Int) (m i0:Int) (out:List Int) (h1:w.2.2.1.length≤2000000) (ho:out.length≤4000000000000):
  Tot (λ k=>Ef k out id a m i0 w.2.2.1 (w.2.2.1.length:Int) 0 w) (λ r=>r=(out++atN w.2.2.1 id 0,a,m,i0,w)):=by
 have m1:=G8a id w.2.2.1 0
 refine Hcb (L:=λ k i (s:List Int)=>Ef k s id a m i0 w.2.2.1 (w.2.2.1.length:Int) i w) (Q:=λ r=>r=(out++atN w.2.2.1 id 0,a,m,i0,w)) w.2.2.1.length (λ j s=>s++atN (w.2.2.1.drop j) id j=out++atN w.2.2.1 id 0) ?_ ?_ 0 out (Vo _) rfl
 ·intro s h
  rw[Vz]at h
  simp (disch:=omega) only [Ef,dF]
  refine H3b ?_
  rw[← h]
  show _=(s++[],a,m,i0,w)
  rw[Wn]
 ·intro j s hj h next
  have g:=congrArg length h
  rw[Ve,Ve]at g
  rw[Ad (d:=Bb) hj,G7a]at h
  obtain⟨x,ex⟩:∃ x:Nod,w.2.2.1.getD j Bb=x:=⟨_,rfl⟩
  rw[ex]at h
  have e0:w.2.2.1.getD j ((0:Int),(([],[]),([],[])))=x:=ex
  simp (disch:=omega) only [Ef,dT,Va,w64,e0]
  cases hx:x.1==id with
  |true=>
   rw[hx,cond_true]at h
   refine H6b rfl (Hbb (by simp only[Vd,Vj];omega) (next (s++[(j:Int)]) ?_))
   rw[← h,Vp]
   rfl
  |false=>
   rw[hx,cond_false]at h
   refine H5b rfl (next s h)
def Ul (w:Wld) (ids:List Int) (h1:w.2.2.1.length≤2000000) (h2:ids.length≤2000000):Tot (λ k=>Dk k w ids) (λ r=>r=whr w.2.2.1 ids):=by
 have m1:=Q7 h1 h2
 unfold Dk
 refine H4b (Q:=λ r=>r=whr w.2.2.1 ids) ?_ (by rintro r rfl;exact H3b rfl)
 refine Hcb (L:=λ k i (s:List Int)=>Gd k s ids (ids.length:Int) i w) (Q:=λ r=>r=whr w.2.2.1 ids) ids.length (λ j s=>s++whr w.2.2.1 (ids.drop j)=whr w.2.2.1 ids) ?_ ?_ 0 [] (Vo _) rfl
 ·intro s h
  rw[Vz]at h
  simp (disch:=omega) only [Gd,dF]
  refine H3b ?_
  rw[← h]
  exact(Wn s).symm
 ·intro j s hj h next
  have g:=congrArg length h
  rw[Ve]at g
  rw[Ad (d:=0) hj,Oja]at h
  simp (disch:=omega) only [Gd,dT,Va,w64]
  refine Hfb (Dda w (ids.getD j 0) ids [] [] (ids.length:Int) (j:Int) s h1 (by omega)) ?_
  simp (disch:=omega) only [w64]
  exact next _ (by rw[Vp];exact h)
def G9a (w:Wld) (ids:List Int) (n:Nat) (hn:n<ids.length) (out:List Int) (h1:w.2.2.1.length≤2000000) (ho:out.length≤4000000000000):
  Tot (λ k=>Ce k ids out (n:Int) 0 w) (λ r=>r=(ids,out++atN w.2.2.1 (ids.getD n 0) 0,(n:Int),w)):=by
 have m1:=G8a (ids.getD n 0) w.2.2.1 0
 refine Hcb (L:=λ k i (s:List Int)=>Ce k ids s (n:Int) i w) (Q:=λ r=>r=(ids,out++atN w.2.2.1 (ids.getD n 0) 0,(n:Int),w)) w.2.2.1.length (λ j s=>s++atN (w.2.2.1.drop j) (ids.getD n 0) j=out++atN w.2.2.1 (ids.getD n 0) 0) ?_ ?_ 0 out (Vo _) rfl
 ·intro s h
  rw[Vz]at h
  simp (disch:=omega) only [Ce,dF]
  refine H3b ?_
  rw[← h]
  show _=(ids,s++[],(n:Int),w)
  rw[Wn]
 ·intro j s hj h next
  have g:=congrArg length h
  rw[Ve,Ve]at g
  rw[Ad (d:=Bb) hj,G7a]at h
  obtain⟨x,ex⟩:∃ x:Nod,w.2.2.1.getD j Bb=x:=⟨_,rfl⟩
  rw[ex]at h
  have e0:w.2.2.1.getD j ((0:Int),(([],[]),([],[])))=x:=ex
  simp (disch:=omega) only [Ce,dT,Va,w64,e0]
  cases hx:x.1==ids.getD n 0 with
  |true=>
   rw[hx,cond_true]at h
   refine H6b rfl (Hbb (by simp only[Vd,Vj];omega) (next (s++[(j:Int)]) ?_))
   rw[← h,Vp]
   rfl
  |false=>
   rw[hx,cond_false]at h
   refine H5b rfl (next s h)
def Tj (w:Wld) (ids:List Int) (h1:w.2.2.1.length≤2000000) (h2:ids.length≤2000000):Tot (λ k=>Bl k w ids) (λ r=>r=whr w.2.2.1 ids):=by
 have m1:=Q7 h1 h2
 unfold Bl
 refine H4b (Q:=λ r=>r=whr w.2.2.1 ids) ?_ (by rintro r rfl;exact H3b rfl)
 refine Hcb (L:=λ k i (s:List Int)=>Em k ids s i w) (Q:=λ r=>r=whr w.2.2.1 ids) ids.length (λ j s=>s++whr w.2.2.1 (ids.drop j)=whr w.2.2.1 ids) ?_ ?_ 0 [] (Vo _) rfl
 ·intro s h
  rw[Vz]at h
  simp (disch:=omega) only [Em,dF]
  refine H3b ?_
  rw[← h]
  exact(Wn s).symm
 ·intro j s hj h next
  have g:=congrArg length h
  rw[Ve]at g
  rw[Ad (d:=0) hj,Oja]at h
  simp (disch:=omega) only [Em,dT,Va,w64]
  refine Hfb (G9a w ids j hj s h1 (by omega)) ?_
  simp (disch:=omega) only [w64]
  exact next _ (by rw[Vp];exact h)
def Lsa (id:Int):∀ (ns:List Nod) (i:Nat) (x:Int),x∈atN ns id i↔∃ j,j<ns.length∧(ns.getD j Bb).1=id∧x=((i+j:Nat):Int)
 |[],i,x=>by simp[atN]
 |n::ns,i,x=>by
  have ih:=Lsa id ns (i+1) x
  have tl:(∃ j,j<(n::ns).length∧((n::ns).getD j Bb).1=id∧x=((i+j:Nat):Int))↔(n.1=id∧x=(i:Int))∨x∈atN ns id (i+1):=by
   rw[ih]
   constructor
   ·rintro⟨j,h1,h2,h3⟩
    cases j with
    |zero=>exact .inl ⟨h2,by omega⟩
    |succ j=>exact .inr ⟨j,by simpa using h1,by simpa using h2,by omega⟩
   ·rintro (⟨h1,h2⟩|⟨j,h1,h2,h3⟩)
    ·exact⟨0,by simp,h1,by omega⟩
    ·exact⟨j+1,by simpa using h1,by simpa using h2,by omega⟩
  rw[tl,G7a]
  cases hx:n.1==id with
  |true=>
   rw[cond_true,Vl,eq_of_beq hx]
   simp
  |false=>
   rw[cond_false]
   have:=beq_eq_false_iff_ne.1 hx
   simp[this]
def Gaa {ns:List Nod} {ids:List Int} {x:Int}:x∈whr ns ids↔∃ j,j<ns.length∧(ns.getD j Bb).1∈ids∧x=(j:Int):=by
 unfold whr
 rw[List.mem_flatMap]
 constructor
 ·rintro⟨id,h1,h2⟩
  obtain⟨j,h3,h4,h5⟩:=(Lsa _ _ _ _).1 h2
  exact⟨j,h3,h4 ▸ h1,by omega⟩
 ·rintro⟨j,h3,h4,h5⟩
  exact⟨_,h4,(Lsa _ _ _ _).2 ⟨j,h3,rfl,by omega⟩⟩
def E9 (w:Wld) (x:ByteArray):List Int:=whr w.2.2.1 (Wz w.2.1 x++Q6 w.2.1 w.1 x)
def Ghb:ByteArray:=⟨#[108,105,115,116]⟩
def Im (w:Wld):List Int:=whr w.2.2.1 (Wz w.2.1 Ghb)
def Tk {r:Rng} (hr:RBd r) (x:ByteArray):(Wz r x).length≤2000000:=by
 unfold Wz
 by_cases hm:Qca x % r.2.length<r.2.length
 ·exact hr.2 _ (A3 (d:=[]) hm)
 ·rw[Vc,Zf (by omega)];exact Vo _
def Q8 (r:Rng) (l:List Dev) (x:ByteArray):(Q6 r l x).length≤l.length+l.length:=by
 unfold Q6
 rw[Ve]
 have h1:=Y3 (Wz r x) (D9 (Wz r x) l) false l
 have h2:=Y3 (Wz r x) (D9 (Wz r x) l) true l
 omega
def J2a (w:Wld) (x:ByteArray) (h:Il w.2.1 w.1=true) (hn:w.2.2.1.length≤2000000) (hx:x.size≤1000000000):Tot (λ k=>Cj k w x) (λ r=>r=(E9 w x,w)):=by
 have h5:=(B1.1 h).2.1
 have p2:=(Uk h x).2.1
 have h12:=(Cu.1 (B1.1 h).1).2.2.2
 have hh:=Q8 w.2.1 w.1 x
 unfold Cj E9
 refine Hfb (Ava _ x (Mn h) hx) ?_
 refine Hfb (Yxa _ _ x h hx) ?_
 refine Hbb (by omega) (Hfb (Ul w _ hn (by rw[Ve];omega)) ?_)
 exact H3b rfl
def J3a (w:Wld) (x:ByteArray) (h:Il w.2.1 w.1=true) (hn:w.2.2.1.length≤2000000) (hx:x.size≤1000000000):Tot (λ k=>Fm k w x) (λ r=>r=E9 w x):=by
 have h5:=(B1.1 h).2.1
 have p2:=(Uk h x).2.1
 have h12:=(Cu.1 (B1.1 h).1).2.2.2
 have hh:=Q8 w.2.1 w.1 x
 unfold Fm E9
 rw[Cvb]
 refine Hfb (Awa _ x (Mn h) hx) ?_
 refine Hfb (Tj w _ hn (by omega)) ?_
 refine Hfb (Yya _ _ x h hx) ?_
 refine Hfb (Tj w _ hn (by omega)) ?_
 have l1:=Q7 hn (show (Wz w.2.1 x).length≤2000000 by omega)
 have l2:=Q7 hn (show (Q6 w.2.1 w.1 x).length≤2000000 by omega)
 exact Hbb (by omega) (H3b rfl)
def Cla (w:Wld) (hr:RBd w.2.1) (hn:w.2.2.1.length≤2000000):Tot (λ k=>Hp k w) (λ r=>r=Im w):=by
 unfold Hp
 refine Hfb (Ava _ Ghb hr (by decide)) ?_
 refine Hfb (Ul w _ hn (Tk hr _)) ?_
 exact H3b rfl
def Cma (w:Wld) (hr:RBd w.2.1) (hn:w.2.2.1.length≤2000000):Tot (λ k=>Ht k w) (λ r=>r=Im w):=by
 unfold Ht
 refine Hfb (Awa _ Ghb hr (by decide)) ?_
 refine Hfb (Tj w _ hn (Tk hr _)) ?_
 exact H3b rfl
def quo (n:Int):Int:=n/2+1
def Fcb {n:Int} (h0:0≤n):Int.tdiv n 2=n/2:=Hob h0
def Cwb {n:Int} (h0:0≤n) (h1:n≤1000000000):Lm n=some (quo n):=by
 unfold Lm quo
 rw[Fcb h0,w64 (n:=n/2) (by omega) (by omega),w64 (n:=n/2+1) (by omega) (by omega)]
def Cxb {n:Int} (h0:0≤n) (h1:n≤1000000000):Lt n=some (quo n):=by
 unfold Lt quo
 rw[Fcb h0,w64 (n:=n/2) (by omega) (by omega),w64 (n:=n/2+1) (by omega) (by omega)]
def rch (l:List Int) (i:Nat):Int:=bif decide (i<l.length)&&inR (l.getD i 0) 1 3 then l.getD i 0 else 0
def Lta (l:List Int) (i:Nat):F6 l (i:Int)=some (rch l i):=by
 unfold F6 rch
 by_cases h:i<l.length
 ·simp (disch:=omega) only [dT,Va,Ru,Vn]
  rw[decide_eq_true h,Wd]
  cases inR (l.getD i 0) 1 3<;>rfl
 ·rw[dF (by omega),decide_eq_false h];rfl
def Lua (l:List Int) (i:Nat):C9 l (i:Int)=some (rch l i):=by
 unfold C9 rch
 by_cases h:i<l.length
 ·rw[dF (by omega)]
  simp (disch:=omega) only [dT,Va,Pr,Vn]
  rw[decide_eq_true h,Wd]
  cases inR (l.getD i 0) 1 3<;>rfl
 ·rw[dT (by omega),decide_eq_false h];rfl

def Gba (a b:Fil):Bool:=((a.1.1==b.1.1)&&((a.1.2.1==b.1.2.1)&&(a.1.2.2==b.1.2.2)))&&((a.2.1==b.2.1)&&((M9 a.2.2).toList==(M9 b.2.2).toList))
def V5a (a b:Fil):Jj a b=some (Gba a b):=by
 unfold Jj Gba
 cases (a.1.1==b.1.1)&&((a.1.2.1==b.1.2.1)&&(a.1.2.2==b.1.2.2))<;>cases a.2.1==b.2.1<;>rfl
def J4a {a b:Fil} (ha:Ao a.2.2) (hb:Ao b.2.2):Gba a b=true↔a=b:=by
 unfold Gba
 rw[St ha hb]
 obtain⟨⟨a1,a2,a3⟩,a4,a5⟩:=a
 obtain⟨⟨b1,b2,b3⟩,b4,b5⟩:=b
 simp only[Vb,beq_iff_eq,decide_eq_true_iff,Vy]
def V6a (ws:List Wri) (s:ByteArray) (f:Fil):Bool:=ws.any λ x=>teq x.1 s&&Gba x.2.1 f
def V7a (w:Wld) (s:ByteArray) (f:Fil) (h:w.2.2.2.2.1.length≤2000000):Tot (λ k=>D5 k w s f) (λ r=>r=V6a w.2.2.2.2.1 s f):=by
 unfold D5 V6a
 refine H4b (Q:=λ r=>r=bif w.2.2.2.2.1.any (λ x=>teq x.1 s&&Gba x.2.1 f) then .inl true else .inr ()) ?_ (by
  rintro r rfl
  cases w.2.2.2.2.1.any (λ x=>teq x.1 s&&Gba x.2.1 f)<;>exact H3b rfl)
 rw[Cka _ Dca]
 refine Heb (L:=λ k i=>Dg k s w.2.2.2.2.1 (w.2.2.2.2.1.length:Int) i f) _ _ () ?_ ?_
 ·simp (disch:=omega) only [Dg,dF]
  exact H3b rfl
 ·intro j hj Q yes no
  obtain⟨x,ex⟩:∃ x:Wri,w.2.2.2.2.1.getD j Dca=x:=⟨_,rfl⟩
  simp only[ex]at no yes
  have e0:w.2.2.2.2.1.getD j ((⟨#[]⟩:ByteArray),((((0:Int),((0:Int),(0:Int))),(false,[])),false))=x:=ex
  simp (disch:=omega) only [Dg,dT,Va,w64,e0,V5a,Vn]
  refine H9b (λ h1=>H9b (λ h2=>H3b (yes ?_)) (λ h2=>no ?_)) (λ h1=>no ?_)
  ·show ((x.1.toList==s.toList)&&Gba x.2.1 f)=true
   rw[h1,h2];rfl
  ·rw[h2,Yt]
  ·show ((x.1.toList==s.toList)&&Gba x.2.1 f)=false
   rw[h1];rfl
def V8a (ws:List Wri) (e:Nmd):Bool:=match On e.2 with
 |none=>true
 |some f=>V6a ws e.1 f
def Tl (w:Wld):Bool:=(List.range w.2.2.1.length).all λ j=>(w.2.2.1.getD j Bb).2.1.1.all (V8a w.2.2.2.2.1)&&(w.2.2.1.getD j Bb).2.1.2.all (V8a w.2.2.2.2.1)
def Lva (w:Wld) (hw:WIn w):Tot (λ k=>Dz k w) (λ r=>r=Tl w):=by
 obtain⟨_,_,⟨h1,h2⟩,⟨h3,_⟩,_⟩:=hw
 unfold Dz Tl
 refine H4b (Q:=λ r=>r=bif (List.range w.2.2.1.length).all (λ j=>(w.2.2.1.getD j Bb).2.1.1.all (V8a w.2.2.2.2.1)&&(w.2.2.1.getD j Bb).2.1.2.all (V8a w.2.2.2.2.1)) then .inr () else .inl false) ?_ (by
  rintro r rfl
  cases (List.range w.2.2.1.length).all (λ j=>(w.2.2.1.getD j Bb).2.1.1.all (V8a w.2.2.2.2.1)&&(w.2.2.1.getD j Bb).2.1.2.all (V8a w.2.2.2.2.1))<;>exact H3b rfl)
 refine Hdb (L:=λ k i=>Gx k w.2.2.1 (w.2.2.1.length:Int) i w) _ _ () ?_ ?_
 ·simp (disch:=omega) only [Gx,dF]
  exact H3b rfl
 ·intro j hj Q no yes
  have hm:=h2 _ (A3 (d:=Bb) hj)
  obtain⟨x,ex⟩:∃ x:Nod,w.2.2.1.getD j Bb=x:=⟨_,rfl⟩
  rw[ex]at hm no yes
  have e0:w.2.2.1.getD j ((0:Int),(([],[]),([],[])))=x:=ex
  obtain⟨⟨⟨⟨f1,f2⟩,_⟩,l1,l2⟩,b1,b2⟩:=hm.1
  have n0:([]:List (ByteArray×(List Int))).length=0:=rfl
  simp (disch:=omega) only [Gx,dT,Va,w64,e0,Vx]
  refine Hbb (by rw[n0];omega) (Hbb (by omega) ?_)
  rw[← Kgb]at no yes
  have hf:E7a (x.2.1.1++x.2.1.2):=⟨by rw[Ve];omega,λ y hy=>(Vq.1 hy).elim (f1.2 y) (f2.2 y)⟩
  have hb:LB (x.2.1.1++x.2.1.2):=λ y hy=>(Vq.1 hy).elim (b1 y) (b2 y)
  have hl:(x.2.1.1++x.2.1.2).length≤4000000:=by rw[Ve];omega
  generalize x.2.1.1++x.2.1.2=l at *
  refine H4b (Q:=λ r=>r=bif l.all (V8a w.2.2.2.2.1) then .inr (w.2.2.1,(w.2.2.1.length:Int),(j:Int),w) else .inl false) ?_ ?_
  ·rw[X1 _ C3]
   refine Hdb (L:=λ k i=>Fu k w.2.2.1 (w.2.2.1.length:Int) (j:Int) l (l.length:Int) i w) _ _ (w.2.2.1,(w.2.2.1.length:Int),(j:Int),w) ?_ ?_
   ·simp (disch:=omega) only [Fu,dF]
    exact H3b rfl
   ·intro j hj Q no yes
    have hm:=A3 (d:=C3) hj
    obtain⟨x,ex⟩:∃ x:Nmd,l.getD j C3=x:=⟨_,rfl⟩
    rw[ex]at hm
    simp only[ex]at no yes
    have e0:l.getD j ((⟨#[]⟩:ByteArray),[])=x:=ex
    simp (disch:=omega) only [Fu,dT,Va,w64,e0]
    refine Hfb (Ow x.2 (hb x hm) (hf.2 x hm)) ?_
    unfold V8a at no yes
    unfold Ss
    cases hg:On x.2 with
    |none=>rw[hg]at yes;exact H5b rfl (yes rfl)
    |some f=>
     rw[hg]at yes no
     refine H6b rfl (Hfb (V7a w x.1 f h3) ?_)
     exact Hgb (λ hc=>H3b (no hc)) yes
  ·rintro r rfl
   cases hc:l.all (V8a w.2.2.2.2.1)
   ·exact H3b (no hc)
   simp (disch:=omega) only [cond_true,Hvb,w64]
   exact yes hc

def Z1a (a b:Row):Bool:=(a.1==b.1)&&((a.2.1.1==b.2.1.1)&&((a.2.1.2.1==b.2.1.2.1)&&((a.2.1.2.2==b.2.1.2.2)&&((a.2.2.1==b.2.2.1)&&(a.2.2.2==b.2.2.2)))))
def J5a {a b:Row}:Z1a a b=true↔a=b:=by
 unfold Z1a
 obtain⟨a0,⟨a1,a2,a3⟩,a4,a5⟩:=a
 obtain⟨b0,⟨b1,b2,b3⟩,b4,b5⟩:=b
 simp only[Aoa,Vb,beq_iff_eq,Vy,Iw]
 constructor
 ·rintro⟨h0,h1,h2,h3,h4,h5⟩;exact⟨h0,⟨h1,h2,h3⟩,h4,h5⟩
 ·rintro⟨h0,⟨h1,h2,h3⟩,h4,h5⟩;exact⟨h0,h1,h2,h3,h4,h5⟩
def Qe (ws:List Wri) (r:Row):Bool:=ws.any λ x=>Z1a (Ww x.1 x.2.1) r
def Y5 (w:Wld):Bool:=(List.range w.2.2.1.length).all λ j=>(w.2.2.1.getD j Bb).2.2.1.all (Qe w.2.2.2.2.1)&&(w.2.2.1.getD j Bb).2.2.2.all (Qe w.2.2.2.2.1)
def Gib:Row:=((⟨#[]⟩:ByteArray),(((0:Int),((0:Int),(0:Int))),(false,(0:Int))))
def Gca (w:Wld) (ns:List Nod) (n m:Int) (l:List Row) (len i:Int) (r0:Row) (h:w.2.2.2.2.1.length≤2000000):Tot (λ k=>F4 k false ns n m l len i w.2.2.2.2.1 (w.2.2.2.2.1.length:Int) 0 w r0) (λ r=>r=(Qe w.2.2.2.2.1 r0,ns,n,m,l,len,i,w)):=by
 refine Hcb (L:=λ k i' (s:Bool)=>F4 k s ns n m l len i w.2.2.2.2.1 (w.2.2.2.2.1.length:Int) i' w r0) (Q:=λ r=>r=(Qe w.2.2.2.2.1 r0,ns,n,m,l,len,i,w)) w.2.2.2.2.1.length (λ j s=>(s||(w.2.2.2.2.1.drop j).any λ x=>Z1a (Ww x.1 x.2.1) r0)=Qe w.2.2.2.2.1 r0) ?_ ?_ 0 false (Vo _) (Zu _)
 ·intro s hs
  rw[Vz,List.any_nil,Bool.or_false]at hs
  simp (disch:=omega) only [F4,dF]
  exact H3b (by rw[hs])
 ·intro j s hj hs next
  cases s with
  |true=>
   rw[Irb]at hs
   simp (disch:=omega) only [F4,dT,w64,cond_true]
   exact next true (by rw[Irb];exact hs)
  |false=>
   rw[Ad (d:=Dca) hj,Itb,Zu]at hs
   obtain⟨x,ex⟩:∃ x:Wri,w.2.2.2.2.1.getD j Dca=x:=⟨_,rfl⟩
   rw[ex]at hs
   have e0:w.2.2.2.2.1.getD j ((⟨#[]⟩:ByteArray),((((0:Int),((0:Int),(0:Int))),(false,[])),false))=x:=ex
   simp (disch:=omega) only [F4,dT,Va,w64,e0,cond_false,Kz,Vn]
   exact next _ hs
def Qda (w:Wld) (hw:WIn w):Tot (λ k=>Ev k w) (λ r=>r=Y5 w):=by
 obtain⟨_,_,⟨h1,h2⟩,⟨h3,_⟩,_⟩:=hw
 unfold Ev Y5
 refine H4b (Q:=λ r=>r=bif (List.range w.2.2.1.length).all (λ j=>(w.2.2.1.getD j Bb).2.2.1.all (Qe w.2.2.2.2.1)&&(w.2.2.1.getD j Bb).2.2.2.all (Qe w.2.2.2.2.1)) then .inr () else .inl false) ?_ (by
  rintro r rfl
  cases (List.range w.2.2.1.length).all (λ j=>(w.2.2.1.getD j Bb).2.2.1.all (Qe w.2.2.2.2.1)&&(w.2.2.1.getD j Bb).2.2.2.all (Qe w.2.2.2.2.1))<;>exact H3b rfl)
 refine Hdb (L:=λ k i=>Ii k w.2.2.1 (w.2.2.1.length:Int) i w) _ _ () ?_ ?_
 ·simp (disch:=omega) only [Ii,dF]
  exact H3b rfl
 ·intro j hj Q no yes
  have hm:=h2 _ (A3 (d:=Bb) hj)
  obtain⟨x,ex⟩:∃ x:Nod,w.2.2.1.getD j Bb=x:=⟨_,rfl⟩
  rw[ex]at hm no yes
  have e0:w.2.2.1.getD j ((0:Int),(([],[]),([],[])))=x:=ex
  obtain⟨_,f1,f2⟩:=hm
  have g1:=f1.1
  have g2:=f2.1
  have ec:Af x.2.2.1=some x.2.2.1:=by
   unfold Af
   rw[bT (by simp only[Vj];omega),Vx]
  simp (disch:=omega) only [Ii,dT,Va,w64,e0,ec,Vn]
  refine Hbb (by omega) ?_
  rw[← Kgb]at no yes
  have hl:(x.2.2.1++x.2.2.2).length≤4000000:=by rw[Ve];omega
  generalize x.2.2.1++x.2.2.2=l at *
  refine H4b (Q:=λ r=>r=bif l.all (Qe w.2.2.2.2.1) then .inr (w.2.2.1,(w.2.2.1.length:Int),(j:Int),w) else .inl false) ?_ ?_
  ·rw[X1 _ Gib]
   refine Hdb (L:=λ k i=>Ih k w.2.2.1 (w.2.2.1.length:Int) (j:Int) l (l.length:Int) i w) _ _ (w.2.2.1,(w.2.2.1.length:Int),(j:Int),w) ?_ ?_
   ·simp (disch:=omega) only [Ih,dF]
    exact H3b rfl
   ·intro i hi Q no yes
    have e1:l.getD i ((⟨#[]⟩:ByteArray),(((0:Int),((0:Int),(0:Int))),(false,(0:Int))))=l.getD i Gib:=rfl
    simp (disch:=omega) only [Ih,dT,Va,e1]
    refine Hfb (Gca w _ _ _ l _ _ (l.getD i Gib) h3) ?_
    simp (disch:=omega) only [w64]
    exact Hgb (λ hc=>H3b (no hc)) yes
  ·rintro r rfl
   cases hc:l.all (Qe w.2.2.2.2.1)
   ·exact H3b (no hc)
   simp (disch:=omega) only [cond_true,Hvb,w64]
   exact yes hc
def Lwa (s:ByteArray) (st:Stp) (n:Nod):Bool:=match gt n.2.1.2 s with
 |none=>false
 |some b=>match On b with
  |none=>false
  |some f => !(sle f.1 st)
def V9a (w:Wld) (x:Wri):Bool := !x.2.2||(D1a w.2.2.2.2.2 x.1||w.2.2.1.any (Lwa x.1 x.2.1.1))
def Qea (w:Wld):Bool:=w.2.2.2.2.1.all (V9a w)
def Cyb (l:List Nmd) (s:ByteArray):(Cxa l s<0∧gt l s=none)∨∃ i:Nat,Cxa l s=(i:Int)∧i<l.length∧gt l s=some (l.getD i C3).2:=by
 unfold Cxa gt
 cases h:fnd l s with
 |none=>exact .inl ⟨by decide,rfl⟩
 |some i=>
  obtain⟨hi,_⟩:=I3b.1 h
  exact .inr ⟨i,rfl,hi,rfl⟩
def Vaa (w:Wld) (hw:WIn w) (s:ByteArray) (st:Stp):Tot (λ k=>Jr k w s st) (λ r=>r=w.2.2.1.any (Lwa s st)):=by
 obtain⟨_,_,⟨h1,h2⟩,⟨h3,_⟩,_⟩:=hw
 unfold Jr
 refine H4b (Q:=λ r=>r=bif w.2.2.1.any (Lwa s st) then .inl true else .inr ()) ?_ (by
  rintro r rfl
  cases w.2.2.1.any (Lwa s st)<;>exact H3b rfl)
 rw[Cka _ Bb]
 refine Heb (L:=λ k i=>Hg k s w.2.2.1 (w.2.2.1.length:Int) i st) _ _ () ?_ ?_
 ·simp (disch:=omega) only [Hg,dF]
  exact H3b rfl
 ·intro j hj Q yes no
  have hm:=h2 _ (A3 (d:=Bb) hj)
  obtain⟨x,ex⟩:∃ x:Nod,w.2.2.1.getD j Bb=x:=⟨_,rfl⟩
  rw[ex]at hm no yes
  have e0:w.2.2.1.getD j ((0:Int),(([],[]),([],[])))=x:=ex
  obtain⟨⟨⟨⟨f1,f2⟩,_⟩,l1,l2⟩,b1,b2⟩:=hm.1
  simp (disch:=omega) only [Hg,dT,Va,w64,e0]
  unfold Lwa at yes no
  refine Hfb (Z2 x.2.1.2 s f2.1) ?_
  rcases Cyb x.2.1.2 s with⟨hn,hg⟩|⟨i,e,hi,hg⟩
  ·rw[hg]at no
   exact H7b hn (no rfl)
  ·rw[e]
   have hm:=A3 (d:=C3) hi
   obtain⟨y,ey⟩:∃ y:Nmd,x.2.1.2.getD i C3=y:=⟨_,rfl⟩
   rw[ey]at hm hg
   rw[hg]at no yes
   have e2:x.2.1.2.getD i ((⟨#[]⟩:ByteArray),[])=y:=ey
   refine H8b (by omega) ?_
   simp (disch:=omega) only [dT,Va,e2]
   refine Hfb (Ow y.2 (b2 y hm) (f2.2 y hm)) ?_
   unfold Ss
   cases hy:On y.2 with
   |none=>simp only[hy]at no;exact H5b rfl (no trivial)
   |some f=>
    simp only[hy]at no yes
    simp only[W1,Vn]
    exact H6b rfl (H9b (λ hc=>H3b (yes hc)) (λ hc=>no hc))
def Z2a (l:List ByteArray) (s:ByteArray) (hl:l.length≤1000000000):Tot (λ k=>Ju k l s) (λ r=>r=D1a l s):=by
 unfold Ju D1a
 refine H4b (Q:=λ r=>r=bif l.any (λ y=>teq y s) then .inl true else .inr ()) ?_ (by
  rintro r rfl
  cases l.any (λ y=>teq y s)<;>exact H3b rfl)
 rw[Cka _ Nm]
 refine Heb (L:=λ k i=>Gy k s l (l.length:Int) i) _ _ () ?_ ?_
 ·simp (disch:=omega) only [Gy,dF]
  exact H3b rfl
 ·intro j hj Q yes no
  have e0:l.getD j (⟨#[]⟩:ByteArray)=l.getD j Nm:=rfl
  simp (disch:=omega) only [Gy,dT,Va,w64,e0]
  exact H9b (λ hc=>H3b (yes hc)) (λ hc=>no hc)
def Z3a (w:Wld) (hw:WIn w):Tot (λ k=>Lc k w) (λ r=>r=Qea w):=by
 have hw':=hw
 obtain⟨_,_,⟨h1,h2⟩,⟨h3,_⟩,h5,_⟩:=hw'
 unfold Lc Qea
 refine H4b (Q:=λ r=>r=bif w.2.2.2.2.1.all (V9a w) then .inr () else .inl false) ?_ (by
  rintro r rfl
  cases w.2.2.2.2.1.all (V9a w)<;>exact H3b rfl)
 rw[X1 _ Dca]
 refine Hdb (L:=λ k i=>J1 k w.2.2.2.2.1 (w.2.2.2.2.1.length:Int) i w) _ _ () ?_ ?_
 ·simp (disch:=omega) only [J1,dF]
  exact H3b rfl
 ·intro j hj Q no yes
  obtain⟨x,ex⟩:∃ x:Wri,w.2.2.2.2.1.getD j Dca=x:=⟨_,rfl⟩
  rw[ex]at no yes
  have e0:w.2.2.2.2.1.getD j ((⟨#[]⟩:ByteArray),((((0:Int),((0:Int),(0:Int))),(false,[])),false))=x:=ex
  simp (disch:=omega) only [J1,dT,Va,w64,e0]
  unfold V9a at no yes
  refine H9b (λ hk=>?_) (λ hk=>yes (by rw[hk];rfl))
  rw[hk,Za,Zu]at no yes
  refine Hfb (Z2a _ x.1 (by omega)) ?_
  refine H9b (λ hh=>?_) (λ hh=>yes (by rw[Wo]at hh;rw[hh,Irb]))
  rw[Vw]at hh
  rw[hh,Zu]at no yes
  refine Hfb (Vaa w hw x.1 x.2.1.1) ?_
  refine H9b (λ hc=>H3b (no ?_)) (λ hc=>yes ?_)
  ·rw[Vw]at hc;exact hc
  ·rw[Wo]at hc;exact hc
def Tm (w:Wld):Bool:=(List.range w.2.2.2.2.1.length).all λ j => !(sle w.2.2.2.1 (w.2.2.2.2.1.getD j Dca).2.1.1)&&(decide (j=0)||sle (w.2.2.2.2.1.getD (j-1) Dca).2.1.1 (w.2.2.2.2.1.getD j Dca).2.1.1)
def Lxa (w:Wld) (hw:WIn w):Tot (λ k=>G3 k w) (λ r=>r=Tm w):=by
 obtain⟨_,_,_,⟨h3,_⟩,h5,_⟩:=hw
 unfold G3 Tm
 generalize hP:(λ j => !(sle w.2.2.2.1 (w.2.2.2.2.1.getD j Dca).2.1.1)&&(decide (j=0)||sle (w.2.2.2.2.1.getD (j-1) Dca).2.1.1 (w.2.2.2.2.1.getD j Dca).2.1.1))=P
 refine H4b (Q:=λ r=>r=bif (List.range w.2.2.2.2.1.length).all P then .inr () else .inl false) ?_ (by
  rintro r rfl
  cases (List.range w.2.2.2.2.1.length).all P<;>exact H3b rfl)
 refine Hdb (L:=λ k i=>Fv k w.2.2.2.2.1 (w.2.2.2.2.1.length:Int) i w) _ _ () ?_ ?_
 ·simp (disch:=omega) only [Fv,dF]
  exact H3b rfl
 ·intro j hj Q no yes
  subst hP
  dsimp only at no yes
  have e0:∀ i,w.2.2.2.2.1.getD i ((⟨#[]⟩:ByteArray),((((0:Int),((0:Int),(0:Int))),(false,[])),false))=w.2.2.2.2.1.getD i Dca:=λ _=>rfl
  simp (disch:=omega) only [Fv,dT,Va,w64,e0,W1,Vn]
  refine H9b (λ hc=>H3b (no (by rw[hc];rfl))) (λ hc=>?_)
  rw[hc,I7b,Wd]at no yes
  refine Hab (λ h0=>?_) (λ h0=>yes (by rw[decide_eq_true (show j=0 by omega)];rfl))
  simp (disch:=omega) only [dT,w64,show toNat ((j:Int)-1)=j-1 by omega]
  rw[decide_eq_false (show ¬ j=0 by omega),Zu]at no yes
  refine H9b (λ hc=>H3b (no ?_)) (λ hc=>yes ?_)
  ·rw[Vw]at hc;exact hc
  ·rw[Wo]at hc;exact hc
def Z4a (w:Wld):Int:=bif Y4 w then (bif Tl w then (bif Y5 w then (bif Qea w then (bif Tm w then 0 else 5) else 4) else 3) else 2) else 1
def Z5a (w:Wld) (hw:WIn w):Tot (λ k=>N5 k w) (λ r=>r=Z4a w):=by
 unfold N5 Z4a
 refine Hfb (J1a w hw) ?_
 cases Y4 w
 ·exact H6b rfl (H3b rfl)
 refine H5b rfl (Hfb (Lva w hw) ?_)
 cases Tl w
 ·exact H6b rfl (H3b rfl)
 refine H5b rfl (Hfb (Qda w hw) ?_)
 cases Y5 w
 ·exact H6b rfl (H3b rfl)
 refine H5b rfl (Hfb (Z3a w hw) ?_)
 cases Qea w
 ·exact H6b rfl (H3b rfl)
 refine H5b rfl (Hfb (Lxa w hw) ?_)
 cases Tm w with
 |false=>exact H6b rfl (H3b rfl)
 |true=>exact H5b rfl (H3b rfl)

def run {α:Type} (st:α→Nat→α) (n:Nat) (a:α):α:=(List.range n).foldl st a
def Pg {α:Type} (st:α→Nat→α) (n:Nat) (a:α):run st (n+1) a=st (run st n a) n:=by
 unfold run
 rw[Job,Ibb]
 rfl
def Z6a {α:Type} {st:α→Nat→α} {a:α} {j n:Nat} (hj:j≤n) (h:∀ i,st (run st j a) i=run st j a):run st n a=run st j a:=by
 obtain⟨m,rfl⟩:=Nat.exists_eq_add_of_le hj
 induction m with
 |zero=>rfl
 |succ m ih=>rw[← Zh,Pg,ih (by omega),h]
def Np {α:Type} {st:α→Nat→α} (P:Nat→α→Prop) {n:Nat} {a:α} (h0:P 0 a) (hs:∀ j b,j<n→P j b→P (j+1) (st b j)):P n (run st n a):=by
 have:∀ m,m≤n→P m (run st m a):=by
  intro m
  induction m with
  |zero=>intro _;exact h0
  |succ m ih=>intro hm;rw[Pg];exact hs m _ (by omega) (ih (by omega))
 exact this n (Vv _)
def NS (ns:List Nod):Prop:=ns.length≤2000000∧∀ n∈ns,NG n
def NS.set {ns:List Nod} (h:NS ns) {i:Nat} {n:Nod} (hn:NG n):NS (ns.set i n):=⟨by rw[Wb];exact h.1,λ m hm=>by
 rcases Yk hm with hm|rfl
 ·exact h.2 m hm
 ·exact hn⟩
def NS.get {ns:List Nod} (h:NS ns) {i:Nat} (hi:i<ns.length):NG (ns.getD i Bb):=h.2 _ (A3 hi)
abbrev wN (w:Wld) (ns:List Nod):Wld:=(w.1,w.2.1,ns,w.2.2.2)
def Kw (c:Stp) (t d:Int):Stp:=bif decide (t≤c.1) then (bif Ga (c.1,c.2.1+1,d) then (c.1,c.2.1+1,d) else c) else (bif Ga (t,0,d) then (t,0,d) else c)
def Vba {c:Stp} (hc:Ga c=true) (t d:Int):I7 c t d=some (Kw c t d):=by
 have h2:0≤c.2.1∧c.2.1≤1000000:=by
  unfold Ga at hc
  rw[Vb,Vb,Cf,Cf]at hc
  exact hc.2.1
 unfold I7 Kw
 rw[w64 (n:=c.2.1+1) (by omega) (by omega)]
 simp only[Bya,Vn]
 cases decide (t≤c.1) with
 |true=>cases Ga (c.1,c.2.1+1,d)<;>rfl
 |false=>cases Ga (t,0,d)<;>rfl
def X3 {c:Stp} (hc:Ga c=true) (t d:Int):Ga (Kw c t d)=true∧(Kw c t d=c∨sle c (Kw c t d)=true):=by
 unfold Kw
 by_cases h:t≤c.1
 ·rw[decide_eq_true h,cond_true]
  cases hs:Ga (c.1,c.2.1+1,d) with
  |true=>exact⟨hs,.inr (Sp.2 (.inr ⟨rfl,.inl (by show c.2.1<c.2.1+1;omega)⟩))⟩
  |false=>exact⟨hc,.inl rfl⟩
 ·rw[decide_eq_false h,cond_false]
  cases hs:Ga (t,0,d) with
  |true=>exact⟨hs,.inr (Sp.2 (.inl (by show c.1<t;omega)))⟩
  |false=>exact⟨hc,.inl rfl⟩
def wst (R:Int) (rc:List Int) (s:ByteArray) (f:Fil) (cs:List Int) (a:List Nod×Int×Int) (j:Nat):List Nod×Int×Int:=
 bif decide (a.2.1<R) then (bif rch rc j==0 then a else
  (a.1.set (cs.getD j 0).toNat (Tz (a.1.getD (cs.getD j 0).toNat Bb) s f (rch rc j != 3)).1,a.2.1+1,
   bif rch rc j==1&&((Tz (a.1.getD (cs.getD j 0).toNat Bb) s f (rch rc j != 3)).2==0||(Tz (a.1.getD (cs.getD j 0).toNat Bb) s f (rch rc j != 3)).2==1) then a.2.2+1 else a.2.2))
 else a
def wrN (w:Wld) (s:ByteArray) (f:Fil) (rc:List Int):List Nod×Int×Int:=run (wst w.2.1.1 rc s f (E9 w s)) (E9 w s).length (w.2.2.1,0,0)
def X4 (w:Wld) (s:ByteArray) (f:Fil) (rc:List Int):Int×Wld:=
 (bif decide ((wrN w s f rc).2.2≥quo w.2.1.1) then 0 else 1,(w.1,w.2.1,(wrN w s f rc).1,w.2.2.2.1,w.2.2.2.2.1++[(s,f,decide ((wrN w s f rc).2.2≥quo w.2.1.1))],w.2.2.2.2.2))
def Rp {w:Wld} {s:ByteArray} {x:Int} (h:x∈E9 w s):0≤x∧x<(w.2.2.1.length:Int):=by
 obtain⟨j,h1,_,rfl⟩:=Gaa.1 h
 omega
def Apb {R:Int} {rc:List Int} {s:ByteArray} {f:Fil} {cs:List Int} {a:List Nod×Int×Int} {j m:Nat} (hs:B2 s=true) (hf:F8 f=true) (h:NS a.1∧a.1.length=m∧(0≤a.2.1∧a.2.1≤j)∧0≤a.2.2∧a.2.2≤j) (hc:(cs.getD j 0).toNat<m):
  let b:=wst R rc s f cs a j
  NS b.1∧b.1.length=m∧(0≤b.2.1∧b.2.1≤((j+1:Nat):Int))∧0≤b.2.2∧b.2.2≤((j+1:Nat):Int):=by
 obtain⟨h1,h2,h3,h4,h5⟩:=h
 intro b
 have hb:b=wst R rc s f cs a j:=rfl
 unfold wst at hb
 cases hR:decide (a.2.1<R)
 ·rw[hR,cond_false]at hb;rw[hb];exact⟨h1,h2,⟨h3.1,by omega⟩,h4,by omega⟩
 rw[hR,cond_true]at hb
 cases hr:rch rc j==0
 case true=>rw[hr,cond_true]at hb;rw[hb];exact⟨h1,h2,⟨h3.1,by omega⟩,h4,by omega⟩
 rw[hr,cond_false]at hb
 rw[hb]
 refine⟨h1.set (Uca (h1.get (by omega)) hs hf),by rw[List.length_set];exact h2,⟨by dsimp only;omega,by dsimp only;omega⟩,?_⟩
 dsimp only
 cases rch rc j==1&&((Tz (a.1.getD (cs.getD j 0).toNat Bb) s f (rch rc j != 3)).2==0||(Tz (a.1.getD (cs.getD j 0).toNat Bb) s f (rch rc j != 3)).2==1)
 ·exact⟨h4,by rw[cond_false];omega⟩
 ·exact⟨by rw[cond_true];omega,by rw[cond_true];omega⟩
def Qfa (w:Wld) (s:ByteArray) (f:Fil) (rc:List Int) (hr:Il w.2.1 w.1=true) (hn:NS w.2.2.1) (hs:B2 s=true) (hf:F8 f=true) (hw:w.2.2.2.2.1.length≤2000000):
  Tot (λ k=>C5 k w s f rc) (λ r=>r=X4 w s f rc):=by
 have hsz:s.size≤1000000000:=by
  have:=Cf.1 (Vb _ _ ▸ hs:_∧_).2
  omega
 obtain⟨_,hR,_⟩:=B1.1 hr
 unfold C5 X4
 refine Hfb (J3a w s hr hn.1 hsz) ?_
 have hc:=λ x=>Rp (w:=w) (s:=s) (x:=x)
 have hcl:(E9 w s).length≤4000000000000:=by
  unfold E9
  refine Q7 hn.1 ?_
  have h5:=(B1.1 hr).2.1
  have p2:=(Uk hr s).2.1
  have h12:=(Cu.1 (B1.1 hr).1).2.2.2
  have hh:=Q8 w.2.1 w.1 s
  rw[Ve];omega
 have hrun:wrN w s f rc=run (wst w.2.1.1 rc s f (E9 w s)) (E9 w s).length (w.2.2.1,0,0):=rfl
 have inv:∀ n,n≤(E9 w s).length→NS (run (wst w.2.1.1 rc s f (E9 w s)) n (w.2.2.1,0,0)).1∧(run (wst w.2.1.1 rc s f (E9 w s)) n (w.2.2.1,0,0)).1.length=w.2.2.1.length∧(0≤(run (wst w.2.1.1 rc s f (E9 w s)) n (w.2.2.1,0,0)).2.1∧(run (wst w.2.1.1 rc s f (E9 w s)) n (w.2.2.1,0,0)).2.1≤n)∧0≤(run (wst w.2.1.1 rc s f (E9 w s)) n (w.2.2.1,0,0)).2.2∧(run (wst w.2.1.1 rc s f (E9 w s)) n (w.2.2.1,0,0)).2.2≤n:=by
  intro n hn'
  refine Np (λ j (b:List Nod×Int×Int)=>NS b.1∧b.1.length=w.2.2.1.length∧(0≤b.2.1∧b.2.1≤(j:Int))∧0≤b.2.2∧b.2.2≤(j:Int)) ⟨hn,rfl,⟨Zr _,Zr _⟩,Zr _,Zr _⟩ (λ j b hj hb=>Apb hs hf hb ?_)
  have:=hc _ (A3 (d:=0) (show j<(E9 w s).length by omega))
  omega
 generalize hcs:E9 w s=cs at *
 refine H4b (Q:=λ r=>r=(s,(wrN w s f rc).2.2,wN w (wrN w s f rc).1,f)) ?_ ?_
 ·refine Hcb (L:=λ k i (a:List Nod×Int×Int)=>Ba k s rc cs a.2.1 a.2.2 i (wN w a.1) f) (Q:=λ r=>r=(s,(wrN w s f rc).2.2,wN w (wrN w s f rc).1,f)) cs.length (λ j a=>a=run (wst w.2.1.1 rc s f cs) j (w.2.2.1,0,0)) ?_ ?_ 0 (w.2.2.1,0,0) (Vo _) rfl
  ·rintro a rfl
   simp (disch:=omega) only [Ba,dF]
   exact H3b (by rw[hrun])
  ·rintro j a hj rfl next
   obtain⟨i1,i2,i3,i4,i5⟩:=inv j (by omega)
   rw[Pg]at next
   have hst:=Z6a (st:=wst w.2.1.1 rc s f cs) (a:=(w.2.2.1,(0:Int),(0:Int))) (j:=j) (n:=cs.length) (by omega)
   generalize run (wst w.2.1.1 rc s f cs) j (w.2.2.1,0,0)=a at *
   obtain⟨ns,o,g⟩:=a
   dsimp only at i1 i2 i3 i4 i5
   have hci:=hc _ (A3 (d:=0) hj)
   obtain⟨i,ei⟩:∃ i:Nat,cs.getD j 0=(i:Int):=⟨(cs.getD j 0).toNat,by omega⟩
   rw[ei]at hci
   unfold wst at next
   rw[ei,Va]at next
   simp (disch:=omega) only [Ba,dT,wN]
   refine Hab (λ hR'=>?_) (λ hR'=>H3b ?_)
   ·dsimp only at next
    rw[decide_eq_true hR']at next
    simp only[Lua,Vn]
    cases h0:rch rc j==0 with
    |true=>
     rw[h0]at next
     simp (disch:=omega) only [w64]
     exact H6b rfl (next _ rfl)
    |false=>
     rw[h0]at next
     have e0:ns.getD i ((0:Int),(([],[]),([],[])))=ns.getD i Bb:=rfl
     simp (disch:=omega) only [dT,Va,w64,ei,e0,cond_false]
     refine Hfb (Uda (ns.getD i Bb) s f (rch rc j != 3) (Ug (i1.get (by omega))) (J5 hs)) ?_
     dsimp only at next ⊢
     generalize Tz (ns.getD i Bb) s f (rch rc j != 3)=p at *
     cases h1:rch rc j==1 with
     |false=>
      rw[h1]at next
      exact H5b rfl (next _ rfl)
     |true=>
      rw[h1]at next
      refine H6b rfl ?_
      cases h2:p.2==0
      case true=>rw[h2]at next;exact H6b rfl (next _ rfl)
      rw[h2]at next
      refine H5b rfl ?_
      cases h3:p.2==1 with
      |true=>rw[h3]at next;exact H6b rfl (next _ rfl)
      |false=>rw[h3]at next;exact H5b rfl (next _ rfl)
   ·rw[hrun,hst (λ i=>by unfold wst;dsimp only;rw[decide_eq_false hR'];rfl)]
 ·rintro r rfl
  obtain⟨_,_,_,h4,h5⟩:=inv cs.length (Vv _)
  dsimp only[wN]
  rw[Cxb (by omega) (by omega)]
  have ec:Bt f=some f:=by
   have:=(K6.1 hf).2.1
   unfold Bt
   rw[bT (by simp only[Vj];omega),Vx]
  rw[ec]
  simp only[Vn]
  refine Hbb (by simp only[Vd,Vj];omega) ?_
  cases decide ((wrN w s f rc).2.2≥quo w.2.1.1) with
  |true=>exact H3b rfl
  |false=>exact H3b rfl
def ask (w:Wld) (s:ByteArray) (f:Fil) (t:Int) (rc:List Int):Int×Wld:=
 bif !(B2 s) then (2,w) else bif decide ((f.2.2.length:Int) > 200) then (2,w) else bif !(inR t 0 1000000000) then (2,w) else
 bif (w.2.2.2.2.1.length:Int)==200 then (3,w) else
 bif (Kw w.2.2.2.1 t 0).1==w.2.2.2.1.1&&((Kw w.2.2.2.1 t 0).2.1==w.2.2.2.1.2.1&&(Kw w.2.2.2.1 t 0).2.2==w.2.2.2.1.2.2) then (3,w) else
 X4 (w.1,w.2.1,w.2.2.1,Kw w.2.2.2.1 t 0,w.2.2.2.2) s (Kw w.2.2.2.1 t 0,f.2) rc
def Vca (w:Wld) (s:ByteArray) (f:Fil) (t:Int) (rc:List Int) (hr:Il w.2.1 w.1=true) (hn:NS w.2.2.1) (hst:Ga w.2.2.2.1=true) (hs:Mo s) (hd:f.2.1=true→f.2.2=[]) (hw:w.2.2.2.2.1.length≤2000000):
  Tot (λ k=>Iq k w s f t rc) (λ r=>r=ask w s f t rc):=by
 unfold Iq ask
 refine Hfb (W4 s hs) ?_
 cases hs':B2 s
 ·exact H6b rfl (H3b rfl)
 refine H5b rfl ?_
 rw[Za,cond_false]
 by_cases hl:(f.2.2.length:Int) > 200
 ·rw[decide_eq_true hl];exact H6b rfl (H3b rfl)
 ·rw[decide_eq_false hl,cond_false]
  refine H5b rfl ?_
  simp only[Pr,Vba hst,Vn]
  cases inR t 0 1000000000
  ·exact H6b rfl (H3b rfl)
  refine H5b rfl ?_
  rw[Za,cond_false]
  cases (w.2.2.2.2.1.length:Int)==200
  case true=>exact H6b rfl (H3b rfl)
  refine H5b rfl ?_
  rw[cond_false]
  cases (Kw w.2.2.2.1 t 0).1==w.2.2.2.1.1&&((Kw w.2.2.2.1 t 0).2.1==w.2.2.2.1.2.1&&(Kw w.2.2.2.1 t 0).2.2==w.2.2.2.1.2.2)
  case true=>exact H6b rfl (H3b rfl)
  refine H5b rfl (Hfb (Qfa (w.1,w.2.1,w.2.2.1,Kw w.2.2.2.1 t 0,w.2.2.2.2) s (Kw w.2.2.2.1 t 0,f.2) rc hr hn hs' (K6.2 ⟨(X3 hst t 0).1,by show f.2.2.length≤200;omega,hd⟩) hw) ?_)
  exact H3b rfl
def pst (src:Int) (s:ByteArray) (f:Fil) (rc ps:List Int) (a:List Nod×Bool×Bool) (j:Nat):List Nod×Bool×Bool:=
 bif ps.getD j 0==src then (a.1,true,a.2.2) else bif rch rc j != 1 then (a.1,a.2.1,false) else
  (a.1.set (ps.getD j 0).toNat ((a.1.getD (ps.getD j 0).toNat Bb).1,(keep (a.1.getD (ps.getD j 0).toNat Bb).2.1 s f true).1,(a.1.getD (ps.getD j 0).toNat Bb).2.2),a.2.1,
   bif (keep (a.1.getD (ps.getD j 0).toNat Bb).2.1 s f true).2 != 0&&(keep (a.1.getD (ps.getD j 0).toNat Bb).2.1 s f true).2 != 1 then false else a.2.2)
def Ph (w:Wld) (s:ByteArray):List Int:=whr w.2.2.1 (Wz w.2.1 s)
def puN (w:Wld) (i:Nat) (s:ByteArray) (rc:List Int):List Nod×Bool×Bool:=run (pst (i:Int) s (lkD (w.2.2.1.getD i Bb).2.1 s).1 rc (Ph w s)) (Ph w s).length (w.2.2.1,false,true)
def Gvb (n:Nod) (s:ByteArray):Nod:=(n.1,(syD (rmD n.2.1 s).1 s).1,n.2.2)
def Cna (w:Wld) (i:Nat) (s:ByteArray) (rc:List Int):Bool×Wld:=bif (lkD (w.2.2.1.getD i Bb).2.1 s).2 != 0 then (false,w) else
 (true,wN w (bif (puN w i s rc).2.2&&!(puN w i s rc).2.1 then (puN w i s rc).1.set i (Gvb ((puN w i s rc).1.getD i Bb) s) else (puN w i s rc).1))
def Aqb {n:Nod} (hn:NG n) {s:ByteArray} (hs:B2 s=true):NG (Gvb n s):=G5a hn (F1b (Y8a hn.g) hs)
def Lya {n:Nod} (hn:NG n) {s:ByteArray} {f:Fil} {sure:Bool}:NG (n.1,(keep n.2.1 s f sure).1,n.2.2):=G5a hn (Agb hn.g)
def Vda {src:Int} {s:ByteArray} {f:Fil} {rc ps:List Int} {a:List Nod×Bool×Bool} {j m:Nat} (h:NS a.1∧a.1.length=m) (hc:(ps.getD j 0).toNat<m):NS (pst src s f rc ps a j).1∧(pst src s f rc ps a j).1.length=m:=by
 unfold pst
 cases ps.getD j 0==src
 case true=>exact h
 cases rch rc j != 1 with
 |true=>exact h
 |false=>exact⟨h.1.set (Lya (h.1.get (by have:=h.2;omega))),by rw[cond_false,cond_false,Wb];exact h.2⟩
def Tn {w:Wld} {s:ByteArray} {x:Int} (h:x∈Ph w s):0≤x∧x<(w.2.2.1.length:Int):=by
 obtain⟨j,h1,_,rfl⟩:=Gaa.1 h
 omega
def J6a {w:Wld} {s:ByteArray} (hr:Il w.2.1 w.1=true) (hn:w.2.2.1.length≤2000000):(Ph w s).length≤4000000000000:=Q7 hn (Tk (Mn hr) s)
def Arb {w:Wld} {i:Nat} {s:ByteArray} {rc:List Int} (hn:NS w.2.2.1):NS (puN w i s rc).1∧(puN w i s rc).1.length=w.2.2.1.length:=
 Np (λ _ (b:List Nod×Bool×Bool)=>NS b.1∧b.1.length=w.2.2.1.length) ⟨hn,rfl⟩ (λ j b hj hb=>Vda hb (by have:=Tn (A3 (d:=0) hj);omega))
def Z7a (w:Wld) (i:Nat) (s:ByteArray) (rc:List Int) (hr:Il w.2.1 w.1=true) (hn:NS w.2.2.1) (hi:i<w.2.2.1.length):Tot (λ k=>Cy k w (i:Int) s rc) (λ r=>r=Cna w i s rc):=by
 have hni:=hn.get hi
 unfold Cy Cna
 have e0:w.2.2.1.getD i ((0:Int),(([],[]),([],[])))=w.2.2.1.getD i Bb:=rfl
 simp (disch:=omega) only [dT,Va,e0]
 have hin:=(Ug hni).1
 refine Hfb (Asa hin.1.1.1.1 hin.2.1 s) ?_
 cases hl:(lkD (w.2.2.1.getD i Bb).2.1 s).2 != 0
 case true=>exact H6b rfl (H3b rfl)
 refine H5b rfl ?_
 rw[cond_false]
 have hlk:∃ b,gt (w.2.2.1.getD i Bb).2.1.1 s=some b:=by
  rw[bne,Wo,beq_iff_eq]at hl
  obtain⟨b,hb,_⟩:=Qw.1 (show lkD (w.2.2.1.getD i Bb).2.1 s=((lkD (w.2.2.1.getD i Bb).2.1 s).1,0) from by rw[← hl])
  exact⟨b,hb⟩
 have hs:B2 s=true:=Q1a hni.g.1 (by obtain⟨b,hb⟩:=hlk;rw[hb];rfl)
 have hsz:s.size≤1000000000:=by
  have:=Cf.1 (Vb _ _ ▸ hs:_∧_).2
  omega
 refine Hfb (Awa _ s (Mn hr) hsz) ?_
 refine Hfb (Tj w _ hn.1 (Tk (Mn hr) s)) ?_
 have hpl:=J6a (s:=s) hr hn.1
 have hc:=λ x=>Tn (w:=w) (s:=s) (x:=x)
 have hrun:puN w i s rc=run (pst (i:Int) s (lkD (w.2.2.1.getD i Bb).2.1 s).1 rc (Ph w s)) (Ph w s).length (w.2.2.1,false,true):=rfl
 obtain⟨p1,p2⟩:=Arb (w:=w) (i:=i) (s:=s) (rc:=rc) hn
 have inv:∀ n,n≤(Ph w s).length→NS (run (pst (i:Int) s (lkD (w.2.2.1.getD i Bb).2.1 s).1 rc (Ph w s)) n (w.2.2.1,false,true)).1∧(run (pst (i:Int) s (lkD (w.2.2.1.getD i Bb).2.1 s).1 rc (Ph w s)) n (w.2.2.1,false,true)).1.length=w.2.2.1.length:=λ n hn'=>
  Np (λ _ (b:List Nod×Bool×Bool)=>NS b.1∧b.1.length=w.2.2.1.length) ⟨hn,rfl⟩ (λ j b hj hb=>Vda hb (by have:=hc _ (A3 (d:=0) (show j<(Ph w s).length by omega));omega))
 rw[show whr w.2.2.1 (Wz w.2.1 s)=Ph w s from rfl]
 generalize (lkD (w.2.2.1.getD i Bb).2.1 s).1=f at *
 generalize Ph w s=ps at *
 refine H4b (Q:=λ r=>r=((i:Int),s,(puN w i s rc).2.1,(puN w i s rc).2.2,wN w (puN w i s rc).1)) ?_ ?_
 ·refine Hcb (L:=λ k j (a:List Nod×Bool×Bool)=>Bs k (i:Int) s rc ps a.2.1 a.2.2 j (wN w a.1) f) (Q:=λ r=>r=((i:Int),s,(puN w i s rc).2.1,(puN w i s rc).2.2,wN w (puN w i s rc).1)) ps.length (λ j a=>a=run (pst (i:Int) s f rc ps) j (w.2.2.1,false,true)) ?_ ?_ 0 (w.2.2.1,false,true) (Vo _) rfl
  ·rintro a rfl
   simp (disch:=omega) only [Bs,dF]
   exact H3b (by rw[hrun])
  ·rintro j a hj rfl next
   obtain⟨i1,i2⟩:=inv j (by omega)
   rw[Pg]at next
   generalize run (pst (i:Int) s f rc ps) j (w.2.2.1,false,true)=a at *
   obtain⟨ns,o,g⟩:=a
   dsimp only at i1 i2
   have hci:=hc _ (A3 (d:=0) hj)
   obtain⟨m,em⟩:∃ m:Nat,ps.getD j 0=(m:Int):=⟨(ps.getD j 0).toNat,by omega⟩
   rw[em]at hci
   unfold pst at next
   rw[em,Va]at next
   have e0:ns.getD m ((0:Int),(([],[]),([],[])))=ns.getD m Bb:=rfl
   simp (disch:=omega) only [Bs,dT,Va,w64,em,wN]
   cases hz:(m:Int)==(i:Int) with
   |true=>
    rw[hz]at next
    exact H6b rfl (next _ rfl)
   |false=>
    rw[hz]at next
    refine H5b rfl ?_
    simp only[Lua,Vn]
    cases h1:rch rc j != 1 with
    |true=>
     rw[h1]at next
     exact H6b rfl (next _ rfl)
    |false=>
     rw[h1]at next
     refine H5b rfl ?_
     simp (disch:=omega) only [dT,Va,e0]
     have hm:=Ug (i1.get (i:=m) (by omega))
     refine Hfb (O5a (ns.getD m Bb).2.1 s f true hm.1.1 hm.1.2.1 (J5 hs)) ?_
     dsimp only at next
     generalize keep (ns.getD m Bb).2.1 s f true=q at *
     cases h2:q.2 != 0
     ·rw[h2]at next;exact H5b rfl (next _ rfl)
     rw[h2]at next
     refine H6b rfl ?_
     cases h3:q.2 != 1 with
     |true=>rw[h3]at next;exact H6b rfl (next _ rfl)
     |false=>rw[h3]at next;exact H5b rfl (next _ rfl)
 ·rintro r rfl
  dsimp only[wN]
  generalize puN w i s rc=a at *
  obtain⟨ns,o,g⟩:=a
  dsimp only at p1 p2 ⊢
  cases g
  ·exact H5b rfl (H3b rfl)
  refine H6b rfl ?_
  cases o
  case true=>exact H5b rfl (H3b rfl)
  refine H6b rfl ?_
  have e0:ns.getD i ((0:Int),(([],[]),([],[])))=ns.getD i Bb:=rfl
  have hil:(i:Int)<(ns.length:Int):=by omega
  simp (disch:=omega) only [dT,Va,e0]
  have hg:=(p1.get (i:=i) (by omega)).g
  refine Hfb (Cda hg.1 (J5 hs)) ?_
  refine Hfb (Cca (Y8a hg).1 hs) ?_
  exact H3b rfl

end Go.Proofs.YtmhhjceoinoekaaGreat.Vf
