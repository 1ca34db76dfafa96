import Derived.Test.YtmhhjceoinoekaaGreatMan
set_option linter.all false
namespace Go.Proofs.YtmhhjceoinoekaaGreat.Vf
open Go
open List (length getD)
open Int (toNat)
open Go.IntKind (wrap)
open BitVec (ofInt)
def Hfb:=@List.mem_range
def Iab:=@List.pairwise_singleton
def Iob:=@List.drop_append_of_le_length
def Ipb:=@List.take_append_of_le_length

def Ra (l:List Nmd) (ns:List ByteArray):List ByteArray:=l.foldl (λ ns x=>wt ns x.1) ns
def nms (d:Dsk):List ByteArray:=Ra (d.1++d.2) []
def pk1:Option Nmd→List Nmd
 |some x=>[x]
 |none=>[]
def C1b (o:Option Nmd):(pk1 o).length≤1:=by cases o<;>simp[pk1]
def Tw (kp:List Bool) (a b:List Nmd):List ByteArray→Nat→List Nmd
 |[],_=>[]
 |s::ns,i=>pk1 (pk (bif kp.getD i false then a else b) s)++Tw kp a b ns (i+1)
def C2b (kp:List Bool) (a b:List Nmd) (i:Nat):Tw kp a b [] i=[]:=rfl
def Xwa (kp:List Bool) (a b:List Nmd) (s:ByteArray) (ns:List ByteArray) (i:Nat):Tw kp a b (s::ns) i=pk1 (pk (bif kp.getD i false then a else b) s)++Tw kp a b ns (i+1):=rfl
def Tr (d:Dsk) (kp:List Bool):Dsk:=bif decide ((Tw kp d.1 d.2 (nms d) 0).length > 60) then d else (Tw kp d.1 d.2 (nms d) 0,Tw kp d.1 d.2 (nms d) 0)
def F6a:∀ (l:List Nmd) (ns:List ByteArray),TS ns→TS (Ra l ns)
 |[],_,h=>h
 |_::l,_,h=>F6a l _ (Rx h)
def Iea:∀ (l:List Nmd) (ns:List ByteArray) (t:ByteArray),t∈Ra l ns↔(∃ x∈l,x.1=t)∨t∈ns
 |[],ns,t=>by simp[Ra]
 |x::l,ns,t=>by
  show t∈Ra l (wt ns x.1)↔_
  rw[Iea l,Nga]
  simp only[Vm,exists_eq_or_imp]
  constructor
  ·rintro (h|rfl|h)
   ·exact .inl (.inr h)
   ·exact .inl (.inl rfl)
   ·exact .inr h
  ·rintro ((h|h)|h)
   ·exact .inr (.inl h.symm)
   ·exact .inl h
   ·exact .inr (.inr h)
def Uw:∀ (l:List Nmd) (ns:List ByteArray),(Ra l ns).length≤ns.length+l.length
 |[],_=>by simp[Ra]
 |x::l,ns=>by
  have h1:=Uw l (wt ns x.1)
  have h2:=Hta (l:=ns) (s:=x.1)
  show (Ra l (wt ns x.1)).length≤_
  rw[Vc]
  omega
def Zra (d:Dsk):TS (nms d):=F6a _ _ List.Pairwise.nil
def C3b {d:Dsk} {t:ByteArray}:t∈nms d↔(gt d.1 t).isSome=true∨(gt d.2 t).isSome=true:=by
 have h:∀ l:List Nmd,(gt l t).isSome=true↔∃ x∈l,x.1=t:=λ l=>by
  cases hg:gt l t with
  |none=>
   constructor
   ·intro h;cases h
   ·rintro⟨x,hx,e⟩;exact absurd e (O6.1 hg x hx)
  |some b=>simp only[Option.isSome_some,true_iff];exact⟨_,Pj hg,rfl⟩
 unfold nms
 rw[Iea,h,h]
 simp only[Vo,Zp,or_false]
 constructor
 ·rintro⟨x,h1|h1,h2⟩
  ·exact .inl ⟨x,h1,h2⟩
  ·exact .inr ⟨x,h1,h2⟩
 ·rintro (⟨x,h1,h2⟩|⟨x,h1,h2⟩)
  ·exact⟨x,.inl h1,h2⟩
  ·exact⟨x,.inr h1,h2⟩
def C4b (l:List Nmd) (s:ByteArray):pk l s=(gt l s).map λ b=>(s,b):=by
 unfold pk gt
 cases h:fnd l s with
 |none=>rfl
 |some i=>rw[I2b,← (P6 h).2]
def Wv (kp:List Bool) (a b:List Nmd):∀ (ns:List ByteArray) (i:Nat),((Tw kp a b ns i).map Prod.fst).Sublist ns
 |[],_=>List.Sublist.slnil
 |s::ns,i=>by
  unfold Tw
  rw[C4b]
  cases gt (bif kp.getD i false then a else b) s with
  |none=>exact(Wv kp a b ns (i+1)).cons s
  |some c=>exact(Wv kp a b ns (i+1)).cons_cons s
def C5b (kp:List Bool) (a b:List Nmd) (ns:List ByteArray) (i:Nat):(Tw kp a b ns i).length≤ns.length:=by
 have:=(Wv kp a b ns i).length_le
 rwa [Wh]at this
def Pua {kp:List Bool} {a b:List Nmd} {ns:List ByteArray} {i:Nat} (h:TS ns):Gx (Tw kp a b ns i):=by
 have:=Ijb (Wv kp a b ns i) h
 rwa [Gwb]at this
def Uia {kp:List Bool} {a b:List Nmd}:∀ {ns:List ByteArray} {i:Nat} {x:Nmd},x∈Tw kp a b ns i→gt a x.1=some x.2∨gt b x.1=some x.2
 |[],_,_,h=>by cases h
 |s::ns,i,x,h=>by
  unfold Tw at h
  rw[C4b]at h
  rcases Vo.1 h with h|h
  ·cases hg:gt (bif kp.getD i false then a else b) s with
   |none=>rw[hg]at h;cases h
   |some c=>
    rw[hg]at h
    rw[Vu.1 h]
    cases hk:kp.getD i false with
    |true=>rw[hk]at hg;exact .inl hg
    |false=>rw[hk]at hg;exact .inr hg
  ·exact Uia h
def Zsa {kp:List Bool} {a b:List Nmd} {t:ByteArray}:∀ {ns:List ByteArray} {i:Nat},TS ns→t∈ns→∃ j,i≤j∧gt (Tw kp a b ns i) t=gt (bif kp.getD j false then a else b) t
 |[],_,_,h=>by cases h
 |s::ns,i,hs,h=>by
  obtain⟨h1,h2⟩:=Wk.1 hs
  have hn:∀ j,gt (Tw kp a b ns j) s=none:=λ j=>O6.2 λ x hx e=>by
   have:=h1 x.1 ((Wv kp a b ns j).subset (Yp hx))
   rw[e,M1]at this
   cases this
  unfold Tw
  rw[C4b]
  rcases Vm.1 h with rfl|h
  ·refine⟨i,Vw _,?_⟩
   cases hg:gt (bif kp.getD i false then a else b) t with
   |none=>exact hn _
   |some c=>
    show gt ((t,c)::Tw kp a b ns (i+1)) t=_
    rw[Kua,if_pos rfl]
  ·obtain⟨j,hj,e⟩:=Zsa (kp:=kp) (a:=a) (b:=b) (i:=i+1) h2 h
   refine⟨j,by omega,?_⟩
   rw[← e]
   have hst:s≠t:=λ e=>by
    have:=h1 t h
    rw[e,M1]at this
    cases this
   cases gt (bif kp.getD i false then a else b) s with
   |none=>rfl
   |some c=>
    show gt ((s,c)::Tw kp a b ns (i+1)) t=_
    rw[Kua,if_neg hst]
def Uja {d:Dsk} {kp:List Bool} (h:DG d):DG (Tr d kp):=by
 unfold Tr
 cases hc:decide ((Tw kp d.1 d.2 (nms d) 0).length > 60)
 case true=>exact h
 have hl:=of_decide_eq_false hc
 have n1:=(Ah.1 (Dm.1 h.1).1).2.1
 have n2:=(Ah.1 (Dm.1 h.1).2).2.1
 have q:Jo (Tw kp d.1 d.2 (nms d) 0)=true:=Ah.2 ⟨Pua (Zra d),λ x hx=>(Uia hx).elim (λ e=>n1 _ (Pj e)) (λ e=>n2 _ (Pj e)),by omega⟩
 have b:LB (Tw kp d.1 d.2 (nms d) 0):=λ x hx=>(Uia hx).elim (λ e=>h.2.1.gt e) (λ e=>h.2.2.gt e)
 exact⟨Dm.2 ⟨q,q⟩,b,b⟩
def Uka {d:Dsk} {kp:List Bool} (t:ByteArray):Tr d kp=d∨((Tr d kp).2=(Tr d kp).1∧(gt (Tr d kp).1 t=gt d.1 t∨gt (Tr d kp).1 t=gt d.2 t)):=by
 unfold Tr
 cases hc:decide ((Tw kp d.1 d.2 (nms d) 0).length > 60)
 case true=>exact .inl rfl
 refine .inr ⟨rfl,?_⟩
 show gt (Tw kp d.1 d.2 (nms d) 0) t=_∨gt (Tw kp d.1 d.2 (nms d) 0) t=_
 by_cases ht:t∈nms d
 ·obtain⟨j,_,e⟩:=Zsa (kp:=kp) (a:=d.1) (b:=d.2) (i:=0) (Zra d) ht
  rw[e]
  cases kp.getD j false with
  |true=>exact .inl rfl
  |false=>exact .inr rfl
 ·have h1:gt d.1 t=none:=by
   cases hg:gt d.1 t with
   |none=>rfl
   |some b=>exact absurd (C3b.2 (.inl (by rw[hg];rfl))) ht
  left
  rw[h1]
  exact O6.2 λ x hx e=>ht (by rw[← e];exact(Wv _ _ _ _ _).subset (Yp hx))
def F7a {R:Type} {L:Nat→List Nmd→Option R} {Q:R→Prop} (c:List Nmd) (s:ByteArray) (acc:List Nmd) (hc:c.length≤5000000) (ha:acc.length≤5000000) (next:Tot (λ k=>L k (acc++pk1 (pk c s))) Q):
  Tot (λ k=>(De k c s).bind λ r=>cond (decide (r≥0)) (cond (decide ((0:Int)≤r)) (cond (decide (r<(length c:Int))) (cond (Nat.ble ((length acc+length [getD c (toNat r) ((⟨#[]⟩:ByteArray),[])])*40) 140737488355328) (L k (acc++[getD c (toNat r) ((⟨#[]⟩:ByteArray),[])])) none) none) none) (L k acc)) Q:=by
 refine Gtb (Dca c s (by omega)) ?_
 unfold pk at next
 unfold Hia
 cases h:fnd c s with
 |none=>
  rw[h]at next
  simp only[pk1,Wp]at next
  exact Gnb (by decide) next
 |some i=>
  rw[h]at next
  have:=(P6 h).1
  simp only[Vb]
  exact Gmb (by omega) (Gmb (by omega) (Gmb (by omega) (Gqb (by simp only[Vc,Vh];omega) next)))

def mk0 (s:ByteArray):Nmd:=(s,[])
def Ww {ns:List ByteArray} (h:TS ns):Gx (ns.map mk0):=by
 unfold Gx
 rw[Gwb]
 exact h
def Zta {ns:List ByteArray} (h:TS ns) {t:ByteArray}:(t∈ns→gt (ns.map mk0) t=some [])∧(t∉ns→gt (ns.map mk0) t=none):=by
 refine⟨λ ht=>?_,λ ht=>O6.2 λ x hx e=>?_⟩
 ·exact Toa (Ww h) (x:=mk0 t) (Yp ht)
 ·obtain⟨s,hs,rfl⟩:=Yx.1 hx
  exact ht (by rw[← e];exact hs)
def Ejb {ns:List ByteArray} (h:TS ns) (s:ByteArray):ptl (s,[]) false (ns.map mk0)=(wt ns s).map mk0:=by
 have h1:=Ww h
 rw[Wr _ h1]
 refine Zia (Sq (O5 h1) B4a) (Ww (Rx h)) λ t=>?_
 have e:=Kxa h1 (s:=s) (t:=t) (b:=[])
 unfold wr at e
 rw[e]
 have g1:=Zta h (t:=t)
 have g2:=Zta (Rx (s:=s) h) (t:=t)
 by_cases hst:s=t
 ·rw[if_pos hst,g2.1 (Nga.2 (.inl hst.symm))]
 ·rw[if_neg hst]
  by_cases ht:t∈ns
  ·rw[g1.1 ht,g2.1 (Nga.2 (.inr ht))]
  ·rw[g1.2 ht,g2.2 (λ c=>(Nga.1 c).elim (λ e=>hst e.symm) ht)]
def Ula (a b:List Nmd) (ha:a.length≤2000000) (hb:b.length≤2000000):Tot (λ k=>Cr k a b) (λ r=>r=nms (a,b)):=by
 unfold Cr
 have put:∀ {ns:List ByteArray} (x:Nmd),TS ns→ns.length≤5000000→Tot (λ k=>Fu k (ns.map mk0) x.1 []) (λ r=>r=(wt ns x.1).map mk0):=λ x ht hl=>(F0a _ x.1 [] (by rw[Wh];omega) (by simp)).mono λ r hr=>by rw[hr,Ejb ht]
 refine Gjb (Q:=λ r=>r=(b,(Ra a []).map mk0)) ?_ ?_
 ·refine Grb (L:=λ k i s=>G6 k a b s i) (Q:=λ r=>r=(b,(Ra a []).map mk0)) a.length (λ j s=>∃ ns,s=ns.map mk0∧TS ns∧Ra (a.drop j) ns=Ra a []∧ns.length≤j) ?_ ?_ 0 [] (Vs _) ⟨[],rfl,List.Pairwise.nil,rfl,Vw _⟩
  ·rintro s ⟨ns,rfl,_,h,_⟩
   rw[Wi]at h
   simp (disch:=omega) only [G6,dF]
   exact Gib (by rw[← h];rfl)
  ·rintro j s hj ⟨ns,rfl,ht,h,hl⟩ next
   rw[Af (d:=D6) hj]at h
   simp (disch:=omega) only [G6,dT,Vb,w64]
   refine Gtb (put (a.getD j D6) ht (by omega)) ?_
   have:=Hta (l:=ns) (s:=(a.getD j D6).1)
   exact next _ ⟨_,rfl,Rx ht,h,by omega⟩
 ·rintro r rfl
  have hla:(Ra a []).length≤2000000:=by have:=Uw a [];rw[Vh]at this;omega
  have e:Ra b (Ra a [])=nms (a,b):=by unfold nms Ra;rw[Hkb]
  refine Gjb (Q:=λ r=>r=(nms (a,b)).map mk0) ?_ ?_
  ·refine Grb (L:=λ k i s=>G5 k b s i) (Q:=λ r=>r=(nms (a,b)).map mk0) b.length (λ j s=>∃ ns,s=ns.map mk0∧TS ns∧Ra (b.drop j) ns=nms (a,b)∧ns.length≤2000000+j) ?_ ?_ 0 _ (Vs _) ⟨_,rfl,F6a _ _ List.Pairwise.nil,e,by omega⟩
   ·rintro s ⟨ns,rfl,_,h,_⟩
    rw[Wi]at h
    simp (disch:=omega) only [G5,dF]
    exact Gib (by rw[← h];rfl)
   ·rintro j s hj ⟨ns,rfl,ht,h,hl⟩ next
    rw[Af (d:=D6) hj]at h
    simp (disch:=omega) only [G5,dT,Vb,w64]
    refine Gtb (put (b.getD j D6) ht (by omega)) ?_
    have:=Hta (l:=ns) (s:=(b.getD j D6).1)
    exact next _ ⟨_,rfl,Rx ht,h,by omega⟩
  ·rintro r rfl
   have hln:(nms (a,b)).length≤4000000:=by rw[← e];have:=Uw b (Ra a []);omega
   refine Gjb (Q:=λ r=>r=nms (a,b)) ?_ (by rintro r rfl;exact Gib rfl)
   refine Grb (L:=λ k i s=>Ez k ((nms (a,b)).map mk0) s i) (Q:=λ r=>r=nms (a,b)) (nms (a,b)).length (λ j s=>s=(nms (a,b)).take j) ?_ ?_ 0 [] (Vs _) rfl
   ·rintro s rfl
    simp (disch:=omega) only [Ez,Wh,dF,Ys]
    exact Gib rfl
   ·rintro j s hj rfl next
    simp (disch:=omega) only [Ez,Wh,dT,Vb,w64]
    refine Gqb (by simp only[Vq,Vc,Vh];omega) (next _ ?_)
    rw[Wm hj,Ve,H2b,Vk hj]
    rfl
def Uma (d:Dsk) (kp:List Bool) (hd:DG d) (hk:kp.length≤4000000000000):Tot (λ k=>Di k d kp) (λ r=>r=Tr d kp):=by
 have hin:=Ni hd.1
 have g1:=(Ah.1 (Dm.1 hd.1).1).2.2
 have g2:=(Ah.1 (Dm.1 hd.1).2).2.2
 unfold Di
 refine Gtb (Qr d hin.1.1 hin.1.2) ?_
 rw[hd.1]
 refine Gkb rfl (Gtb (Ula d.1 d.2 (by omega) (by omega)) ?_)
 have hn:(nms d).length≤120:=by
  have:=Uw (d.1++d.2) []
  rw[Vh,Vd]at this
  exact Zs this (by omega)
 refine Gjb (Q:=λ r=>r=(Tw kp d.1 d.2 (nms d) 0,d,([],[]))) ?_ ?_
 ·refine Grb (L:=λ k i s=>Av k kp (nms d) s i d ([],[])) (Q:=λ r=>r=(Tw kp d.1 d.2 (nms d) 0,d,([],[]))) (nms d).length (λ j s=>s++Tw kp d.1 d.2 ((nms d).drop j) j=Tw kp d.1 d.2 (nms d) 0∧s.length≤j) ?_ ?_ 0 [] (Vs _) ⟨rfl,Vw _⟩
  ·rintro s ⟨h,_⟩
   rw[Wi,C2b,Wp]at h
   simp (disch:=omega) only [Av,dF]
   exact Gib (by rw[h])
  ·rintro j s hj ⟨h,hs⟩ next
   rw[Af (d:=Nw) hj]at h
   rw[Xwa,← Vp]at h
   simp (disch:=omega) only [Av,dT,Vb,w64]
   have hl:=C1b (pk (bif kp.getD j false then d.1 else d.2) ((nms d).getD j Nw))
   have nx:=next (s++pk1 (pk (bif kp.getD j false then d.1 else d.2) ((nms d).getD j Nw))) ⟨h,by rw[Vd];omega⟩
   have e0:(nms d).getD j (⟨#[]⟩:ByteArray)=(nms d).getD j Nw:=rfl
   rw[e0]
   refine Gpb (λ hc=>?_) (λ hc=>?_)
   ·refine Gmb (by omega) (Gob (λ hk=>?_) (λ hk=>?_))
    ·rw[hk]at nx
     exact F7a (L:=λ k acc=>Av k kp (nms d) acc ((j:Int)+1) d ([],[])) d.1 _ s (by omega) (by omega) nx
    ·rw[hk]at nx
     exact F7a (L:=λ k acc=>Av k kp (nms d) acc ((j:Int)+1) d ([],[])) d.2 _ s (by omega) (by omega) nx
   ·have hk:kp.getD j false=false:=by rw[Ve,Zh (by omega)];rfl
    rw[hk]at nx
    exact F7a (L:=λ k acc=>Av k kp (nms d) acc ((j:Int)+1) d ([],[])) d.2 _ s (by omega) (by omega) nx
 ·rintro r rfl
  have hp:=C5b kp d.1 d.2 (nms d) 0
  unfold Tr
  refine Gpb (λ h=>?_) (λ h=>?_)
  ·dsimp only at h
   rw[decide_eq_true (show (Tw kp d.1 d.2 (nms d) 0).length > 60 by omega)]
   refine Gtb (Mf d hin.1.1) ?_
   exact Gib rfl
  ·dsimp only at h
   have hc:decide ((Tw kp d.1 d.2 (nms d) 0).length > 60)=false:=decide_eq_false (by omega)
   have hg:=Uja (kp:=kp) hd
   unfold Tr at hg
   rw[hc]at hg ⊢
   rw[cond_false]at hg
   have hf:=(Ni hg.1).1.1.1
   refine Gtb (Pi _ hf) ?_
   refine Gtb (Pi _ hf) ?_
   exact Gib rfl
def clS (o:Dsk×Int) (x:Nmd):Dsk×Int:=match Ol x.2 with
 |some _=>o
 |none=>((cut o.1.1 x.1,cut o.1.2 x.1),o.2+1)
def N8 (d:Dsk):Dsk×Int:=d.1.foldl clS (d,0)
def Pva {l:List Nmd} {s:ByteArray} (h:gt l s=none):cut l s=l:=by
 refine List.filter_eq_self.2 λ x hx=>?_
 cases ht:teq x.1 s with
 |false=>rfl
 |true=>exact absurd (Jl.1 ht) (O6.1 h x hx)
def Ekb {d:Dsk} {s:ByteArray} (h:DG d):DG (cut d.1 s,cut d.2 s):=⟨Dm.2 ⟨Xa (Dm.1 h.1).1,Xa (Dm.1 h.1).2⟩,h.2.1.cut s,h.2.2.cut s⟩
def Xxa {o:Dsk×Int} {x:Nmd} (h:DG o.1):DG (clS o x).1:=by
 unfold clS
 cases Ol x.2 with
 |some _=>exact h
 |none=>exact Ekb h
def O1a:∀ (l:List Nmd) (o:Dsk×Int),DG o.1→DG (l.foldl clS o).1
 |[],_,h=>h
 |_::l,_,h=>O1a l _ (Xxa h)
def Xya {d:Dsk} (h:DG d):DG (N8 d).1:=O1a _ _ h
def Fma (l:List Nmd):List ByteArray:=(l.filter λ x=>(Ol x.2).isNone).map Prod.fst
def Bja:∀ (l:List Nmd) (o:Dsk×Int),DG o.1→((l.foldl clS o).2=o.2+((Fma l).length:Int))∧∀ t,(t∈Fma l→gt (l.foldl clS o).1.1 t=none∧gt (l.foldl clS o).1.2 t=none)∧(t∉Fma l→gt (l.foldl clS o).1.1 t=gt o.1.1 t∧gt (l.foldl clS o).1.2 t=gt o.1.2 t)
 |[],o,h=>⟨by simp[Fma],λ t=>⟨λ c=>by simp[Fma]at c,λ _=>⟨rfl,rfl⟩⟩⟩
 |x::l,o,h=>by
  obtain⟨h1,h2⟩:=Bja l (clS o x) (Xxa h)
  rw[Zb]
  cases hx:Ol x.2 with
  |some f=>
   have e:Fma (x::l)=Fma l:=by unfold Fma;rw[Zy,hx];rfl
   have ec:clS o x=o:=by unfold clS;rw[hx]
   rw[e]
   rw[ec]at h1 h2 ⊢
   exact⟨h1,h2⟩
  |none=>
   have e:Fma (x::l)=x.1::Fma l:=by unfold Fma;rw[Zy,hx];rfl
   have ec:clS o x=((cut o.1.1 x.1,cut o.1.2 x.1),o.2+1):=by unfold clS;rw[hx]
   rw[e]
   rw[ec]at h1 h2 ⊢
   refine⟨by rw[h1,Vc];omega,λ t=>⟨λ ht=>?_,λ ht=>?_⟩⟩
   ·by_cases hb:t∈Fma l
    ·exact(h2 t).1 hb
    ·obtain⟨a1,a2⟩:=(h2 t).2 hb
     have:x.1=t:=by
      rcases Vm.1 ht with e|e
      ·exact e.symm
      ·exact absurd e hb
     rw[a1,a2,Ut (Na h.1),Ut (Qy h.1),if_pos this,if_pos this]
     exact⟨rfl,rfl⟩
   ·obtain⟨a1,a2⟩:=(h2 t).2 (λ c=>ht (Vj _ c))
    have:x.1≠t:=λ e=>ht (by rw[← e];exact Za)
    rw[a1,a2,Ut (Na h.1),Ut (Qy h.1),if_neg this,if_neg this]
    exact⟨rfl,rfl⟩
def Xza {d:Dsk} (hd:Aj d=true) {t:ByteArray}:t∈Fma d.1↔∃ b,gt d.1 t=some b∧Ol b=none:=by
 unfold Fma
 rw[Yx]
 constructor
 ·rintro⟨x,hx,rfl⟩
  obtain⟨h1,h2⟩:=I9b.1 hx
  exact⟨x.2,Toa (Na hd) h1,by simpa using h2⟩
 ·rintro⟨b,h1,h2⟩
  exact⟨(t,b),I9b.2 ⟨Pj h1,by simp[h2]⟩,rfl⟩
def Una (d:Dsk) (hd:DG d):Tot (λ k=>J9 k d) (λ r=>r=N8 d):=by
 have hin:=Ni hd.1
 have hl:=(Ah.1 (Dm.1 hd.1).1).2.2
 unfold J9
 refine Gtb (K7 d hin.1.1) ?_
 refine Gtb (Sp d hin.1.1 hin.1.2) ?_
 rw[hd.1]
 refine Gkb rfl (Gjb (Q:=λ r=>r=((N8 d).2,([],[]),(N8 d).1)) ?_ (by rintro r rfl;exact Gib rfl))
 refine Grb (L:=λ k i (s:Dsk×Int)=>I7 k s.2 d.1 (d.1.length:Int) i ([],[]) s.1) (Q:=λ r=>r=((N8 d).2,([],[]),(N8 d).1)) d.1.length (λ j s=>(d.1.drop j).foldl clS s=N8 d∧DG s.1∧0≤s.2∧s.2≤j) ?_ ?_ 0 (d,0) (Vs _) ⟨rfl,hd,Gvb 0,by simp⟩
 ·rintro s ⟨h,_⟩
  rw[Wi]at h
  simp (disch:=omega) only [I7,dF]
  exact Gib (by rw[← h];rfl)
 ·rintro j s hj ⟨h,hg,s0,s1⟩ next
  rw[Af (d:=D6) hj,Zb]at h
  have hsi:=Ni hg.1
  have hx:=A4 (d:=D6) hj
  simp (disch:=omega) only [I7,dT,Vb,w64]
  have e0:d.1.getD j ((⟨#[]⟩:ByteArray),([]:List Int))=d.1.getD j D6:=rfl
  rw[e0]
  refine Gtb (Qx _ (hd.2.1 _ hx) (hin.1.1.1.2 _ hx)) ?_
  have hcg:=Xxa (x:=d.1.getD j D6) hg
  unfold clS at h hcg
  unfold Tm
  cases hf:Ol (d.1.getD j D6).2 with
  |some f=>
   rw[hf]at h
   exact Gkb rfl (next _ ⟨h,hg,s0,by omega⟩)
  |none=>
   rw[hf]at h hcg
   refine Glb rfl (Gtb (Ur s.1.1 _ hsi.1.1.1.1) ?_)
   refine Gtb (Ur s.1.2 _ hsi.1.1.2.1) ?_
   rw[Qt (Na hg.1),Qt (Qy hg.1)]
   exact next ((cut s.1.1 (d.1.getD j D6).1,cut s.1.2 (d.1.getD j D6).1),s.2+1) ⟨h,hcg,by dsimp only;omega,by dsimp only;omega⟩
def Uoa (d:Dsk) (hd:DG d):Tot (λ k=>J8 k d) (λ r=>r=N8 d):=by
 have hin:=Ni hd.1
 have hl:=(Ah.1 (Dm.1 hd.1).1).2.2
 have hnk:=(Ah.1 (Dm.1 hd.1).1).2.1
 unfold J8
 refine Gtb (Mf d hin.1.1) ?_
 refine Gjb (Q:=λ r=>r=((N8 d).2,([],[]),(N8 d).1)) ?_ (by rintro r rfl;exact Gib rfl)
 refine Grb (L:=λ k i (s:Dsk×Int)=>I4 k s.2 i d ([],[]) s.1) (Q:=λ r=>r=((N8 d).2,([],[]),(N8 d).1)) d.1.length (λ j s=>(d.1.drop j).foldl clS s=N8 d∧DG s.1∧0≤s.2∧s.2≤j) ?_ ?_ 0 (d,0) (Vs _) ⟨rfl,hd,Gvb 0,by simp⟩
 ·rintro s ⟨h,_⟩
  rw[Wi]at h
  simp (disch:=omega) only [I4,dF]
  exact Gib (by rw[← h];rfl)
 ·rintro j s hj ⟨h,hg,s0,s1⟩ next
  rw[Af (d:=D6) hj,Zb]at h
  have hsi:=Ni hg.1
  have hx:=A4 (d:=D6) hj
  simp (disch:=omega) only [I4,dT,Vb,w64]
  have e0:d.1.getD j ((⟨#[]⟩:ByteArray),([]:List Int))=d.1.getD j D6:=rfl
  rw[e0]
  refine Gtb (Qr d hin.1.1 hin.1.2) ?_
  refine Glb hd.1 (Gtb (Yy hin.1.1.1 hd.2.1 _) ?_)
  have hnm:=(Qs.1 (hnk _ hx)).1
  have hcg:=Xxa (x:=d.1.getD j D6) hg
  unfold clS at h hcg
  unfold lkD
  rw[Toa (Na hd.1) hx]
  simp only
  cases hf:Ol (d.1.getD j D6).2 with
  |some f=>
   rw[hf]at h
   exact Gkb rfl (next _ ⟨h,hg,s0,by omega⟩)
  |none=>
   rw[hf]at h hcg
   refine Glb rfl (Gtb (Tn hg.1 (Ja hnm)) ?_)
   have er:(rmD s.1 (d.1.getD j D6).1).1=(cut s.1.1 (d.1.getD j D6).1,s.1.2):=by
    unfold rmD
    cases hg1:gt s.1.1 (d.1.getD j D6).1 with
    |none=>rw[Pva hg1];rfl
    |some b=>rfl
   have hrg:=Tta (s:=(d.1.getD j D6).1) hg
   rw[er]at hrg ⊢
   refine Gtb (Uu hrg.1 hnm) ?_
   have es:(syD (cut s.1.1 (d.1.getD j D6).1,s.1.2) (d.1.getD j D6).1).1=(cut s.1.1 (d.1.getD j D6).1,cut s.1.2 (d.1.getD j D6).1):=by
    have e2:sy (cut s.1.1 (d.1.getD j D6).1,s.1.2) (d.1.getD j D6).1=cut s.1.2 (d.1.getD j D6).1:=by
     unfold sy
     rw[Ut (Na hg.1),if_pos rfl]
    unfold syD
    rw[e2,decide_eq_true (Ah.1 (Dm.1 hcg.1).2).2.2]
    rfl
   rw[es]
   exact next ((cut s.1.1 (d.1.getD j D6).1,cut s.1.2 (d.1.getD j D6).1),s.2+1) ⟨h,hcg,by dsimp only;omega,by dsimp only;omega⟩

def hI (d:Dsk) (out:List ByteArray) (x:Nmd):List ByteArray:=bif (lkD d x.1).2==0 then wt out x.1 else out
def F8a (d:Dsk):List ByteArray:=d.1.foldl (hI d) []
def Zua (d:Dsk):∀ (l:List Nmd) (out:List ByteArray),(l.foldl (hI d) out).length≤out.length+l.length
 |[],out=>by simp
 |x::l,out=>by
  have h1:=Zua d l (hI d out x)
  have h2:(hI d out x).length≤out.length+1:=by
   unfold hI
   cases (lkD d x.1).2==0 with
   |false=>exact H0b _
   |true=>exact Hta
  rw[Zb,Vc]
  omega
def Y0a (d:Dsk) (hd:DIn d) (hb:DB d):Tot (λ k=>K5 k d) (λ r=>r=F8a d):=by
 have hl:=hd.2.1
 unfold K5
 refine Gjb (Q:=λ r=>r=F8a d) ?_ (by rintro r rfl;exact Gib rfl)
 refine Grb (L:=λ k i s=>Jc k s d.1 (d.1.length:Int) i d) (Q:=λ r=>r=F8a d) d.1.length (λ j s=>(d.1.drop j).foldl (hI d) s=F8a d∧s.length≤j) ?_ ?_ 0 [] (Vs _) ⟨rfl,Vw _⟩
 ·rintro s ⟨h,_⟩
  rw[Wi]at h
  simp (disch:=omega) only [Jc,dF]
  exact Gib h
 ·rintro j s hj ⟨h,hs⟩ next
  rw[Af (d:=D6) hj,Zb]at h
  simp (disch:=omega) only [Jc,dT,Vb,w64]
  have e0:d.1.getD j ((⟨#[]⟩:ByteArray),([]:List Int))=d.1.getD j D6:=rfl
  rw[e0]
  refine Gtb (Nka hd.1.1.1 hb.1 _) ?_
  unfold hI at h
  cases hc:(lkD d (d.1.getD j D6).1).2==0 with
  |false=>
   rw[hc]at h
   exact Gkb rfl (next _ ⟨h,by omega⟩)
  |true=>
   rw[hc]at h
   refine Glb rfl (Gtb (F1a s _ (by omega)) ?_)
   have:=Hta (l:=s) (s:=(d.1.getD j D6).1)
   exact next _ ⟨h,by omega⟩
def Fna (l:List ByteArray) (s:ByteArray):Bool:=l.any λ y=>teq y s
def O2a {l:List ByteArray} {s:ByteArray}:Fna l s=true↔s∈l:=by
 unfold Fna
 rw[Ilb]
 constructor
 ·rintro⟨x,hx,e⟩;rw[← Jl.1 e];exact hx
 ·intro h;exact⟨s,h,Jl.2 rfl⟩
def O3a (l:List ByteArray) (s:ByteArray) (hl:l.length≤1000000000):Tot (λ k=>Ib k l s) (λ r=>r=Fna l s):=by
 unfold Ib
 refine Gjb (Q:=λ r=>r=bif Fna l s then .inl true else .inr ()) ?_ (by rintro r rfl;cases Fna l s<;>exact Gib rfl)
 refine Grb (L:=λ k i (_:Unit)=>Hh k l s i) (Q:=λ r=>r=bif Fna l s then .inl true else .inr ()) l.length (λ j _=>Fna (l.drop j) s=Fna l s) ?_ ?_ 0 () (Vs _) rfl
 ·intro _ h
  rw[Wi]at h
  simp (disch:=omega) only [Hh,dF,← h]
  exact Gib rfl
 ·intro j _ hj h next
  rw[Af (d:=Nw) hj]at h
  unfold Fna at h
  rw[Jdb]at h
  simp (disch:=omega) only [Hh,dT,Vb,w64]
  refine Gob (λ hc=>Gib ?_) (λ hc=>next () ?_)
  ·rw[show teq (l.getD j Nw) s=true from hc,Jlb]at h
   unfold Fna
   rw[← h]
   rfl
  ·rw[show teq (l.getD j Nw) s=false from hc,Hcb]at h
   exact h
def J1a (l:List ByteArray):Nat→ByteArray→List ByteArray×Nat
 |0,_=>(l,0)
 |k+1,s=>bif tlt s (l.getD k Nw) then J1a (l.set (k+1) (l.getD k Nw)) k s else (l,k+1)
def Zva (l:List ByteArray) (s:ByteArray):List ByteArray:=(J1a (l++[s]) l.length s).1.set (J1a (l++[s]) l.length s).2 s
def Bka:∀ (k:Nat) (l:List ByteArray) (s:ByteArray),(J1a l k s).1.length=l.length∧(J1a l k s).2≤k∧∀ y∈(J1a l k s).1,y∈l∨y=Nw
 |0,_,_=>⟨rfl,Vw _,λ _ h => .inl h⟩
 |k+1,l,s=>by
  unfold J1a
  cases tlt s (l.getD k Nw)
  ·exact⟨rfl,Vw _,λ _ h => .inl h⟩
  obtain⟨h1,h2,h3⟩:=Bka k (l.set (k+1) (l.getD k Nw)) s
  rw[cond_true]
  refine⟨by rw[h1,Vz],by omega,λ y hy=>?_⟩
  rcases h3 y hy with h|h
  ·rcases Xs h with h|h
   ·exact .inl h
   ·by_cases hk:k<l.length
    ·rw[h];exact .inl (A4 hk)
    ·rw[h,Ve,Zh (by omega)];exact .inr rfl
  ·exact .inr h
def Y1a (l:List ByteArray) (s:ByteArray):(Zva l s).length=l.length+1:=by
 unfold Zva
 rw[Vz,(Bka _ _ _).1,Vd]
 rfl
def Y2a {l:List ByteArray} {s y:ByteArray} (h:y∈Zva l s):y∈l∨y=s∨y=Nw:=by
 unfold Zva at h
 rcases Xs h with h|h
 ·rcases (Bka _ _ _).2.2 y h with h|h
  ·rcases Vo.1 h with h|h
   ·exact .inl h
   ·exact .inr (.inl (Vu.1 h))
  ·exact .inr (.inr h)
 ·exact .inr (.inl h)
def hS1 (l:List Nmd) (j:Nat) (out:List ByteArray) (x:Nmd):List ByteArray:=bif (Ol x.2).isSome&&(!(Fna out x.1)&&(Hia l x.1==(j:Int))) then Zva out x.1 else out
def hS (l:List Nmd):List Nmd→Nat→List ByteArray→List ByteArray
 |[],_,out=>out
 |x::r,j,out=>hS l r (j+1) (hS1 l j out x)
def Pwa (d:Dsk):List ByteArray:=hS d.1 d.1 0 []
def Upa (l:List Nmd) (j:Nat) (out:List ByteArray) (x:Nmd):(hS1 l j out x).length≤out.length+1:=by
 unfold hS1
 cases (Ol x.2).isSome&&(!(Fna out x.1)&&(Hia l x.1==(j:Int))) with
 |false=>exact H0b _
 |true=>rw[cond_true,Y1a];exact Vw _
def Elb (l:List Nmd) (hl:P7 l):∀ (r:List Nmd) (j:Nat) (out:List ByteArray),(∀ x∈r,x∈l)→(∀ y∈out,L9 y)→(hS l r j out).length≤out.length+r.length∧∀ y∈hS l r j out,L9 y
 |[],_,out,_,h=>⟨by simp[hS],h⟩
 |x::r,j,out,hm,h=>by
  have h2:=Upa l j out x
  obtain⟨a1,a2⟩:=Elb l hl r (j+1) (hS1 l j out x) (λ y hy=>hm y (Vj _ hy)) (λ y hy=>by
   unfold hS1 at hy
   cases hc:(Ol x.2).isSome&&(!(Fna out x.1)&&(Hia l x.1==(j:Int)))
   ·rw[hc]at hy;exact h y hy
   rw[hc]at hy
   rcases Y2a hy with hy|rfl|rfl
   ·exact h y hy
   ·exact hl x (hm x Za)
   ·unfold L9;decide)
  refine⟨?_,a2⟩
  show (hS l r (j+1) (hS1 l j out x)).length≤_
  rw[Vc]
  omega
def L6a (a b:List Nmd) (j:Nat) (hj:j<a.length) (ha:a.length≤5000000):∀ (k:Nat) (x:List ByteArray),k<x.length→x.length≤5000000→
  Tot (λ n=>Jt n x (j:Int) (k:Int) (a,b)) (λ r=>r=((J1a x k (a.getD j D6).1).1,(j:Int),((J1a x k (a.getD j D6).1).2:Int),(a,b))):=by
 intro k
 induction k with
 |zero=>
  intro x hk hx
  refine Tot.succ ?_
  simp (disch:=omega) only [Jt,dF]
  exact Gib rfl
 |succ k ih=>
  intro x hk hx
  refine Tot.succ ?_
  have e1:((k+1:Nat):Int)-1=(k:Int):=by omega
  simp (disch:=omega) only [Jt,dT,w64,e1,Vb]
  have e0:a.getD j ((⟨#[]⟩:ByteArray),([]:List Int))=a.getD j D6:=rfl
  rw[e0]
  unfold J1a
  refine Gob (λ h=>?_) (λ h=>?_)
  ·rw[H8a]at h
   rw[show tlt (a.getD j D6).1 (x.getD k Nw)=true from h,cond_true]
   exact ih _ (by rw[Vz];omega) (by rw[Vz];omega)
  ·rw[H8a]at h
   rw[show tlt (a.getD j D6).1 (x.getD k Nw)=false from h,cond_false]
   exact Gib rfl
def Y3a (d:Dsk) (hd:DIn d) (hb:DB d):Tot (λ k=>Gz k d) (λ r=>r=Pwa d):=by
 have hl:=hd.2.1
 unfold Gz
 refine Gjb (Q:=λ r=>r=Pwa d) ?_ (by rintro r rfl;exact Gib rfl)
 refine Grb (L:=λ k i s=>H6 k s i d) (Q:=λ r=>r=Pwa d) d.1.length (λ j s=>hS d.1 (d.1.drop j) j s=Pwa d∧s.length≤j) ?_ ?_ 0 [] (Vs _) ⟨rfl,Vw _⟩
 ·rintro s ⟨h,_⟩
  rw[Wi]at h
  simp (disch:=omega) only [H6,dF]
  exact Gib h
 ·rintro j s hj ⟨h,hs⟩ next
  rw[Af (d:=D6) hj]at h
  have hlen:=Upa d.1 j s (d.1.getD j D6)
  have nx:=next _ ⟨show hS d.1 (d.1.drop (j+1)) (j+1) (hS1 d.1 j s (d.1.getD j D6))=Pwa d from h,by omega⟩
  have hx:=A4 (d:=D6) hj
  simp (disch:=omega) only [H6,dT,Vb,w64]
  have e0:d.1.getD j ((⟨#[]⟩:ByteArray),([]:List Int))=d.1.getD j D6:=rfl
  rw[e0]
  unfold hS1 at nx
  refine Gtb (B8a _ (hb.1 _ hx) (hd.1.1.1.2 _ hx)) ?_
  unfold Tm
  cases hf:Ol (d.1.getD j D6).2 with
  |none=>
   rw[hf]at nx
   exact Glb rfl nx
  |some f=>
   rw[hf]at nx
   refine Gkb rfl (Gtb (O3a s _ (by omega)) ?_)
   cases hc:Fna s (d.1.getD j D6).1 with
   |true=>
    rw[hc]at nx
    exact Glb rfl nx
   |false=>
    rw[hc]at nx
    refine Gkb rfl (Gtb (Dca d.1 _ (by omega)) ?_)
    cases he:Hia d.1 (d.1.getD j D6).1==(j:Int) with
    |false=>
     rw[he]at nx
     exact Glb (by unfold bne;rw[he];rfl) nx
    |true=>
     rw[he]at nx
     refine Gkb (by unfold bne;rw[he];rfl) (Gqb (by simp only[Vc,Vh];omega) ?_)
     have hq:=L6a d.1 d.2 j hj (by omega) s.length (s++[(d.1.getD j D6).1]) (by simp) (by simp only[Vd,Vc,Vh];omega)
     refine Gjb hq ?_
     rintro r rfl
     obtain⟨w1,w2,_⟩:=Bka s.length (s++[(d.1.getD j D6).1]) (d.1.getD j D6).1
     rw[Vd]at w1
     simp only[Vc,Vh]at w1
     simp (disch:=omega) only [dT,Vb,w64]
     exact nx

def Emb (n:Nod):Nod×Int:=((n.1,(N8 n.2.1).1,n.2.2),(N8 n.2.1).2)
def F9a {n:Nod} (hn:NG n) {d:Dsk} (hd:DG d):NG (n.1,d,n.2.2):=by
 obtain⟨h1,h2,h3,h4,h5⟩:=C8.1 hn.1
 exact⟨C8.2 ⟨h1,h2,hd.1,h4,h5⟩,hd.2⟩
def Uqa {n:Nod} (hn:NG n):NG (Emb n).1:=F9a hn (Xya hn.g)
def Ura (n:Nod) (hn:NG n):Tot (λ k=>Hu k n) (λ r=>r=Emb n):=by
 unfold Hu
 refine Gtb (Pk n (Sy hn)) ?_
 refine Gtb (Una n.2.1 hn.g) ?_
 exact Gib rfl

def Usa (v:BitVec 32) (b:Int):BitVec 32:=(v ^^^ ofInt 32 b)*16777619#32
def C9a (x:ByteArray):Nat→BitVec 32
 |0=>2166136261#32
 |n+1=>Usa (C9a x n) (bt x (n:Int))
def Pxa (x:ByteArray):Nat:=(C9a x x.size).toNat
def Ggb (v:BitVec 32):wrap .u32 ((v.toNat:Int)*16777619)=((v*16777619#32).toNat:Int):=by
 rw[IntKind.wrap_u32,BitVec.toNat_mul]
 show (v.toNat:Int)*16777619 % 4294967296=((v.toNat*16777619 % 4294967296:Nat):Int)
 omega
def Ghb (v:BitVec 32):wrap .i64 ((ofInt (IntKind.bits .i64) ((v.toNat:Int)*16777619) &&& ofInt (IntKind.bits .i64) 4294967295).toNat)=((v*16777619#32).toNat:Int):=by
 have h:=v.isLt
 rw[Hwb,show (v.toNat:Int)*16777619=((v.toNat*16777619:Nat):Int) by omega,Rw _ (by omega),show (ofInt (IntKind.bits .i64) 4294967295).toNat=2 ^ 32-1 from by decide,Ikb,BitVec.toNat_mul]
 show wrap .i64 ((v.toNat*16777619 % 4294967296:Nat):Int)=((v.toNat*16777619 % 4294967296:Nat):Int)
 exact w64 (by omega) (by omega)
def Y4a (x:ByteArray) (hx:x.size≤1000000000):Tot (λ k=>Mc k x) (λ r=>r=(Pxa x:Int)):=by
 unfold Mc
 refine Gjb (Q:=λ r=>r=(Pxa x:Int)) ?_ (by
  rintro r rfl
  have:=(C9a x x.size).isLt
  exact Gib (w64 (n:=(Pxa x:Int)) (by omega) (by show ((C9a x x.size).toNat:Int)≤_;omega)))
 refine Grb (L:=λ k i (s:Int)=>K6 k x s i) (Q:=λ r=>r=(Pxa x:Int)) x.size (λ j s=>s=((C9a x j).toNat:Int)) ?_ ?_ 0 _ (Vs _) rfl
 ·rintro s rfl
  simp (disch:=omega) only [K6,dF]
  exact Gib rfl
 ·rintro j s hj rfl next
  have hb:=Ava x (j:Int)
  have e1:wrap .u32 (bt x (j:Int))=bt x (j:Int):=Jcb _ ⟨by omega,by omega⟩
  simp (disch:=omega) only [K6,dT,w64,e1,Fob (C9a x j) _ (bt x (j:Int)) rfl,Ggb]
  exact next _ rfl
def Y5a (x:ByteArray) (hx:x.size≤1000000000):Tot (λ k=>Mb k x) (λ r=>r=(Pxa x:Int)):=by
 unfold Mb
 refine Gjb (Q:=λ r=>r=(Pxa x:Int)) ?_ (by rintro r rfl;exact Gib rfl)
 refine Grb (L:=λ k i (s:Int)=>Ju k x s i) (Q:=λ r=>r=(Pxa x:Int)) x.size (λ j s=>s=((C9a x j).toNat:Int)) ?_ ?_ 0 _ (Vs _) rfl
 ·rintro s rfl
  simp (disch:=omega) only [Ju,dF]
  exact Gib rfl
 ·rintro j s hj rfl next
  have hb:=Ava x (j:Int)
  have hx:wrap .i64 ((ofInt (IntKind.bits .i64) ((C9a x j).toNat:Int) ^^^ ofInt (IntKind.bits .i64) (bt x (j:Int))).toNat)=((C9a x j ^^^ ofInt 32 (bt x (j:Int))).toNat:Int):=by
   have:=F5b (C9a x j) (ofInt 32 (bt x (j:Int)))
   rwa [← Nia hb]at this
  simp (disch:=omega) only [Ju,dT,w64,hx,Ghb]
  exact next _ rfl
def Wx (r:Rng) (x:ByteArray):List Int:=r.2.getD (Pxa x % r.2.length) []
def Enb (a b:Nat):Int.tmod (a:Int) (b:Int)=((a % b:Nat):Int):=by
 rw[Zz (by omega)]
 exact(Int.natCast_emod _ _).symm
def O4a (r:Rng) (x:ByteArray) (hr:RBd r) (hx:x.size≤1000000000):Tot (λ k=>E9 k r x) (λ y=>y=Wx r x):=by
 have hrl:=hr.1
 unfold E9
 by_cases h0:r.2.length=0
 ·refine Glb (by rw[h0];rfl) (Gib ?_)
  unfold Wx
  rw[Wq h0]
  rfl
 ·have hm:=Jrb (Pxa x) (show 0<r.2.length by omega)
  refine Gkb (by rw[beq_eq_false_iff_ne];omega) (Gjb (Q:=λ y=>y=((Pxa x % r.2.length:Nat):Int)) ?_ ?_)
  ·unfold Ln
   refine Gnb (by omega) (Gtb (Y4a x hx) ?_)
   exact Gnb (by omega) (Gib (Enb _ _))
  ·rintro y rfl
   simp (disch:=omega) only [dT,Vb]
   have hp:=hr.2 _ (A4 (d:=[]) hm)
   rw[Xc _ (by omega)]
   exact Gib rfl
def Z2 (r:Rng) (x:ByteArray) (hr:RBd r) (hx:x.size≤1000000000):Tot (λ k=>Be k r x) (λ y=>y=Wx r x):=by
 have hrl:=hr.1
 unfold Be
 by_cases h0:r.2.length=0
 ·refine Glb (by rw[h0];rfl) (Gib ?_)
  unfold Wx
  rw[Wq h0]
  rfl
 ·have hm:=Jrb (Pxa x) (show 0<r.2.length by omega)
  refine Gkb (by rw[beq_eq_false_iff_ne];omega) (Gjb (Q:=λ y=>y=((Pxa x % r.2.length:Nat):Int)) ?_ ?_)
  ·unfold Lk
   refine Gnb (by omega) (Gtb (Y5a x hx) ?_)
   exact Gnb (by omega) (Gib (Enb _ _))
  ·rintro y rfl
   have hp:=hr.2 _ (A4 (d:=[]) hm)
   simp (disch:=omega) only [dT,Vb]
   exact Gqb (by simp only[Vh];omega) (Gib rfl)
def Y6a {r:Rng} {l:List Dev} (h:Jd r l=true) (x:ByteArray):Wx r x∈r.2:=by
 obtain⟨_,_,h3,_⟩:=D5.1 h
 exact A4 (d:=[]) (Jrb _ (by omega))
def Faa {r:Rng} {l:List Dev} (h:Jd r l=true) (x:ByteArray):(Wx r x).Nodup∧((Wx r x).length:Int)=r.1∧∀ id∈Wx r x,∃ d,Ko l id=some d:=(D5.1 h).2.2.2 _ (Y6a h x)
def hoA (p zs:List Int) (z:Bool) (l:List Dev):List Int:=(l.filter λ d => !(Ou p d.1)&&(Ou zs d.2.1==z)).map (·.1)
def Ss (r:Rng) (l:List Dev) (x:ByteArray):List Int:=hoA (Wx r x) (L7 (Wx r x) l) false l++hoA (Wx r x) (L7 (Wx r x) l) true l
def Fba (p zs:List Int) (z:Bool) (l:List Dev):(hoA p zs z l).length≤l.length:=by
 unfold hoA
 rw[Wh]
 exact List.length_filter_le _ _
def Y7a (p zs:List Int) (z:Bool) (d:Dev) (l:List Dev):hoA p zs z (d::l)=bif !(Ou p d.1)&&(Ou zs d.2.1==z) then d.1::hoA p zs z l else hoA p zs z l:=by
 unfold hoA
 rw[Zy]
 cases !(Ou p d.1)&&(Ou zs d.2.1==z)<;>rfl
def Bla (p zs:List Int) (l:List Dev) (hp:p.length≤2000000) (hz:zs.length≤2000000) (hl:l.length≤2000000) (out:List Int) (ho:out.length≤5000000) (t:Int):Tot (λ k=>Cg k l p zs out t 0) (λ y=>y=(l,p,zs,out++hoA p zs (t==1) l,t)):=by
 have m1:=Fba p zs (t==1) l
 refine Grb (L:=λ k i (s:List Int)=>Cg k l p zs s t i) (Q:=λ y=>y=(l,p,zs,out++hoA p zs (t==1) l,t)) l.length (λ j s=>s++hoA p zs (t==1) (l.drop j)=out++hoA p zs (t==1) l) ?_ ?_ 0 out (Vs _) rfl
 ·rintro s e1
  rw[Wi]at e1
  simp (disch:=omega) only [Cg,dF]
  refine Gib ?_
  rw[← e1]
  show _=(l,p,zs,s++[],t)
  rw[Wp]
 ·rintro j s hj e1 next
  have g1:=congrArg length e1
  rw[Vd,Vd]at g1
  rw[Af (d:=Nu) hj,Y7a]at e1
  obtain⟨d,ed⟩:∃ d:Dev,l.getD j Nu=d:=⟨_,rfl⟩
  rw[ed]at e1
  have e0:l.getD j ((0:Int),((0:Int),(0:Int)))=d:=ed
  simp (disch:=omega) only [Cg,dT,Vb,w64,e0]
  refine Gtb (Tp p d.1 (by omega)) ?_
  cases hp':Ou p d.1 with
  |true=>
   rw[hp']at e1
   exact Gkb rfl (next s e1)
  |false=>
   rw[hp']at e1
   refine Glb rfl (Gtb (Tp zs d.2.1 (by omega)) ?_)
   cases hz':Ou zs d.2.1==(t==1) with
   |true=>
    rw[hz']at e1
    exact Glb rfl (Gqb (by simp only[Vc,Vh];omega) (next (s++[d.1]) (by rw[← e1];simp)))
   |false=>
    rw[hz']at e1
    exact Gkb rfl (next s e1)
def Y8a (r:Rng) (l:List Dev) (x:ByteArray) (h:Jd r l=true) (hx:x.size≤1000000000):Tot (λ k=>Cl k r l x) (λ y=>y=Ss r l x):=by
 obtain⟨h1,h2,_,_⟩:=D5.1 h
 obtain⟨_,p2,_⟩:=Faa h x
 obtain⟨_,_,_,h12⟩:=Gy.1 h1
 have hz:=Bha (Wx r x) l
 unfold Cl Ss
 refine Gtb (Z2 r x (N1 h) hx) ?_
 generalize Wx r x=p at *
 refine Gtb (I7a p l (by omega) (by omega)) ?_
 generalize L7 p l=zs at *
 have m1:=Fba p zs false l
 refine Gjb (Q:=λ y=>y=hoA p zs false l++hoA p zs true l) ?_ (by rintro y rfl;exact Gib rfl)
 refine Tot.succ ?_
 simp (disch:=omega) only [Ev,dT]
 refine Gtb (Bla p zs l (by omega) (by omega) (by omega) [] (by simp) 0) ?_
 refine Tot.succ ?_
 simp (disch:=omega) only [Ev,dT,w64,Vx]
 refine Gtb (Bla p zs l (by omega) (by omega) (by omega) (hoA p zs false l) (by omega) 1) ?_
 refine Tot.succ ?_
 simp (disch:=omega) only [Ev,dF,w64]
 exact Gib rfl

section
variable {R:Type} {L:Nat→Int→Option (Sum Bool R)}
def T5 (p:Nat→Bool) (n:Nat):(List.range (n+1)).all p=((List.range n).all p&&p n):=by
 rw[Jqb,List.all_append,Gxb,List.all_nil,Hnb]
def Caa {p:Nat→Bool} {m n:Nat} (h:m≤n) (hn:(List.range n).all p=true):(List.range m).all p=true:=by
 rw[Yr]at hn ⊢
 exact λ x hx=>hn x (Hfb.2 (by have:=Hfb.1 hx;omega))
def Gsb (n:Nat) (p:Nat→Bool) (e:R) (hend:Tot (λ k=>L (k+1) (n:Int)) (λ r=>r = .inr e))
  (Usa:∀ j,j<n→∀ (Q:Sum Bool R→Prop),(p j=false→Q (.inl false))→(p j=true→Tot (λ k=>L k ((j:Int)+1)) Q)→Tot (λ k=>L (k+1) (j:Int)) Q):
  Tot (λ k=>L k 0) (λ r=>r=bif (List.range n).all p then .inr e else .inl false):=by
 refine Grb (L:=λ k i (_:Unit)=>L k i) (Q:=λ r=>r=bif (List.range n).all p then .inr e else .inl false) n (λ j _=>(List.range j).all p=true) ?_ ?_ 0 () (Vs _) rfl
 ·intro _ h
  rw[h]
  exact hend
 ·intro j _ hj h next
  refine Usa j hj _ (λ hp=>?_) (λ hp=>next () (by rw[T5,h,hp];rfl))
  cases hc:(List.range n).all p
  ·rfl
  have:=Caa (show j+1≤n by omega) hc
  rw[T5,hp,Yj]at this
  cases this
end
def Ifa {α:Type} (l:List α) (d:α) (p:α→Bool):l.all p=(List.range l.length).all λ j=>p (l.getD j d):=by
 rw[Izb,Yr,Yr]
 constructor
 ·intro h j hj
  exact h _ (A4 (Hfb.1 hj))
 ·intro h x hx
  obtain⟨j,hj,rfl⟩:=Zw.1 hx
  have:=h j (Hfb.2 hj)
  rwa [Ve,Vk hj,Yq]at this
abbrev Wri:=ByteArray×Fil×Bool
abbrev Wld:=List Dev×Rng×List Nod×Stp×List Wri×List ByteArray
def Uta:Wri:=((⟨#[]⟩:ByteArray),((((0:Int),((0:Int),(0:Int))),(false,[])),false))
def T6 (l:List ByteArray):Bool:=(List.range l.length).all λ j=>B1 (l.getD j Nw)&&(decide (j=0)||tlt (l.getD (j-1) Nw) (l.getD j Nw))
def Fca (c:Stp) (w:Wri):Bool:=B1 w.1&&(Fk w.2.1&&!(sle c w.2.1.1))
def Y9a (c:Stp) (l:List Wri):Bool:=l.all (Fca c)&&decide ((l.length:Int)≤200)
def S6 (l:List Dev) (ns:List Nod):Bool:=((ns.length:Int)==(l.length:Int))&&(List.range ns.length).all λ j=>((ns.getD j Bo).1==(l.getD j Nu).1)&&Mx (ns.getD j Bo)
def Pq (w:Wld):Bool:=Jd w.2.1 w.1&&(S6 w.1 w.2.2.1&&(Gw w.2.2.2.1&&(Y9a w.2.2.2.1 w.2.2.2.2.1&&T6 w.2.2.2.2.2)))
def WIn (w:Wld):Prop:=RBd w.2.1∧w.1.length≤2000000∧(w.2.2.1.length≤2000000∧∀ n∈w.2.2.1,NIn n)∧(w.2.2.2.2.1.length≤2000000∧∀ x∈w.2.2.2.2.1,L9 x.1)∧(w.2.2.2.2.2.length≤2000000∧∀ s∈w.2.2.2.2.2,L9 s)
def Yaa (w:Wld) (hw:WIn w):Tot (λ k=>Dh k w) (λ r=>r=Y9a w.2.2.2.1 w.2.2.2.2.1):=by
 obtain⟨_,_,_,⟨h1,h2⟩,_⟩:=hw
 unfold Dh Y9a
 refine Gjb (Q:=λ r=>r=bif w.2.2.2.2.1.all (Fca w.2.2.2.1) then .inr w else .inl false) ?_ (by
  rintro r rfl
  cases w.2.2.2.2.1.all (Fca w.2.2.2.1)<;>exact Gib rfl)
 rw[Ifa _ Uta]
 refine Gsb (L:=λ k i=>Er k w.2.2.2.2.1 (w.2.2.2.2.1.length:Int) i w) _ _ w ?_ ?_
 ·simp (disch:=omega) only [Er,dF]
  exact Gib rfl
 ·intro j hj Q no yes
  have hs:=h2 _ (A4 (d:=Uta) hj)
  obtain⟨x,ex⟩:∃ x:Wri,w.2.2.2.2.1.getD j Uta=x:=⟨_,rfl⟩
  rw[ex]at hs
  simp only[ex]at no yes
  have e0:w.2.2.2.2.1.getD j ((⟨#[]⟩:ByteArray),((((0:Int),((0:Int),(0:Int))),(false,[])),false))=x:=ex
  simp (disch:=omega) only [Er,dT,Vb,w64,e0,F2a,Era,Vn]
  unfold Fca at no yes
  refine Gtb (Qo x.1 hs) ?_
  refine Gob (λ hc=>Gib (no ?_)) (λ h3=>Gob (λ hc=>Gib (no ?_)) (λ h4=>Gob (λ hc=>Gib (no ?_)) (λ h5=>yes ?_)))
  ·rw[Vv]at hc;rw[hc];rfl
  ·rw[Vv]at hc;rw[hc,Zq,Yj]
  ·rw[hc,Zf,Yj,Yj]
  ·rw[Wj]at h3 h4;rw[h3,h4,h5];rfl
def Iga (w:Wld) (hw:WIn w):Tot (λ k=>Cy k w.2.2.2.2.2 (w.2.2.2.2.2.length:Int) 0 w) (λ r=>r=bif T6 w.2.2.2.2.2 then .inr () else .inl false):=by
 obtain⟨_,_,_,_,h1,h2⟩:=hw
 unfold T6
 refine Gsb (L:=λ k i=>Cy k w.2.2.2.2.2 (w.2.2.2.2.2.length:Int) i w) _ _ () ?_ ?_
 ·simp (disch:=omega) only [Cy,dF]
  exact Gib rfl
 ·intro j hj Q no yes
  have hs:=h2 _ (A4 (d:=Nw) hj)
  have e0:∀ i,w.2.2.2.2.2.getD i (⟨#[]⟩:ByteArray)=w.2.2.2.2.2.getD i Nw:=λ _=>rfl
  simp (disch:=omega) only [Cy,dT,Vb,w64,e0]
  refine Gtb (Qo _ hs) ?_
  refine Gob (λ hc=>Gib (no ?_)) (λ h3=>Gpb (λ h0=>?_) (λ h0=>yes ?_))
  ·rw[Vv]at hc;rw[hc];rfl
  ·simp (disch:=omega) only [dT,w64,show toNat ((j:Int)-1)=j-1 by omega]
   rw[Wj]at h3
   rw[h3,decide_eq_false (show ¬ j=0 by omega),Hcb,Wc]at no yes
   refine Gob (λ hc=>Gib (no ?_)) (λ h4=>yes ?_)
   ·rw[Vv]at hc;exact hc
   ·rw[Wj]at h4;exact h4
  ·rw[Wj]at h3
   rw[h3,decide_eq_true (show j=0 by omega)]
   rfl
def Iha (w:Wld) (hw:WIn w):Tot (λ k=>D0 k 0 w) (λ r=>r=bif T6 w.2.2.2.2.2 then .inr () else .inl false):=by
 obtain⟨_,_,_,_,h1,h2⟩:=hw
 unfold T6
 refine Gsb (L:=λ k i=>D0 k i w) _ _ () ?_ ?_
 ·simp (disch:=omega) only [D0,dF]
  exact Gib rfl
 ·intro j hj Q no yes
  have hs:=h2 _ (A4 (d:=Nw) hj)
  have e0:∀ i,w.2.2.2.2.2.getD i (⟨#[]⟩:ByteArray)=w.2.2.2.2.2.getD i Nw:=λ _=>rfl
  simp (disch:=omega) only [D0,dT,Vb,w64,e0]
  refine Gtb (Ph _ hs) ?_
  refine Gob (λ hc=>Gib (no ?_)) (λ h3=>Gpb (λ h0=>?_) (λ h0=>yes ?_))
  ·rw[Vv]at hc;rw[hc];rfl
  ·simp (disch:=omega) only [dT,w64,show toNat ((j:Int)-1)=j-1 by omega]
   rw[Wj]at h3
   rw[h3,decide_eq_false (show ¬ j=0 by omega),Hcb,Wc]at no yes
   refine Gob (λ hc=>Gib (no ?_)) (λ h4=>yes ?_)
   ·rw[Vv]at hc;exact hc
   ·rw[Wj]at h4;exact h4
  ·rw[Wj]at h3
   rw[h3,decide_eq_true (show j=0 by omega)]
   rfl
def L7a (w:Wld) (hw:WIn w) (hl:w.2.2.1.length=w.1.length):Tot (λ k=>Et k w.2.2.1 (w.2.2.1.length:Int) 0 w) (λ r=>r=bif S6 w.1 w.2.2.1 then .inr w else .inl false):=by
 obtain⟨_,_,⟨h1,h2⟩,_⟩:=hw
 unfold S6
 rw[show ((w.2.2.1.length:Int)==(w.1.length:Int))=true by rw[beq_iff_eq];omega,Wc]
 refine Gsb (L:=λ k i=>Et k w.2.2.1 (w.2.2.1.length:Int) i w) _ _ w ?_ ?_
 ·simp (disch:=omega) only [Et,dF]
  exact Gib rfl
 ·intro j hj Q no yes
  have hs:=h2 _ (A4 (d:=Bo) hj)
  obtain⟨x,ex⟩:∃ x:Nod,w.2.2.1.getD j Bo=x:=⟨_,rfl⟩
  rw[ex]at hs no yes
  have e0:w.2.2.1.getD j ((0:Int),(([],[]),([],[])))=x:=ex
  have e1:w.1.getD j ((0:Int),((0:Int),(0:Int)))=w.1.getD j Nu:=rfl
  simp (disch:=omega) only [Et,dT,Vb,w64,e0,e1]
  refine Gob (λ hc=>Gib (no ?_)) (λ h3=>Gjb (Noa x hs) ?_)
  ·rw[bne,Vv]at hc;rw[hc];rfl
  ·rw[bne,Wj]at h3
   rw[h3,Wc]at no yes
   rintro b rfl
   refine Gob (λ hc=>Gib (no ?_)) (λ h4=>yes ?_)
   ·rw[Vv]at hc;exact hc
   ·rw[Wj]at h4;exact h4
def Yba (w:Wld) (hw:WIn w):Tot (λ k=>Dl k w) (λ r=>r=S6 w.1 w.2.2.1):=by
 obtain⟨_,_,⟨h1,h2⟩,_⟩:=hw
 unfold S6 Dl
 refine Gob (λ hc=>Gib ?_) (λ hl=>?_)
 ·rw[bne,Vv]at hc
  rw[hc];rfl
 ·rw[bne,Wj]at hl
  rw[hl,Wc]
  rw[beq_iff_eq]at hl
  refine Gjb (Q:=λ r=>r=bif (List.range w.2.2.1.length).all (λ j=>((w.2.2.1.getD j Bo).1==(w.1.getD j Nu).1)&&Mx (w.2.2.1.getD j Bo)) then .inr () else .inl false) ?_ (by
   rintro r rfl
   cases (List.range w.2.2.1.length).all (λ j=>((w.2.2.1.getD j Bo).1==(w.1.getD j Nu).1)&&Mx (w.2.2.1.getD j Bo))<;>exact Gib rfl)
  refine Gsb (L:=λ k i=>Fb k i w) _ _ () ?_ ?_
  ·simp (disch:=omega) only [Fb,dF]
   exact Gib rfl
  ·intro j hj Q no yes
   have hs:=h2 _ (A4 (d:=Bo) hj)
   obtain⟨x,ex⟩:∃ x:Nod,w.2.2.1.getD j Bo=x:=⟨_,rfl⟩
   rw[ex]at hs no yes
   have e0:w.2.2.1.getD j ((0:Int),(([],[]),([],[])))=x:=ex
   have e1:w.1.getD j ((0:Int),((0:Int),(0:Int)))=w.1.getD j Nu:=rfl
   simp (disch:=omega) only [Fb,dT,Vb,w64,e0,e1]
   refine Gob (λ hc=>Gib (no ?_)) (λ h3=>Gjb (Yz x hs) ?_)
   ·rw[bne,Vv]at hc;rw[hc];rfl
   ·rw[bne,Wj]at h3
    rw[h3,Wc]at no yes
    rintro b rfl
    refine Gob (λ hc=>Gib (no ?_)) (λ h4=>yes ?_)
    ·rw[Vv]at hc;exact hc
    ·rw[Wj]at h4;exact h4
def Bma (w:Wld) (hw:WIn w):Tot (λ k=>Bl k w) (λ r=>r=Pq w):=by
 unfold Bl Pq
 refine Gtb (Xoa w.2.1 w.1 hw.1 (by have:=hw.2.1;omega)) ?_
 cases hr:Jd w.2.1 w.1
 ·exact Glb rfl (Gib rfl)
 refine Gkb rfl ?_
 rw[Wc]
 by_cases hl:w.2.2.1.length=w.1.length
 ·refine Gkb (by rw[bne,hl,beq_self_eq_true];rfl) ?_
  simp only[Awa,Vn]
  cases hs:Gw w.2.2.2.1
  ·exact Glb rfl (Gib (by rw[Zq,Yj]))
  refine Gkb rfl (Gtb (Yaa w hw) ?_)
  cases hws:Y9a w.2.2.2.1 w.2.2.2.2.1
  ·exact Glb rfl (Gib (by rw[Zq,Yj,Yj]))
  refine Gkb rfl (Gtb (L7a w hw hl) ?_)
  cases S6 w.1 w.2.2.1
  ·exact Gib rfl
  refine Gtb (Iga w hw) ?_
  cases T6 w.2.2.2.2.2<;>exact Gib rfl
 ·have hn:((w.2.2.1.length:Int)==(w.1.length:Int))=false:=by rw[beq_eq_false_iff_ne];omega
  refine Glb (by rw[bne,hn];rfl) (Gib ?_)
  unfold S6
  rw[hn]
  rfl
def Uua (w:Wld) (hw:WIn w):Tot (λ k=>Dg k w) (λ r=>r=Pq w):=by
 have hw':=hw
 obtain⟨_,_,_,⟨h1,h2⟩,_⟩:=hw'
 unfold Dg Pq
 refine Gtb (Xpa w.2.1 w.1 hw.1 (by have:=hw.2.1;omega)) ?_
 cases hr:Jd w.2.1 w.1
 ·exact Glb rfl (Gib rfl)
 refine Gkb rfl (Gtb (Yba w hw) ?_)
 rw[Wc]
 cases hn:S6 w.1 w.2.2.1
 ·exact Glb rfl (Gib rfl)
 refine Gkb rfl ?_
 simp only[Rv,Vn]
 cases hs:Gw w.2.2.2.1
 ·exact Glb rfl (Gib rfl)
 refine Gkb rfl ?_
 by_cases hl:(w.2.2.2.2.1.length:Int) > 200
 ·refine Gmb hl (Gib ?_)
  unfold Y9a
  rw[decide_eq_false (show ¬ (w.2.2.2.2.1.length:Int)≤200 by omega),Yj]
  rfl
 ·refine Gnb hl (Gjb (Q:=λ r=>r=bif w.2.2.2.2.1.all (Fca w.2.2.2.1) then .inr w else .inl false) ?_ ?_)
  ·rw[Ifa _ Uta]
   refine Gsb (L:=λ k i=>Gi k i w) _ _ w ?_ ?_
   ·simp (disch:=omega) only [Gi,dF]
    exact Gib rfl
   ·intro j hj Q no yes
    have hs:=h2 _ (A4 (d:=Uta) hj)
    obtain⟨x,ex⟩:∃ x:Wri,w.2.2.2.2.1.getD j Uta=x:=⟨_,rfl⟩
    rw[ex]at hs
    simp only[ex]at no yes
    have e0:w.2.2.2.2.1.getD j ((⟨#[]⟩:ByteArray),((((0:Int),((0:Int),(0:Int))),(false,[])),false))=x:=ex
    simp (disch:=omega) only [Gi,dT,Vb,w64,e0,Us,Eqa,Vn]
    unfold Fca at no yes
    refine Gtb (Ph x.1 hs) ?_
    refine Gob (λ hc=>Gib (no ?_)) (λ h3=>Gob (λ hc=>Gib (no ?_)) (λ h4=>Gob (λ hc=>Gib (no ?_)) (λ h5=>yes ?_)))
    ·rw[Vv]at hc;rw[hc];rfl
    ·rw[Vv]at hc;rw[hc,Zq,Yj]
    ·rw[hc,Zf,Yj,Yj]
    ·rw[Wj]at h3 h4;rw[h3,h4,h5];rfl
  ·rintro b rfl
   unfold Y9a
   rw[decide_eq_true (show (w.2.2.2.2.1.length:Int)≤200 by omega),Hnb]
   cases w.2.2.2.2.1.all (Fca w.2.2.2.1)
   ·exact Gib rfl
   refine Gtb (Iha w hw) ?_
   cases T6 w.2.2.2.2.2<;>exact Gib rfl

def atN:List Nod→Int→Nat→List Int
 |[],_,_=>[]
 |n::ns,id,i=>bif n.1==id then (i:Int)::atN ns id (i+1) else atN ns id (i+1)
def Fda (n:Nod) (ns:List Nod) (id:Int) (i:Nat):atN (n::ns) id i=bif n.1==id then (i:Int)::atN ns id (i+1) else atN ns id (i+1):=rfl
def whr (ns:List Nod) (ids:List Int):List Int:=ids.flatMap λ id=>atN ns id 0
def Fea (id:Int):∀ (ns:List Nod) (i:Nat),(atN ns id i).length≤ns.length
 |[],_=>Vw _
 |n::ns,i=>by
  unfold atN
  have:=Fea id ns (i+1)
  cases n.1==id
  ·rw[cond_false,Vc];omega
  ·rw[cond_true,Vc,Vc];omega
def Uva (ns:List Nod):∀ (ids:List Int),(whr ns ids).length≤ids.length*ns.length
 |[]=>Vs _
 |id::ids=>by
  have h1:=Fea id ns 0
  have h2:=Uva ns ids
  unfold whr at h2 ⊢
  rw[Ifb,Vd,Vc,Nat.succ_mul]
  omega
def Qz {ns:List Nod} {ids:List Int} (h1:ns.length≤2000000) (h2:ids.length≤2000000):(whr ns ids).length≤4000000000000:=
 Zs (Uva ns ids) (J8b h2 h1)
def O5a (ns:List Nod) (id:Int) (ids:List Int):whr ns (id::ids)=atN ns id 0++whr ns ids:=Ifb
def C6b (ns:List Nod) (a b:List Int):whr ns (a++b)=whr ns a++whr ns b:=List.flatMap_append
def Cba (w:Wld) (id:Int) (a b c:List Int) (m i0:Int) (out:List Int) (h1:w.2.2.1.length≤2000000) (ho:out.length≤4000000000000):
  Tot (λ k=>E5 k out id a m i0 w.2.2.1 (w.2.2.1.length:Int) 0 w) (λ r=>r=(out++atN w.2.2.1 id 0,a,m,i0,w)):=by
 have m1:=Fea id w.2.2.1 0
 refine Grb (L:=λ k i (s:List Int)=>E5 k s id a m i0 w.2.2.1 (w.2.2.1.length:Int) i w) (Q:=λ r=>r=(out++atN w.2.2.1 id 0,a,m,i0,w)) w.2.2.1.length (λ j s=>s++atN (w.2.2.1.drop j) id j=out++atN w.2.2.1 id 0) ?_ ?_ 0 out (Vs _) rfl
 ·intro s h
  rw[Wi]at h
  simp (disch:=omega) only [E5,dF]
  refine Gib ?_
  rw[← h]
  show _=(s++[],a,m,i0,w)
  rw[Wp]
 ·intro j s hj h next
  have g:=congrArg length h
  rw[Vd,Vd]at g
  rw[Af (d:=Bo) hj,Fda]at h
  obtain⟨x,ex⟩:∃ x:Nod,w.2.2.1.getD j Bo=x:=⟨_,rfl⟩
  rw[ex]at h
  have e0:w.2.2.1.getD j ((0:Int),(([],[]),([],[])))=x:=ex
  simp (disch:=omega) only [E5,dT,Vb,w64,e0]
  cases hx:x.1==id with
  |true=>
   rw[hx,cond_true]at h
   refine Glb rfl (Gqb (by simp only[Vc,Vh];omega) (next (s++[(j:Int)]) ?_))
   rw[← h,Vp]
   rfl
  |false=>
   rw[hx,cond_false]at h
   refine Gkb rfl (next s h)
def Bna (w:Wld) (ids:List Int) (h1:w.2.2.1.length≤2000000) (h2:ids.length≤2000000):Tot (λ k=>Fj k w ids) (λ r=>r=whr w.2.2.1 ids):=by
 have m1:=Qz h1 h2
 unfold Fj
 refine Gjb (Q:=λ r=>r=whr w.2.2.1 ids) ?_ (by rintro r rfl;exact Gib rfl)
 refine Grb (L:=λ k i (s:List Int)=>Gg k s ids (ids.length:Int) i w) (Q:=λ r=>r=whr w.2.2.1 ids) ids.length (λ j s=>s++whr w.2.2.1 (ids.drop j)=whr w.2.2.1 ids) ?_ ?_ 0 [] (Vs _) rfl
 ·intro s h
  rw[Wi]at h
  simp (disch:=omega) only [Gg,dF]
  refine Gib ?_
  rw[← h]
  exact(Wp s).symm
 ·intro j s hj h next
  have g:=congrArg length h
  rw[Vd]at g
  rw[Af (d:=0) hj,O5a]at h
  simp (disch:=omega) only [Gg,dT,Vb,w64]
  refine Gtb (Cba w (ids.getD j 0) ids [] [] (ids.length:Int) (j:Int) s h1 (by omega)) ?_
  simp (disch:=omega) only [w64]
  exact next _ (by rw[Vp];exact h)
def Ffa (w:Wld) (ids:List Int) (n:Nat) (hn:n<ids.length) (out:List Int) (h1:w.2.2.1.length≤2000000) (ho:out.length≤4000000000000):
  Tot (λ k=>Cf k ids out (n:Int) 0 w) (λ r=>r=(ids,out++atN w.2.2.1 (ids.getD n 0) 0,(n:Int),w)):=by
 have m1:=Fea (ids.getD n 0) w.2.2.1 0
 refine Grb (L:=λ k i (s:List Int)=>Cf k ids s (n:Int) i w) (Q:=λ r=>r=(ids,out++atN w.2.2.1 (ids.getD n 0) 0,(n:Int),w)) w.2.2.1.length (λ j s=>s++atN (w.2.2.1.drop j) (ids.getD n 0) j=out++atN w.2.2.1 (ids.getD n 0) 0) ?_ ?_ 0 out (Vs _) rfl
 ·intro s h
  rw[Wi]at h
  simp (disch:=omega) only [Cf,dF]
  refine Gib ?_
  rw[← h]
  show _=(ids,s++[],(n:Int),w)
  rw[Wp]
 ·intro j s hj h next
  have g:=congrArg length h
  rw[Vd,Vd]at g
  rw[Af (d:=Bo) hj,Fda]at h
  obtain⟨x,ex⟩:∃ x:Nod,w.2.2.1.getD j Bo=x:=⟨_,rfl⟩
  rw[ex]at h
  have e0:w.2.2.1.getD j ((0:Int),(([],[]),([],[])))=x:=ex
  simp (disch:=omega) only [Cf,dT,Vb,w64,e0]
  cases hx:x.1==ids.getD n 0 with
  |true=>
   rw[hx,cond_true]at h
   refine Glb rfl (Gqb (by simp only[Vc,Vh];omega) (next (s++[(j:Int)]) ?_))
   rw[← h,Vp]
   rfl
  |false=>
   rw[hx,cond_false]at h
   refine Gkb rfl (next s h)
def St (w:Wld) (ids:List Int) (h1:w.2.2.1.length≤2000000) (h2:ids.length≤2000000):Tot (λ k=>Bd k w ids) (λ r=>r=whr w.2.2.1 ids):=by
 have m1:=Qz h1 h2
 unfold Bd
 refine Gjb (Q:=λ r=>r=whr w.2.2.1 ids) ?_ (by rintro r rfl;exact Gib rfl)
 refine Grb (L:=λ k i (s:List Int)=>Du k ids s i w) (Q:=λ r=>r=whr w.2.2.1 ids) ids.length (λ j s=>s++whr w.2.2.1 (ids.drop j)=whr w.2.2.1 ids) ?_ ?_ 0 [] (Vs _) rfl
 ·intro s h
  rw[Wi]at h
  simp (disch:=omega) only [Du,dF]
  refine Gib ?_
  rw[← h]
  exact(Wp s).symm
 ·intro j s hj h next
  have g:=congrArg length h
  rw[Vd]at g
  rw[Af (d:=0) hj,O5a]at h
  simp (disch:=omega) only [Du,dT,Vb,w64]
  refine Gtb (Ffa w ids j hj s h1 (by omega)) ?_
  simp (disch:=omega) only [w64]
  exact next _ (by rw[Vp];exact h)
def L8a (id:Int):∀ (ns:List Nod) (i:Nat) (x:Int),x∈atN ns id i↔∃ j,j<ns.length∧(ns.getD j Bo).1=id∧x=((i+j:Nat):Int)
 |[],i,x=>by simp[atN]
 |n::ns,i,x=>by
  have ih:=L8a id ns (i+1) x
  have tl:(∃ j,j<(n::ns).length∧((n::ns).getD j Bo).1=id∧x=((i+j:Nat):Int))↔(n.1=id∧x=(i:Int))∨x∈atN ns id (i+1):=by
   rw[ih]
   constructor
   ·rintro⟨j,h1,h2,h3⟩
    cases j with
    |zero=>exact .inl ⟨h2,by omega⟩
    |succ j=>exact .inr ⟨j,by simpa using h1,by simpa using h2,by omega⟩
   ·rintro (⟨h1,h2⟩|⟨j,h1,h2,h3⟩)
    ·exact⟨0,by simp,h1,by omega⟩
    ·exact⟨j+1,by simpa using h1,by simpa using h2,by omega⟩
  rw[tl,Fda]
  cases hx:n.1==id with
  |true=>
   rw[cond_true,Vm,eq_of_beq hx]
   simp
  |false=>
   rw[cond_false]
   have:=beq_eq_false_iff_ne.1 hx
   simp[this]
def Fga {ns:List Nod} {ids:List Int} {x:Int}:x∈whr ns ids↔∃ j,j<ns.length∧(ns.getD j Bo).1∈ids∧x=(j:Int):=by
 unfold whr
 rw[List.mem_flatMap]
 constructor
 ·rintro⟨id,h1,h2⟩
  obtain⟨j,h3,h4,h5⟩:=(L8a _ _ _ _).1 h2
  exact⟨j,h3,h4 ▸ h1,by omega⟩
 ·rintro⟨j,h3,h4,h5⟩
  exact⟨_,h4,(L8a _ _ _ _).2 ⟨j,h3,rfl,by omega⟩⟩
def L8 (w:Wld) (x:ByteArray):List Int:=whr w.2.2.1 (Wx w.2.1 x++Ss w.2.1 w.1 x)
def Fub:ByteArray:=⟨#[108,105,115,116]⟩
def I0 (w:Wld):List Int:=whr w.2.2.1 (Wx w.2.1 Fub)
def Su {r:Rng} (hr:RBd r) (x:ByteArray):(Wx r x).length≤2000000:=by
 unfold Wx
 by_cases hm:Pxa x % r.2.length<r.2.length
 ·exact hr.2 _ (A4 (d:=[]) hm)
 ·rw[Ve,Zh (by omega)];exact Vs _
def Xf (r:Rng) (l:List Dev) (x:ByteArray):(Ss r l x).length≤l.length+l.length:=by
 unfold Ss
 rw[Vd]
 have h1:=Fba (Wx r x) (L7 (Wx r x) l) false l
 have h2:=Fba (Wx r x) (L7 (Wx r x) l) true l
 omega
def Iia (w:Wld) (x:ByteArray) (h:Jd w.2.1 w.1=true) (hn:w.2.2.1.length≤2000000) (hx:x.size≤1000000000):Tot (λ k=>Ew k w x) (λ r=>r=L8 w x):=by
 have h5:=(D5.1 h).2.1
 have p2:=(Faa h x).2.1
 have h12:=(Gy.1 (D5.1 h).1).2.2.2
 have hh:=Xf w.2.1 w.1 x
 unfold Ew L8
 rw[C6b]
 refine Gtb (Z2 _ x (N1 h) hx) ?_
 refine Gtb (St w _ hn (by omega)) ?_
 refine Gtb (Y8a _ _ x h hx) ?_
 refine Gtb (St w _ hn (by omega)) ?_
 have l1:=Qz hn (show (Wx w.2.1 x).length≤2000000 by omega)
 have l2:=Qz hn (show (Ss w.2.1 w.1 x).length≤2000000 by omega)
 exact Gqb (by omega) (Gib rfl)
def Boa (w:Wld) (hr:RBd w.2.1) (hn:w.2.2.1.length≤2000000):Tot (λ k=>Ha k w) (λ r=>r=I0 w):=by
 unfold Ha
 refine Gtb (O4a _ Fub hr (by decide)) ?_
 refine Gtb (Bna w _ hn (Su hr _)) ?_
 exact Gib rfl
def Bpa (w:Wld) (hr:RBd w.2.1) (hn:w.2.2.1.length≤2000000):Tot (λ k=>H7 k w) (λ r=>r=I0 w):=by
 unfold H7
 refine Gtb (Z2 _ Fub hr (by decide)) ?_
 refine Gtb (St w _ hn (Su hr _)) ?_
 exact Gib rfl
def quo (n:Int):Int:=n/2+1
def Fvb {n:Int} (h0:0≤n):Int.tdiv n 2=n/2:=H6b h0
def C7b {n:Int} (h0:0≤n) (h1:n≤1000000000):Ks n=some (quo n):=by
 unfold Ks quo
 rw[Fvb h0,w64 (n:=n/2) (by omega) (by omega),w64 (n:=n/2+1) (by omega) (by omega)]
def rch (l:List Int) (i:Nat):Int:=bif decide (i<l.length)&&inR (l.getD i 0) 1 3 then l.getD i 0 else 0
def Uwa (l:List Int) (i:Nat):H9 l (i:Int)=some (rch l i):=by
 unfold H9 rch
 by_cases h:i<l.length
 ·simp (disch:=omega) only [dT,Vb,Uk,Vn]
  rw[decide_eq_true h,Wc]
  cases inR (l.getD i 0) 1 3<;>rfl
 ·rw[dF (by omega),decide_eq_false h];rfl
def L9a (l:List Int) (i:Nat):C9 l (i:Int)=some (rch l i):=by
 unfold C9 rch
 by_cases h:i<l.length
 ·rw[dF (by omega)]
  simp (disch:=omega) only [dT,Vb,Oj,Vn]
  rw[decide_eq_true h,Wc]
  cases inR (l.getD i 0) 1 3<;>rfl
 ·rw[dT (by omega),decide_eq_false h];rfl

section
open Go
end

def C8b (a b:Row):Bool:=(a.1==b.1)&&((a.2.1.1==b.2.1.1)&&((a.2.1.2.1==b.2.1.2.1)&&((a.2.1.2.2==b.2.1.2.2)&&((a.2.2.1==b.2.2.1)&&(a.2.2.2==b.2.2.2)))))
def Ija {a b:Row}:C8b a b=true↔a=b:=by
 unfold C8b
 obtain⟨a0,⟨a1,a2,a3⟩,a4,a5⟩:=a
 obtain⟨b0,⟨b1,b2,b3⟩,b4,b5⟩:=b
 simp only[Y6,Va,beq_iff_eq,Vy,Jl]
 constructor
 ·rintro⟨h0,h1,h2,h3,h4,h5⟩;exact⟨h0,⟨h1,h2,h3⟩,h4,h5⟩
 ·rintro⟨h0,⟨h1,h2,h3⟩,h4,h5⟩;exact⟨h0,h1,h2,h3,h4,h5⟩
def Cca (ws:List Wri) (r:Row):Bool:=ws.any λ x=>C8b (Bca x.1 x.2.1) r

def run {α:Type} (st:α→Nat→α) (n:Nat) (a:α):α:=(List.range n).foldl st a
def Ob {α:Type} (st:α→Nat→α) (n:Nat) (a:α):run st (n+1) a=st (run st n a) n:=by
 unfold run
 rw[Jqb,Hkb]
 rfl
def Yca {α:Type} {st:α→Nat→α} {a:α} {j n:Nat} (hj:j≤n) (h:∀ i,st (run st j a) i=run st j a):run st n a=run st j a:=by
 obtain⟨m,rfl⟩:=Nat.exists_eq_add_of_le hj
 induction m with
 |zero=>rfl
 |succ m ih=>rw[← Ze,Ob,ih (by omega),h]
def Nb {α:Type} {st:α→Nat→α} (P:Nat→α→Prop) {n:Nat} {a:α} (h0:P 0 a) (hs:∀ j b,j<n→P j b→P (j+1) (st b j)):P n (run st n a):=by
 have:∀ m,m≤n→P m (run st m a):=by
  intro m
  induction m with
  |zero=>intro _;exact h0
  |succ m ih=>intro hm;rw[Ob];exact hs m _ (by omega) (ih (by omega))
 exact this n (Vw _)
def NS (ns:List Nod):Prop:=ns.length≤2000000∧∀ n∈ns,NG n
def NS.set {ns:List Nod} (h:NS ns) {i:Nat} {n:Nod} (hn:NG n):NS (ns.set i n):=⟨by rw[Vz];exact h.1,λ m hm=>by
 rcases Xs hm with hm|rfl
 ·exact h.2 m hm
 ·exact hn⟩
def NS.get {ns:List Nod} (h:NS ns) {i:Nat} (hi:i<ns.length):NG (ns.getD i Bo):=h.2 _ (A4 hi)
abbrev wN (w:Wld) (ns:List Nod):Wld:=(w.1,w.2.1,ns,w.2.2.2)
def Nr (c:Stp) (t d:Int):Stp:=bif decide (t≤c.1) then (bif Gw (c.1,c.2.1+1,d) then (c.1,c.2.1+1,d) else c) else (bif Gw (t,0,d) then (t,0,d) else c)
def Uxa {c:Stp} (hc:Gw c=true) (t d:Int):Hi c t d=some (Nr c t d):=by
 have h2:0≤c.2.1∧c.2.1≤1000000:=by
  unfold Gw at hc
  rw[Va,Va,Eb,Eb]at hc
  exact hc.2.1
 unfold Hi Nr
 rw[w64 (n:=c.2.1+1) (by omega) (by omega)]
 simp only[Rv,Vn]
 cases decide (t≤c.1) with
 |true=>cases Gw (c.1,c.2.1+1,d)<;>rfl
 |false=>cases Gw (t,0,d)<;>rfl
def Fha {c:Stp} (hc:Gw c=true) (t d:Int):Gw (Nr c t d)=true∧(Nr c t d=c∨sle c (Nr c t d)=true):=by
 unfold Nr
 by_cases h:t≤c.1
 ·rw[decide_eq_true h,cond_true]
  cases hs:Gw (c.1,c.2.1+1,d) with
  |true=>exact⟨hs,.inr (Ru.2 (.inr ⟨rfl,.inl (by show c.2.1<c.2.1+1;omega)⟩))⟩
  |false=>exact⟨hc,.inl rfl⟩
 ·rw[decide_eq_false h,cond_false]
  cases hs:Gw (t,0,d) with
  |true=>exact⟨hs,.inr (Ru.2 (.inl (by show c.1<t;omega)))⟩
  |false=>exact⟨hc,.inl rfl⟩
def wst (R:Int) (rc:List Int) (s:ByteArray) (f:Fil) (cs:List Int) (a:List Nod×Int×Int) (j:Nat):List Nod×Int×Int:=
 bif decide (a.2.1<R) then (bif rch rc j==0 then a else
  (a.1.set (cs.getD j 0).toNat (Xb (a.1.getD (cs.getD j 0).toNat Bo) s f (rch rc j != 3)).1,a.2.1+1,
   bif rch rc j==1&&((Xb (a.1.getD (cs.getD j 0).toNat Bo) s f (rch rc j != 3)).2==0||(Xb (a.1.getD (cs.getD j 0).toNat Bo) s f (rch rc j != 3)).2==1) then a.2.2+1 else a.2.2))
 else a
def wrN (w:Wld) (s:ByteArray) (f:Fil) (rc:List Int):List Nod×Int×Int:=run (wst w.2.1.1 rc s f (L8 w s)) (L8 w s).length (w.2.2.1,0,0)
def Bqa (w:Wld) (s:ByteArray) (f:Fil) (rc:List Int):Int×Wld:=
 (bif decide ((wrN w s f rc).2.2≥quo w.2.1.1) then 0 else 1,(w.1,w.2.1,(wrN w s f rc).1,w.2.2.2.1,w.2.2.2.2.1++[(s,f,decide ((wrN w s f rc).2.2≥quo w.2.1.1))],w.2.2.2.2.2))
def Tt {w:Wld} {s:ByteArray} {x:Int} (h:x∈L8 w s):0≤x∧x<(w.2.2.1.length:Int):=by
 obtain⟨j,h1,_,rfl⟩:=Fga.1 h
 omega
def Eob {R:Int} {rc:List Int} {s:ByteArray} {f:Fil} {cs:List Int} {a:List Nod×Int×Int} {j m:Nat} (hs:B1 s=true) (hf:Fk f=true) (h:NS a.1∧a.1.length=m∧(0≤a.2.1∧a.2.1≤j)∧0≤a.2.2∧a.2.2≤j) (hc:(cs.getD j 0).toNat<m):
  let b:=wst R rc s f cs a j
  NS b.1∧b.1.length=m∧(0≤b.2.1∧b.2.1≤((j+1:Nat):Int))∧0≤b.2.2∧b.2.2≤((j+1:Nat):Int):=by
 obtain⟨h1,h2,h3,h4,h5⟩:=h
 intro b
 have hb:b=wst R rc s f cs a j:=rfl
 unfold wst at hb
 cases hR:decide (a.2.1<R)
 ·rw[hR,cond_false]at hb;rw[hb];exact⟨h1,h2,⟨h3.1,by omega⟩,h4,by omega⟩
 rw[hR,cond_true]at hb
 cases hr:rch rc j==0
 case true=>rw[hr,cond_true]at hb;rw[hb];exact⟨h1,h2,⟨h3.1,by omega⟩,h4,by omega⟩
 rw[hr,cond_false]at hb
 rw[hb]
 refine⟨h1.set (Npa (h1.get (by omega)) hs hf),by rw[List.length_set];exact h2,⟨by dsimp only;omega,by dsimp only;omega⟩,?_⟩
 dsimp only
 cases rch rc j==1&&((Xb (a.1.getD (cs.getD j 0).toNat Bo) s f (rch rc j != 3)).2==0||(Xb (a.1.getD (cs.getD j 0).toNat Bo) s f (rch rc j != 3)).2==1)
 ·exact⟨h4,by rw[cond_false];omega⟩
 ·exact⟨by rw[cond_true];omega,by rw[cond_true];omega⟩
def Pya (w:Wld) (s:ByteArray) (f:Fil) (rc:List Int) (hr:Jd w.2.1 w.1=true) (hn:NS w.2.2.1) (hs:B1 s=true) (hf:Fk f=true) (hw:w.2.2.2.2.1.length≤2000000):
  Tot (λ k=>C6 k w s f rc) (λ r=>r=Bqa w s f rc):=by
 have hsz:s.size≤1000000000:=by
  have:=Eb.1 (Va _ _ ▸ hs:_∧_).2
  omega
 obtain⟨_,hR,_⟩:=D5.1 hr
 unfold C6 Bqa
 refine Gtb (Iia w s hr hn.1 hsz) ?_
 have hc:=λ x=>Tt (w:=w) (s:=s) (x:=x)
 have hcl:(L8 w s).length≤4000000000000:=by
  unfold L8
  refine Qz hn.1 ?_
  have h5:=(D5.1 hr).2.1
  have p2:=(Faa hr s).2.1
  have h12:=(Gy.1 (D5.1 hr).1).2.2.2
  have hh:=Xf w.2.1 w.1 s
  rw[Vd];omega
 have hrun:wrN w s f rc=run (wst w.2.1.1 rc s f (L8 w s)) (L8 w s).length (w.2.2.1,0,0):=rfl
 have inv:∀ n,n≤(L8 w s).length→NS (run (wst w.2.1.1 rc s f (L8 w s)) n (w.2.2.1,0,0)).1∧(run (wst w.2.1.1 rc s f (L8 w s)) n (w.2.2.1,0,0)).1.length=w.2.2.1.length∧(0≤(run (wst w.2.1.1 rc s f (L8 w s)) n (w.2.2.1,0,0)).2.1∧(run (wst w.2.1.1 rc s f (L8 w s)) n (w.2.2.1,0,0)).2.1≤n)∧0≤(run (wst w.2.1.1 rc s f (L8 w s)) n (w.2.2.1,0,0)).2.2∧(run (wst w.2.1.1 rc s f (L8 w s)) n (w.2.2.1,0,0)).2.2≤n:=by
  intro n hn'
  refine Nb (λ j (b:List Nod×Int×Int)=>NS b.1∧b.1.length=w.2.2.1.length∧(0≤b.2.1∧b.2.1≤(j:Int))∧0≤b.2.2∧b.2.2≤(j:Int)) ⟨hn,rfl,⟨Gvb _,Gvb _⟩,Gvb _,Gvb _⟩ (λ j b hj hb=>Eob hs hf hb ?_)
  have:=hc _ (A4 (d:=0) (show j<(L8 w s).length by omega))
  omega
 generalize hcs:L8 w s=cs at *
 refine Gjb (Q:=λ r=>r=(s,(wrN w s f rc).2.2,wN w (wrN w s f rc).1,f)) ?_ ?_
 ·refine Grb (L:=λ k i (a:List Nod×Int×Int)=>B7 k s rc cs a.2.1 a.2.2 i (wN w a.1) f) (Q:=λ r=>r=(s,(wrN w s f rc).2.2,wN w (wrN w s f rc).1,f)) cs.length (λ j a=>a=run (wst w.2.1.1 rc s f cs) j (w.2.2.1,0,0)) ?_ ?_ 0 (w.2.2.1,0,0) (Vs _) rfl
  ·rintro a rfl
   simp (disch:=omega) only [B7,dF]
   exact Gib (by rw[hrun])
  ·rintro j a hj rfl next
   obtain⟨i1,i2,i3,i4,i5⟩:=inv j (by omega)
   rw[Ob]at next
   have hst:=Yca (st:=wst w.2.1.1 rc s f cs) (a:=(w.2.2.1,(0:Int),(0:Int))) (j:=j) (n:=cs.length) (by omega)
   generalize run (wst w.2.1.1 rc s f cs) j (w.2.2.1,0,0)=a at *
   obtain⟨ns,o,g⟩:=a
   dsimp only at i1 i2 i3 i4 i5
   have hci:=hc _ (A4 (d:=0) hj)
   obtain⟨i,ei⟩:∃ i:Nat,cs.getD j 0=(i:Int):=⟨(cs.getD j 0).toNat,by omega⟩
   rw[ei]at hci
   unfold wst at next
   rw[ei,Vb]at next
   simp (disch:=omega) only [B7,dT,wN]
   refine Gpb (λ hR'=>?_) (λ hR'=>Gib ?_)
   ·dsimp only at next
    rw[decide_eq_true hR']at next
    simp only[L9a,Vn]
    cases h0:rch rc j==0 with
    |true=>
     rw[h0]at next
     simp (disch:=omega) only [w64]
     exact Glb rfl (next _ rfl)
    |false=>
     rw[h0]at next
     have e0:ns.getD i ((0:Int),(([],[]),([],[])))=ns.getD i Bo:=rfl
     simp (disch:=omega) only [dT,Vb,w64,ei,e0,cond_false]
     refine Gtb (I2a (ns.getD i Bo) s f (rch rc j != 3) (Sy (i1.get (by omega))) (Ja hs)) ?_
     dsimp only at next ⊢
     generalize Xb (ns.getD i Bo) s f (rch rc j != 3)=p at *
     cases h1:rch rc j==1 with
     |false=>
      rw[h1]at next
      exact Gkb rfl (next _ rfl)
     |true=>
      rw[h1]at next
      refine Glb rfl ?_
      cases h2:p.2==0
      case true=>rw[h2]at next;exact Glb rfl (next _ rfl)
      rw[h2]at next
      refine Gkb rfl ?_
      cases h3:p.2==1 with
      |true=>rw[h3]at next;exact Glb rfl (next _ rfl)
      |false=>rw[h3]at next;exact Gkb rfl (next _ rfl)
   ·rw[hrun,hst (λ i=>by unfold wst;dsimp only;rw[decide_eq_false hR'];rfl)]
 ·rintro r rfl
  obtain⟨_,_,_,h4,h5⟩:=inv cs.length (Vw _)
  dsimp only[wN]
  rw[C7b (by omega) (by omega)]
  have ec:Bs f=some f:=by
   have:=(Km.1 hf).2.1
   unfold Bs
   rw[bT (by simp only[Vh];omega),Vx]
  rw[ec]
  simp only[Vn]
  refine Gqb (by simp only[Vc,Vh];omega) ?_
  cases decide ((wrN w s f rc).2.2≥quo w.2.1.1) with
  |true=>exact Gib rfl
  |false=>exact Gib rfl
def ask (w:Wld) (s:ByteArray) (f:Fil) (t:Int) (rc:List Int):Int×Wld:=
 bif !(B1 s) then (2,w) else bif decide ((f.2.2.length:Int) > 200) then (2,w) else bif !(inR t 0 1000000000) then (2,w) else
 bif (w.2.2.2.2.1.length:Int)==200 then (3,w) else
 bif (Nr w.2.2.2.1 t 0).1==w.2.2.2.1.1&&((Nr w.2.2.2.1 t 0).2.1==w.2.2.2.1.2.1&&(Nr w.2.2.2.1 t 0).2.2==w.2.2.2.1.2.2) then (3,w) else
 Bqa (w.1,w.2.1,w.2.2.1,Nr w.2.2.2.1 t 0,w.2.2.2.2) s (Nr w.2.2.2.1 t 0,f.2) rc
def Uya (w:Wld) (s:ByteArray) (f:Fil) (t:Int) (rc:List Int) (hr:Jd w.2.1 w.1=true) (hn:NS w.2.2.1) (hst:Gw w.2.2.2.1=true) (hs:L9 s) (hd:f.2.1=true→f.2.2=[]) (hw:w.2.2.2.2.1.length≤2000000):
  Tot (λ k=>I3 k w s f t rc) (λ r=>r=ask w s f t rc):=by
 unfold I3 ask
 refine Gtb (Ph s hs) ?_
 cases hs':B1 s
 ·exact Glb rfl (Gib rfl)
 refine Gkb rfl ?_
 rw[Zf,cond_false]
 by_cases hl:(f.2.2.length:Int) > 200
 ·rw[decide_eq_true hl];exact Glb rfl (Gib rfl)
 ·rw[decide_eq_false hl,cond_false]
  refine Gkb rfl ?_
  simp only[Oj,Uxa hst,Vn]
  cases inR t 0 1000000000
  ·exact Glb rfl (Gib rfl)
  refine Gkb rfl ?_
  rw[Zf,cond_false]
  cases (w.2.2.2.2.1.length:Int)==200
  case true=>exact Glb rfl (Gib rfl)
  refine Gkb rfl ?_
  rw[cond_false]
  cases (Nr w.2.2.2.1 t 0).1==w.2.2.2.1.1&&((Nr w.2.2.2.1 t 0).2.1==w.2.2.2.1.2.1&&(Nr w.2.2.2.1 t 0).2.2==w.2.2.2.1.2.2)
  case true=>exact Glb rfl (Gib rfl)
  refine Gkb rfl (Gtb (Pya (w.1,w.2.1,w.2.2.1,Nr w.2.2.2.1 t 0,w.2.2.2.2) s (Nr w.2.2.2.1 t 0,f.2) rc hr hn hs' (Km.2 ⟨(Fha hst t 0).1,by show f.2.2.length≤200;omega,hd⟩) hw) ?_)
  exact Gib rfl
def pst (src:Int) (s:ByteArray) (f:Fil) (rc ps:List Int) (a:List Nod×Bool×Bool) (j:Nat):List Nod×Bool×Bool:=
 bif ps.getD j 0==src then (a.1,true,a.2.2) else bif rch rc j != 1 then (a.1,a.2.1,false) else
  (a.1.set (ps.getD j 0).toNat ((a.1.getD (ps.getD j 0).toNat Bo).1,(keep (a.1.getD (ps.getD j 0).toNat Bo).2.1 s f true).1,(a.1.getD (ps.getD j 0).toNat Bo).2.2),a.2.1,
   bif (keep (a.1.getD (ps.getD j 0).toNat Bo).2.1 s f true).2 != 0&&(keep (a.1.getD (ps.getD j 0).toNat Bo).2.1 s f true).2 != 1 then false else a.2.2)
def Oq (w:Wld) (s:ByteArray):List Int:=whr w.2.2.1 (Wx w.2.1 s)
def puN (w:Wld) (i:Nat) (s:ByteArray) (rc:List Int):List Nod×Bool×Bool:=run (pst (i:Int) s (lkD (w.2.2.1.getD i Bo).2.1 s).1 rc (Oq w s)) (Oq w s).length (w.2.2.1,false,true)
def G9b (n:Nod) (s:ByteArray):Nod:=(n.1,(syD (rmD n.2.1 s).1 s).1,n.2.2)
def Xq (w:Wld) (i:Nat) (s:ByteArray) (rc:List Int):Bool×Wld:=bif (lkD (w.2.2.1.getD i Bo).2.1 s).2 != 0 then (false,w) else
 (true,wN w (bif (puN w i s rc).2.2&&!(puN w i s rc).2.1 then (puN w i s rc).1.set i (G9b ((puN w i s rc).1.getD i Bo) s) else (puN w i s rc).1))
def Zwa {n:Nod} (hn:NG n) {s:ByteArray} (hs:B1 s=true):NG (G9b n s):=F9a hn (Bub (Tta hn.g) hs)
def Laa {n:Nod} (hn:NG n) {s:ByteArray} {f:Fil} {sure:Bool}:NG (n.1,(keep n.2.1 s f sure).1,n.2.2):=F9a hn (Zma hn.g)
def Uza {src:Int} {s:ByteArray} {f:Fil} {rc ps:List Int} {a:List Nod×Bool×Bool} {j m:Nat} (h:NS a.1∧a.1.length=m) (hc:(ps.getD j 0).toNat<m):NS (pst src s f rc ps a j).1∧(pst src s f rc ps a j).1.length=m:=by
 unfold pst
 cases ps.getD j 0==src
 case true=>exact h
 cases rch rc j != 1 with
 |true=>exact h
 |false=>exact⟨h.1.set (Laa (h.1.get (by have:=h.2;omega))),by rw[cond_false,cond_false,Vz];exact h.2⟩
def Sw {w:Wld} {s:ByteArray} {x:Int} (h:x∈Oq w s):0≤x∧x<(w.2.2.1.length:Int):=by
 obtain⟨j,h1,_,rfl⟩:=Fga.1 h
 omega
def Ika {w:Wld} {s:ByteArray} (hr:Jd w.2.1 w.1=true) (hn:w.2.2.1.length≤2000000):(Oq w s).length≤4000000000000:=Qz hn (Su (N1 hr) s)
def Zxa {w:Wld} {i:Nat} {s:ByteArray} {rc:List Int} (hn:NS w.2.2.1):NS (puN w i s rc).1∧(puN w i s rc).1.length=w.2.2.1.length:=
 Nb (λ _ (b:List Nod×Bool×Bool)=>NS b.1∧b.1.length=w.2.2.1.length) ⟨hn,rfl⟩ (λ j b hj hb=>Uza hb (by have:=Sw (A4 (d:=0) hj);omega))
def Yda (w:Wld) (i:Nat) (s:ByteArray) (rc:List Int) (hr:Jd w.2.1 w.1=true) (hn:NS w.2.2.1) (hi:i<w.2.2.1.length):Tot (λ k=>Ct k w (i:Int) s rc) (λ r=>r=Xq w i s rc):=by
 have hni:=hn.get hi
 unfold Ct Xq
 have e0:w.2.2.1.getD i ((0:Int),(([],[]),([],[])))=w.2.2.1.getD i Bo:=rfl
 simp (disch:=omega) only [dT,Vb,e0]
 have hin:=(Sy hni).1
 refine Gtb (Yy hin.1.1.1.1 hin.2.1 s) ?_
 cases hl:(lkD (w.2.2.1.getD i Bo).2.1 s).2 != 0
 case true=>exact Glb rfl (Gib rfl)
 refine Gkb rfl ?_
 rw[cond_false]
 have hlk:∃ b,gt (w.2.2.1.getD i Bo).2.1.1 s=some b:=by
  rw[bne,Wj,beq_iff_eq]at hl
  obtain⟨b,hb,_⟩:=Q8.1 (show lkD (w.2.2.1.getD i Bo).2.1 s=((lkD (w.2.2.1.getD i Bo).2.1 s).1,0) from by rw[← hl])
  exact⟨b,hb⟩
 have hs:B1 s=true:=Pka hni.g.1 (by obtain⟨b,hb⟩:=hlk;rw[hb];rfl)
 have hsz:s.size≤1000000000:=by
  have:=Eb.1 (Va _ _ ▸ hs:_∧_).2
  omega
 refine Gtb (Z2 _ s (N1 hr) hsz) ?_
 refine Gtb (St w _ hn.1 (Su (N1 hr) s)) ?_
 have hpl:=Ika (s:=s) hr hn.1
 have hc:=λ x=>Sw (w:=w) (s:=s) (x:=x)
 have hrun:puN w i s rc=run (pst (i:Int) s (lkD (w.2.2.1.getD i Bo).2.1 s).1 rc (Oq w s)) (Oq w s).length (w.2.2.1,false,true):=rfl
 obtain⟨p1,p2⟩:=Zxa (w:=w) (i:=i) (s:=s) (rc:=rc) hn
 have inv:∀ n,n≤(Oq w s).length→NS (run (pst (i:Int) s (lkD (w.2.2.1.getD i Bo).2.1 s).1 rc (Oq w s)) n (w.2.2.1,false,true)).1∧(run (pst (i:Int) s (lkD (w.2.2.1.getD i Bo).2.1 s).1 rc (Oq w s)) n (w.2.2.1,false,true)).1.length=w.2.2.1.length:=λ n hn'=>
  Nb (λ _ (b:List Nod×Bool×Bool)=>NS b.1∧b.1.length=w.2.2.1.length) ⟨hn,rfl⟩ (λ j b hj hb=>Uza hb (by have:=hc _ (A4 (d:=0) (show j<(Oq w s).length by omega));omega))
 rw[show whr w.2.2.1 (Wx w.2.1 s)=Oq w s from rfl]
 generalize (lkD (w.2.2.1.getD i Bo).2.1 s).1=f at *
 generalize Oq w s=ps at *
 refine Gjb (Q:=λ r=>r=((i:Int),s,(puN w i s rc).2.1,(puN w i s rc).2.2,wN w (puN w i s rc).1)) ?_ ?_
 ·refine Grb (L:=λ k j (a:List Nod×Bool×Bool)=>Bq k (i:Int) s rc ps a.2.1 a.2.2 j (wN w a.1) f) (Q:=λ r=>r=((i:Int),s,(puN w i s rc).2.1,(puN w i s rc).2.2,wN w (puN w i s rc).1)) ps.length (λ j a=>a=run (pst (i:Int) s f rc ps) j (w.2.2.1,false,true)) ?_ ?_ 0 (w.2.2.1,false,true) (Vs _) rfl
  ·rintro a rfl
   simp (disch:=omega) only [Bq,dF]
   exact Gib (by rw[hrun])
  ·rintro j a hj rfl next
   obtain⟨i1,i2⟩:=inv j (by omega)
   rw[Ob]at next
   generalize run (pst (i:Int) s f rc ps) j (w.2.2.1,false,true)=a at *
   obtain⟨ns,o,g⟩:=a
   dsimp only at i1 i2
   have hci:=hc _ (A4 (d:=0) hj)
   obtain⟨m,em⟩:∃ m:Nat,ps.getD j 0=(m:Int):=⟨(ps.getD j 0).toNat,by omega⟩
   rw[em]at hci
   unfold pst at next
   rw[em,Vb]at next
   have e0:ns.getD m ((0:Int),(([],[]),([],[])))=ns.getD m Bo:=rfl
   simp (disch:=omega) only [Bq,dT,Vb,w64,em,wN]
   cases hz:(m:Int)==(i:Int) with
   |true=>
    rw[hz]at next
    exact Glb rfl (next _ rfl)
   |false=>
    rw[hz]at next
    refine Gkb rfl ?_
    simp only[L9a,Vn]
    cases h1:rch rc j != 1 with
    |true=>
     rw[h1]at next
     exact Glb rfl (next _ rfl)
    |false=>
     rw[h1]at next
     refine Gkb rfl ?_
     simp (disch:=omega) only [dT,Vb,e0]
     have hm:=Sy (i1.get (i:=m) (by omega))
     refine Gtb (Nla (ns.getD m Bo).2.1 s f true hm.1.1 hm.1.2.1 (Ja hs)) ?_
     dsimp only at next
     generalize keep (ns.getD m Bo).2.1 s f true=q at *
     cases h2:q.2 != 0
     ·rw[h2]at next;exact Gkb rfl (next _ rfl)
     rw[h2]at next
     refine Glb rfl ?_
     cases h3:q.2 != 1 with
     |true=>rw[h3]at next;exact Glb rfl (next _ rfl)
     |false=>rw[h3]at next;exact Gkb rfl (next _ rfl)
 ·rintro r rfl
  dsimp only[wN]
  generalize puN w i s rc=a at *
  obtain⟨ns,o,g⟩:=a
  dsimp only at p1 p2 ⊢
  cases g
  ·exact Gkb rfl (Gib rfl)
  refine Glb rfl ?_
  cases o
  case true=>exact Gkb rfl (Gib rfl)
  refine Glb rfl ?_
  have e0:ns.getD i ((0:Int),(([],[]),([],[])))=ns.getD i Bo:=rfl
  have hil:(i:Int)<(ns.length:Int):=by omega
  simp (disch:=omega) only [dT,Vb,e0]
  have hg:=(p1.get (i:=i) (by omega)).g
  refine Gtb (Tn hg.1 (Ja hs)) ?_
  refine Gtb (Uu (Tta hg).1 hs) ?_
  exact Gib rfl

def tk (n:Nod) (l:List Row):Bool×Nod:=bif decide ((Tv n.2.2.1 l).length > 60) then (false,n) else (true,(n.1,n.2.1,Tv n.2.2.1 l,n.2.2.2))
def Fwb {n:Nod} {l:List Row} (hn:NG n) (hl:Kj l=true):NG (tk n l).2:=by
 obtain⟨h1,h2,h3,h4,h5⟩:=C8.1 hn.1
 unfold tk
 by_cases h:(Tv n.2.2.1 l).length > 60
 ·rw[decide_eq_true h];exact hn
 ·rw[decide_eq_false h]
  exact⟨C8.2 ⟨h1,h2,h3,Bba h4 hl (by omega),h5⟩,hn.2⟩
def gst (src:Int) (l:List Row) (self:Bool) (rc ls:List Int) (a:List Nod×Bool) (j:Nat):List Nod×Bool:=
 bif ls.getD j 0==src&&!self then a else bif rch rc j != 1 then (a.1,false) else
  (a.1.set (ls.getD j 0).toNat (tk (a.1.getD (ls.getD j 0).toNat Bo) l).2,bif (tk (a.1.getD (ls.getD j 0).toNat Bo) l).1 then a.2 else false)
def Mo (w:Wld) (src:Int) (l:List Row) (self:Bool) (rc:List Int):List Nod×Bool:=run (gst src l self rc (I0 w)) (I0 w).length (w.2.2.1,true)
def V0a {src:Int} {l:List Row} {self:Bool} {rc ls:List Int} {a:List Nod×Bool} {j m:Nat} (hl:Kj l=true) (h:NS a.1∧a.1.length=m) (hc:(ls.getD j 0).toNat<m):NS (gst src l self rc ls a j).1∧(gst src l self rc ls a j).1.length=m:=by
 unfold gst
 cases ls.getD j 0==src&&!self
 case true=>exact h
 cases rch rc j != 1 with
 |true=>exact h
 |false=>exact⟨h.1.set (Fwb (h.1.get (by have:=h.2;omega)) hl),by rw[cond_false,cond_false,Vz];exact h.2⟩
def Ov {w:Wld} {x:Int} (h:x∈I0 w):0≤x∧x<(w.2.2.1.length:Int):=by
 obtain⟨j,h1,_,rfl⟩:=Fga.1 h
 omega
def R3 {w:Wld} (hr:RBd w.2.1) (hn:w.2.2.1.length≤2000000):(I0 w).length≤4000000000000:=Qz hn (Su hr _)
def Z3 {w:Wld} {src:Int} {l:List Row} {self:Bool} {rc:List Int} (hl:Kj l=true) (hn:NS w.2.2.1):NS (Mo w src l self rc).1∧(Mo w src l self rc).1.length=w.2.2.1.length:=
 Nb (λ _ (b:List Nod×Bool)=>NS b.1∧b.1.length=w.2.2.1.length) ⟨hn,rfl⟩ (λ j b hj hb=>V0a hl hb (by have:=Ov (A4 (d:=0) hj);omega))
def O6a (w:Wld) (src:Int) (l:List Row) (self:Bool) (rc:List Int) (hr:RBd w.2.1) (hn:NS w.2.2.1) (hl:Kj l=true):
  Tot (λ k=>Bu k w src l self rc) (λ r=>r=((Mo w src l self rc).2,wN w (Mo w src l self rc).1)):=by
 have hll:=(Baa hl).1
 unfold Bu
 refine Gtb (Bpa w hr hn.1) ?_
 have hpl:=R3 hr hn.1
 have hc:=λ x=>Ov (w:=w) (x:=x)
 have hrun:Mo w src l self rc=run (gst src l self rc (I0 w)) (I0 w).length (w.2.2.1,true):=rfl
 have inv:∀ n,n≤(I0 w).length→NS (run (gst src l self rc (I0 w)) n (w.2.2.1,true)).1∧(run (gst src l self rc (I0 w)) n (w.2.2.1,true)).1.length=w.2.2.1.length:=λ n hn'=>
  Nb (λ _ (b:List Nod×Bool)=>NS b.1∧b.1.length=w.2.2.1.length) ⟨hn,rfl⟩ (λ j b hj hb=>V0a hl hb (by have:=hc _ (A4 (d:=0) (show j<(I0 w).length by omega));omega))
 generalize I0 w=ls at *
 refine Gjb (Q:=λ r=>r=((Mo w src l self rc).2,wN w (Mo w src l self rc).1)) ?_ (by rintro r rfl;exact Gib rfl)
 refine Grb (L:=λ k j (a:List Nod×Bool)=>Al k src l self rc ls a.2 j (wN w a.1)) (Q:=λ r=>r=((Mo w src l self rc).2,wN w (Mo w src l self rc).1)) ls.length (λ j a=>a=run (gst src l self rc ls) j (w.2.2.1,true)) ?_ ?_ 0 (w.2.2.1,true) (Vs _) rfl
 ·rintro a rfl
  simp (disch:=omega) only [Al,dF]
  exact Gib (by rw[hrun])
 ·rintro j a hj rfl next
  obtain⟨i1,i2⟩:=inv j (by omega)
  rw[Ob]at next
  generalize run (gst src l self rc ls) j (w.2.2.1,true)=a at *
  obtain⟨ns,g⟩:=a
  dsimp only at i1 i2
  have hci:=hc _ (A4 (d:=0) hj)
  obtain⟨m,em⟩:∃ m:Nat,ls.getD j 0=(m:Int):=⟨(ls.getD j 0).toNat,by omega⟩
  rw[em]at hci
  unfold gst at next
  rw[em,Vb]at next
  have e0:ns.getD m ((0:Int),(([],[]),([],[])))=ns.getD m Bo:=rfl
  have hm:=Sy (i1.get (i:=m) (by omega))
  have h12:=Dja (ns.getD m Bo) l hm.2.1.1 hll
  rw[show (bif decide ((Tv (ns.getD m Bo).2.2.1 l).length > 60) then (false,(ns.getD m Bo)) else (true,((ns.getD m Bo).1,(ns.getD m Bo).2.1,Tv (ns.getD m Bo).2.2.1 l,(ns.getD m Bo).2.2.2)))=tk (ns.getD m Bo) l from rfl]at h12
  have body:(bif (m:Int)==src&&!self then false else true)=true→Tot (λ k=>(C9 rc (j:Int)).bind λ r2=>cond (r2 != 1) (Al k src l self rc ls false ((j:Int)+1) (wN w ns)) (cond (decide ((0:Int)≤(m:Int))) (cond (decide ((m:Int)<(length ns:Int))) ((Ig k (ns.getD m Bo) l).bind λ r5=>cond (!r5.1) (Al k src l self rc ls false ((j:Int)+1) (wN w (ns.set m r5.2))) (Al k src l self rc ls g ((j:Int)+1) (wN w (ns.set m r5.2)))) none) none)) (λ r=>r=((Mo w src l self rc).2,wN w (Mo w src l self rc).1)):=by
   intro hb
   have hb':((m:Int)==src&&!self)=false:=by
    cases hx:((m:Int)==src&&!self) with
    |false=>rfl
    |true=>rw[hx]at hb;cases hb
   rw[hb']at next
   simp only[L9a,Vn]
   cases h1:rch rc j != 1 with
   |true=>
    rw[h1]at next
    exact Glb rfl (next _ rfl)
   |false=>
    rw[h1]at next
    refine Gkb rfl (Gmb (by omega) (Gmb (by omega) (Gjb h12 ?_)))
    rintro q rfl
    dsimp only at next
    generalize tk (ns.getD m Bo) l=q at *
    cases h2:q.1 with
    |false=>rw[h2]at next;exact Glb rfl (next _ rfl)
    |true=>rw[h2]at next;exact Gkb rfl (next _ rfl)
  simp (disch:=omega) only [Al,dT,Vb,w64,em,e0]
  cases hz:(m:Int)==src with
  |true=>
   rw[hz]at next body
   refine Glb rfl ?_
   cases self
   ·exact Glb rfl (next _ rfl)
   refine Gkb rfl ?_
   have:=body rfl
   dsimp only[wN]at this ⊢
   simp (disch:=omega) only [dT]at this
   exact this
  |false=>
   rw[hz]at next body
   refine Gkb rfl ?_
   have:=body rfl
   dsimp only[wN]at this ⊢
   simp (disch:=omega) only [dT]at this
   exact this
def Pza {r:Row} (h:No r=true):Kj [r]=true:=O3.2 ⟨Iab _ _,λ x hx=>by rw[Vu.1 hx];exact h,by simp⟩
def Wy:Kj []=true:=O3.2 ⟨List.Pairwise.nil,(λ _ hx=>nomatch hx),Vs _⟩
def V1a (n:Nod):Nod:=(n.1,n.2.1,[],n.2.2.2)
def Fxb (n:Nod) (q:List Row):Nod:=(n.1,n.2.1,n.2.2.1,q)
def O7a {n:Nod} (hn:NG n):NG (V1a n):=by
 obtain⟨h1,h2,h3,h4,h5⟩:=C8.1 hn.1
 exact⟨C8.2 ⟨h1,h2,h3,Wy,h5⟩,hn.2⟩
def Zya {n:Nod} {q:List Row} (hn:NG n) (h:∀ r∈q,No r=true) (hl:q.length≤60):NG (Fxb n q):=by
 obtain⟨h1,h2,h3,h4,h5⟩:=C8.1 hn.1
 exact⟨C8.2 ⟨h,h2,h3,h4,hl⟩,hn.2⟩
def Rb (w:Wld) (i:Nat) (rc:List Int):List Nod×Bool:=Mo w (i:Int) (w.2.2.1.getD i Bo).2.2.1 false rc
def Xr (w:Wld) (i:Nat) (rc:List Int):Bool×Wld:=bif ((w.2.2.1.getD i Bo).2.2.1.length:Int)==0 then (false,w) else
 (true,wN w (bif (Rb w i rc).2&&!(Ou (I0 (wN w (Rb w i rc).1)) (i:Int)) then (Rb w i rc).1.set i (V1a ((Rb w i rc).1.getD i Bo)) else (Rb w i rc).1))
def V2a (w:Wld) (i:Nat) (rc:List Int) (hr:RBd w.2.1) (hn:NS w.2.2.1) (hi:i<w.2.2.1.length):Tot (λ k=>Hk k w (i:Int) rc) (λ r=>r=Xr w i rc):=by
 have hni:=hn.get hi
 have e0:w.2.2.1.getD i ((0:Int),(([],[]),([],[])))=w.2.2.1.getD i Bo:=rfl
 have hl:=(C8.1 hni.1).2.2.2.1
 unfold Hk Xr
 simp (disch:=omega) only [dT,Vb,e0]
 cases hz:((w.2.2.1.getD i Bo).2.2.1.length:Int)==0
 case true=>exact Glb rfl (Gib rfl)
 refine Gkb rfl (Gtb (O6a w (i:Int) _ false rc hr hn hl) ?_)
 obtain⟨p1,p2⟩:=Z3 (w:=w) (src:=(i:Int)) (self:=false) (rc:=rc) hl hn
 rw[show Mo w (i:Int) (w.2.2.1.getD i Bo).2.2.1 false rc=Rb w i rc from rfl]at p1 p2 ⊢
 generalize Rb w i rc=a at *
 obtain⟨ns,g⟩:=a
 dsimp only at p1 p2 ⊢
 cases g
 ·exact Gkb rfl (Gib rfl)
 refine Glb rfl ?_
 refine Gjb (Q:=λ r=>r=Ou (I0 (wN w ns)) (i:Int)) ?_ ?_
 ·unfold Jm
  refine Gtb (Bpa (wN w ns) hr p1.1) ?_
  refine Gtb (Tp _ _ (by have:=R3 (w:=wN w ns) hr p1.1;omega)) ?_
  exact Gib rfl
 ·rintro b rfl
  cases Ou (I0 (wN w ns)) (i:Int)
  case true=>exact Gkb rfl (Gib rfl)
  have e1:ns.getD i ((0:Int),(([],[]),([],[])))=ns.getD i Bo:=rfl
  refine Glb rfl ?_
  simp (disch:=omega) only [dT,Vb,e1]
  exact Gib rfl
def S7 (w:Wld) (i:Nat) (rc:List Int):List Nod×Bool:=Mo w (i:Int) ((w.2.2.1.getD i Bo).2.2.2.take 1) true rc
def Xt (w:Wld) (i:Nat) (rc:List Int):Bool×Wld:=bif ((w.2.2.1.getD i Bo).2.2.2.length:Int)==0 then (false,w) else
 (true,wN w (bif (S7 w i rc).2 then (S7 w i rc).1.set i (Fxb ((S7 w i rc).1.getD i Bo) ((w.2.2.1.getD i Bo).2.2.2.drop 1)) else (S7 w i rc).1))
def R4 {q:List Row} (h:∀ r∈q,No r=true):Kj (q.take 1)=true:=by
 cases q with
 |nil=>exact Wy
 |cons r q=>exact Pza (h r Za)
def V3a (w:Wld) (i:Nat) (rc:List Int) (hr:RBd w.2.1) (hn:NS w.2.2.1) (hi:i<w.2.2.1.length):Tot (λ k=>Hl k w (i:Int) rc) (λ r=>r=Xt w i rc):=by
 have hni:=hn.get hi
 have e0:w.2.2.1.getD i ((0:Int),(([],[]),([],[])))=w.2.2.1.getD i Bo:=rfl
 obtain⟨hq,_,_,_,hq60⟩:=C8.1 hni.1
 have hl:=R4 hq
 unfold Hl Xt
 simp (disch:=omega) only [dT,Vb,e0]
 cases hz:((w.2.2.1.getD i Bo).2.2.2.length:Int)==0
 case true=>exact Glb rfl (Gib rfl)
 have h1:=beq_eq_false_iff_ne.1 hz
 refine Gkb rfl (Gmb (by omega) (Gtb (O6a w (i:Int) _ true rc hr hn hl) ?_))
 obtain⟨p1,p2⟩:=Z3 (w:=w) (src:=(i:Int)) (self:=true) (rc:=rc) hl hn
 rw[show Mo w (i:Int) ((w.2.2.1.getD i Bo).2.2.2.take (toNat 1)) true rc=S7 w i rc from rfl]
 rw[show Mo w (i:Int) ((w.2.2.1.getD i Bo).2.2.2.take 1) true rc=S7 w i rc from rfl]at p1 p2
 generalize S7 w i rc=a at *
 obtain⟨ns,g⟩:=a
 dsimp only at p1 p2 ⊢
 cases g
 ·exact Gkb rfl (Gib rfl)
 refine Glb rfl (Gmb (by omega) (Gqb (by rw[Wd,Vh];omega) ?_))
 have e1:ns.getD i ((0:Int),(([],[]),([],[])))=ns.getD i Bo:=rfl
 simp (disch:=omega) only [dT,Vb,e1,Vx]
 exact Gib rfl
def V4a:∀ (k:Nat) (l:List ByteArray) (s:ByteArray),k<l.length→∃ j,j≤k∧(J1a l k s).2=j∧(J1a l k s).1.set j s=l.take j++s::((l.take k).drop j++l.drop (k+1))∧(∀ y∈(l.take k).drop j,tlt s y=true)∧(0<j→tlt s (l.getD (j-1) Nw)=false)
 |0,l,s,hk=>by
  refine⟨0,Vw _,rfl,?_,λ y hy=>by simp at hy,λ h=>by omega⟩
  cases l with
  |nil=>simp at hk
  |cons x l=>rfl
 |k+1,l,s,hk=>by
  unfold J1a
  cases hc:tlt s (l.getD k Nw) with
  |false=>
   rw[cond_false]
   refine⟨k+1,Vw _,rfl,?_,λ y hy=>?_,λ _=>hc⟩
   ·rw[Hpb,Hmb,H1b,Vx]
    exact Hab .. |>.trans (if_pos hk)
   ·rw[Hpb,Hmb,H1b]at hy;cases hy
  |true=>
   rw[cond_true]
   obtain⟨j,h1,h2,h3,h4,h5⟩:=V4a k (l.set (k+1) (l.getD k Nw)) s (by rw[Vz];omega)
   have t1:(l.set (k+1) (l.getD k Nw)).take j=l.take j:=by rw[Ivb (by omega)]
   have t2:(l.set (k+1) (l.getD k Nw)).take k=l.take k:=by rw[Ivb (by omega)]
   have t3:(l.set (k+1) (l.getD k Nw)).drop (k+1)=l.getD k Nw::l.drop (k+2):=by
    rw[Yw (by rw[Vz];exact hk),List.getElem_set_self,List.drop_set_of_lt (by omega)]
   have t4:l.take (k+1)=l.take k++[l.getD k Nw]:=by
    rw[Wm (by omega),Ve,Vk (by omega),Yq]
   have hlk:(l.take k).length=k:=by rw[Vq];omega
   rw[t1,t2,t3]at h3
   rw[t2]at h4
   refine⟨j,by omega,h2,?_,λ y hy=>?_,λ h=>?_⟩
   ·rw[h3,t4,Iob (by omega),Vp]
    rfl
   ·rw[t4,Iob (by omega)]at hy
    rcases Vo.1 hy with hy|hy
    ·exact h4 y hy
    ·rw[Vu.1 hy];exact hc
   ·have:=h5 h
    rwa [Ve,Hub (by omega),← Ve]at this
def Dla {l:List ByteArray} {s:ByteArray}:∃ j,j≤l.length∧Zva l s=l.take j++s::l.drop j∧(∀ y∈l.drop j,tlt s y=true)∧(0<j→tlt s (l.getD (j-1) Nw)=false):=by
 obtain⟨j,h1,h2,h3,h4,h5⟩:=V4a l.length (l++[s]) s (by simp)
 have t1:(l++[s]).take l.length=l:=by rw[Ipb (Vw _),Ys]
 have t2:(l++[s]).drop (l.length+1)=[]:=Ibb (by simp)
 have t3:(l++[s]).take j=l.take j:=Ipb h1
 rw[t1]at h4
 rw[t1,t2,t3,Wp]at h3
 refine⟨j,h1,?_,h4,λ h=>?_⟩
 ·unfold Zva
  rw[h2,h3]
 ·have:=h5 h
  rwa [Ve,Yc (by omega),← Ve]at this
def spl (l:List ByteArray) (s:ByteArray):List ByteArray:=bif Fna l s then l else Zva l s
def Fia {l:List ByteArray} {s y:ByteArray}:y∈spl l s↔y=s∨y∈l:=by
 unfold spl
 cases h:Fna l s with
 |true=>
  have:=O2a.1 h
  exact⟨.inr,λ h=>h.elim (λ e=>e ▸ this) id⟩
 |false=>
  obtain⟨j,_,e,_⟩:=Dla (l:=l) (s:=s)
  rw[cond_false,e,Vo,Vm]
  conv=>rhs;rw[← Wo j l,Vo]
  constructor
  ·rintro (h|h|h)
   ·exact .inr (.inl h)
   ·exact .inl h
   ·exact .inr (.inr h)
  ·rintro (h|h|h)
   ·exact .inr (.inl h)
   ·exact .inl h
   ·exact .inr (.inr h)
def Dma {l:List ByteArray} {s:ByteArray} (h:TS l):TS (spl l s):=by
 unfold spl
 cases hh:Fna l s
 case true=>exact h
 have hn:s∉l:=λ c=>by rw[O2a.2 c]at hh;cases hh
 obtain⟨j,h1,e,h4,h5⟩:=Dla (l:=l) (s:=s)
 rw[cond_false,e]
 have hs:∀ y∈l.take j,tlt y s=true:=by
  intro y hy
  by_cases hj:0<j
  ·have hlast:l.getD (j-1) Nw∈l:=A4 (by omega)
   have hlt:tlt (l.getD (j-1) Nw) s=true:=by
    cases hc:tlt (l.getD (j-1) Nw) s with
    |true=>rfl
    |false=>exact absurd (Ara hc (h5 hj) ▸ hlast) hn
   obtain⟨i,hi,rfl⟩:=Zw.1 hy
   rw[Vq]at hi
   rw[List.getElem_take]
   by_cases hij:i=j-1
   ·subst hij
    rwa [Ve,Vk (by omega),Yq]at hlt
   ·have:=Gyb.1 h i (j-1) (by omega) (by omega) (by omega)
    rw[Ve,Vk (by omega),Yq]at hlt
    exact N6 this hlt
  ·rw[show j=0 by omega,H1b]at hy;cases hy
 have hd:TS (l.drop j):=h.sublist (List.drop_sublist _ _)
 have ht:TS (l.take j):=h.sublist (Jbb _ _)
 exact Zc.2 ⟨ht,Wk.2 ⟨h4,hd⟩,λ a ha b hb=>by
  rcases Vm.1 hb with rfl|hb
  ·exact hs a ha
  ·exact N6 (hs a ha) (h4 b hb)⟩
def V5a (l:List ByteArray) (s:ByteArray) (hl:l.length≤5000000):Tot (λ k=>Dj k l s) (λ r=>r=spl l s):=by
 unfold Dj spl
 refine Gtb (O3a l s (by omega)) ?_
 cases Fna l s
 case true=>exact Glb rfl (Gib rfl)
 have loop:∀ (k:Nat) (x:List ByteArray),k<x.length→x.length≤5000001→Tot (λ n=>F3 n s x (k:Int)) (λ r=>r=(s,(J1a x k s).1,((J1a x k s).2:Int))):=by
  intro k
  induction k with
  |zero=>
   intro x hk hx
   refine Tot.succ ?_
   simp (disch:=omega) only [F3,dF]
   exact Gib rfl
  |succ k ih=>
   intro x hk hx
   refine Tot.succ ?_
   have e1:((k+1:Nat):Int)-1=(k:Int):=by omega
   have e0:x.getD k (⟨#[]⟩:ByteArray)=x.getD k Nw:=rfl
   simp (disch:=omega) only [F3,dT,w64,e1,Vb,e0,H8a]
   unfold J1a
   refine Gob (λ h=>?_) (λ h=>?_)
   ·rw[h,cond_true]
    exact ih _ (by rw[Vz];omega) (by rw[Vz];omega)
   ·rw[h,cond_false]
    exact Gib rfl
 have n0:([]:List ByteArray).length=0:=rfl
 have n1:([s]:List ByteArray).length=1:=rfl
 have nl:(l++[s]).length=l.length+1:=by simp
 refine Gkb rfl (Gqb (by rw[n0];omega) ?_)
 simp only[Vx]
 refine Gqb (by rw[n1];omega) ?_
 rw[nl,w64 (n:=((l.length+1:Nat):Int)-1) (by omega) (by omega),show ((l.length+1:Nat):Int)-1=(l.length:Int) by omega]
 refine Gtb (loop l.length (l++[s]) (by omega) (by omega)) ?_
 obtain⟨i1,i2,_⟩:=Bka l.length (l++[s]) s
 simp (disch:=omega) only [dT,Vb]
 exact Gib rfl

abbrev Evt:=Int×Int×ByteArray×List Int×Int×List Int
def F7b (e:Evt):Prop:=L9 e.2.2.1∧e.2.2.2.1.length≤1000000000∧(-9223372036854775808≤e.2.2.2.2.1∧e.2.2.2.2.1≤9223372036854775807)∧e.2.2.2.2.2.length≤4000000000000
def Ila (l:List Int):List Bool:=l.map (· == 1)
def crN (n:Nod) (kp:List Bool):Nod:=(n.1,Tr n.2.1 kp,n.2.2)
def Epb {n:Nod} {kp:List Bool} (hn:NG n):NG (crN n kp):=F9a hn (Uja hn.g)
def C9b (w:Wld) (i:Nat) (s:ByteArray) (b:Int):Bool×Wld:=bif (L0a (w.2.2.1.getD i Bo) s b).2 then (true,(w.1,w.2.1,w.2.2.1.set i (L0a (w.2.2.1.getD i Bo) s b).1,w.2.2.2.1,w.2.2.2.2.1,spl w.2.2.2.2.2 s)) else (false,w)
def Cda (w:Wld) (e:Evt) (i:Nat):Bool×Wld:=
 bif e.1==3 then Xq w i e.2.2.1 e.2.2.2.2.2 else bif e.1==4 then Xr w i e.2.2.2.2.2 else bif e.1==5 then Xt w i e.2.2.2.2.2 else
 bif e.1==6 then (true,wN w (w.2.2.1.set i (Emb (w.2.2.1.getD i Bo)).1)) else
 bif e.1==7 then (true,wN w (w.2.2.1.set i (crN (w.2.2.1.getD i Bo) (Ila e.2.2.2.2.2)))) else C9b w i e.2.2.1 e.2.2.2.2.1
def V6a (w:Wld) (e:Evt) (i:Nat) (hei:e.2.1=(i:Int)) (he:F7b e) (hr:Jd w.2.1 w.1=true) (hn:NS w.2.2.1) (hi:i<w.2.2.1.length) (hsp:w.2.2.2.2.2.length≤2000000):
  Tot (λ k=>B2 k w e) (λ r=>r=Cda w e i):=by
 have hni:=hn.get hi
 have e0:w.2.2.1.getD i ((0:Int),(([],[]),([],[])))=w.2.2.1.getD i Bo:=rfl
 obtain⟨he1,he2,he3,he4⟩:=he
 unfold B2 Cda
 cases e.1==3 with
 |true=>
  rw[hei]
  refine Glb rfl (Gtb (Yda w i _ _ hr hn hi) ?_)
  exact Gib rfl
 |false=>
  refine Gkb rfl ?_
  cases e.1==4 with
  |true=>
   rw[hei]
   refine Glb rfl (Gtb (V2a w i _ (N1 hr) hn hi) ?_)
   exact Gib rfl
  |false=>
   refine Gkb rfl ?_
   cases e.1==5 with
   |true=>
    rw[hei]
    refine Glb rfl (Gtb (V3a w i _ (N1 hr) hn hi) ?_)
    exact Gib rfl
   |false=>
    refine Gkb rfl ?_
    cases e.1==6 with
    |true=>
     refine Glb rfl ?_
     simp (disch:=omega) only [hei,dT,Vb,e0]
     refine Gtb (Uoa _ hni.g) ?_
     exact Gib rfl
    |false=>
     refine Gkb rfl ?_
     cases e.1==7 with
     |true=>
      refine Glb rfl (Gjb (Q:=λ r=>r=(Ila e.2.2.2.2.2,w,e)) ?_ ?_)
      ·refine Grb (L:=λ k j (s:List Bool)=>D8 k s j w e) (Q:=λ r=>r=(Ila e.2.2.2.2.2,w,e)) e.2.2.2.2.2.length (λ j s=>s=Ila (e.2.2.2.2.2.take j)) ?_ ?_ 0 [] (Vs _) rfl
       ·rintro s rfl
        simp (disch:=omega) only [D8,dF]
        exact Gib (by rw[Ys])
       ·rintro j s hj rfl next
        simp (disch:=omega) only [D8,dT,Vb,w64]
        have hk:(Ila (e.2.2.2.2.2.take j)).length=j:=by unfold Ila;rw[Wh,Vq];omega
        refine Gqb (by rw[hk,Ihb];omega) (next _ ?_)
        unfold Ila
        rw[Wm hj,H4b,Ve,Vk hj]
        rfl
      ·rintro r rfl
       simp (disch:=omega) only [hei,dT,Vb,e0]
       refine Gtb (Uma _ _ hni.g (by unfold Ila;rw[Wh];exact he4)) ?_
       exact Gib rfl
     |false=>
      refine Gkb rfl ?_
      simp (disch:=omega) only [hei,dT,Vb,e0]
      refine Gtb (Bda _ _ _ (Sy hni) he3.2 he3.1) ?_
      unfold C9b
      rw[cond_false,cond_false,cond_false,cond_false,cond_false]
      generalize L0a (w.2.2.1.getD i Bo) e.2.2.1 e.2.2.2.2.1=q
      cases h:q.2 with
      |true=>
       refine Glb rfl (Gtb (V5a _ _ (by omega)) ?_)
       exact Gib rfl
      |false=>exact Gkb rfl (Gib rfl)
def Ima (w:Wld) (i wt:Int):Bool×Wld:=bif !(inR i 0 ((w.1.length:Int)-1)) then (false,w) else bif !(inR wt 1 1000) then (false,w) else
 (decide ((L5a w.2.1 (wgt w.1 i.toNat wt)).2≥0),(wgt w.1 i.toNat wt,(L5a w.2.1 (wgt w.1 i.toNat wt)).1,w.2.2))
def V7a (w:Wld) (i wt:Int) (hr:Jd w.2.1 w.1=true):Tot (λ k=>Hq k w i wt) (λ r=>r=Ima w i wt):=by
 have h12:=(Gy.1 (D5.1 hr).1).2.2.2
 unfold Hq Ima
 rw[w64 (n:=(w.1.length:Int)-1) (by omega) (by omega)]
 simp only[Oj,Vn]
 cases h1:inR i 0 ((w.1.length:Int)-1)
 ·exact Glb rfl (Gib rfl)
 refine Gkb rfl ?_
 cases h2:inR wt 1 1000
 ·exact Glb rfl (Gib rfl)
 refine Gkb rfl ?_
 obtain⟨i0,i1⟩:=Eb.1 h1
 obtain⟨w0,w1⟩:=Eb.1 h2
 simp (disch:=omega) only [dT]
 refine Gtb (Uga (r:=w.2.1) (l:=wgt w.1 i.toNat wt) (F5a hr (by omega) w0 w1)) ?_
 exact Gib rfl
def Vha (r:Int×Wld):Bool×Wld:=bif r.1 != 2 then (r.1 != 3,r.2) else (false,r.2)
def doW (w:Wld) (e:Evt):Bool×Wld:=
 bif e.1==1 then Vha (ask w e.2.2.1 ((0,0,0),false,e.2.2.2.1) e.2.2.2.2.1 e.2.2.2.2.2) else
 bif e.1==2 then Vha (ask w e.2.2.1 ((0,0,0),true,[]) e.2.2.2.2.1 e.2.2.2.2.2) else
 bif e.1==3||(e.1==4||(e.1==5||(e.1==6||(e.1==7||e.1==8)))) then (bif inR e.2.1 0 ((w.2.2.1.length:Int)-1) then Cda w e e.2.1.toNat else (false,w)) else
 bif e.1==9 then Ima w e.2.1 e.2.2.2.2.1 else (false,w)
def Eqb (w:Wld) (e:Evt) (he:F7b e) (hr:Jd w.2.1 w.1=true) (hn:NS w.2.2.1) (hst:Gw w.2.2.2.1=true) (hw:w.2.2.2.2.1.length≤2000000) (hsp:w.2.2.2.2.2.length≤2000000):
  Tot (λ k=>Jb k w e) (λ r=>r=doW w e):=by
 have hnl:=hn.1
 have node:∀ {f:Nat→Option (Bool×Wld)} ,Tot (λ k=>(A9 e.2.1 0 (wrap .i64 ((length w.2.2.1:Int)-1))).bind λ r4=>cond r4 ((B2 k w e).bind λ r5=>some (r5.1,r5.2)) (some (false,w))) (λ r=>r=bif inR e.2.1 0 ((w.2.2.1.length:Int)-1) then Cda w e e.2.1.toNat else (false,w)):=by
  intro f
  rw[w64 (n:=(w.2.2.1.length:Int)-1) (by omega) (by omega)]
  simp only[Oj,Vn]
  cases h1:inR e.2.1 0 ((w.2.2.1.length:Int)-1)
  ·exact Gkb rfl (Gib rfl)
  obtain⟨i0,i1⟩:=Eb.1 h1
  refine Glb rfl (Gtb (V6a w e e.2.1.toNat (by omega) he hr hn (by omega) hsp) ?_)
  exact Gib rfl
 have answer:∀ (q:Int×Wld),Tot (λ _=>cond (q.1 != 2) (some (q.1 != 3,q.2)) (some (false,q.2))) (λ r=>r=Vha q):=by
  intro q
  unfold Vha
  cases q.1 != 2<;>exact Gib rfl
 unfold Jb doW
 cases e.1==1 with
 |true=>
  refine Glb rfl (Gqb (by have:=he.2.1;rw[Vh];omega) (Gtb (Uya w e.2.2.1 ((0,0,0),false,e.2.2.2.1) e.2.2.2.2.1 e.2.2.2.2.2 hr hn hst he.1 (λ h=>by cases h) hw) ?_))
  exact answer _
 |false=>
  refine Gkb rfl ?_
  cases e.1==2 with
  |true=>
   refine Glb rfl (Gtb (Uya w e.2.2.1 ((0,0,0),true,[]) e.2.2.2.2.1 e.2.2.2.2.2 hr hn hst he.1 (λ _=>rfl) hw) ?_)
   exact answer _
  |false=>
   refine Gkb rfl ?_
   cases e.1==3
   case true=>exact Glb rfl (node (f:=λ _=>none))
   refine Gkb rfl ?_
   cases e.1==4
   case true=>exact Glb rfl (node (f:=λ _=>none))
   refine Gkb rfl ?_
   cases e.1==5
   case true=>exact Glb rfl (node (f:=λ _=>none))
   refine Gkb rfl ?_
   cases e.1==6
   case true=>exact Glb rfl (node (f:=λ _=>none))
   refine Gkb rfl ?_
   cases e.1==7
   case true=>exact Glb rfl (node (f:=λ _=>none))
   refine Gkb rfl ?_
   cases e.1==8
   case true=>exact Glb rfl (node (f:=λ _=>none))
   refine Gkb rfl ?_
   cases e.1==9 with
   |true=>
    refine Glb rfl (Gtb (V7a w _ _ hr) ?_)
    exact Gib rfl
   |false=>exact Gkb rfl (Gib rfl)

end Go.Proofs.YtmhhjceoinoekaaGreat.Vf
