import Derived.Test.YtiiekghlhfbmmaaGreatMan
set_option linter.all false
namespace Go.Proofs.YtiiekghlhfbmmaaGreat.Vf
open Go
open List (length getD)
open Int (toNat)
open Go.IntKind (wrap)
open BitVec (ofInt)
def Zy:=@List.mem_range
def Iwb:=@Bool.or_false
def Khb:=@List.pairwise_singleton
def Ksb:=@List.length_filter_le
def Kvb:=@List.drop_append_of_le_length
def Kwb:=@List.take_append_of_le_length
def L7b:=@List.any_append
def Lzb:=@List.any_nil

def Qy (l:List Nmd) (ns:List ByteArray):List ByteArray:=l.foldl (λ ns x=>wt ns x.1) ns
def nms (d:Dsk):List ByteArray:=Qy (d.1++d.2) []
def pk1:Option Nmd→List Nmd
 |some x=>[x]
 |none=>[]
def D2b (o:Option Nmd):(pk1 o).length≤1:=by cases o<;>simp[pk1]
def Tp (kp:List Bool) (a b:List Nmd):List ByteArray→Nat→List Nmd
 |[],_=>[]
 |s::ns,i=>pk1 (pk (bif kp.getD i false then a else b) s)++Tp kp a b ns (i+1)
def D3b (kp:List Bool) (a b:List Nmd) (i:Nat):Tp kp a b [] i=[]:=rfl
def Ypa (kp:List Bool) (a b:List Nmd) (s:ByteArray) (ns:List ByteArray) (i:Nat):Tp kp a b (s::ns) i=pk1 (pk (bif kp.getD i false then a else b) s)++Tp kp a b ns (i+1):=rfl
def Tl (d:Dsk) (kp:List Bool):Dsk:=bif decide ((Tp kp d.1 d.2 (nms d) 0).length > 60) then d else (Tp kp d.1 d.2 (nms d) 0,Tp kp d.1 d.2 (nms d) 0)
def F7a:∀ (l:List Nmd) (ns:List ByteArray),TS ns→TS (Qy l ns)
 |[],_,h=>h
 |_::l,_,h=>F7a l _ (Rp h)
def Iha:∀ (l:List Nmd) (ns:List ByteArray) (t:ByteArray),t∈Qy l ns↔(∃ x∈l,x.1=t)∨t∈ns
 |[],ns,t=>by simp[Qy]
 |x::l,ns,t=>by
  show t∈Qy l (wt ns x.1)↔_
  rw[Iha l,Hta]
  simp only[Vl,exists_eq_or_imp]
  constructor
  ·rintro (h|rfl|h)
   ·exact .inl (.inr h)
   ·exact .inl (.inl rfl)
   ·exact .inr h
  ·rintro ((h|h)|h)
   ·exact .inr (.inl h.symm)
   ·exact .inl h
   ·exact .inr (.inr h)
def Ur:∀ (l:List Nmd) (ns:List ByteArray),(Qy l ns).length≤ns.length+l.length
 |[],_=>by simp[Qy]
 |x::l,ns=>by
  have h1:=Ur l (wt ns x.1)
  have h2:=Tya (l:=ns) (s:=x.1)
  show (Qy l (wt ns x.1)).length≤_
  rw[Vc]
  omega
def Aob (d:Dsk):TS (nms d):=F7a _ _ List.Pairwise.nil
def D4b {d:Dsk} {t:ByteArray}:t∈nms d↔(gt d.1 t).isSome=true∨(gt d.2 t).isSome=true:=by
 have h:∀ l:List Nmd,(gt l t).isSome=true↔∃ x∈l,x.1=t:=λ l=>by
  cases hg:gt l t with
  |none=>
   constructor
   ·intro h;cases h
   ·rintro⟨x,hx,e⟩;exact absurd e (Nr.1 hg x hx)
  |some b=>simp only[Option.isSome_some,true_iff];exact⟨_,Ob hg,rfl⟩
 unfold nms
 rw[Iha,h,h]
 simp only[Vo,Zt,or_false]
 constructor
 ·rintro⟨x,h1|h1,h2⟩
  ·exact .inl ⟨x,h1,h2⟩
  ·exact .inr ⟨x,h1,h2⟩
 ·rintro (⟨x,h1,h2⟩|⟨x,h1,h2⟩)
  ·exact⟨x,.inl h1,h2⟩
  ·exact⟨x,.inr h1,h2⟩
def D5b (l:List Nmd) (s:ByteArray):pk l s=(gt l s).map λ b=>(s,b):=by
 unfold pk gt
 cases h:fnd l s with
 |none=>rfl
 |some i=>rw[Kbb,← (Oa h).2]
def Wx (kp:List Bool) (a b:List Nmd):∀ (ns:List ByteArray) (i:Nat),((Tp kp a b ns i).map Prod.fst).Sublist ns
 |[],_=>List.Sublist.slnil
 |s::ns,i=>by
  unfold Tp
  rw[D5b]
  cases gt (bif kp.getD i false then a else b) s with
  |none=>exact(Wx kp a b ns (i+1)).cons s
  |some c=>exact(Wx kp a b ns (i+1)).cons_cons s
def D6b (kp:List Bool) (a b:List Nmd) (ns:List ByteArray) (i:Nat):(Tp kp a b ns i).length≤ns.length:=by
 have:=(Wx kp a b ns i).length_le
 rwa [Wc]at this
def Q5a {kp:List Bool} {a b:List Nmd} {ns:List ByteArray} {i:Nat} (h:TS ns):D5 (Tp kp a b ns i):=by
 have:=Kqb (Wx kp a b ns i) h
 rwa [Zh]at this
def Upa {kp:List Bool} {a b:List Nmd}:∀ {ns:List ByteArray} {i:Nat} {x:Nmd},x∈Tp kp a b ns i→gt a x.1=some x.2∨gt b x.1=some x.2
 |[],_,_,h=>by cases h
 |s::ns,i,x,h=>by
  unfold Tp at h
  rw[D5b]at h
  rcases Vo.1 h with h|h
  ·cases hg:gt (bif kp.getD i false then a else b) s with
   |none=>rw[hg]at h;cases h
   |some c=>
    rw[hg]at h
    rw[Vt.1 h]
    cases hk:kp.getD i false with
    |true=>rw[hk]at hg;exact .inl hg
    |false=>rw[hk]at hg;exact .inr hg
  ·exact Upa h
def Apb {kp:List Bool} {a b:List Nmd} {t:ByteArray}:∀ {ns:List ByteArray} {i:Nat},TS ns→t∈ns→∃ j,i≤j∧gt (Tp kp a b ns i) t=gt (bif kp.getD j false then a else b) t
 |[],_,_,h=>by cases h
 |s::ns,i,hs,h=>by
  obtain⟨h1,h2⟩:=Wg.1 hs
  have hn:∀ j,gt (Tp kp a b ns j) s=none:=λ j=>Nr.2 λ x hx e=>by
   have:=h1 x.1 ((Wx kp a b ns j).subset (Yu hx))
   rw[e,G8]at this
   cases this
  unfold Tp
  rw[D5b]
  rcases Vl.1 h with rfl|h
  ·refine⟨i,Vv _,?_⟩
   cases hg:gt (bif kp.getD i false then a else b) t with
   |none=>exact hn _
   |some c=>
    show gt ((t,c)::Tp kp a b ns (i+1)) t=_
    rw[Kxa,if_pos rfl]
  ·obtain⟨j,hj,e⟩:=Apb (kp:=kp) (a:=a) (b:=b) (i:=i+1) h2 h
   refine⟨j,by omega,?_⟩
   rw[← e]
   have hst:s≠t:=λ e=>by
    have:=h1 t h
    rw[e,G8]at this
    cases this
   cases gt (bif kp.getD i false then a else b) s with
   |none=>rfl
   |some c=>
    show gt ((s,c)::Tp kp a b ns (i+1)) t=_
    rw[Kxa,if_neg hst]
def Uqa {d:Dsk} {kp:List Bool} (h:DG d):DG (Tl d kp):=by
 unfold Tl
 cases hc:decide ((Tp kp d.1 d.2 (nms d) 0).length > 60)
 case true=>exact h
 have hl:=of_decide_eq_false hc
 have n1:=(Aj.1 (Df.1 h.1).1).2.1
 have n2:=(Aj.1 (Df.1 h.1).2).2.1
 have q:Iz (Tp kp d.1 d.2 (nms d) 0)=true:=Aj.2 ⟨Q5a (Aob d),λ x hx=>(Upa hx).elim (λ e=>n1 _ (Ob e)) (λ e=>n2 _ (Ob e)),by omega⟩
 have b:LB (Tp kp d.1 d.2 (nms d) 0):=λ x hx=>(Upa hx).elim (λ e=>h.2.1.gt e) (λ e=>h.2.2.gt e)
 exact⟨Df.2 ⟨q,q⟩,b,b⟩
def Ura {d:Dsk} {kp:List Bool} (t:ByteArray):Tl d kp=d∨((Tl d kp).2=(Tl d kp).1∧(gt (Tl d kp).1 t=gt d.1 t∨gt (Tl d kp).1 t=gt d.2 t)):=by
 unfold Tl
 cases hc:decide ((Tp kp d.1 d.2 (nms d) 0).length > 60)
 case true=>exact .inl rfl
 refine .inr ⟨rfl,?_⟩
 show gt (Tp kp d.1 d.2 (nms d) 0) t=_∨gt (Tp kp d.1 d.2 (nms d) 0) t=_
 by_cases ht:t∈nms d
 ·obtain⟨j,_,e⟩:=Apb (kp:=kp) (a:=d.1) (b:=d.2) (i:=0) (Aob d) ht
  rw[e]
  cases kp.getD j false with
  |true=>exact .inl rfl
  |false=>exact .inr rfl
 ·have h1:gt d.1 t=none:=by
   cases hg:gt d.1 t with
   |none=>rfl
   |some b=>exact absurd (D4b.2 (.inl (by rw[hg];rfl))) ht
  left
  rw[h1]
  exact Nr.2 λ x hx e=>ht (by rw[← e];exact(Wx _ _ _ _ _).subset (Yu hx))
def F8a {R:Type} {L:Nat→List Nmd→Option R} {Q:R→Prop} (c:List Nmd) (s:ByteArray) (acc:List Nmd) (hc:c.length≤5000000) (ha:acc.length≤5000000) (next:Tot (λ k=>L k (acc++pk1 (pk c s))) Q):
  Tot (λ k=>(D6 k c s).bind λ r=>cond (decide (r≥0)) (cond (decide ((0:Int)≤r)) (cond (decide (r<(length c:Int))) (cond (Nat.ble ((length acc+length [getD c (toNat r) ((⟨#[]⟩:ByteArray),[])])*40) 140737488355328) (L k (acc++[getD c (toNat r) ((⟨#[]⟩:ByteArray),[])])) none) none) none) (L k acc)) Q:=by
 refine Isb (Daa c s (by omega)) ?_
 unfold pk at next
 unfold Hja
 cases h:fnd c s with
 |none=>
  rw[h]at next
  simp only[pk1,Wq]at next
  exact Ilb (by decide) next
 |some i=>
  rw[h]at next
  have:=(Oa h).1
  simp only[Vd]
  exact Ikb (by omega) (Ikb (by omega) (Ikb (by omega) (Iob (by simp only[Vc,Vi];omega) next)))

def mk0 (s:ByteArray):Nmd:=(s,[])
def Wy {ns:List ByteArray} (h:TS ns):D5 (ns.map mk0):=by
 unfold D5
 rw[Zh]
 exact h
def Aqb {ns:List ByteArray} (h:TS ns) {t:ByteArray}:(t∈ns→gt (ns.map mk0) t=some [])∧(t∉ns→gt (ns.map mk0) t=none):=by
 refine⟨λ ht=>?_,λ ht=>Nr.2 λ x hx e=>?_⟩
 ·exact Eza (Wy h) (x:=mk0 t) (Yu ht)
 ·obtain⟨s,hs,rfl⟩:=Yw.1 hx
  exact ht (by rw[← e];exact hs)
def G5b {ns:List ByteArray} (h:TS ns) (s:ByteArray):ptl (s,[]) false (ns.map mk0)=(wt ns s).map mk0:=by
 have h1:=Wy h
 rw[Wr _ h1]
 refine Aeb (Pv (Mg h1) Xc) (Wy (Rp h)) λ t=>?_
 have e:=C6a h1 (s:=s) (t:=t) (b:=[])
 unfold wr at e
 rw[e]
 have g1:=Aqb h (t:=t)
 have g2:=Aqb (Rp (s:=s) h) (t:=t)
 by_cases hst:s=t
 ·rw[if_pos hst,g2.1 (Hta.2 (.inl hst.symm))]
 ·rw[if_neg hst]
  by_cases ht:t∈ns
  ·rw[g1.1 ht,g2.1 (Hta.2 (.inr ht))]
  ·rw[g1.2 ht,g2.2 (λ c=>(Hta.1 c).elim (λ e=>hst e.symm) ht)]
def Usa (a b:List Nmd) (ha:a.length≤2000000) (hb:b.length≤2000000):Tot (λ k=>Ck k a b) (λ r=>r=nms (a,b)):=by
 unfold Ck
 have put:∀ {ns:List ByteArray} (x:Nmd),TS ns→ns.length≤5000000→Tot (λ k=>Fb k (ns.map mk0) x.1 []) (λ r=>r=(wt ns x.1).map mk0):=λ x ht hl=>(Ewa _ x.1 [] (by rw[Wc];omega) (by simp)).mono λ r hr=>by rw[hr,G5b ht]
 refine Ihb (Q:=λ r=>r=(b,(Qy a []).map mk0)) ?_ ?_
 ·refine Ipb (L:=λ k i s=>Fk k a b s i) (Q:=λ r=>r=(b,(Qy a []).map mk0)) a.length (λ j s=>∃ ns,s=ns.map mk0∧TS ns∧Qy (a.drop j) ns=Qy a []∧ns.length≤j) ?_ ?_ 0 [] (Vs _) ⟨[],rfl,List.Pairwise.nil,rfl,Vv _⟩
  ·rintro s ⟨ns,rfl,_,h,_⟩
   rw[Wh]at h
   simp (disch:=omega) only [Fk,dF]
   exact Igb (by rw[← h];rfl)
  ·rintro j s hj ⟨ns,rfl,ht,h,hl⟩ next
   rw[Au (d:=Ed) hj]at h
   simp (disch:=omega) only [Fk,dT,Vd,w64]
   refine Isb (put (a.getD j Ed) ht (by omega)) ?_
   have:=Tya (l:=ns) (s:=(a.getD j Ed).1)
   exact next _ ⟨_,rfl,Rp ht,h,by omega⟩
 ·rintro r rfl
  have hla:(Qy a []).length≤2000000:=by have:=Ur a [];rw[Vi]at this;omega
  have e:Qy b (Qy a [])=nms (a,b):=by unfold nms Qy;rw[Job]
  refine Ihb (Q:=λ r=>r=(nms (a,b)).map mk0) ?_ ?_
  ·refine Ipb (L:=λ k i s=>Fj k b s i) (Q:=λ r=>r=(nms (a,b)).map mk0) b.length (λ j s=>∃ ns,s=ns.map mk0∧TS ns∧Qy (b.drop j) ns=nms (a,b)∧ns.length≤2000000+j) ?_ ?_ 0 _ (Vs _) ⟨_,rfl,F7a _ _ List.Pairwise.nil,e,by omega⟩
   ·rintro s ⟨ns,rfl,_,h,_⟩
    rw[Wh]at h
    simp (disch:=omega) only [Fj,dF]
    exact Igb (by rw[← h];rfl)
   ·rintro j s hj ⟨ns,rfl,ht,h,hl⟩ next
    rw[Au (d:=Ed) hj]at h
    simp (disch:=omega) only [Fj,dT,Vd,w64]
    refine Isb (put (b.getD j Ed) ht (by omega)) ?_
    have:=Tya (l:=ns) (s:=(b.getD j Ed).1)
    exact next _ ⟨_,rfl,Rp ht,h,by omega⟩
  ·rintro r rfl
   have hln:(nms (a,b)).length≤4000000:=by rw[← e];have:=Ur b (Qy a []);omega
   refine Ihb (Q:=λ r=>r=nms (a,b)) ?_ (by rintro r rfl;exact Igb rfl)
   refine Ipb (L:=λ k i s=>Ej k ((nms (a,b)).map mk0) s i) (Q:=λ r=>r=nms (a,b)) (nms (a,b)).length (λ j s=>s=(nms (a,b)).take j) ?_ ?_ 0 [] (Vs _) rfl
   ·rintro s rfl
    simp (disch:=omega) only [Ej,Wc,dF,Yi]
    exact Igb rfl
   ·rintro j s hj rfl next
    simp (disch:=omega) only [Ej,Wc,dT,Vd,w64]
    refine Iob (by simp only[Vu,Vc,Vi];omega) (next _ ?_)
    rw[Wi hj,Vb,J0b,Vk hj]
    rfl
def Uta (d:Dsk) (kp:List Bool) (hd:DG d) (hk:kp.length≤4000000000000):Tot (λ k=>Da k d kp) (λ r=>r=Tl d kp):=by
 have hin:=Nd hd.1
 have g1:=(Aj.1 (Df.1 hd.1).1).2.2
 have g2:=(Aj.1 (Df.1 hd.1).2).2.2
 unfold Da
 refine Isb (Qk d hin.1.1 hin.1.2) ?_
 rw[hd.1]
 refine Iib rfl (Isb (Usa d.1 d.2 (by omega) (by omega)) ?_)
 have hn:(nms d).length≤120:=by
  have:=Ur (d.1++d.2) []
  rw[Vi,Ve]at this
  exact Zv this (by omega)
 refine Ihb (Q:=λ r=>r=(Tp kp d.1 d.2 (nms d) 0,d,([],[]))) ?_ ?_
 ·refine Ipb (L:=λ k i s=>Ax k kp (nms d) s i d ([],[])) (Q:=λ r=>r=(Tp kp d.1 d.2 (nms d) 0,d,([],[]))) (nms d).length (λ j s=>s++Tp kp d.1 d.2 ((nms d).drop j) j=Tp kp d.1 d.2 (nms d) 0∧s.length≤j) ?_ ?_ 0 [] (Vs _) ⟨rfl,Vv _⟩
  ·rintro s ⟨h,_⟩
   rw[Wh,D3b,Wq]at h
   simp (disch:=omega) only [Ax,dF]
   exact Igb (by rw[h])
  ·rintro j s hj ⟨h,hs⟩ next
   rw[Au (d:=Ov) hj]at h
   rw[Ypa,← Vp]at h
   simp (disch:=omega) only [Ax,dT,Vd,w64]
   have hl:=D2b (pk (bif kp.getD j false then d.1 else d.2) ((nms d).getD j Ov))
   have nx:=next (s++pk1 (pk (bif kp.getD j false then d.1 else d.2) ((nms d).getD j Ov))) ⟨h,by rw[Ve];omega⟩
   have e0:(nms d).getD j (⟨#[]⟩:ByteArray)=(nms d).getD j Ov:=rfl
   rw[e0]
   refine Inb (λ hc=>?_) (λ hc=>?_)
   ·refine Ikb (by omega) (Imb (λ hk=>?_) (λ hk=>?_))
    ·rw[hk]at nx
     exact F8a (L:=λ k acc=>Ax k kp (nms d) acc ((j:Int)+1) d ([],[])) d.1 _ s (by omega) (by omega) nx
    ·rw[hk]at nx
     exact F8a (L:=λ k acc=>Ax k kp (nms d) acc ((j:Int)+1) d ([],[])) d.2 _ s (by omega) (by omega) nx
   ·have hk:kp.getD j false=false:=by rw[Vb,Zf (by omega)];rfl
    rw[hk]at nx
    exact F8a (L:=λ k acc=>Ax k kp (nms d) acc ((j:Int)+1) d ([],[])) d.2 _ s (by omega) (by omega) nx
 ·rintro r rfl
  have hp:=D6b kp d.1 d.2 (nms d) 0
  unfold Tl
  refine Inb (λ h=>?_) (λ h=>?_)
  ·dsimp only at h
   rw[decide_eq_true (show (Tp kp d.1 d.2 (nms d) 0).length > 60 by omega)]
   refine Isb (Lx d hin.1.1) ?_
   exact Igb rfl
  ·dsimp only at h
   have hc:decide ((Tp kp d.1 d.2 (nms d) 0).length > 60)=false:=decide_eq_false (by omega)
   have hg:=Uqa (kp:=kp) hd
   unfold Tl at hg
   rw[hc]at hg ⊢
   rw[cond_false]at hg
   have hf:=(Nd hg.1).1.1.1
   refine Isb (P7 _ hf) ?_
   refine Isb (P7 _ hf) ?_
   exact Igb rfl
def clS (o:Dsk×Int) (x:Nmd):Dsk×Int:=match Mz x.2 with
 |some _=>o
 |none=>((cut o.1.1 x.1,cut o.1.2 x.1),o.2+1)
def Nk (d:Dsk):Dsk×Int:=d.1.foldl clS (d,0)
def Q6a {l:List Nmd} {s:ByteArray} (h:gt l s=none):cut l s=l:=by
 refine List.filter_eq_self.2 λ x hx=>?_
 cases ht:teq x.1 s with
 |false=>rfl
 |true=>exact absurd (Cy.1 ht) (Nr.1 h x hx)
def G6b {d:Dsk} {s:ByteArray} (h:DG d):DG (cut d.1 s,cut d.2 s):=⟨Df.2 ⟨Xb (Df.1 h.1).1,Xb (Df.1 h.1).2⟩,h.2.1.cut s,h.2.2.cut s⟩
def D7b {o:Dsk×Int} {x:Nmd} (h:DG o.1):DG (clS o x).1:=by
 unfold clS
 cases Mz x.2 with
 |some _=>exact h
 |none=>exact G6b h
def O2a:∀ (l:List Nmd) (o:Dsk×Int),DG o.1→DG (l.foldl clS o).1
 |[],_,h=>h
 |_::l,_,h=>O2a l _ (D7b h)
def Yqa {d:Dsk} (h:DG d):DG (Nk d).1:=O2a _ _ h
def F9a (l:List Nmd):List ByteArray:=(l.filter λ x=>(Mz x.2).isNone).map Prod.fst
def Tm:∀ (l:List Nmd) (o:Dsk×Int),DG o.1→((l.foldl clS o).2=o.2+((F9a l).length:Int))∧∀ t,(t∈F9a l→gt (l.foldl clS o).1.1 t=none∧gt (l.foldl clS o).1.2 t=none)∧(t∉F9a l→gt (l.foldl clS o).1.1 t=gt o.1.1 t∧gt (l.foldl clS o).1.2 t=gt o.1.2 t)
 |[],o,h=>⟨by simp[F9a],λ t=>⟨λ c=>by simp[F9a]at c,λ _=>⟨rfl,rfl⟩⟩⟩
 |x::l,o,h=>by
  obtain⟨h1,h2⟩:=Tm l (clS o x) (D7b h)
  rw[Zc]
  cases hx:Mz x.2 with
  |some f=>
   have e:F9a (x::l)=F9a l:=by unfold F9a;rw[Zza,hx];rfl
   have ec:clS o x=o:=by unfold clS;rw[hx]
   rw[e]
   rw[ec]at h1 h2 ⊢
   exact⟨h1,h2⟩
  |none=>
   have e:F9a (x::l)=x.1::F9a l:=by unfold F9a;rw[Zza,hx];rfl
   have ec:clS o x=((cut o.1.1 x.1,cut o.1.2 x.1),o.2+1):=by unfold clS;rw[hx]
   rw[e]
   rw[ec]at h1 h2 ⊢
   refine⟨by rw[h1,Vc];omega,λ t=>⟨λ ht=>?_,λ ht=>?_⟩⟩
   ·by_cases hb:t∈F9a l
    ·exact(h2 t).1 hb
    ·obtain⟨a1,a2⟩:=(h2 t).2 hb
     have:x.1=t:=by
      rcases Vl.1 ht with e|e
      ·exact e.symm
      ·exact absurd e hb
     rw[a1,a2,Sy (Kk h.1),Sy (Oq h.1),if_pos this,if_pos this]
     exact⟨rfl,rfl⟩
   ·obtain⟨a1,a2⟩:=(h2 t).2 (λ c=>ht (Vh _ c))
    have:x.1≠t:=λ e=>ht (by rw[← e];exact Yc)
    rw[a1,a2,Sy (Kk h.1),Sy (Oq h.1),if_neg this,if_neg this]
    exact⟨rfl,rfl⟩
def O3a {d:Dsk} (hd:Al d=true) {t:ByteArray}:t∈F9a d.1↔∃ b,gt d.1 t=some b∧Mz b=none:=by
 unfold F9a
 rw[Yw]
 constructor
 ·rintro⟨x,hx,rfl⟩
  obtain⟨h1,h2⟩:=Jxb.1 hx
  exact⟨x.2,Eza (Kk hd) h1,by simpa using h2⟩
 ·rintro⟨b,h1,h2⟩
  exact⟨(t,b),Jxb.2 ⟨Ob h1,by simp[h2]⟩,rfl⟩
def Uua (d:Dsk) (hd:DG d):Tot (λ k=>Ig k d) (λ r=>r=Nk d):=by
 have hin:=Nd hd.1
 have hl:=(Aj.1 (Df.1 hd.1).1).2.2
 have hnk:=(Aj.1 (Df.1 hd.1).1).2.1
 unfold Ig
 refine Isb (Lx d hin.1.1) ?_
 refine Ihb (Q:=λ r=>r=((Nk d).2,([],[]),(Nk d).1)) ?_ (by rintro r rfl;exact Igb rfl)
 refine Ipb (L:=λ k i (s:Dsk×Int)=>Hd k s.2 i d ([],[]) s.1) (Q:=λ r=>r=((Nk d).2,([],[]),(Nk d).1)) d.1.length (λ j s=>(d.1.drop j).foldl clS s=Nk d∧DG s.1∧0≤s.2∧s.2≤j) ?_ ?_ 0 (d,0) (Vs _) ⟨rfl,hd,J3b 0,by simp⟩
 ·rintro s ⟨h,_⟩
  rw[Wh]at h
  simp (disch:=omega) only [Hd,dF]
  exact Igb (by rw[← h];rfl)
 ·rintro j s hj ⟨h,hg,s0,s1⟩ next
  rw[Au (d:=Ed) hj,Zc]at h
  have hsi:=Nd hg.1
  have hx:=A4 (d:=Ed) hj
  simp (disch:=omega) only [Hd,dT,Vd,w64]
  have e0:d.1.getD j ((⟨#[]⟩:ByteArray),([]:List Int))=d.1.getD j Ed:=rfl
  rw[e0]
  refine Isb (Qk d hin.1.1 hin.1.2) ?_
  refine Ijb hd.1 (Isb (Yy hin.1.1.1 hd.2.1 _) ?_)
  have hnm:=(Ql.1 (hnk _ hx)).1
  have hcg:=D7b (x:=d.1.getD j Ed) hg
  unfold clS at h hcg
  unfold lkD
  rw[Eza (Kk hd.1) hx]
  simp only
  cases hf:Mz (d.1.getD j Ed).2 with
  |some f=>
   rw[hf]at h
   exact Iib rfl (next _ ⟨h,hg,s0,by omega⟩)
  |none=>
   rw[hf]at h hcg
   refine Ijb rfl (Isb (Qq hg.1 (Ij hnm)) ?_)
   have er:(rmD s.1 (d.1.getD j Ed).1).1=(cut s.1.1 (d.1.getD j Ed).1,s.1.2):=by
    unfold rmD
    cases hg1:gt s.1.1 (d.1.getD j Ed).1 with
    |none=>rw[Q6a hg1];rfl
    |some b=>rfl
   have hrg:=Pva (s:=(d.1.getD j Ed).1) hg
   rw[er]at hrg ⊢
   refine Isb (Rr hrg.1 hnm) ?_
   have es:(syD (cut s.1.1 (d.1.getD j Ed).1,s.1.2) (d.1.getD j Ed).1).1=(cut s.1.1 (d.1.getD j Ed).1,cut s.1.2 (d.1.getD j Ed).1):=by
    have e2:sy (cut s.1.1 (d.1.getD j Ed).1,s.1.2) (d.1.getD j Ed).1=cut s.1.2 (d.1.getD j Ed).1:=by
     unfold sy
     rw[Sy (Kk hg.1),if_pos rfl]
    unfold syD
    rw[e2,decide_eq_true (Aj.1 (Df.1 hcg.1).2).2.2]
    rfl
   rw[es]
   exact next ((cut s.1.1 (d.1.getD j Ed).1,cut s.1.2 (d.1.getD j Ed).1),s.2+1) ⟨h,hcg,by dsimp only;omega,by dsimp only;omega⟩

def D8b (d:Dsk):List ByteArray:=(d.1.filter λ x=>(Mz x.2).isSome).map Prod.fst
def hI (d:Dsk) (out:List ByteArray) (x:Nmd):List ByteArray:=bif (lkD d x.1).2==0 then wt out x.1 else out
def Faa (d:Dsk):List ByteArray:=d.1.foldl (hI d) []
def Iia {p:ByteArray→Bool}:∀ {l:List ByteArray},(∀ y∈l,p y=true)→l.takeWhile p=l
 |[],_=>rfl
 |x::l,h=>by rw[Zs,if_pos (h x Yc),Iia (λ y hy=>h y (Vh _ hy))]
def D9b {l:List ByteArray} {s:ByteArray} (h:∀ y∈l,tlt y s=true):wt l s=l++[s]:=by
 have e:tpl l s=l.length:=by
  unfold tpl
  rw[Iia h]
 unfold wt
 rw[e,if_neg (by omega),Yi,Wh,Wq]
def G7b {d:Dsk} (hs:D5 d.1) {x:Nmd} (hx:x∈d.1):((lkD d x.1).2==0)=(Mz x.2).isSome:=by
 unfold lkD
 rw[Eza hs hx]
 simp only
 cases Mz x.2<;>rfl
def Yra {d:Dsk} (hs:D5 d.1):Faa d=D8b d:=by
 have key:∀ (l:List Nmd) (out:List ByteArray),(∀ x∈l,x∈d.1)→D5 l→(∀ y∈out,∀ x∈l,tlt y x.1=true)→l.foldl (hI d) out=out++(l.filter λ x=>(Mz x.2).isSome).map Prod.fst:=by
  intro l
  induction l with
  |nil=>intro out _ _ _;simp
  |cons x l ih=>
   intro out hm hsl ho
   obtain⟨h1,h2⟩:=Wg.1 hsl
   rw[Zc,Zza]
   have hx:=G7b hs (hm x Yc)
   unfold hI
   rw[hx]
   cases hf:(Mz x.2).isSome
   ·exact ih out (λ y hy=>hm y (Vh _ hy)) h2 (λ y hy z hz=>ho y hy z (Vh _ hz))
   rw[cond_true,D9b (λ y hy=>ho y hy x Yc),if_pos rfl,Yg]
   have:=ih (out++[x.1]) (λ y hy=>hm y (Vh _ hy)) h2 (λ y hy z hz=>by
    rcases Vo.1 hy with hy|hy
    ·exact ho y hy z (Vh _ hz)
    ·rw[Vt.1 hy];exact h1 z hz)
   unfold hI at this
   rw[this,Vp]
   rfl
 unfold Faa D8b
 rw[key d.1 [] (λ _ h=>h) hs (λ y hy=>by cases hy),Vz]
def C8a (l:List ByteArray) (s:ByteArray):Bool:=l.any λ y=>teq y s
def Qr {l:List ByteArray} {s:ByteArray}:C8a l s=true↔s∈l:=by
 unfold C8a
 rw[Jeb]
 constructor
 ·rintro⟨x,hx,e⟩;rw[← Cy.1 e];exact hx
 ·intro h;exact⟨s,h,Cy.2 rfl⟩
def O4a (l:List ByteArray) (s:ByteArray) (hl:l.length≤1000000000):Tot (λ k=>Hj k l s) (λ r=>r=C8a l s):=by
 unfold Hj
 refine Ihb (Q:=λ r=>r=bif C8a l s then .inl true else .inr ()) ?_ (by rintro r rfl;cases C8a l s<;>exact Igb rfl)
 refine Ipb (L:=λ k i (_:Unit)=>Gz k l s i) (Q:=λ r=>r=bif C8a l s then .inl true else .inr ()) l.length (λ j _=>C8a (l.drop j) s=C8a l s) ?_ ?_ 0 () (Vs _) rfl
 ·intro _ h
  rw[Wh]at h
  simp (disch:=omega) only [Gz,dF,← h]
  exact Igb rfl
 ·intro j _ hj h next
  rw[Au (d:=Ov) hj]at h
  unfold C8a at h
  rw[Jsb]at h
  simp (disch:=omega) only [Gz,dT,Vd,w64]
  refine Imb (λ hc=>Igb ?_) (λ hc=>next () ?_)
  ·rw[show teq (l.getD j Ov) s=true from hc,Lvb]at h
   unfold C8a
   rw[← h]
   rfl
  ·rw[show teq (l.getD j Ov) s=false from hc,Jhb]at h
   exact h
def J2a (l:List ByteArray):Nat→ByteArray→List ByteArray×Nat
 |0,_=>(l,0)
 |k+1,s=>bif tlt s (l.getD k Ov) then J2a (l.set (k+1) (l.getD k Ov)) k s else (l,k+1)
def Arb (l:List ByteArray) (s:ByteArray):List ByteArray:=(J2a (l++[s]) l.length s).1.set (J2a (l++[s]) l.length s).2 s
def Bda:∀ (k:Nat) (l:List ByteArray) (s:ByteArray),(J2a l k s).1.length=l.length∧(J2a l k s).2≤k∧∀ y∈(J2a l k s).1,y∈l∨y=Ov
 |0,_,_=>⟨rfl,Vv _,λ _ h => .inl h⟩
 |k+1,l,s=>by
  unfold J2a
  cases tlt s (l.getD k Ov)
  ·exact⟨rfl,Vv _,λ _ h => .inl h⟩
  obtain⟨h1,h2,h3⟩:=Bda k (l.set (k+1) (l.getD k Ov)) s
  rw[cond_true]
  refine⟨by rw[h1,Vy],by omega,λ y hy=>?_⟩
  rcases h3 y hy with h|h
  ·rcases Xs h with h|h
   ·exact .inl h
   ·by_cases hk:k<l.length
    ·rw[h];exact .inl (A4 hk)
    ·rw[h,Vb,Zf (by omega)];exact .inr rfl
  ·exact .inr h
def Ysa (l:List ByteArray) (s:ByteArray):(Arb l s).length=l.length+1:=by
 unfold Arb
 rw[Vy,(Bda _ _ _).1,Ve]
 rfl
def Yta {l:List ByteArray} {s y:ByteArray} (h:y∈Arb l s):y∈l∨y=s∨y=Ov:=by
 unfold Arb at h
 rcases Xs h with h|h
 ·rcases (Bda _ _ _).2.2 y h with h|h
  ·rcases Vo.1 h with h|h
   ·exact .inl h
   ·exact .inr (.inl (Vt.1 h))
  ·exact .inr (.inr h)
 ·exact .inr (.inl h)
def hS1 (l:List Nmd) (j:Nat) (out:List ByteArray) (x:Nmd):List ByteArray:=bif (Mz x.2).isSome&&(!(C8a out x.1)&&(Hja l x.1==(j:Int))) then Arb out x.1 else out
def hS (l:List Nmd):List Nmd→Nat→List ByteArray→List ByteArray
 |[],_,out=>out
 |x::r,j,out=>hS l r (j+1) (hS1 l j out x)
def Fba (d:Dsk):List ByteArray:=hS d.1 d.1 0 []
def L6a (l:List Nmd) (j:Nat) (out:List ByteArray) (x:Nmd):(hS1 l j out x).length≤out.length+1:=by
 unfold hS1
 cases (Mz x.2).isSome&&(!(C8a out x.1)&&(Hja l x.1==(j:Int))) with
 |false=>exact J7b _
 |true=>rw[cond_true,Ysa];exact Vv _
def G8b (l:List Nmd) (hl:Oo l):∀ (r:List Nmd) (j:Nat) (out:List ByteArray),(∀ x∈r,x∈l)→(∀ y∈out,Kf y)→(hS l r j out).length≤out.length+r.length∧∀ y∈hS l r j out,Kf y
 |[],_,out,_,h=>⟨by simp[hS],h⟩
 |x::r,j,out,hm,h=>by
  have h2:=L6a l j out x
  obtain⟨a1,a2⟩:=G8b l hl r (j+1) (hS1 l j out x) (λ y hy=>hm y (Vh _ hy)) (λ y hy=>by
   unfold hS1 at hy
   cases hc:(Mz x.2).isSome&&(!(C8a out x.1)&&(Hja l x.1==(j:Int)))
   ·rw[hc]at hy;exact h y hy
   rw[hc]at hy
   rcases Yta hy with hy|rfl|rfl
   ·exact h y hy
   ·exact hl x (hm x Yc)
   ·unfold Kf;decide)
  refine⟨?_,a2⟩
  show (hS l r (j+1) (hS1 l j out x)).length≤_
  rw[Vc]
  omega
def L7a (a b:List Nmd) (j:Nat) (hj:j<a.length) (ha:a.length≤5000000):∀ (k:Nat) (x:List ByteArray),k<x.length→x.length≤5000000→
  Tot (λ n=>J9 n x (j:Int) (k:Int) (a,b)) (λ r=>r=((J2a x k (a.getD j Ed).1).1,(j:Int),((J2a x k (a.getD j Ed).1).2:Int),(a,b))):=by
 intro k
 induction k with
 |zero=>
  intro x hk hx
  refine Tot.succ ?_
  simp (disch:=omega) only [J9,dF]
  exact Igb rfl
 |succ k ih=>
  intro x hk hx
  refine Tot.succ ?_
  have e1:((k+1:Nat):Int)-1=(k:Int):=by omega
  simp (disch:=omega) only [J9,dT,w64,e1,Vd]
  have e0:a.getD j ((⟨#[]⟩:ByteArray),([]:List Int))=a.getD j Ed:=rfl
  rw[e0]
  unfold J2a
  refine Imb (λ h=>?_) (λ h=>?_)
  ·rw[Mya]at h
   rw[show tlt (a.getD j Ed).1 (x.getD k Ov)=true from h,cond_true]
   exact ih _ (by rw[Vy];omega) (by rw[Vy];omega)
  ·rw[Mya]at h
   rw[show tlt (a.getD j Ed).1 (x.getD k Ov)=false from h,cond_false]
   exact Igb rfl
def O5a (d:Dsk) (hd:DIn d) (hb:DB d):Tot (λ k=>El k d) (λ r=>r=Fba d):=by
 have hl:=hd.2.1
 unfold El
 refine Ihb (Q:=λ r=>r=Fba d) ?_ (by rintro r rfl;exact Igb rfl)
 refine Ipb (L:=λ k i s=>Gl k s i d) (Q:=λ r=>r=Fba d) d.1.length (λ j s=>hS d.1 (d.1.drop j) j s=Fba d∧s.length≤j) ?_ ?_ 0 [] (Vs _) ⟨rfl,Vv _⟩
 ·rintro s ⟨h,_⟩
  rw[Wh]at h
  simp (disch:=omega) only [Gl,dF]
  exact Igb h
 ·rintro j s hj ⟨h,hs⟩ next
  rw[Au (d:=Ed) hj]at h
  have hlen:=L6a d.1 j s (d.1.getD j Ed)
  have nx:=next _ ⟨show hS d.1 (d.1.drop (j+1)) (j+1) (hS1 d.1 j s (d.1.getD j Ed))=Fba d from h,by omega⟩
  have hx:=A4 (d:=Ed) hj
  simp (disch:=omega) only [Gl,dT,Vd,w64]
  have e0:d.1.getD j ((⟨#[]⟩:ByteArray),([]:List Int))=d.1.getD j Ed:=rfl
  rw[e0]
  unfold hS1 at nx
  refine Isb (B4a _ (hb.1 _ hx) (hd.1.1.1.2 _ hx)) ?_
  unfold Um
  cases hf:Mz (d.1.getD j Ed).2 with
  |none=>
   rw[hf]at nx
   exact Ijb rfl nx
  |some f=>
   rw[hf]at nx
   refine Iib rfl (Isb (O4a s _ (by omega)) ?_)
   cases hc:C8a s (d.1.getD j Ed).1 with
   |true=>
    rw[hc]at nx
    exact Ijb rfl nx
   |false=>
    rw[hc]at nx
    refine Iib rfl (Isb (Daa d.1 _ (by omega)) ?_)
    cases he:Hja d.1 (d.1.getD j Ed).1==(j:Int) with
    |false=>
     rw[he]at nx
     exact Ijb (by unfold bne;rw[he];rfl) nx
    |true=>
     rw[he]at nx
     refine Iib (by unfold bne;rw[he];rfl) (Iob (by simp only[Vc,Vi];omega) ?_)
     have hq:=L7a d.1 d.2 j hj (by omega) s.length (s++[(d.1.getD j Ed).1]) (by simp) (by simp only[Ve,Vc,Vi];omega)
     refine Ihb hq ?_
     rintro r rfl
     obtain⟨w1,w2,_⟩:=Bda s.length (s++[(d.1.getD j Ed).1]) (d.1.getD j Ed).1
     rw[Ve]at w1
     simp only[Vc,Vi]at w1
     simp (disch:=omega) only [dT,Vd,w64]
     exact nx

def G9b (n:Nod):Nod×Int:=((n.1,(Nk n.2.1).1,n.2.2),(Nk n.2.1).2)
def Fca {n:Nod} (hn:NG n) {d:Dsk} (hd:DG d):NG (n.1,d,n.2.2):=by
 obtain⟨h1,h2,h3,h4,h5⟩:=Bp.1 hn.1
 exact⟨Bp.2 ⟨h1,h2,hd.1,h4,h5⟩,hd.2⟩
def Uva {n:Nod} (hn:NG n):NG (G9b n).1:=Fca hn (Yqa hn.g)

def C9a (v:BitVec 32) (b:Int):BitVec 32:=(v ^^^ ofInt 32 b)*16777619#32
def Caa (x:ByteArray):Nat→BitVec 32
 |0=>2166136261#32
 |n+1=>C9a (Caa x n) (bt x (n:Int))
def Q7a (x:ByteArray):Nat:=(Caa x x.size).toNat
def Ieb (v:BitVec 32):wrap .u32 ((v.toNat:Int)*16777619)=((v*16777619#32).toNat:Int):=by
 rw[IntKind.wrap_u32,BitVec.toNat_mul]
 show (v.toNat:Int)*16777619 % 4294967296=((v.toNat*16777619 % 4294967296:Nat):Int)
 omega
def Ifb (v:BitVec 32):wrap .i64 ((ofInt (IntKind.bits .i64) ((v.toNat:Int)*16777619) &&& ofInt (IntKind.bits .i64) 4294967295).toNat)=((v*16777619#32).toNat:Int):=by
 have h:=v.isLt
 rw[K2b,show (v.toNat:Int)*16777619=((v.toNat*16777619:Nat):Int) by omega,Rn _ (by omega),show (ofInt (IntKind.bits .i64) 4294967295).toNat=2 ^ 32-1 from by decide,Krb,BitVec.toNat_mul]
 show wrap .i64 ((v.toNat*16777619 % 4294967296:Nat):Int)=((v.toNat*16777619 % 4294967296:Nat):Int)
 exact w64 (by omega) (by omega)
def Yua (x:ByteArray) (hx:x.size≤1000000000):Tot (λ k=>Ls k x) (λ r=>r=(Q7a x:Int)):=by
 unfold Ls
 refine Ihb (Q:=λ r=>r=(Q7a x:Int)) ?_ (by
  rintro r rfl
  have:=(Caa x x.size).isLt
  exact Igb (w64 (n:=(Q7a x:Int)) (by omega) (by show ((Caa x x.size).toNat:Int)≤_;omega)))
 refine Ipb (L:=λ k i (s:Int)=>Jb k x s i) (Q:=λ r=>r=(Q7a x:Int)) x.size (λ j s=>s=((Caa x j).toNat:Int)) ?_ ?_ 0 _ (Vs _) rfl
 ·rintro s rfl
  simp (disch:=omega) only [Jb,dF]
  exact Igb rfl
 ·rintro j s hj rfl next
  have hb:=Asa x (j:Int)
  have e1:wrap .u32 (bt x (j:Int))=bt x (j:Int):=Lmb _ ⟨by omega,by omega⟩
  simp (disch:=omega) only [Jb,dT,w64,e1,Hmb (Caa x j) _ (bt x (j:Int)) rfl,Ieb]
  exact next _ rfl
def Yva (x:ByteArray) (hx:x.size≤1000000000):Tot (λ k=>Lr k x) (λ r=>r=(Q7a x:Int)):=by
 unfold Lr
 refine Ihb (Q:=λ r=>r=(Q7a x:Int)) ?_ (by rintro r rfl;exact Igb rfl)
 refine Ipb (L:=λ k i (s:Int)=>J2 k x s i) (Q:=λ r=>r=(Q7a x:Int)) x.size (λ j s=>s=((Caa x j).toNat:Int)) ?_ ?_ 0 _ (Vs _) rfl
 ·rintro s rfl
  simp (disch:=omega) only [J2,dF]
  exact Igb rfl
 ·rintro j s hj rfl next
  have hb:=Asa x (j:Int)
  have hx:wrap .i64 ((ofInt (IntKind.bits .i64) ((Caa x j).toNat:Int) ^^^ ofInt (IntKind.bits .i64) (bt x (j:Int))).toNat)=((Caa x j ^^^ ofInt 32 (bt x (j:Int))).toNat:Int):=by
   have:=H5b (Caa x j) (ofInt 32 (bt x (j:Int)))
   rwa [← Nka hb]at this
  simp (disch:=omega) only [J2,dT,w64,hx,Ifb]
  exact next _ rfl
def Sp (r:Rng) (x:ByteArray):List Int:=r.2.getD (Q7a x % r.2.length) []
def Gab (a b:Nat):Int.tmod (a:Int) (b:Int)=((a % b:Nat):Int):=by
 rw[Iyb (by omega)]
 exact(Int.natCast_emod _ _).symm
def O6a (r:Rng) (x:ByteArray) (hr:RBd r) (hx:x.size≤1000000000):Tot (λ k=>Dy k r x) (λ y=>y=Sp r x):=by
 have hrl:=hr.1
 unfold Dy
 by_cases h0:r.2.length=0
 ·refine Ijb (by rw[h0];rfl) (Igb ?_)
  unfold Sp
  rw[Wn h0]
  rfl
 ·have hm:=M0b (Q7a x) (show 0<r.2.length by omega)
  refine Iib (by rw[beq_eq_false_iff_ne];omega) (Ihb (Q:=λ y=>y=((Q7a x % r.2.length:Nat):Int)) ?_ ?_)
  ·unfold Kx
   refine Ilb (by omega) (Isb (Yua x hx) ?_)
   exact Ilb (by omega) (Igb (Gab _ _))
  ·rintro y rfl
   simp (disch:=omega) only [dT,Vd]
   have hp:=hr.2 _ (A4 (d:=[]) hm)
   rw[Xd _ (by omega)]
   exact Igb rfl
def Z2 (r:Rng) (x:ByteArray) (hr:RBd r) (hx:x.size≤1000000000):Tot (λ k=>Be k r x) (λ y=>y=Sp r x):=by
 have hrl:=hr.1
 unfold Be
 by_cases h0:r.2.length=0
 ·refine Ijb (by rw[h0];rfl) (Igb ?_)
  unfold Sp
  rw[Wn h0]
  rfl
 ·have hm:=M0b (Q7a x) (show 0<r.2.length by omega)
  refine Iib (by rw[beq_eq_false_iff_ne];omega) (Ihb (Q:=λ y=>y=((Q7a x % r.2.length:Nat):Int)) ?_ ?_)
  ·unfold Ku
   refine Ilb (by omega) (Isb (Yva x hx) ?_)
   exact Ilb (by omega) (Igb (Gab _ _))
  ·rintro y rfl
   have hp:=hr.2 _ (A4 (d:=[]) hm)
   simp (disch:=omega) only [dT,Vd]
   exact Iob (by simp only[Vi];omega) (Igb rfl)
def Ywa {r:Rng} {l:List Dev} (h:Il r l=true) (x:ByteArray):Sp r x∈r.2:=by
 obtain⟨_,_,h3,_⟩:=Cb.1 h
 exact A4 (d:=[]) (M0b _ (by omega))
def Bea {r:Rng} {l:List Dev} (h:Il r l=true) (x:ByteArray):(Sp r x).Nodup∧((Sp r x).length:Int)=r.1∧∀ id∈Sp r x,∃ d,Jv l id=some d:=(Cb.1 h).2.2.2 _ (Ywa h x)
def hoA (p zs:List Int) (z:Bool) (l:List Dev):List Int:=(l.filter λ d => !(Lh p d.1)&&(Lh zs d.2.1==z)).map (·.1)
def Sj (r:Rng) (l:List Dev) (x:ByteArray):List Int:=hoA (Sp r x) (Kg (Sp r x) l) false l++hoA (Sp r x) (Kg (Sp r x) l) true l
def Fda (p zs:List Int) (z:Bool) (l:List Dev):(hoA p zs z l).length≤l.length:=by
 unfold hoA
 rw[Wc]
 exact Ksb _ _
def Yxa (p zs:List Int) (z:Bool) (d:Dev) (l:List Dev):hoA p zs z (d::l)=bif !(Lh p d.1)&&(Lh zs d.2.1==z) then d.1::hoA p zs z l else hoA p zs z l:=by
 unfold hoA
 rw[Zza]
 cases !(Lh p d.1)&&(Lh zs d.2.1==z)<;>rfl
def Bfa (p zs:List Int) (l:List Dev) (hp:p.length≤2000000) (hz:zs.length≤2000000) (hl:l.length≤2000000) (out:List Int) (ho:out.length≤5000000) (t:Int):Tot (λ k=>Cc k l p zs out t 0) (λ y=>y=(l,p,zs,out++hoA p zs (t==1) l,t)):=by
 have m1:=Fda p zs (t==1) l
 refine Ipb (L:=λ k i (s:List Int)=>Cc k l p zs s t i) (Q:=λ y=>y=(l,p,zs,out++hoA p zs (t==1) l,t)) l.length (λ j s=>s++hoA p zs (t==1) (l.drop j)=out++hoA p zs (t==1) l) ?_ ?_ 0 out (Vs _) rfl
 ·rintro s e1
  rw[Wh]at e1
  simp (disch:=omega) only [Cc,dF]
  refine Igb ?_
  rw[← e1]
  show _=(l,p,zs,s++[],t)
  rw[Wq]
 ·rintro j s hj e1 next
  have g1:=congrArg length e1
  rw[Ve,Ve]at g1
  rw[Au (d:=Nh) hj,Yxa]at e1
  obtain⟨d,ed⟩:∃ d:Dev,l.getD j Nh=d:=⟨_,rfl⟩
  rw[ed]at e1
  have e0:l.getD j ((0:Int),((0:Int),(0:Int)))=d:=ed
  simp (disch:=omega) only [Cc,dT,Vd,w64,e0]
  refine Isb (Tj p d.1 (by omega)) ?_
  cases hp':Lh p d.1 with
  |true=>
   rw[hp']at e1
   exact Iib rfl (next s e1)
  |false=>
   rw[hp']at e1
   refine Ijb rfl (Isb (Tj zs d.2.1 (by omega)) ?_)
   cases hz':Lh zs d.2.1==(t==1) with
   |true=>
    rw[hz']at e1
    exact Ijb rfl (Iob (by simp only[Vc,Vi];omega) (next (s++[d.1]) (by rw[← e1];simp)))
   |false=>
    rw[hz']at e1
    exact Iib rfl (next s e1)
def Yya (r:Rng) (l:List Dev) (x:ByteArray) (h:Il r l=true) (hx:x.size≤1000000000):Tot (λ k=>Ch k r l x) (λ y=>y=Sj r l x):=by
 obtain⟨h1,h2,_,_⟩:=Cb.1 h
 obtain⟨_,p2,_⟩:=Bea h x
 obtain⟨_,_,_,h12⟩:=Fc.1 h1
 have hz:=Bba (Sp r x) l
 unfold Ch Sj
 refine Isb (Z2 r x (Mn h) hx) ?_
 generalize Sp r x=p at *
 refine Isb (Iaa p l (by omega) (by omega)) ?_
 generalize Kg p l=zs at *
 have m1:=Fda p zs false l
 refine Ihb (Q:=λ y=>y=hoA p zs false l++hoA p zs true l) ?_ (by rintro y rfl;exact Igb rfl)
 refine Tot.succ ?_
 simp (disch:=omega) only [Eg,dT]
 refine Isb (Bfa p zs l (by omega) (by omega) (by omega) [] (by simp) 0) ?_
 refine Tot.succ ?_
 simp (disch:=omega) only [Eg,dT,w64,Vz]
 refine Isb (Bfa p zs l (by omega) (by omega) (by omega) (hoA p zs false l) (by omega) 1) ?_
 refine Tot.succ ?_
 simp (disch:=omega) only [Eg,dF,w64]
 exact Igb rfl

section
variable {R:Type} {L:Nat→Int→Option (Sum Bool R)}
def Sz (p:Nat→Bool) (n:Nat):(List.range (n+1)).all p=((List.range n).all p&&p n):=by
 rw[L6b,List.all_append,J1b,List.all_nil,Zz]
def Cba (p:Nat→Bool) (n:Nat):(List.range (n+1)).any p=((List.range n).any p||p n):=by
 rw[L6b,L7b,Jsb,Lzb,Iwb]
def Cca {p:Nat→Bool} {m n:Nat} (h:m≤n) (hn:(List.range n).all p=true):(List.range m).all p=true:=by
 rw[Yr]at hn ⊢
 exact λ x hx=>hn x (Zy.2 (by have:=Zy.1 hx;omega))
def Iqb (n:Nat) (p:Nat→Bool) (e:R) (hend:Tot (λ k=>L (k+1) (n:Int)) (λ r=>r = .inr e))
  (C9a:∀ j,j<n→∀ (Q:Sum Bool R→Prop),(p j=false→Q (.inl false))→(p j=true→Tot (λ k=>L k ((j:Int)+1)) Q)→Tot (λ k=>L (k+1) (j:Int)) Q):
  Tot (λ k=>L k 0) (λ r=>r=bif (List.range n).all p then .inr e else .inl false):=by
 refine Ipb (L:=λ k i (_:Unit)=>L k i) (Q:=λ r=>r=bif (List.range n).all p then .inr e else .inl false) n (λ j _=>(List.range j).all p=true) ?_ ?_ 0 () (Vs _) rfl
 ·intro _ h
  rw[h]
  exact hend
 ·intro j _ hj h next
  refine C9a j hj _ (λ hp=>?_) (λ hp=>next () (by rw[Sz,h,hp];rfl))
  cases hc:(List.range n).all p
  ·rfl
  have:=Cca (show j+1≤n by omega) hc
  rw[Sz,hp,Wm]at this
  cases this
def Irb (n:Nat) (p:Nat→Bool) (e:R) (hend:Tot (λ k=>L (k+1) (n:Int)) (λ r=>r = .inr e))
  (C9a:∀ j,j<n→∀ (Q:Sum Bool R→Prop),(p j=true→Q (.inl true))→(p j=false→Tot (λ k=>L k ((j:Int)+1)) Q)→Tot (λ k=>L (k+1) (j:Int)) Q):
  Tot (λ k=>L k 0) (λ r=>r=bif (List.range n).any p then .inl true else .inr e):=by
 refine Ipb (L:=λ k i (_:Unit)=>L k i) (Q:=λ r=>r=bif (List.range n).any p then .inl true else .inr e) n (λ j _=>(List.range j).any p=false) ?_ ?_ 0 () (Vs _) rfl
 ·intro _ h
  rw[h]
  exact hend
 ·intro j _ hj h next
  refine C9a j hj _ (λ hp=>?_) (λ hp=>next () (by rw[Cba,h,hp];rfl))
  rw[Jeb.2 ⟨j,Zy.2 hj,hp⟩]
  rfl
end
def Bga {α:Type} (l:List α) (d:α) (p:α→Bool):l.all p=(List.range l.length).all λ j=>p (l.getD j d):=by
 rw[Jyb,Yr,Yr]
 constructor
 ·intro h j hj
  exact h _ (A4 (Zy.1 hj))
 ·intro h x hx
  obtain⟨j,hj,rfl⟩:=Zd.1 hx
  have:=h j (Zy.2 hj)
  rwa [Vb,Vk hj,Yv]at this
def Uwa {α:Type} (l:List α) (d:α) (p:α→Bool):l.any p=(List.range l.length).any λ j=>p (l.getD j d):=by
 rw[Jyb,Jeb,Jeb]
 constructor
 ·rintro⟨x,hx,h⟩
  obtain⟨j,hj,rfl⟩:=Zd.1 hx
  exact⟨j,Zy.2 hj,by rwa [Vb,Vk hj,Yv]⟩
 ·rintro⟨j,hj,h⟩
  exact⟨_,A4 (Zy.1 hj),h⟩
abbrev Wri:=ByteArray×Fil×Bool
abbrev Wld:=List Dev×Rng×List Nod×Stp×List Wri×List ByteArray
def Uxa:Wri:=((⟨#[]⟩:ByteArray),((((0:Int),((0:Int),(0:Int))),(false,[])),false))
def T0 (l:List ByteArray):Bool:=(List.range l.length).all λ j=>As (l.getD j Ov)&&(decide (j=0)||tlt (l.getD (j-1) Ov) (l.getD j Ov))
def Fea (c:Stp) (w:Wri):Bool:=As w.1&&(D9 w.2.1&&!(sle c w.2.1.1))
def Yza (c:Stp) (l:List Wri):Bool:=l.all (Fea c)&&decide ((l.length:Int)≤200)
def Rv (l:List Dev) (ns:List Nod):Bool:=((ns.length:Int)==(l.length:Int))&&(List.range ns.length).all λ j=>((ns.getD j Ae).1==(l.getD j Nh).1)&&Ly (ns.getD j Ae)
def Pz (w:Wld):Bool:=Il w.2.1 w.1&&(Rv w.1 w.2.2.1&&(G9 w.2.2.2.1&&(Yza w.2.2.2.1 w.2.2.2.2.1&&T0 w.2.2.2.2.2)))
def WIn (w:Wld):Prop:=RBd w.2.1∧w.1.length≤2000000∧(w.2.2.1.length≤2000000∧∀ n∈w.2.2.1,NIn n)∧(w.2.2.2.2.1.length≤2000000∧∀ x∈w.2.2.2.2.1,Kf x.1)∧(w.2.2.2.2.2.length≤2000000∧∀ s∈w.2.2.2.2.2,Kf s)
def Z0a (w:Wld) (hw:WIn w):Tot (λ k=>Dd k w) (λ r=>r=Yza w.2.2.2.1 w.2.2.2.2.1):=by
 obtain⟨_,_,_,⟨h1,h2⟩,_⟩:=hw
 unfold Dd Yza
 refine Ihb (Q:=λ r=>r=bif w.2.2.2.2.1.all (Fea w.2.2.2.1) then .inr w else .inl false) ?_ (by
  rintro r rfl
  cases w.2.2.2.2.1.all (Fea w.2.2.2.1)<;>exact Igb rfl)
 rw[Bga _ Uxa]
 refine Iqb (L:=λ k i=>Ep k w.2.2.2.2.1 (w.2.2.2.2.1.length:Int) i w) _ _ w ?_ ?_
 ·simp (disch:=omega) only [Ep,dF]
  exact Igb rfl
 ·intro j hj Q no yes
  have hs:=h2 _ (A4 (d:=Uxa) hj)
  obtain⟨x,ex⟩:∃ x:Wri,w.2.2.2.2.1.getD j Uxa=x:=⟨_,rfl⟩
  rw[ex]at hs
  simp only[ex]at no yes
  have e0:w.2.2.2.2.1.getD j ((⟨#[]⟩:ByteArray),((((0:Int),((0:Int),(0:Int))),(false,[])),false))=x:=ex
  simp (disch:=omega) only [Ep,dT,Vd,w64,e0,Exa,Mza,Vm]
  unfold Fea at no yes
  refine Isb (Qh x.1 hs) ?_
  refine Imb (λ hc=>Igb (no ?_)) (λ h3=>Imb (λ hc=>Igb (no ?_)) (λ h4=>Imb (λ hc=>Igb (no ?_)) (λ h5=>yes ?_)))
  ·rw[Vx]at hc;rw[hc];rfl
  ·rw[Vx]at hc;rw[hc,Ys,Wm]
  ·rw[hc,Yq,Wm,Wm]
  ·rw[Wj]at h3 h4;rw[h3,h4,h5];rfl
def Ija (w:Wld) (hw:WIn w):Tot (λ k=>Cq k w.2.2.2.2.2 (w.2.2.2.2.2.length:Int) 0 w) (λ r=>r=bif T0 w.2.2.2.2.2 then .inr () else .inl false):=by
 obtain⟨_,_,_,_,h1,h2⟩:=hw
 unfold T0
 refine Iqb (L:=λ k i=>Cq k w.2.2.2.2.2 (w.2.2.2.2.2.length:Int) i w) _ _ () ?_ ?_
 ·simp (disch:=omega) only [Cq,dF]
  exact Igb rfl
 ·intro j hj Q no yes
  have hs:=h2 _ (A4 (d:=Ov) hj)
  have e0:∀ i,w.2.2.2.2.2.getD i (⟨#[]⟩:ByteArray)=w.2.2.2.2.2.getD i Ov:=λ _=>rfl
  simp (disch:=omega) only [Cq,dT,Vd,w64,e0]
  refine Isb (Qh _ hs) ?_
  refine Imb (λ hc=>Igb (no ?_)) (λ h3=>Inb (λ h0=>?_) (λ h0=>yes ?_))
  ·rw[Vx]at hc;rw[hc];rfl
  ·simp (disch:=omega) only [dT,w64,show toNat ((j:Int)-1)=j-1 by omega]
   rw[Wj]at h3
   rw[h3,decide_eq_false (show ¬ j=0 by omega),Jhb,Vw]at no yes
   refine Imb (λ hc=>Igb (no ?_)) (λ h4=>yes ?_)
   ·rw[Vx]at hc;exact hc
   ·rw[Wj]at h4;exact h4
  ·rw[Wj]at h3
   rw[h3,decide_eq_true (show j=0 by omega)]
   rfl
def Ika (w:Wld) (hw:WIn w):Tot (λ k=>Cr k 0 w) (λ r=>r=bif T0 w.2.2.2.2.2 then .inr () else .inl false):=by
 obtain⟨_,_,_,_,h1,h2⟩:=hw
 unfold T0
 refine Iqb (L:=λ k i=>Cr k i w) _ _ () ?_ ?_
 ·simp (disch:=omega) only [Cr,dF]
  exact Igb rfl
 ·intro j hj Q no yes
  have hs:=h2 _ (A4 (d:=Ov) hj)
  have e0:∀ i,w.2.2.2.2.2.getD i (⟨#[]⟩:ByteArray)=w.2.2.2.2.2.getD i Ov:=λ _=>rfl
  simp (disch:=omega) only [Cr,dT,Vd,w64,e0]
  refine Isb (P6 _ hs) ?_
  refine Imb (λ hc=>Igb (no ?_)) (λ h3=>Inb (λ h0=>?_) (λ h0=>yes ?_))
  ·rw[Vx]at hc;rw[hc];rfl
  ·simp (disch:=omega) only [dT,w64,show toNat ((j:Int)-1)=j-1 by omega]
   rw[Wj]at h3
   rw[h3,decide_eq_false (show ¬ j=0 by omega),Jhb,Vw]at no yes
   refine Imb (λ hc=>Igb (no ?_)) (λ h4=>yes ?_)
   ·rw[Vx]at hc;exact hc
   ·rw[Wj]at h4;exact h4
  ·rw[Wj]at h3
   rw[h3,decide_eq_true (show j=0 by omega)]
   rfl
def L8a (w:Wld) (hw:WIn w) (hl:w.2.2.1.length=w.1.length):Tot (λ k=>Es k w.2.2.1 (w.2.2.1.length:Int) 0 w) (λ r=>r=bif Rv w.1 w.2.2.1 then .inr w else .inl false):=by
 obtain⟨_,_,⟨h1,h2⟩,_⟩:=hw
 unfold Rv
 rw[show ((w.2.2.1.length:Int)==(w.1.length:Int))=true by rw[beq_iff_eq];omega,Vw]
 refine Iqb (L:=λ k i=>Es k w.2.2.1 (w.2.2.1.length:Int) i w) _ _ w ?_ ?_
 ·simp (disch:=omega) only [Es,dF]
  exact Igb rfl
 ·intro j hj Q no yes
  have hs:=h2 _ (A4 (d:=Ae) hj)
  obtain⟨x,ex⟩:∃ x:Nod,w.2.2.1.getD j Ae=x:=⟨_,rfl⟩
  rw[ex]at hs no yes
  have e0:w.2.2.1.getD j ((0:Int),(([],[]),([],[])))=x:=ex
  have e1:w.1.getD j ((0:Int),((0:Int),(0:Int)))=w.1.getD j Nh:=rfl
  simp (disch:=omega) only [Es,dT,Vd,w64,e0,e1]
  refine Imb (λ hc=>Igb (no ?_)) (λ h3=>Ihb (Yea x hs) ?_)
  ·rw[bne,Vx]at hc;rw[hc];rfl
  ·rw[bne,Wj]at h3
   rw[h3,Vw]at no yes
   rintro b rfl
   refine Imb (λ hc=>Igb (no ?_)) (λ h4=>yes ?_)
   ·rw[Vx]at hc;exact hc
   ·rw[Wj]at h4;exact h4
def Z1a (w:Wld) (hw:WIn w):Tot (λ k=>De k w) (λ r=>r=Rv w.1 w.2.2.1):=by
 obtain⟨_,_,⟨h1,h2⟩,_⟩:=hw
 unfold Rv De
 refine Imb (λ hc=>Igb ?_) (λ hl=>?_)
 ·rw[bne,Vx]at hc
  rw[hc];rfl
 ·rw[bne,Wj]at hl
  rw[hl,Vw]
  rw[beq_iff_eq]at hl
  refine Ihb (Q:=λ r=>r=bif (List.range w.2.2.1.length).all (λ j=>((w.2.2.1.getD j Ae).1==(w.1.getD j Nh).1)&&Ly (w.2.2.1.getD j Ae)) then .inr () else .inl false) ?_ (by
   rintro r rfl
   cases (List.range w.2.2.1.length).all (λ j=>((w.2.2.1.getD j Ae).1==(w.1.getD j Nh).1)&&Ly (w.2.2.1.getD j Ae))<;>exact Igb rfl)
  refine Iqb (L:=λ k i=>Eu k i w) _ _ () ?_ ?_
  ·simp (disch:=omega) only [Eu,dF]
   exact Igb rfl
  ·intro j hj Q no yes
   have hs:=h2 _ (A4 (d:=Ae) hj)
   obtain⟨x,ex⟩:∃ x:Nod,w.2.2.1.getD j Ae=x:=⟨_,rfl⟩
   rw[ex]at hs no yes
   have e0:w.2.2.1.getD j ((0:Int),(([],[]),([],[])))=x:=ex
   have e1:w.1.getD j ((0:Int),((0:Int),(0:Int)))=w.1.getD j Nh:=rfl
   simp (disch:=omega) only [Eu,dT,Vd,w64,e0,e1]
   refine Imb (λ hc=>Igb (no ?_)) (λ h3=>Ihb (Yz x hs) ?_)
   ·rw[bne,Vx]at hc;rw[hc];rfl
   ·rw[bne,Wj]at h3
    rw[h3,Vw]at no yes
    rintro b rfl
    refine Imb (λ hc=>Igb (no ?_)) (λ h4=>yes ?_)
    ·rw[Vx]at hc;exact hc
    ·rw[Wj]at h4;exact h4
def Bha (w:Wld) (hw:WIn w):Tot (λ k=>C1 k w) (λ r=>r=Pz w):=by
 unfold C1 Pz
 refine Isb (Yha w.2.1 w.1 hw.1 (by have:=hw.2.1;omega)) ?_
 cases hr:Il w.2.1 w.1
 ·exact Ijb rfl (Igb rfl)
 refine Iib rfl ?_
 rw[Vw]
 by_cases hl:w.2.2.1.length=w.1.length
 ·refine Iib (by rw[bne,hl,beq_self_eq_true];rfl) ?_
  simp only[Ata,Vm]
  cases hs:G9 w.2.2.2.1
  ·exact Ijb rfl (Igb (by rw[Ys,Wm]))
  refine Iib rfl (Isb (Z0a w hw) ?_)
  cases hws:Yza w.2.2.2.1 w.2.2.2.2.1
  ·exact Ijb rfl (Igb (by rw[Ys,Wm,Wm]))
  refine Iib rfl (Isb (L8a w hw hl) ?_)
  cases Rv w.1 w.2.2.1
  ·exact Igb rfl
  refine Isb (Ija w hw) ?_
  cases T0 w.2.2.2.2.2<;>exact Igb rfl
 ·have hn:((w.2.2.1.length:Int)==(w.1.length:Int))=false:=by rw[beq_eq_false_iff_ne];omega
  refine Ijb (by rw[bne,hn];rfl) (Igb ?_)
  unfold Rv
  rw[hn]
  rfl
def Uya (w:Wld) (hw:WIn w):Tot (λ k=>D8 k w) (λ r=>r=Pz w):=by
 have hw':=hw
 obtain⟨_,_,_,⟨h1,h2⟩,_⟩:=hw'
 unfold D8 Pz
 refine Isb (Yia w.2.1 w.1 hw.1 (by have:=hw.2.1;omega)) ?_
 cases hr:Il w.2.1 w.1
 ·exact Ijb rfl (Igb rfl)
 refine Iib rfl (Isb (Z1a w hw) ?_)
 rw[Vw]
 cases hn:Rv w.1 w.2.2.1
 ·exact Ijb rfl (Igb rfl)
 refine Iib rfl ?_
 simp only[Rl,Vm]
 cases hs:G9 w.2.2.2.1
 ·exact Ijb rfl (Igb rfl)
 refine Iib rfl ?_
 by_cases hl:(w.2.2.2.2.1.length:Int) > 200
 ·refine Ikb hl (Igb ?_)
  unfold Yza
  rw[decide_eq_false (show ¬ (w.2.2.2.2.1.length:Int)≤200 by omega),Wm]
  rfl
 ·refine Ilb hl (Ihb (Q:=λ r=>r=bif w.2.2.2.2.1.all (Fea w.2.2.2.1) then .inr w else .inl false) ?_ ?_)
  ·rw[Bga _ Uxa]
   refine Iqb (L:=λ k i=>Fw k i w) _ _ w ?_ ?_
   ·simp (disch:=omega) only [Fw,dF]
    exact Igb rfl
   ·intro j hj Q no yes
    have hs:=h2 _ (A4 (d:=Uxa) hj)
    obtain⟨x,ex⟩:∃ x:Wri,w.2.2.2.2.1.getD j Uxa=x:=⟨_,rfl⟩
    rw[ex]at hs
    simp only[ex]at no yes
    have e0:w.2.2.2.2.1.getD j ((⟨#[]⟩:ByteArray),((((0:Int),((0:Int),(0:Int))),(false,[])),false))=x:=ex
    simp (disch:=omega) only [Fw,dT,Vd,w64,e0,Ul,Ena,Vm]
    unfold Fea at no yes
    refine Isb (P6 x.1 hs) ?_
    refine Imb (λ hc=>Igb (no ?_)) (λ h3=>Imb (λ hc=>Igb (no ?_)) (λ h4=>Imb (λ hc=>Igb (no ?_)) (λ h5=>yes ?_)))
    ·rw[Vx]at hc;rw[hc];rfl
    ·rw[Vx]at hc;rw[hc,Ys,Wm]
    ·rw[hc,Yq,Wm,Wm]
    ·rw[Wj]at h3 h4;rw[h3,h4,h5];rfl
  ·rintro b rfl
   unfold Yza
   rw[decide_eq_true (show (w.2.2.2.2.1.length:Int)≤200 by omega),Zz]
   cases w.2.2.2.2.1.all (Fea w.2.2.2.1)
   ·exact Igb rfl
   refine Isb (Ika w hw) ?_
   cases T0 w.2.2.2.2.2<;>exact Igb rfl

def atN:List Nod→Int→Nat→List Int
 |[],_,_=>[]
 |n::ns,id,i=>bif n.1==id then (i:Int)::atN ns id (i+1) else atN ns id (i+1)
def Ffa (n:Nod) (ns:List Nod) (id:Int) (i:Nat):atN (n::ns) id i=bif n.1==id then (i:Int)::atN ns id (i+1) else atN ns id (i+1):=rfl
def whr (ns:List Nod) (ids:List Int):List Int:=ids.flatMap λ id=>atN ns id 0
def Fga (id:Int):∀ (ns:List Nod) (i:Nat),(atN ns id i).length≤ns.length
 |[],_=>Vv _
 |n::ns,i=>by
  unfold atN
  have:=Fga id ns (i+1)
  cases n.1==id
  ·rw[cond_false,Vc];omega
  ·rw[cond_true,Vc,Vc];omega
def Uza (ns:List Nod):∀ (ids:List Int),(whr ns ids).length≤ids.length*ns.length
 |[]=>Vs _
 |id::ids=>by
  have h1:=Fga id ns 0
  have h2:=Uza ns ids
  unfold whr at h2 ⊢
  rw[Kmb,Ve,Vc,Nat.succ_mul]
  omega
def Qs {ns:List Nod} {ids:List Int} (h1:ns.length≤2000000) (h2:ids.length≤2000000):(whr ns ids).length≤4000000000000:=
 Zv (Uza ns ids) (Lhb h2 h1)
def Fha (ns:List Nod) (id:Int) (ids:List Int):whr ns (id::ids)=atN ns id 0++whr ns ids:=Kmb
def Dab (ns:List Nod) (a b:List Int):whr ns (a++b)=whr ns a++whr ns b:=List.flatMap_append
def Cda (w:Wld) (id:Int) (a b c:List Int) (m i0:Int) (out:List Int) (h1:w.2.2.1.length≤2000000) (ho:out.length≤4000000000000):
  Tot (λ k=>Dv k out id a m i0 w.2.2.1 (w.2.2.1.length:Int) 0 w) (λ r=>r=(out++atN w.2.2.1 id 0,a,m,i0,w)):=by
 have m1:=Fga id w.2.2.1 0
 refine Ipb (L:=λ k i (s:List Int)=>Dv k s id a m i0 w.2.2.1 (w.2.2.1.length:Int) i w) (Q:=λ r=>r=(out++atN w.2.2.1 id 0,a,m,i0,w)) w.2.2.1.length (λ j s=>s++atN (w.2.2.1.drop j) id j=out++atN w.2.2.1 id 0) ?_ ?_ 0 out (Vs _) rfl
 ·intro s h
  rw[Wh]at h
  simp (disch:=omega) only [Dv,dF]
  refine Igb ?_
  rw[← h]
  show _=(s++[],a,m,i0,w)
  rw[Wq]
 ·intro j s hj h next
  have g:=congrArg length h
  rw[Ve,Ve]at g
  rw[Au (d:=Ae) hj,Ffa]at h
  obtain⟨x,ex⟩:∃ x:Nod,w.2.2.1.getD j Ae=x:=⟨_,rfl⟩
  rw[ex]at h
  have e0:w.2.2.1.getD j ((0:Int),(([],[]),([],[])))=x:=ex
  simp (disch:=omega) only [Dv,dT,Vd,w64,e0]
  cases hx:x.1==id with
  |true=>
   rw[hx,cond_true]at h
   refine Ijb rfl (Iob (by simp only[Vc,Vi];omega) (next (s++[(j:Int)]) ?_))
   rw[← h,Vp]
   rfl
  |false=>
   rw[hx,cond_false]at h
   refine Iib rfl (next s h)
def L9a (w:Wld) (ids:List Int) (h1:w.2.2.1.length≤2000000) (h2:ids.length≤2000000):Tot (λ k=>Hp k w ids) (λ r=>r=whr w.2.2.1 ids):=by
 have m1:=Qs h1 h2
 unfold Hp
 refine Ihb (Q:=λ r=>r=whr w.2.2.1 ids) ?_ (by rintro r rfl;exact Igb rfl)
 refine Ipb (L:=λ k i (s:List Int)=>Fv k s ids (ids.length:Int) i w) (Q:=λ r=>r=whr w.2.2.1 ids) ids.length (λ j s=>s++whr w.2.2.1 (ids.drop j)=whr w.2.2.1 ids) ?_ ?_ 0 [] (Vs _) rfl
 ·intro s h
  rw[Wh]at h
  simp (disch:=omega) only [Fv,dF]
  refine Igb ?_
  rw[← h]
  exact(Wq s).symm
 ·intro j s hj h next
  have g:=congrArg length h
  rw[Ve]at g
  rw[Au (d:=0) hj,Fha]at h
  simp (disch:=omega) only [Fv,dT,Vd,w64]
  refine Isb (Cda w (ids.getD j 0) ids [] [] (ids.length:Int) (j:Int) s h1 (by omega)) ?_
  simp (disch:=omega) only [w64]
  exact next _ (by rw[Vp];exact h)
def Fia (w:Wld) (ids:List Int) (n:Nat) (hn:n<ids.length) (out:List Int) (h1:w.2.2.1.length≤2000000) (ho:out.length≤4000000000000):
  Tot (λ k=>C9 k ids out (n:Int) 0 w) (λ r=>r=(ids,out++atN w.2.2.1 (ids.getD n 0) 0,(n:Int),w)):=by
 have m1:=Fga (ids.getD n 0) w.2.2.1 0
 refine Ipb (L:=λ k i (s:List Int)=>C9 k ids s (n:Int) i w) (Q:=λ r=>r=(ids,out++atN w.2.2.1 (ids.getD n 0) 0,(n:Int),w)) w.2.2.1.length (λ j s=>s++atN (w.2.2.1.drop j) (ids.getD n 0) j=out++atN w.2.2.1 (ids.getD n 0) 0) ?_ ?_ 0 out (Vs _) rfl
 ·intro s h
  rw[Wh]at h
  simp (disch:=omega) only [C9,dF]
  refine Igb ?_
  rw[← h]
  show _=(ids,s++[],(n:Int),w)
  rw[Wq]
 ·intro j s hj h next
  have g:=congrArg length h
  rw[Ve,Ve]at g
  rw[Au (d:=Ae) hj,Ffa]at h
  obtain⟨x,ex⟩:∃ x:Nod,w.2.2.1.getD j Ae=x:=⟨_,rfl⟩
  rw[ex]at h
  have e0:w.2.2.1.getD j ((0:Int),(([],[]),([],[])))=x:=ex
  simp (disch:=omega) only [C9,dT,Vd,w64,e0]
  cases hx:x.1==ids.getD n 0 with
  |true=>
   rw[hx,cond_true]at h
   refine Ijb rfl (Iob (by simp only[Vc,Vi];omega) (next (s++[(j:Int)]) ?_))
   rw[← h,Vp]
   rfl
  |false=>
   rw[hx,cond_false]at h
   refine Iib rfl (next s h)
def Sk (w:Wld) (ids:List Int) (h1:w.2.2.1.length≤2000000) (h2:ids.length≤2000000):Tot (λ k=>Bd k w ids) (λ r=>r=whr w.2.2.1 ids):=by
 have m1:=Qs h1 h2
 unfold Bd
 refine Ihb (Q:=λ r=>r=whr w.2.2.1 ids) ?_ (by rintro r rfl;exact Igb rfl)
 refine Ipb (L:=λ k i (s:List Int)=>Di k ids s i w) (Q:=λ r=>r=whr w.2.2.1 ids) ids.length (λ j s=>s++whr w.2.2.1 (ids.drop j)=whr w.2.2.1 ids) ?_ ?_ 0 [] (Vs _) rfl
 ·intro s h
  rw[Wh]at h
  simp (disch:=omega) only [Di,dF]
  refine Igb ?_
  rw[← h]
  exact(Wq s).symm
 ·intro j s hj h next
  have g:=congrArg length h
  rw[Ve]at g
  rw[Au (d:=0) hj,Fha]at h
  simp (disch:=omega) only [Di,dT,Vd,w64]
  refine Isb (Fia w ids j hj s h1 (by omega)) ?_
  simp (disch:=omega) only [w64]
  exact next _ (by rw[Vp];exact h)
def Fja (id:Int):∀ (ns:List Nod) (i:Nat) (x:Int),x∈atN ns id i↔∃ j,j<ns.length∧(ns.getD j Ae).1=id∧x=((i+j:Nat):Int)
 |[],i,x=>by simp[atN]
 |n::ns,i,x=>by
  have ih:=Fja id ns (i+1) x
  have tl:(∃ j,j<(n::ns).length∧((n::ns).getD j Ae).1=id∧x=((i+j:Nat):Int))↔(n.1=id∧x=(i:Int))∨x∈atN ns id (i+1):=by
   rw[ih]
   constructor
   ·rintro⟨j,h1,h2,h3⟩
    cases j with
    |zero=>exact .inl ⟨h2,by omega⟩
    |succ j=>exact .inr ⟨j,by simpa using h1,by simpa using h2,by omega⟩
   ·rintro (⟨h1,h2⟩|⟨j,h1,h2,h3⟩)
    ·exact⟨0,by simp,h1,by omega⟩
    ·exact⟨j+1,by simpa using h1,by simpa using h2,by omega⟩
  rw[tl,Ffa]
  cases hx:n.1==id with
  |true=>
   rw[cond_true,Vl,eq_of_beq hx]
   simp
  |false=>
   rw[cond_false]
   have:=beq_eq_false_iff_ne.1 hx
   simp[this]
def Wz {ns:List Nod} {ids:List Int} {x:Int}:x∈whr ns ids↔∃ j,j<ns.length∧(ns.getD j Ae).1∈ids∧x=(j:Int):=by
 unfold whr
 rw[List.mem_flatMap]
 constructor
 ·rintro⟨id,h1,h2⟩
  obtain⟨j,h3,h4,h5⟩:=(Fja _ _ _ _).1 h2
  exact⟨j,h3,h4 ▸ h1,by omega⟩
 ·rintro⟨j,h3,h4,h5⟩
  exact⟨_,h4,(Fja _ _ _ _).2 ⟨j,h3,rfl,by omega⟩⟩
def Ki (w:Wld) (x:ByteArray):List Int:=whr w.2.2.1 (Sp w.2.1 x++Sj w.2.1 w.1 x)
def Pe:ByteArray:=⟨#[108,105,115,116]⟩
def Fa (w:Wld):List Int:=whr w.2.2.1 (Sp w.2.1 Pe)
def Sm {r:Rng} (hr:RBd r) (x:ByteArray):(Sp r x).length≤2000000:=by
 unfold Sp
 by_cases hm:Q7a x % r.2.length<r.2.length
 ·exact hr.2 _ (A4 (d:=[]) hm)
 ·rw[Vb,Zf (by omega)];exact Vs _
def Xg (r:Rng) (l:List Dev) (x:ByteArray):(Sj r l x).length≤l.length+l.length:=by
 unfold Sj
 rw[Ve]
 have h1:=Fda (Sp r x) (Kg (Sp r x) l) false l
 have h2:=Fda (Sp r x) (Kg (Sp r x) l) true l
 omega
def Ila (w:Wld) (x:ByteArray) (h:Il w.2.1 w.1=true) (hn:w.2.2.1.length≤2000000) (hx:x.size≤1000000000):Tot (λ k=>Eh k w x) (λ r=>r=Ki w x):=by
 have h5:=(Cb.1 h).2.1
 have p2:=(Bea h x).2.1
 have h12:=(Fc.1 (Cb.1 h).1).2.2.2
 have hh:=Xg w.2.1 w.1 x
 unfold Eh Ki
 rw[Dab]
 refine Isb (Z2 _ x (Mn h) hx) ?_
 refine Isb (Sk w _ hn (by omega)) ?_
 refine Isb (Yya _ _ x h hx) ?_
 refine Isb (Sk w _ hn (by omega)) ?_
 have l1:=Qs hn (show (Sp w.2.1 x).length≤2000000 by omega)
 have l2:=Qs hn (show (Sj w.2.1 w.1 x).length≤2000000 by omega)
 exact Iob (by omega) (Igb rfl)
def Bia (w:Wld) (hr:RBd w.2.1) (hn:w.2.2.1.length≤2000000):Tot (λ k=>Gk k w) (λ r=>r=Fa w):=by
 unfold Gk
 refine Isb (Z2 _ Pe hr (by decide)) ?_
 refine Isb (Sk w _ hn (Sm hr _)) ?_
 exact Igb rfl
def quo (n:Int):Int:=n/2+1
def Hrb {n:Int} (h0:0≤n):Int.tdiv n 2=n/2:=Jbb h0
def Dbb {n:Int} (h0:0≤n) (h1:n≤1000000000):K6 n=some (quo n):=by
 unfold K6 quo
 rw[Hrb h0,w64 (n:=n/2) (by omega) (by omega),w64 (n:=n/2+1) (by omega) (by omega)]
def rch (l:List Int) (i:Nat):Int:=bif decide (i<l.length)&&inR (l.getD i 0) 1 3 then l.getD i 0 else 0
def Dcb (l:List Int) (i:Nat):Jc l (i:Int)=some (rch l i):=by
 unfold Jc rch
 by_cases h:i<l.length
 ·simp (disch:=omega) only [dT,Vd,Ue,Vm]
  rw[decide_eq_true h,Vw]
  cases inR (l.getD i 0) 1 3<;>rfl
 ·rw[dF (by omega),decide_eq_false h];rfl
def Laa (l:List Int) (i:Nat):C3 l (i:Int)=some (rch l i):=by
 unfold C3 rch
 by_cases h:i<l.length
 ·rw[dF (by omega)]
  simp (disch:=omega) only [dT,Vd,Nj,Vm]
  rw[decide_eq_true h,Vw]
  cases inR (l.getD i 0) 1 3<;>rfl
 ·rw[dT (by omega),decide_eq_false h];rfl

def Ddb (a b:Fil):Bool:=((a.1.1==b.1.1)&&((a.1.2.1==b.1.2.1)&&(a.1.2.2==b.1.2.2)))&&((a.2.1==b.2.1)&&((Le a.2.2).toList==(Le b.2.2).toList))
def V0a {a b:Fil} (ha:Ai a.2.2) (hb:Ai b.2.2):Ddb a b=true↔a=b:=by
 unfold Ddb
 rw[Un ha hb]
 obtain⟨⟨a1,a2,a3⟩,a4,a5⟩:=a
 obtain⟨⟨b1,b2,b3⟩,b4,b5⟩:=b
 simp only[Va,beq_iff_eq,decide_eq_true_iff,Wa]

def Deb (a b:Row):Bool:=(a.1==b.1)&&((a.2.1.1==b.2.1.1)&&((a.2.1.2.1==b.2.1.2.1)&&((a.2.1.2.2==b.2.1.2.2)&&((a.2.2.1==b.2.2.1)&&(a.2.2.2==b.2.2.2)))))
def Ima {a b:Row}:Deb a b=true↔a=b:=by
 unfold Deb
 obtain⟨a0,⟨a1,a2,a3⟩,a4,a5⟩:=a
 obtain⟨b0,⟨b1,b2,b3⟩,b4,b5⟩:=b
 simp only[Y7,Va,beq_iff_eq,Wa,Cy]
 constructor
 ·rintro⟨h0,h1,h2,h3,h4,h5⟩;exact⟨h0,⟨h1,h2,h3⟩,h4,h5⟩
 ·rintro⟨h0,⟨h1,h2,h3⟩,h4,h5⟩;exact⟨h0,h1,h2,h3,h4,h5⟩
def Us (ws:List Wri) (r:Row):Bool:=ws.any λ x=>Deb (B7a x.1 x.2.1) r
def I5b:Row:=((⟨#[]⟩:ByteArray),(((0:Int),((0:Int),(0:Int))),(false,(0:Int))))

def run {α:Type} (st:α→Nat→α) (n:Nat) (a:α):α:=(List.range n).foldl st a
def Sn {α:Type} (st:α→Nat→α) (n:Nat) (a:α):run st (n+1) a=st (run st n a) n:=by
 unfold run
 rw[L6b,Job]
 rfl
def Z2a {α:Type} {st:α→Nat→α} {a:α} {j n:Nat} (hj:j≤n) (h:∀ i,st (run st j a) i=run st j a):run st n a=run st j a:=by
 obtain⟨m,rfl⟩:=Nat.exists_eq_add_of_le hj
 induction m with
 |zero=>rfl
 |succ m ih=>rw[← Zl,Sn,ih (by omega),h]
def Mo {α:Type} {st:α→Nat→α} (P:Nat→α→Prop) {n:Nat} {a:α} (h0:P 0 a) (hs:∀ j b,j<n→P j b→P (j+1) (st b j)):P n (run st n a):=by
 have:∀ m,m≤n→P m (run st m a):=by
  intro m
  induction m with
  |zero=>intro _;exact h0
  |succ m ih=>intro hm;rw[Sn];exact hs m _ (by omega) (ih (by omega))
 exact this n (Vv _)
def NS (ns:List Nod):Prop:=ns.length≤2000000∧∀ n∈ns,NG n
def NS.set {ns:List Nod} (h:NS ns) {i:Nat} {n:Nod} (hn:NG n):NS (ns.set i n):=⟨by rw[Vy];exact h.1,λ m hm=>by
 rcases Xs hm with hm|rfl
 ·exact h.2 m hm
 ·exact hn⟩
def NS.get {ns:List Nod} (h:NS ns) {i:Nat} (hi:i<ns.length):NG (ns.getD i Ae):=h.2 _ (A4 hi)
abbrev wN (w:Wld) (ns:List Nod):Wld:=(w.1,w.2.1,ns,w.2.2.2)
def Ng (c:Stp) (t d:Int):Stp:=bif decide (t≤c.1) then (bif G9 (c.1,c.2.1+1,d) then (c.1,c.2.1+1,d) else c) else (bif G9 (t,0,d) then (t,0,d) else c)
def V1a {c:Stp} (hc:G9 c=true) (t d:Int):Gu c t d=some (Ng c t d):=by
 have h2:0≤c.2.1∧c.2.1≤1000000:=by
  unfold G9 at hc
  rw[Va,Va,Co,Co]at hc
  exact hc.2.1
 unfold Gu Ng
 rw[w64 (n:=c.2.1+1) (by omega) (by omega)]
 simp only[Rl,Vm]
 cases decide (t≤c.1) with
 |true=>cases G9 (c.1,c.2.1+1,d)<;>rfl
 |false=>cases G9 (t,0,d)<;>rfl
def Fka {c:Stp} (hc:G9 c=true) (t d:Int):G9 (Ng c t d)=true∧(Ng c t d=c∨sle c (Ng c t d)=true):=by
 unfold Ng
 by_cases h:t≤c.1
 ·rw[decide_eq_true h,cond_true]
  cases hs:G9 (c.1,c.2.1+1,d) with
  |true=>exact⟨hs,.inr (Om.2 (.inr ⟨rfl,.inl (by show c.2.1<c.2.1+1;omega)⟩))⟩
  |false=>exact⟨hc,.inl rfl⟩
 ·rw[decide_eq_false h,cond_false]
  cases hs:G9 (t,0,d) with
  |true=>exact⟨hs,.inr (Om.2 (.inl (by show c.1<t;omega)))⟩
  |false=>exact⟨hc,.inl rfl⟩
def wst (R:Int) (rc:List Int) (s:ByteArray) (f:Fil) (cs:List Int) (a:List Nod×Int×Int) (j:Nat):List Nod×Int×Int:=
 bif decide (a.2.1<R) then (bif rch rc j==0 then a else
  (a.1.set (cs.getD j 0).toNat (Wu (a.1.getD (cs.getD j 0).toNat Ae) s f (rch rc j != 3)).1,a.2.1+1,
   bif rch rc j==1&&((Wu (a.1.getD (cs.getD j 0).toNat Ae) s f (rch rc j != 3)).2==0||(Wu (a.1.getD (cs.getD j 0).toNat Ae) s f (rch rc j != 3)).2==1) then a.2.2+1 else a.2.2))
 else a
def wrN (w:Wld) (s:ByteArray) (f:Fil) (rc:List Int):List Nod×Int×Int:=run (wst w.2.1.1 rc s f (Ki w s)) (Ki w s).length (w.2.2.1,0,0)
def Bja (w:Wld) (s:ByteArray) (f:Fil) (rc:List Int):Int×Wld:=
 (bif decide ((wrN w s f rc).2.2≥quo w.2.1.1) then 0 else 1,(w.1,w.2.1,(wrN w s f rc).1,w.2.2.2.1,w.2.2.2.2.1++[(s,f,decide ((wrN w s f rc).2.2≥quo w.2.1.1))],w.2.2.2.2.2))
def Tn {w:Wld} {s:ByteArray} {x:Int} (h:x∈Ki w s):0≤x∧x<(w.2.2.1.length:Int):=by
 obtain⟨j,h1,_,rfl⟩:=Wz.1 h
 omega
def Gbb {R:Int} {rc:List Int} {s:ByteArray} {f:Fil} {cs:List Int} {a:List Nod×Int×Int} {j m:Nat} (hs:As s=true) (hf:D9 f=true) (h:NS a.1∧a.1.length=m∧(0≤a.2.1∧a.2.1≤j)∧0≤a.2.2∧a.2.2≤j) (hc:(cs.getD j 0).toNat<m):
  let b:=wst R rc s f cs a j
  NS b.1∧b.1.length=m∧(0≤b.2.1∧b.2.1≤((j+1:Nat):Int))∧0≤b.2.2∧b.2.2≤((j+1:Nat):Int):=by
 obtain⟨h1,h2,h3,h4,h5⟩:=h
 intro b
 have hb:b=wst R rc s f cs a j:=rfl
 unfold wst at hb
 cases hR:decide (a.2.1<R)
 ·rw[hR,cond_false]at hb;rw[hb];exact⟨h1,h2,⟨h3.1,by omega⟩,h4,by omega⟩
 rw[hR,cond_true]at hb
 cases hr:rch rc j==0
 case true=>rw[hr,cond_true]at hb;rw[hb];exact⟨h1,h2,⟨h3.1,by omega⟩,h4,by omega⟩
 rw[hr,cond_false]at hb
 rw[hb]
 refine⟨h1.set (Npa (h1.get (by omega)) hs hf),by rw[List.length_set];exact h2,⟨by dsimp only;omega,by dsimp only;omega⟩,?_⟩
 dsimp only
 cases rch rc j==1&&((Wu (a.1.getD (cs.getD j 0).toNat Ae) s f (rch rc j != 3)).2==0||(Wu (a.1.getD (cs.getD j 0).toNat Ae) s f (rch rc j != 3)).2==1)
 ·exact⟨h4,by rw[cond_false];omega⟩
 ·exact⟨by rw[cond_true];omega,by rw[cond_true];omega⟩
def Q8a (w:Wld) (s:ByteArray) (f:Fil) (rc:List Int) (hr:Il w.2.1 w.1=true) (hn:NS w.2.2.1) (hs:As s=true) (hf:D9 f=true) (hw:w.2.2.2.2.1.length≤2000000):
  Tot (λ k=>C2 k w s f rc) (λ r=>r=Bja w s f rc):=by
 have hsz:s.size≤1000000000:=by
  have:=Co.1 (Va _ _ ▸ hs:_∧_).2
  omega
 obtain⟨_,hR,_⟩:=Cb.1 hr
 unfold C2 Bja
 refine Isb (Ila w s hr hn.1 hsz) ?_
 have hc:=λ x=>Tn (w:=w) (s:=s) (x:=x)
 have hcl:(Ki w s).length≤4000000000000:=by
  unfold Ki
  refine Qs hn.1 ?_
  have h5:=(Cb.1 hr).2.1
  have p2:=(Bea hr s).2.1
  have h12:=(Fc.1 (Cb.1 hr).1).2.2.2
  have hh:=Xg w.2.1 w.1 s
  rw[Ve];omega
 have hrun:wrN w s f rc=run (wst w.2.1.1 rc s f (Ki w s)) (Ki w s).length (w.2.2.1,0,0):=rfl
 have inv:∀ n,n≤(Ki w s).length→NS (run (wst w.2.1.1 rc s f (Ki w s)) n (w.2.2.1,0,0)).1∧(run (wst w.2.1.1 rc s f (Ki w s)) n (w.2.2.1,0,0)).1.length=w.2.2.1.length∧(0≤(run (wst w.2.1.1 rc s f (Ki w s)) n (w.2.2.1,0,0)).2.1∧(run (wst w.2.1.1 rc s f (Ki w s)) n (w.2.2.1,0,0)).2.1≤n)∧0≤(run (wst w.2.1.1 rc s f (Ki w s)) n (w.2.2.1,0,0)).2.2∧(run (wst w.2.1.1 rc s f (Ki w s)) n (w.2.2.1,0,0)).2.2≤n:=by
  intro n hn'
  refine Mo (λ j (b:List Nod×Int×Int)=>NS b.1∧b.1.length=w.2.2.1.length∧(0≤b.2.1∧b.2.1≤(j:Int))∧0≤b.2.2∧b.2.2≤(j:Int)) ⟨hn,rfl,⟨J3b _,J3b _⟩,J3b _,J3b _⟩ (λ j b hj hb=>Gbb hs hf hb ?_)
  have:=hc _ (A4 (d:=0) (show j<(Ki w s).length by omega))
  omega
 generalize hcs:Ki w s=cs at *
 refine Ihb (Q:=λ r=>r=(s,(wrN w s f rc).2.2,wN w (wrN w s f rc).1,f)) ?_ ?_
 ·refine Ipb (L:=λ k i (a:List Nod×Int×Int)=>B6 k s rc cs a.2.1 a.2.2 i (wN w a.1) f) (Q:=λ r=>r=(s,(wrN w s f rc).2.2,wN w (wrN w s f rc).1,f)) cs.length (λ j a=>a=run (wst w.2.1.1 rc s f cs) j (w.2.2.1,0,0)) ?_ ?_ 0 (w.2.2.1,0,0) (Vs _) rfl
  ·rintro a rfl
   simp (disch:=omega) only [B6,dF]
   exact Igb (by rw[hrun])
  ·rintro j a hj rfl next
   obtain⟨i1,i2,i3,i4,i5⟩:=inv j (by omega)
   rw[Sn]at next
   have hst:=Z2a (st:=wst w.2.1.1 rc s f cs) (a:=(w.2.2.1,(0:Int),(0:Int))) (j:=j) (n:=cs.length) (by omega)
   generalize run (wst w.2.1.1 rc s f cs) j (w.2.2.1,0,0)=a at *
   obtain⟨ns,o,g⟩:=a
   dsimp only at i1 i2 i3 i4 i5
   have hci:=hc _ (A4 (d:=0) hj)
   obtain⟨i,ei⟩:∃ i:Nat,cs.getD j 0=(i:Int):=⟨(cs.getD j 0).toNat,by omega⟩
   rw[ei]at hci
   unfold wst at next
   rw[ei,Vd]at next
   simp (disch:=omega) only [B6,dT,wN]
   refine Inb (λ hR'=>?_) (λ hR'=>Igb ?_)
   ·dsimp only at next
    rw[decide_eq_true hR']at next
    simp only[Laa,Vm]
    cases h0:rch rc j==0 with
    |true=>
     rw[h0]at next
     simp (disch:=omega) only [w64]
     exact Ijb rfl (next _ rfl)
    |false=>
     rw[h0]at next
     have e0:ns.getD i ((0:Int),(([],[]),([],[])))=ns.getD i Ae:=rfl
     simp (disch:=omega) only [dT,Vd,w64,ei,e0,cond_false]
     refine Isb (I3a (ns.getD i Ae) s f (rch rc j != 3) (Py (i1.get (by omega))) (Ij hs)) ?_
     dsimp only at next ⊢
     generalize Wu (ns.getD i Ae) s f (rch rc j != 3)=p at *
     cases h1:rch rc j==1 with
     |false=>
      rw[h1]at next
      exact Iib rfl (next _ rfl)
     |true=>
      rw[h1]at next
      refine Ijb rfl ?_
      cases h2:p.2==0
      case true=>rw[h2]at next;exact Ijb rfl (next _ rfl)
      rw[h2]at next
      refine Iib rfl ?_
      cases h3:p.2==1 with
      |true=>rw[h3]at next;exact Ijb rfl (next _ rfl)
      |false=>rw[h3]at next;exact Iib rfl (next _ rfl)
   ·rw[hrun,hst (λ i=>by unfold wst;dsimp only;rw[decide_eq_false hR'];rfl)]
 ·rintro r rfl
  obtain⟨_,_,_,h4,h5⟩:=inv cs.length (Vv _)
  dsimp only[wN]
  rw[Dbb (by omega) (by omega)]
  have ec:Br f=some f:=by
   have:=(Ju.1 hf).2.1
   unfold Br
   rw[bT (by simp only[Vi];omega),Vz]
  rw[ec]
  simp only[Vm]
  refine Iob (by simp only[Vc,Vi];omega) ?_
  cases decide ((wrN w s f rc).2.2≥quo w.2.1.1) with
  |true=>exact Igb rfl
  |false=>exact Igb rfl
def ask (w:Wld) (s:ByteArray) (f:Fil) (t:Int) (rc:List Int):Int×Wld:=
 bif !(As s) then (2,w) else bif decide ((f.2.2.length:Int) > 200) then (2,w) else bif !(inR t 0 1000000000) then (2,w) else
 bif (w.2.2.2.2.1.length:Int)==200 then (3,w) else
 bif (Ng w.2.2.2.1 t 0).1==w.2.2.2.1.1&&((Ng w.2.2.2.1 t 0).2.1==w.2.2.2.1.2.1&&(Ng w.2.2.2.1 t 0).2.2==w.2.2.2.1.2.2) then (3,w) else
 Bja (w.1,w.2.1,w.2.2.1,Ng w.2.2.2.1 t 0,w.2.2.2.2) s (Ng w.2.2.2.1 t 0,f.2) rc
def V2a (w:Wld) (s:ByteArray) (f:Fil) (t:Int) (rc:List Int) (hr:Il w.2.1 w.1=true) (hn:NS w.2.2.1) (hst:G9 w.2.2.2.1=true) (hs:Kf s) (hd:f.2.1=true→f.2.2=[]) (hw:w.2.2.2.2.1.length≤2000000):
  Tot (λ k=>Hc k w s f t rc) (λ r=>r=ask w s f t rc):=by
 unfold Hc ask
 refine Isb (P6 s hs) ?_
 cases hs':As s
 ·exact Ijb rfl (Igb rfl)
 refine Iib rfl ?_
 rw[Yq,cond_false]
 by_cases hl:(f.2.2.length:Int) > 200
 ·rw[decide_eq_true hl];exact Ijb rfl (Igb rfl)
 ·rw[decide_eq_false hl,cond_false]
  refine Iib rfl ?_
  simp only[Nj,V1a hst,Vm]
  cases inR t 0 1000000000
  ·exact Ijb rfl (Igb rfl)
  refine Iib rfl ?_
  rw[Yq,cond_false]
  cases (w.2.2.2.2.1.length:Int)==200
  case true=>exact Ijb rfl (Igb rfl)
  refine Iib rfl ?_
  rw[cond_false]
  cases (Ng w.2.2.2.1 t 0).1==w.2.2.2.1.1&&((Ng w.2.2.2.1 t 0).2.1==w.2.2.2.1.2.1&&(Ng w.2.2.2.1 t 0).2.2==w.2.2.2.1.2.2)
  case true=>exact Ijb rfl (Igb rfl)
  refine Iib rfl (Isb (Q8a (w.1,w.2.1,w.2.2.1,Ng w.2.2.2.1 t 0,w.2.2.2.2) s (Ng w.2.2.2.1 t 0,f.2) rc hr hn hs' (Ju.2 ⟨(Fka hst t 0).1,by show f.2.2.length≤200;omega,hd⟩) hw) ?_)
  exact Igb rfl
def pst (src:Int) (s:ByteArray) (f:Fil) (rc ps:List Int) (a:List Nod×Bool×Bool) (j:Nat):List Nod×Bool×Bool:=
 bif ps.getD j 0==src then (a.1,true,a.2.2) else bif rch rc j != 1 then (a.1,a.2.1,false) else
  (a.1.set (ps.getD j 0).toNat ((a.1.getD (ps.getD j 0).toNat Ae).1,(keep (a.1.getD (ps.getD j 0).toNat Ae).2.1 s f true).1,(a.1.getD (ps.getD j 0).toNat Ae).2.2),a.2.1,
   bif (keep (a.1.getD (ps.getD j 0).toNat Ae).2.1 s f true).2 != 0&&(keep (a.1.getD (ps.getD j 0).toNat Ae).2.1 s f true).2 != 1 then false else a.2.2)
def Mp (w:Wld) (s:ByteArray):List Int:=whr w.2.2.1 (Sp w.2.1 s)
def puN (w:Wld) (i:Nat) (s:ByteArray) (rc:List Int):List Nod×Bool×Bool:=run (pst (i:Int) s (lkD (w.2.2.1.getD i Ae).2.1 s).1 rc (Mp w s)) (Mp w s).length (w.2.2.1,false,true)
def Gcb (n:Nod) (s:ByteArray):Nod:=(n.1,(syD (rmD n.2.1 s).1 s).1,n.2.2)
def Lu (w:Wld) (i:Nat) (s:ByteArray) (rc:List Int):Bool×Wld:=bif (lkD (w.2.2.1.getD i Ae).2.1 s).2 != 0 then (false,w) else
 (true,wN w (bif (puN w i s rc).2.2&&!(puN w i s rc).2.1 then (puN w i s rc).1.set i (Gcb ((puN w i s rc).1.getD i Ae) s) else (puN w i s rc).1))
def Asb {n:Nod} (hn:NG n) {s:ByteArray} (hs:As s=true):NG (Gcb n s):=Fca hn (Yba (Pva hn.g) hs)
def Bka {n:Nod} (hn:NG n) {s:ByteArray} {f:Fil} {sure:Bool}:NG (n.1,(keep n.2.1 s f sure).1,n.2.2):=Fca hn (Aib hn.g)
def V3a {src:Int} {s:ByteArray} {f:Fil} {rc ps:List Int} {a:List Nod×Bool×Bool} {j m:Nat} (h:NS a.1∧a.1.length=m) (hc:(ps.getD j 0).toNat<m):NS (pst src s f rc ps a j).1∧(pst src s f rc ps a j).1.length=m:=by
 unfold pst
 cases ps.getD j 0==src
 case true=>exact h
 cases rch rc j != 1 with
 |true=>exact h
 |false=>exact⟨h.1.set (Bka (h.1.get (by have:=h.2;omega))),by rw[cond_false,cond_false,Vy];exact h.2⟩
def P8 {w:Wld} {s:ByteArray} {x:Int} (h:x∈Mp w s):0≤x∧x<(w.2.2.1.length:Int):=by
 obtain⟨j,h1,_,rfl⟩:=Wz.1 h
 omega
def Ina {w:Wld} {s:ByteArray} (hr:Il w.2.1 w.1=true) (hn:w.2.2.1.length≤2000000):(Mp w s).length≤4000000000000:=Qs hn (Sm (Mn hr) s)
def Atb {w:Wld} {i:Nat} {s:ByteArray} {rc:List Int} (hn:NS w.2.2.1):NS (puN w i s rc).1∧(puN w i s rc).1.length=w.2.2.1.length:=
 Mo (λ _ (b:List Nod×Bool×Bool)=>NS b.1∧b.1.length=w.2.2.1.length) ⟨hn,rfl⟩ (λ j b hj hb=>V3a hb (by have:=P8 (A4 (d:=0) hj);omega))
def O7a (w:Wld) (i:Nat) (s:ByteArray) (rc:List Int) (hr:Il w.2.1 w.1=true) (hn:NS w.2.2.1) (hi:i<w.2.2.1.length):Tot (λ k=>Bf k w (i:Int) s rc) (λ r=>r=Lu w i s rc):=by
 have hni:=hn.get hi
 unfold Bf Lu
 have e0:w.2.2.1.getD i ((0:Int),(([],[]),([],[])))=w.2.2.1.getD i Ae:=rfl
 simp (disch:=omega) only [dT,Vd,e0]
 have hin:=(Py hni).1
 refine Isb (Yy hin.1.1.1.1 hin.2.1 s) ?_
 cases hl:(lkD (w.2.2.1.getD i Ae).2.1 s).2 != 0
 case true=>exact Ijb rfl (Igb rfl)
 refine Iib rfl ?_
 rw[cond_false]
 have hlk:∃ b,gt (w.2.2.1.getD i Ae).2.1.1 s=some b:=by
  rw[bne,Wj,beq_iff_eq]at hl
  obtain⟨b,hb,_⟩:=Ot.1 (show lkD (w.2.2.1.getD i Ae).2.1 s=((lkD (w.2.2.1.getD i Ae).2.1 s).1,0) from by rw[← hl])
  exact⟨b,hb⟩
 have hs:As s=true:=Pua hni.g.1 (by obtain⟨b,hb⟩:=hlk;rw[hb];rfl)
 have hsz:s.size≤1000000000:=by
  have:=Co.1 (Va _ _ ▸ hs:_∧_).2
  omega
 refine Isb (Z2 _ s (Mn hr) hsz) ?_
 refine Isb (Sk w _ hn.1 (Sm (Mn hr) s)) ?_
 have hpl:=Ina (s:=s) hr hn.1
 have hc:=λ x=>P8 (w:=w) (s:=s) (x:=x)
 have hrun:puN w i s rc=run (pst (i:Int) s (lkD (w.2.2.1.getD i Ae).2.1 s).1 rc (Mp w s)) (Mp w s).length (w.2.2.1,false,true):=rfl
 obtain⟨p1,p2⟩:=Atb (w:=w) (i:=i) (s:=s) (rc:=rc) hn
 have inv:∀ n,n≤(Mp w s).length→NS (run (pst (i:Int) s (lkD (w.2.2.1.getD i Ae).2.1 s).1 rc (Mp w s)) n (w.2.2.1,false,true)).1∧(run (pst (i:Int) s (lkD (w.2.2.1.getD i Ae).2.1 s).1 rc (Mp w s)) n (w.2.2.1,false,true)).1.length=w.2.2.1.length:=λ n hn'=>
  Mo (λ _ (b:List Nod×Bool×Bool)=>NS b.1∧b.1.length=w.2.2.1.length) ⟨hn,rfl⟩ (λ j b hj hb=>V3a hb (by have:=hc _ (A4 (d:=0) (show j<(Mp w s).length by omega));omega))
 rw[show whr w.2.2.1 (Sp w.2.1 s)=Mp w s from rfl]
 generalize (lkD (w.2.2.1.getD i Ae).2.1 s).1=f at *
 generalize Mp w s=ps at *
 refine Ihb (Q:=λ r=>r=((i:Int),s,(puN w i s rc).2.1,(puN w i s rc).2.2,wN w (puN w i s rc).1)) ?_ ?_
 ·refine Ipb (L:=λ k j (a:List Nod×Bool×Bool)=>Bn k (i:Int) s rc ps a.2.1 a.2.2 j (wN w a.1) f) (Q:=λ r=>r=((i:Int),s,(puN w i s rc).2.1,(puN w i s rc).2.2,wN w (puN w i s rc).1)) ps.length (λ j a=>a=run (pst (i:Int) s f rc ps) j (w.2.2.1,false,true)) ?_ ?_ 0 (w.2.2.1,false,true) (Vs _) rfl
  ·rintro a rfl
   simp (disch:=omega) only [Bn,dF]
   exact Igb (by rw[hrun])
  ·rintro j a hj rfl next
   obtain⟨i1,i2⟩:=inv j (by omega)
   rw[Sn]at next
   generalize run (pst (i:Int) s f rc ps) j (w.2.2.1,false,true)=a at *
   obtain⟨ns,o,g⟩:=a
   dsimp only at i1 i2
   have hci:=hc _ (A4 (d:=0) hj)
   obtain⟨m,em⟩:∃ m:Nat,ps.getD j 0=(m:Int):=⟨(ps.getD j 0).toNat,by omega⟩
   rw[em]at hci
   unfold pst at next
   rw[em,Vd]at next
   have e0:ns.getD m ((0:Int),(([],[]),([],[])))=ns.getD m Ae:=rfl
   simp (disch:=omega) only [Bn,dT,Vd,w64,em,wN]
   cases hz:(m:Int)==(i:Int) with
   |true=>
    rw[hz]at next
    exact Ijb rfl (next _ rfl)
   |false=>
    rw[hz]at next
    refine Iib rfl ?_
    simp only[Laa,Vm]
    cases h1:rch rc j != 1 with
    |true=>
     rw[h1]at next
     exact Ijb rfl (next _ rfl)
    |false=>
     rw[h1]at next
     refine Iib rfl ?_
     simp (disch:=omega) only [dT,Vd,e0]
     have hm:=Py (i1.get (i:=m) (by omega))
     refine Isb (Nma (ns.getD m Ae).2.1 s f true hm.1.1 hm.1.2.1 (Ij hs)) ?_
     dsimp only at next
     generalize keep (ns.getD m Ae).2.1 s f true=q at *
     cases h2:q.2 != 0
     ·rw[h2]at next;exact Iib rfl (next _ rfl)
     rw[h2]at next
     refine Ijb rfl ?_
     cases h3:q.2 != 1 with
     |true=>rw[h3]at next;exact Ijb rfl (next _ rfl)
     |false=>rw[h3]at next;exact Iib rfl (next _ rfl)
 ·rintro r rfl
  dsimp only[wN]
  generalize puN w i s rc=a at *
  obtain⟨ns,o,g⟩:=a
  dsimp only at p1 p2 ⊢
  cases g
  ·exact Iib rfl (Igb rfl)
  refine Ijb rfl ?_
  cases o
  case true=>exact Iib rfl (Igb rfl)
  refine Ijb rfl ?_
  have e0:ns.getD i ((0:Int),(([],[]),([],[])))=ns.getD i Ae:=rfl
  have hil:(i:Int)<(ns.length:Int):=by omega
  simp (disch:=omega) only [dT,Vd,e0]
  have hg:=(p1.get (i:=i) (by omega)).g
  refine Isb (Qq hg.1 (Ij hs)) ?_
  refine Isb (Rr (Pva hg).1 hs) ?_
  exact Igb rfl

def tk (n:Nod) (l:List Row):Bool×Nod:=bif decide ((O9 n.2.2.1 l).length > 60) then (false,n) else (true,(n.1,n.2.1,O9 n.2.2.1 l,n.2.2.2))
def Hsb {n:Nod} {l:List Row} (hn:NG n) (hl:Jq l=true):NG (tk n l).2:=by
 obtain⟨h1,h2,h3,h4,h5⟩:=Bp.1 hn.1
 unfold tk
 by_cases h:(O9 n.2.2.1 l).length > 60
 ·rw[decide_eq_true h];exact hn
 ·rw[decide_eq_false h]
  exact⟨Bp.2 ⟨h1,h2,h3,B6a h4 hl (by omega),h5⟩,hn.2⟩
def gst (src:Int) (l:List Row) (self:Bool) (rc ls:List Int) (a:List Nod×Bool) (j:Nat):List Nod×Bool:=
 bif ls.getD j 0==src&&!self then a else bif rch rc j != 1 then (a.1,false) else
  (a.1.set (ls.getD j 0).toNat (tk (a.1.getD (ls.getD j 0).toNat Ae) l).2,bif (tk (a.1.getD (ls.getD j 0).toNat Ae) l).1 then a.2 else false)
def Ns (w:Wld) (src:Int) (l:List Row) (self:Bool) (rc:List Int):List Nod×Bool:=run (gst src l self rc (Fa w)) (Fa w).length (w.2.2.1,true)
def Aub {src:Int} {l:List Row} {self:Bool} {rc ls:List Int} {a:List Nod×Bool} {j m:Nat} (hl:Jq l=true) (h:NS a.1∧a.1.length=m) (hc:(ls.getD j 0).toNat<m):NS (gst src l self rc ls a j).1∧(gst src l self rc ls a j).1.length=m:=by
 unfold gst
 cases ls.getD j 0==src&&!self
 case true=>exact h
 cases rch rc j != 1 with
 |true=>exact h
 |false=>exact⟨h.1.set (Hsb (h.1.get (by have:=h.2;omega)) hl),by rw[cond_false,cond_false,Vy];exact h.2⟩
def Q0 {w:Wld} {x:Int} (h:x∈Fa w):0≤x∧x<(w.2.2.1.length:Int):=by
 obtain⟨j,h1,_,rfl⟩:=Wz.1 h
 omega
def Bla {w:Wld} (hr:RBd w.2.1) (hn:w.2.2.1.length≤2000000):(Fa w).length≤4000000000000:=Qs hn (Sm hr _)
def Fla {w:Wld} {src:Int} {l:List Row} {self:Bool} {rc:List Int} (hl:Jq l=true) (hn:NS w.2.2.1):NS (Ns w src l self rc).1∧(Ns w src l self rc).1.length=w.2.2.1.length:=
 Mo (λ _ (b:List Nod×Bool)=>NS b.1∧b.1.length=w.2.2.1.length) ⟨hn,rfl⟩ (λ j b hj hb=>Aub hl hb (by have:=Q0 (A4 (d:=0) hj);omega))
def O8a (w:Wld) (src:Int) (l:List Row) (self:Bool) (rc:List Int) (hr:RBd w.2.1) (hn:NS w.2.2.1) (hl:Jq l=true):
  Tot (λ k=>Bt k w src l self rc) (λ r=>r=((Ns w src l self rc).2,wN w (Ns w src l self rc).1)):=by
 have hll:=(F2a hl).1
 unfold Bt
 refine Isb (Bia w hr hn.1) ?_
 have hpl:=Bla hr hn.1
 have hc:=λ x=>Q0 (w:=w) (x:=x)
 have hrun:Ns w src l self rc=run (gst src l self rc (Fa w)) (Fa w).length (w.2.2.1,true):=rfl
 have inv:∀ n,n≤(Fa w).length→NS (run (gst src l self rc (Fa w)) n (w.2.2.1,true)).1∧(run (gst src l self rc (Fa w)) n (w.2.2.1,true)).1.length=w.2.2.1.length:=λ n hn'=>
  Mo (λ _ (b:List Nod×Bool)=>NS b.1∧b.1.length=w.2.2.1.length) ⟨hn,rfl⟩ (λ j b hj hb=>Aub hl hb (by have:=hc _ (A4 (d:=0) (show j<(Fa w).length by omega));omega))
 generalize Fa w=ls at *
 refine Ihb (Q:=λ r=>r=((Ns w src l self rc).2,wN w (Ns w src l self rc).1)) ?_ (by rintro r rfl;exact Igb rfl)
 refine Ipb (L:=λ k j (a:List Nod×Bool)=>Ao k src l self rc ls a.2 j (wN w a.1)) (Q:=λ r=>r=((Ns w src l self rc).2,wN w (Ns w src l self rc).1)) ls.length (λ j a=>a=run (gst src l self rc ls) j (w.2.2.1,true)) ?_ ?_ 0 (w.2.2.1,true) (Vs _) rfl
 ·rintro a rfl
  simp (disch:=omega) only [Ao,dF]
  exact Igb (by rw[hrun])
 ·rintro j a hj rfl next
  obtain⟨i1,i2⟩:=inv j (by omega)
  rw[Sn]at next
  generalize run (gst src l self rc ls) j (w.2.2.1,true)=a at *
  obtain⟨ns,g⟩:=a
  dsimp only at i1 i2
  have hci:=hc _ (A4 (d:=0) hj)
  obtain⟨m,em⟩:∃ m:Nat,ls.getD j 0=(m:Int):=⟨(ls.getD j 0).toNat,by omega⟩
  rw[em]at hci
  unfold gst at next
  rw[em,Vd]at next
  have e0:ns.getD m ((0:Int),(([],[]),([],[])))=ns.getD m Ae:=rfl
  have hm:=Py (i1.get (i:=m) (by omega))
  have h12:=Dfa (ns.getD m Ae) l hm.2.1.1 hll
  rw[show (bif decide ((O9 (ns.getD m Ae).2.2.1 l).length > 60) then (false,(ns.getD m Ae)) else (true,((ns.getD m Ae).1,(ns.getD m Ae).2.1,O9 (ns.getD m Ae).2.2.1 l,(ns.getD m Ae).2.2.2)))=tk (ns.getD m Ae) l from rfl]at h12
  have body:(bif (m:Int)==src&&!self then false else true)=true→Tot (λ k=>(C3 rc (j:Int)).bind λ r2=>cond (r2 != 1) (Ao k src l self rc ls false ((j:Int)+1) (wN w ns)) (cond (decide ((0:Int)≤(m:Int))) (cond (decide ((m:Int)<(length ns:Int))) ((Ho k (ns.getD m Ae) l).bind λ r5=>cond (!r5.1) (Ao k src l self rc ls false ((j:Int)+1) (wN w (ns.set m r5.2))) (Ao k src l self rc ls g ((j:Int)+1) (wN w (ns.set m r5.2)))) none) none)) (λ r=>r=((Ns w src l self rc).2,wN w (Ns w src l self rc).1)):=by
   intro hb
   have hb':((m:Int)==src&&!self)=false:=by
    cases hx:((m:Int)==src&&!self) with
    |false=>rfl
    |true=>rw[hx]at hb;cases hb
   rw[hb']at next
   simp only[Laa,Vm]
   cases h1:rch rc j != 1 with
   |true=>
    rw[h1]at next
    exact Ijb rfl (next _ rfl)
   |false=>
    rw[h1]at next
    refine Iib rfl (Ikb (by omega) (Ikb (by omega) (Ihb h12 ?_)))
    rintro q rfl
    dsimp only at next
    generalize tk (ns.getD m Ae) l=q at *
    cases h2:q.1 with
    |false=>rw[h2]at next;exact Ijb rfl (next _ rfl)
    |true=>rw[h2]at next;exact Iib rfl (next _ rfl)
  simp (disch:=omega) only [Ao,dT,Vd,w64,em,e0]
  cases hz:(m:Int)==src with
  |true=>
   rw[hz]at next body
   refine Ijb rfl ?_
   cases self
   ·exact Ijb rfl (next _ rfl)
   refine Iib rfl ?_
   have:=body rfl
   dsimp only[wN]at this ⊢
   simp (disch:=omega) only [dT]at this
   exact this
  |false=>
   rw[hz]at next body
   refine Iib rfl ?_
   have:=body rfl
   dsimp only[wN]at this ⊢
   simp (disch:=omega) only [dT]at this
   exact this
def Q9a {r:Row} (h:Na r=true):Jq [r]=true:=Lv.2 ⟨Khb _ _,λ x hx=>by rw[Vt.1 hx];exact h,by simp⟩
def X1:Jq []=true:=Lv.2 ⟨List.Pairwise.nil,(λ _ hx=>nomatch hx),Vs _⟩
def Xh (n:Nod):Nod:=(n.1,n.2.1,[],n.2.2.2)
def Elb (n:Nod) (q:List Row):Nod:=(n.1,n.2.1,n.2.2.1,q)
def O9a {n:Nod} (hn:NG n):NG (Xh n):=by
 obtain⟨h1,h2,h3,h4,h5⟩:=Bp.1 hn.1
 exact⟨Bp.2 ⟨h1,h2,h3,X1,h5⟩,hn.2⟩
def Avb {n:Nod} {q:List Row} (hn:NG n) (h:∀ r∈q,Na r=true) (hl:q.length≤60):NG (Elb n q):=by
 obtain⟨h1,h2,h3,h4,h5⟩:=Bp.1 hn.1
 exact⟨Bp.2 ⟨h,h2,h3,h4,hl⟩,hn.2⟩
def O5 (w:Wld) (i:Nat) (rc:List Int):List Nod×Bool:=Ns w (i:Int) (w.2.2.1.getD i Ae).2.2.1 false rc
def Sq (w:Wld) (i:Nat) (rc:List Int):Bool×Wld:=bif ((w.2.2.1.getD i Ae).2.2.1.length:Int)==0 then (false,w) else
 (true,wN w (bif (O5 w i rc).2&&!(Lh (Fa (wN w (O5 w i rc).1)) (i:Int)) then (O5 w i rc).1.set i (Xh ((O5 w i rc).1.getD i Ae)) else (O5 w i rc).1))
def V4a (w:Wld) (i:Nat) (rc:List Int) (hr:RBd w.2.1) (hn:NS w.2.2.1) (hi:i<w.2.2.1.length):Tot (λ k=>Gx k w (i:Int) rc) (λ r=>r=Sq w i rc):=by
 have hni:=hn.get hi
 have e0:w.2.2.1.getD i ((0:Int),(([],[]),([],[])))=w.2.2.1.getD i Ae:=rfl
 have hl:=(Bp.1 hni.1).2.2.2.1
 unfold Gx Sq
 simp (disch:=omega) only [dT,Vd,e0]
 cases hz:((w.2.2.1.getD i Ae).2.2.1.length:Int)==0
 case true=>exact Ijb rfl (Igb rfl)
 refine Iib rfl (Isb (O8a w (i:Int) _ false rc hr hn hl) ?_)
 obtain⟨p1,p2⟩:=Fla (w:=w) (src:=(i:Int)) (self:=false) (rc:=rc) hl hn
 rw[show Ns w (i:Int) (w.2.2.1.getD i Ae).2.2.1 false rc=O5 w i rc from rfl]at p1 p2 ⊢
 generalize O5 w i rc=a at *
 obtain⟨ns,g⟩:=a
 dsimp only at p1 p2 ⊢
 cases g
 ·exact Iib rfl (Igb rfl)
 refine Ijb rfl ?_
 refine Ihb (Q:=λ r=>r=Lh (Fa (wN w ns)) (i:Int)) ?_ ?_
 ·unfold Iw
  refine Isb (Bia (wN w ns) hr p1.1) ?_
  refine Isb (Tj _ _ (by have:=Bla (w:=wN w ns) hr p1.1;omega)) ?_
  exact Igb rfl
 ·rintro b rfl
  cases Lh (Fa (wN w ns)) (i:Int)
  case true=>exact Iib rfl (Igb rfl)
  have e1:ns.getD i ((0:Int),(([],[]),([],[])))=ns.getD i Ae:=rfl
  refine Ijb rfl ?_
  simp (disch:=omega) only [dT,Vd,e1]
  exact Igb rfl
def Pf (w:Wld) (i:Nat) (rc:List Int):List Nod×Bool:=Ns w (i:Int) ((w.2.2.1.getD i Ae).2.2.2.take 1) true rc
def X2 (w:Wld) (i:Nat) (rc:List Int):Bool×Wld:=bif ((w.2.2.1.getD i Ae).2.2.2.length:Int)==0 then (false,w) else
 (true,wN w (bif (Pf w i rc).2 then (Pf w i rc).1.set i (Elb ((Pf w i rc).1.getD i Ae) ((w.2.2.1.getD i Ae).2.2.2.drop 1)) else (Pf w i rc).1))
def Ou {q:List Row} (h:∀ r∈q,Na r=true):Jq (q.take 1)=true:=by
 cases q with
 |nil=>exact X1
 |cons r q=>exact Q9a (h r Yc)
def V5a (w:Wld) (i:Nat) (rc:List Int) (hr:RBd w.2.1) (hn:NS w.2.2.1) (hi:i<w.2.2.1.length):Tot (λ k=>Gw k w (i:Int) rc) (λ r=>r=X2 w i rc):=by
 have hni:=hn.get hi
 have e0:w.2.2.1.getD i ((0:Int),(([],[]),([],[])))=w.2.2.1.getD i Ae:=rfl
 obtain⟨hq,_,_,_,hq60⟩:=Bp.1 hni.1
 have hl:=Ou hq
 unfold Gw X2
 simp (disch:=omega) only [dT,Vd,e0]
 cases hz:((w.2.2.1.getD i Ae).2.2.2.length:Int)==0
 case true=>exact Ijb rfl (Igb rfl)
 have h1:=beq_eq_false_iff_ne.1 hz
 refine Iib rfl (Ikb (by omega) (Isb (O8a w (i:Int) _ true rc hr hn hl) ?_))
 obtain⟨p1,p2⟩:=Fla (w:=w) (src:=(i:Int)) (self:=true) (rc:=rc) hl hn
 rw[show Ns w (i:Int) ((w.2.2.1.getD i Ae).2.2.2.take (toNat 1)) true rc=Pf w i rc from rfl]
 rw[show Ns w (i:Int) ((w.2.2.1.getD i Ae).2.2.2.take 1) true rc=Pf w i rc from rfl]at p1 p2
 generalize Pf w i rc=a at *
 obtain⟨ns,g⟩:=a
 dsimp only at p1 p2 ⊢
 cases g
 ·exact Iib rfl (Igb rfl)
 refine Ijb rfl (Ikb (by omega) (Iob (by rw[We,Vi];omega) ?_))
 have e1:ns.getD i ((0:Int),(([],[]),([],[])))=ns.getD i Ae:=rfl
 simp (disch:=omega) only [dT,Vd,e1,Vz]
 exact Igb rfl
def V6a:∀ (k:Nat) (l:List ByteArray) (s:ByteArray),k<l.length→∃ j,j≤k∧(J2a l k s).2=j∧(J2a l k s).1.set j s=l.take j++s::((l.take k).drop j++l.drop (k+1))∧(∀ y∈(l.take k).drop j,tlt s y=true)∧(0<j→tlt s (l.getD (j-1) Ov)=false)
 |0,l,s,hk=>by
  refine⟨0,Vv _,rfl,?_,λ y hy=>by simp at hy,λ h=>by omega⟩
  cases l with
  |nil=>simp at hk
  |cons x l=>rfl
 |k+1,l,s,hk=>by
  unfold J2a
  cases hc:tlt s (l.getD k Ov) with
  |false=>
   rw[cond_false]
   refine⟨k+1,Vv _,rfl,?_,λ y hy=>?_,λ _=>hc⟩
   ·rw[Jub,Jqb,J5b,Vz]
    exact Jgb .. |>.trans (if_pos hk)
   ·rw[Jub,Jqb,J5b]at hy;cases hy
  |true=>
   rw[cond_true]
   obtain⟨j,h1,h2,h3,h4,h5⟩:=V6a k (l.set (k+1) (l.getD k Ov)) s (by rw[Vy];omega)
   have t1:(l.set (k+1) (l.getD k Ov)).take j=l.take j:=by rw[L2b (by omega)]
   have t2:(l.set (k+1) (l.getD k Ov)).take k=l.take k:=by rw[L2b (by omega)]
   have t3:(l.set (k+1) (l.getD k Ov)).drop (k+1)=l.getD k Ov::l.drop (k+2):=by
    rw[Ze (by rw[Vy];exact hk),List.getElem_set_self,List.drop_set_of_lt (by omega)]
   have t4:l.take (k+1)=l.take k++[l.getD k Ov]:=by
    rw[Wi (by omega),Vb,Vk (by omega),Yv]
   have hlk:(l.take k).length=k:=by rw[Vu];omega
   rw[t1,t2,t3]at h3
   rw[t2]at h4
   refine⟨j,by omega,h2,?_,λ y hy=>?_,λ h=>?_⟩
   ·rw[h3,t4,Kvb (by omega),Vp]
    rfl
   ·rw[t4,Kvb (by omega)]at hy
    rcases Vo.1 hy with hy|hy
    ·exact h4 y hy
    ·rw[Vt.1 hy];exact hc
   ·have:=h5 h
    rwa [Vb,K0b (by omega),← Vb]at this
def Dia {l:List ByteArray} {s:ByteArray}:∃ j,j≤l.length∧Arb l s=l.take j++s::l.drop j∧(∀ y∈l.drop j,tlt s y=true)∧(0<j→tlt s (l.getD (j-1) Ov)=false):=by
 obtain⟨j,h1,h2,h3,h4,h5⟩:=V6a l.length (l++[s]) s (by simp)
 have t1:(l++[s]).take l.length=l:=by rw[Kwb (Vv _),Yi]
 have t2:(l++[s]).drop (l.length+1)=[]:=Kib (by simp)
 have t3:(l++[s]).take j=l.take j:=Kwb h1
 rw[t1]at h4
 rw[t1,t2,t3,Wq]at h3
 refine⟨j,h1,?_,h4,λ h=>?_⟩
 ·unfold Arb
  rw[h2,h3]
 ·have:=h5 h
  rwa [Vb,Ye (by omega),← Vb]at this
def spl (l:List ByteArray) (s:ByteArray):List ByteArray:=bif C8a l s then l else Arb l s
def Fma {l:List ByteArray} {s y:ByteArray}:y∈spl l s↔y=s∨y∈l:=by
 unfold spl
 cases h:C8a l s with
 |true=>
  have:=Qr.1 h
  exact⟨.inr,λ h=>h.elim (λ e=>e ▸ this) id⟩
 |false=>
  obtain⟨j,_,e,_⟩:=Dia (l:=l) (s:=s)
  rw[cond_false,e,Vo,Vl]
  conv=>rhs;rw[← Wl j l,Vo]
  constructor
  ·rintro (h|h|h)
   ·exact .inr (.inl h)
   ·exact .inl h
   ·exact .inr (.inr h)
  ·rintro (h|h|h)
   ·exact .inr (.inl h)
   ·exact .inl h
   ·exact .inr (.inr h)
def Dja {l:List ByteArray} {s:ByteArray} (h:TS l):TS (spl l s):=by
 unfold spl
 cases hh:C8a l s
 case true=>exact h
 have hn:s∉l:=λ c=>by rw[Qr.2 c]at hh;cases hh
 obtain⟨j,h1,e,h4,h5⟩:=Dia (l:=l) (s:=s)
 rw[cond_false,e]
 have hs:∀ y∈l.take j,tlt y s=true:=by
  intro y hy
  by_cases hj:0<j
  ·have hlast:l.getD (j-1) Ov∈l:=A4 (by omega)
   have hlt:tlt (l.getD (j-1) Ov) s=true:=by
    cases hc:tlt (l.getD (j-1) Ov) s with
    |true=>rfl
    |false=>exact absurd (Aqa hc (h5 hj) ▸ hlast) hn
   obtain⟨i,hi,rfl⟩:=Zd.1 hy
   rw[Vu]at hi
   rw[List.getElem_take]
   by_cases hij:i=j-1
   ·subst hij
    rwa [Vb,Vk (by omega),Yv]at hlt
   ·have:=Zx.1 h i (j-1) (by omega) (by omega) (by omega)
    rw[Vb,Vk (by omega),Yv]at hlt
    exact Mv this hlt
  ·rw[show j=0 by omega,J5b]at hy;cases hy
 have hd:TS (l.drop j):=h.sublist (List.drop_sublist _ _)
 have ht:TS (l.take j):=h.sublist (Llb _ _)
 exact Zj.2 ⟨ht,Wg.2 ⟨h4,hd⟩,λ a ha b hb=>by
  rcases Vl.1 hb with rfl|hb
  ·exact hs a ha
  ·exact Mv (hs a ha) (h4 b hb)⟩
def V7a (l:List ByteArray) (s:ByteArray) (hl:l.length≤5000000):Tot (λ k=>Db k l s) (λ r=>r=spl l s):=by
 unfold Db spl
 refine Isb (O4a l s (by omega)) ?_
 cases C8a l s
 case true=>exact Ijb rfl (Igb rfl)
 have loop:∀ (k:Nat) (x:List ByteArray),k<x.length→x.length≤5000001→Tot (λ n=>Ek n s x (k:Int)) (λ r=>r=(s,(J2a x k s).1,((J2a x k s).2:Int))):=by
  intro k
  induction k with
  |zero=>
   intro x hk hx
   refine Tot.succ ?_
   simp (disch:=omega) only [Ek,dF]
   exact Igb rfl
  |succ k ih=>
   intro x hk hx
   refine Tot.succ ?_
   have e1:((k+1:Nat):Int)-1=(k:Int):=by omega
   have e0:x.getD k (⟨#[]⟩:ByteArray)=x.getD k Ov:=rfl
   simp (disch:=omega) only [Ek,dT,w64,e1,Vd,e0,Mya]
   unfold J2a
   refine Imb (λ h=>?_) (λ h=>?_)
   ·rw[h,cond_true]
    exact ih _ (by rw[Vy];omega) (by rw[Vy];omega)
   ·rw[h,cond_false]
    exact Igb rfl
 have n0:([]:List ByteArray).length=0:=rfl
 have n1:([s]:List ByteArray).length=1:=rfl
 have nl:(l++[s]).length=l.length+1:=by simp
 refine Iib rfl (Iob (by rw[n0];omega) ?_)
 simp only[Vz]
 refine Iob (by rw[n1];omega) ?_
 rw[nl,w64 (n:=((l.length+1:Nat):Int)-1) (by omega) (by omega),show ((l.length+1:Nat):Int)-1=(l.length:Int) by omega]
 refine Isb (loop l.length (l++[s]) (by omega) (by omega)) ?_
 obtain⟨i1,i2,_⟩:=Bda l.length (l++[s]) s
 simp (disch:=omega) only [dT,Vd]
 exact Igb rfl

abbrev Evt:=Int×Int×ByteArray×List Int×Int×List Int
def H6b (e:Evt):Prop:=Kf e.2.2.1∧e.2.2.2.1.length≤1000000000∧(-9223372036854775808≤e.2.2.2.2.1∧e.2.2.2.2.1≤9223372036854775807)∧e.2.2.2.2.2.length≤4000000000000
def Ioa (l:List Int):List Bool:=l.map (· == 1)
def crN (n:Nod) (kp:List Bool):Nod:=(n.1,Tl n.2.1 kp,n.2.2)
def Gdb {n:Nod} {kp:List Bool} (hn:NG n):NG (crN n kp):=Fca hn (Uqa hn.g)
def Dfb (w:Wld) (i:Nat) (s:ByteArray) (b:Int):Bool×Wld:=bif (I4a (w.2.2.1.getD i Ae) s b).2 then (true,(w.1,w.2.1,w.2.2.1.set i (I4a (w.2.2.1.getD i Ae) s b).1,w.2.2.2.1,w.2.2.2.2.1,spl w.2.2.2.2.2 s)) else (false,w)
def Cea (w:Wld) (e:Evt) (i:Nat):Bool×Wld:=
 bif e.1==3 then Lu w i e.2.2.1 e.2.2.2.2.2 else bif e.1==4 then Sq w i e.2.2.2.2.2 else bif e.1==5 then X2 w i e.2.2.2.2.2 else
 bif e.1==6 then (true,wN w (w.2.2.1.set i (G9b (w.2.2.1.getD i Ae)).1)) else
 bif e.1==7 then (true,wN w (w.2.2.1.set i (crN (w.2.2.1.getD i Ae) (Ioa e.2.2.2.2.2)))) else Dfb w i e.2.2.1 e.2.2.2.2.1
def V8a (w:Wld) (e:Evt) (i:Nat) (hei:e.2.1=(i:Int)) (he:H6b e) (hr:Il w.2.1 w.1=true) (hn:NS w.2.2.1) (hi:i<w.2.2.1.length) (hsp:w.2.2.2.2.2.length≤2000000):
  Tot (λ k=>B1 k w e) (λ r=>r=Cea w e i):=by
 have hni:=hn.get hi
 have e0:w.2.2.1.getD i ((0:Int),(([],[]),([],[])))=w.2.2.1.getD i Ae:=rfl
 obtain⟨he1,he2,he3,he4⟩:=he
 unfold B1 Cea
 cases e.1==3 with
 |true=>
  rw[hei]
  refine Ijb rfl (Isb (O7a w i _ _ hr hn hi) ?_)
  exact Igb rfl
 |false=>
  refine Iib rfl ?_
  cases e.1==4 with
  |true=>
   rw[hei]
   refine Ijb rfl (Isb (V4a w i _ (Mn hr) hn hi) ?_)
   exact Igb rfl
  |false=>
   refine Iib rfl ?_
   cases e.1==5 with
   |true=>
    rw[hei]
    refine Ijb rfl (Isb (V5a w i _ (Mn hr) hn hi) ?_)
    exact Igb rfl
   |false=>
    refine Iib rfl ?_
    cases e.1==6 with
    |true=>
     refine Ijb rfl ?_
     simp (disch:=omega) only [hei,dT,Vd,e0]
     refine Isb (Uua _ hni.g) ?_
     exact Igb rfl
    |false=>
     refine Iib rfl ?_
     cases e.1==7 with
     |true=>
      refine Ijb rfl (Ihb (Q:=λ r=>r=(Ioa e.2.2.2.2.2,w,e)) ?_ ?_)
      ·refine Ipb (L:=λ k j (s:List Bool)=>Cu k s j w e) (Q:=λ r=>r=(Ioa e.2.2.2.2.2,w,e)) e.2.2.2.2.2.length (λ j s=>s=Ioa (e.2.2.2.2.2.take j)) ?_ ?_ 0 [] (Vs _) rfl
       ·rintro s rfl
        simp (disch:=omega) only [Cu,dF]
        exact Igb (by rw[Yi])
       ·rintro j s hj rfl next
        simp (disch:=omega) only [Cu,dT,Vd,w64]
        have hk:(Ioa (e.2.2.2.2.2.take j)).length=j:=by unfold Ioa;rw[Wc,Vu];omega
        refine Iob (by rw[hk,Kob];omega) (next _ ?_)
        unfold Ioa
        rw[Wi hj,J8b,Vb,Vk hj]
        rfl
      ·rintro r rfl
       simp (disch:=omega) only [hei,dT,Vd,e0]
       refine Isb (Uta _ _ hni.g (by unfold Ioa;rw[Wc];exact he4)) ?_
       exact Igb rfl
     |false=>
      refine Iib rfl ?_
      simp (disch:=omega) only [hei,dT,Vd,e0]
      refine Isb (Th _ _ _ (Py hni) he3.2 he3.1) ?_
      unfold Dfb
      rw[cond_false,cond_false,cond_false,cond_false,cond_false]
      generalize I4a (w.2.2.1.getD i Ae) e.2.2.1 e.2.2.2.2.1=q
      cases h:q.2 with
      |true=>
       refine Ijb rfl (Isb (V7a _ _ (by omega)) ?_)
       exact Igb rfl
      |false=>exact Iib rfl (Igb rfl)
def Ipa (w:Wld) (i wt:Int):Bool×Wld:=bif !(inR i 0 ((w.1.length:Int)-1)) then (false,w) else bif !(inR wt 1 1000) then (false,w) else
 (decide ((L5a w.2.1 (wgt w.1 i.toNat wt)).2≥0),(wgt w.1 i.toNat wt,(L5a w.2.1 (wgt w.1 i.toNat wt)).1,w.2.2))
def V9a (w:Wld) (i wt:Int) (hr:Il w.2.1 w.1=true):Tot (λ k=>H2 k w i wt) (λ r=>r=Ipa w i wt):=by
 have h12:=(Fc.1 (Cb.1 hr).1).2.2.2
 unfold H2 Ipa
 rw[w64 (n:=(w.1.length:Int)-1) (by omega) (by omega)]
 simp only[Nj,Vm]
 cases h1:inR i 0 ((w.1.length:Int)-1)
 ·exact Ijb rfl (Igb rfl)
 refine Iib rfl ?_
 cases h2:inR wt 1 1000
 ·exact Ijb rfl (Igb rfl)
 refine Iib rfl ?_
 obtain⟨i0,i1⟩:=Co.1 h1
 obtain⟨w0,w1⟩:=Co.1 h2
 simp (disch:=omega) only [dT]
 refine Isb (Una (r:=w.2.1) (l:=wgt w.1 i.toNat wt) (F6a hr (by omega) w0 w1)) ?_
 exact Igb rfl
def W8a (r:Int×Wld):Bool×Wld:=bif r.1 != 2 then (r.1 != 3,r.2) else (false,r.2)
def doW (w:Wld) (e:Evt):Bool×Wld:=
 bif e.1==1 then W8a (ask w e.2.2.1 ((0,0,0),false,e.2.2.2.1) e.2.2.2.2.1 e.2.2.2.2.2) else
 bif e.1==2 then W8a (ask w e.2.2.1 ((0,0,0),true,[]) e.2.2.2.2.1 e.2.2.2.2.2) else
 bif e.1==3||(e.1==4||(e.1==5||(e.1==6||(e.1==7||e.1==8)))) then (bif inR e.2.1 0 ((w.2.2.1.length:Int)-1) then Cea w e e.2.1.toNat else (false,w)) else
 bif e.1==9 then Ipa w e.2.1 e.2.2.2.2.1 else (false,w)
def Geb (w:Wld) (e:Evt) (he:H6b e) (hr:Il w.2.1 w.1=true) (hn:NS w.2.2.1) (hst:G9 w.2.2.2.1=true) (hw:w.2.2.2.2.1.length≤2000000) (hsp:w.2.2.2.2.2.length≤2000000):
  Tot (λ k=>Ik k w e) (λ r=>r=doW w e):=by
 have hnl:=hn.1
 have node:∀ {f:Nat→Option (Bool×Wld)} ,Tot (λ k=>(A6 e.2.1 0 (wrap .i64 ((length w.2.2.1:Int)-1))).bind λ r4=>cond r4 ((B1 k w e).bind λ r5=>some (r5.1,r5.2)) (some (false,w))) (λ r=>r=bif inR e.2.1 0 ((w.2.2.1.length:Int)-1) then Cea w e e.2.1.toNat else (false,w)):=by
  intro f
  rw[w64 (n:=(w.2.2.1.length:Int)-1) (by omega) (by omega)]
  simp only[Nj,Vm]
  cases h1:inR e.2.1 0 ((w.2.2.1.length:Int)-1)
  ·exact Iib rfl (Igb rfl)
  obtain⟨i0,i1⟩:=Co.1 h1
  refine Ijb rfl (Isb (V8a w e e.2.1.toNat (by omega) he hr hn (by omega) hsp) ?_)
  exact Igb rfl
 have answer:∀ (q:Int×Wld),Tot (λ _=>cond (q.1 != 2) (some (q.1 != 3,q.2)) (some (false,q.2))) (λ r=>r=W8a q):=by
  intro q
  unfold W8a
  cases q.1 != 2<;>exact Igb rfl
 unfold Ik doW
 cases e.1==1 with
 |true=>
  refine Ijb rfl (Iob (by have:=he.2.1;rw[Vi];omega) (Isb (V2a w e.2.2.1 ((0,0,0),false,e.2.2.2.1) e.2.2.2.2.1 e.2.2.2.2.2 hr hn hst he.1 (λ h=>by cases h) hw) ?_))
  exact answer _
 |false=>
  refine Iib rfl ?_
  cases e.1==2 with
  |true=>
   refine Ijb rfl (Isb (V2a w e.2.2.1 ((0,0,0),true,[]) e.2.2.2.2.1 e.2.2.2.2.2 hr hn hst he.1 (λ _=>rfl) hw) ?_)
   exact answer _
  |false=>
   refine Iib rfl ?_
   cases e.1==3
   case true=>exact Ijb rfl (node (f:=λ _=>none))
   refine Iib rfl ?_
   cases e.1==4
   case true=>exact Ijb rfl (node (f:=λ _=>none))
   refine Iib rfl ?_
   cases e.1==5
   case true=>exact Ijb rfl (node (f:=λ _=>none))
   refine Iib rfl ?_
   cases e.1==6
   case true=>exact Ijb rfl (node (f:=λ _=>none))
   refine Iib rfl ?_
   cases e.1==7
   case true=>exact Ijb rfl (node (f:=λ _=>none))
   refine Iib rfl ?_
   cases e.1==8
   case true=>exact Ijb rfl (node (f:=λ _=>none))
   refine Iib rfl ?_
   cases e.1==9 with
   |true=>
    refine Ijb rfl (Isb (V9a w _ _ hr) ?_)
    exact Igb rfl
   |false=>exact Iib rfl (Igb rfl)

end Go.Proofs.YtiiekghlhfbmmaaGreat.Vf
