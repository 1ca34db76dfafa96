import Derived.Test.YtiiekghlhfbmmaaGreatMal
set_option linter.all false
namespace Go.Proofs.YtiiekghlhfbmmaaGreat.Vf
open Go
open List (length getD)
open Int (toNat)
open Go.IntKind (wrap)
open BitVec (ofInt)
def Wm:=@Bool.and_false
def Yq:=@Bool.not_true
def Zg:=@Bool.not_false
def Zs:=@List.takeWhile_cons
def Zza:=@List.filter_cons
def Jhb:=@Bool.false_or
def Jnb:=@List.takeWhile_append_dropWhile
def Jxb:=@List.mem_filter
def Jyb:=@Bool.eq_iff_iff
def K5b:=@List.dropWhile_cons
def L5b:=@List.filter_sublist
def Ljb:=@List.findIdx?_eq_none_iff
def Lmb:=@Go.IntWalk.u32_in
def Lob:=@List.append_cancel_left
def Lrb:=@List.takeWhile_sublist
def Lvb:=@Bool.true_or
def Lwb:=@BitVec.xor_comm

def nOk (x:Nmd):Bool:=As x.1&&!(decide ((x.2.length:Int) > 400))
def chn:Option ByteArray→List Nmd→Bool
 |_,[]=>true
 |none,r::l=>nOk r&&chn (some r.1) l
 |some q,r::l=>nOk r&&(tlt q r.1&&chn (some r.1) l)
def Iz (l:List Nmd):Bool:=chn none l&&decide ((l.length:Int)≤60)
def Al (d:Dsk):Bool:=Iz d.1&&Iz d.2
def Oo (l:List Nmd):Prop:=∀ x∈l,Kf x.1
def Aza (d:Dsk):Prop:=Oo d.1∧Oo d.2
def Xt (l:List Nmd):Nat→Option ByteArray
 |0=>none
 |i+1=>some (l.getD i Ed).1
def Nca (l:List Nmd) (i:Nat) (h:i<l.length):chn (Xt l i) (l.drop i)=(nOk (l.getD i Ed)&&(bif decide (0<i) then tlt (l.getD (i-1) Ed).1 (l.getD i Ed).1 else true)&&chn (Xt l (i+1)) (l.drop (i+1))):=by
 rw[Au (d:=Ed) h]
 cases i with
 |zero=>simp[Xt,chn]
 |succ i=>simp[Xt,chn,M2b]
def Hka (l:List Nmd) (hf:l.length≤1000000000000) (hs:Oo l):∀ (n i:Nat),l.length-i=n→i≤l.length→
  Tot (λ k=>Er k l l (l.length:Int) (i:Int)) (λ r=>r=bif chn (Xt l i) (l.drop i) then .inr l else .inl false):=by
 intro n
 induction n with
 |zero=>
  intro i hn hi
  refine Tot.succ ?_
  simp only[Er]
  refine Ilb (by omega) (Igb ?_)
  rw[Wp (by omega)]
  cases Xt l i<;>rfl
 |succ n ih=>
  intro i hn hi
  have hlt:i<l.length:=by omega
  refine Tot.succ ?_
  simp only[Er]
  refine Ikb (by omega) (Ikb (by omega) (Ikb (by omega) ?_))
  rw[show toNat (i:Int)=i from Vd i,w64 (n:=(i:Int)+1) (by omega) (by omega),Nca l i hlt]
  have h1:=ih (i+1) (by omega) (by omega)
  have e:(((i+1:Nat)):Int)=(i:Int)+1:=by omega
  rw[e]at h1
  have e0:l.getD i ((⟨#[]⟩:ByteArray),([]:List Int))=l.getD i Ed:=rfl
  rw[e0]
  refine Isb (Qh (l.getD i Ed).1 (hs _ (A4 hlt))) ?_
  cases hb:As (l.getD i Ed).1
  ·exact Ijb rfl (Igb (by rw[show nOk (l.getD i Ed)=false by unfold nOk;rw[hb];rfl];rfl))
  refine Iib rfl ?_
  refine Inb (λ h4=>Igb (by rw[show nOk (l.getD i Ed)=false by unfold nOk;rw[decide_eq_true h4,hb];rfl];rfl)) (λ h4=>?_)
  have hnk:nOk (l.getD i Ed)=true:=by unfold nOk;rw[hb,decide_eq_false h4];rfl
  rw[hnk,Vw]
  refine Inb (λ h0=>?_) (λ h0=>?_)
  ·rw[w64 (n:=(i:Int)-1) (by omega) (by omega)]
   refine Ikb (by omega) (Ikb (by omega) ?_)
   rw[show toNat ((i:Int)-1)=i-1 by omega,decide_eq_true (show 0<i by omega),cond_true]
   refine Imb (λ ht=>?_) (λ ht=>?_)
   ·have ht':(!(tlt (l.getD (i-1) Ed).1 (l.getD i Ed).1))=true:=ht
    rw[Vx]at ht'
    exact Igb (by rw[ht'];rfl)
   ·have ht':(!(tlt (l.getD (i-1) Ed).1 (l.getD i Ed).1))=false:=ht
    rw[Wj]at ht'
    rw[ht',Vw]
    exact h1
  ·rw[decide_eq_false (show ¬ 0<i by omega),cond_false,Vw]
   exact h1
def Hla (l:List Nmd) (hf:l.length≤1000000000000) (hs:Oo l):∀ (n i:Nat),l.length-i=n→i≤l.length→
  Tot (λ k=>G0 k l (i:Int)) (λ r=>r=bif chn (Xt l i) (l.drop i) then .inr l else .inl false):=by
 intro n
 induction n with
 |zero=>
  intro i hn hi
  refine Tot.succ ?_
  simp only[G0]
  refine Ilb (by omega) (Igb ?_)
  rw[Wp (by omega)]
  cases Xt l i<;>rfl
 |succ n ih=>
  intro i hn hi
  have hlt:i<l.length:=by omega
  refine Tot.succ ?_
  simp only[G0]
  refine Ikb (by omega) (Ikb (by omega) (Ikb (by omega) ?_))
  rw[show toNat (i:Int)=i from Vd i,w64 (n:=(i:Int)+1) (by omega) (by omega),Nca l i hlt]
  have h1:=ih (i+1) (by omega) (by omega)
  have e:(((i+1:Nat)):Int)=(i:Int)+1:=by omega
  rw[e]at h1
  have e0:l.getD i ((⟨#[]⟩:ByteArray),([]:List Int))=l.getD i Ed:=rfl
  rw[e0]
  refine Isb (P6 (l.getD i Ed).1 (hs _ (A4 hlt))) ?_
  cases hb:As (l.getD i Ed).1
  ·exact Ijb rfl (Igb (by rw[show nOk (l.getD i Ed)=false by unfold nOk;rw[hb];rfl];rfl))
  refine Iib rfl (Ikb (by omega) (Ikb (by omega) ?_))
  refine Inb (λ h4=>Igb (by rw[show nOk (l.getD i Ed)=false by unfold nOk;rw[decide_eq_true h4,hb];rfl];rfl)) (λ h4=>?_)
  have hnk:nOk (l.getD i Ed)=true:=by unfold nOk;rw[hb,decide_eq_false h4];rfl
  rw[hnk,Vw]
  refine Inb (λ h0=>?_) (λ h0=>?_)
  ·rw[w64 (n:=(i:Int)-1) (by omega) (by omega)]
   refine Ikb (by omega) (Ikb (by omega) (Ikb (by omega) (Ikb (by omega) ?_)))
   rw[show toNat ((i:Int)-1)=i-1 by omega,decide_eq_true (show 0<i by omega),cond_true]
   refine Imb (λ ht=>?_) (λ ht=>?_)
   ·have ht':(!(tlt (l.getD (i-1) Ed).1 (l.getD i Ed).1))=true:=ht
    rw[Vx]at ht'
    exact Igb (by rw[ht'];rfl)
   ·have ht':(!(tlt (l.getD (i-1) Ed).1 (l.getD i Ed).1))=false:=ht
    rw[Wj]at ht'
    rw[ht',Vw]
    exact h1
  ·rw[decide_eq_false (show ¬ 0<i by omega),cond_false,Vw]
   exact h1
def Hma (l:List Nmd) (hf:l.length≤1000000000000) (hs:Oo l):Tot (λ k=>E6 k l) (λ r=>r=Iz l):=by
 unfold E6 Iz
 refine Isb (Hka l hf hs _ 0 rfl (Vs _)) ?_
 rw[Ya]
 show Tot _ (λ r=>r=(chn none l&&_))
 cases hc:chn none l with
 |true=>rw[show chn (Xt l 0) l=true from hc];exact Igb (by rw[Vw])
 |false=>rw[show chn (Xt l 0) l=false from hc];exact Igb rfl
def Hna (l:List Nmd) (hf:l.length≤1000000000000) (hs:Oo l):Tot (λ k=>Fi k l) (λ r=>r=Iz l):=by
 unfold Fi Iz
 refine Isb (Hla l hf hs _ 0 rfl (Vs _)) ?_
 rw[Ya]
 show Tot _ (λ r=>r=(chn none l&&_))
 cases hc:chn none l with
 |true=>rw[show chn (Xt l 0) l=true from hc];exact Igb (by rw[Vw])
 |false=>rw[show chn (Xt l 0) l=false from hc];exact Igb rfl
def Uk (d:Dsk) (hf:Xza d) (hs:Aza d):Tot (λ k=>Cf k d) (λ r=>r=Al d):=by
 unfold Cf Al
 refine Isb (Hma d.1 hf.1.1 hs.1) ?_
 cases h:Iz d.1
 ·exact Iib rfl (Igb rfl)
 refine Ijb rfl (Isb (Hma d.2 hf.2.1 hs.2) ?_)
 exact Igb (by rw[Vw])
def plc (l:List Nmd) (s:ByteArray):Nat:=(l.takeWhile (λ y=>tlt y.1 s)).length
def ins (l:List Nmd) (x:Nmd):List Nmd:=l.take (plc l x.1)++[x]++l.drop (plc l x.1)
def Aab (l:List Nmd) (s:ByteArray):plc l s≤l.length:=(Lrb _).length_le
def Kma (l:List Nmd) (s:ByteArray) (b:List Int) (hf:l.length≤1000000000000):∀ (n i:Nat),l.length-i=n→i≤l.length→
  Tot (λ k=>Ka k l (i:Int) s b) (λ r=>r=(l,((i+plc (l.drop i) s:Nat):Int),s,b)):=by
 intro n
 induction n with
 |zero=>
  intro i hd hi
  refine Tot.succ ?_
  simp only[Ka]
  refine Ilb (by omega) (Igb ?_)
  rw[Wp (by omega)]
  rfl
 |succ n ih=>
  intro i hd hi
  have hlt:i<l.length:=by omega
  refine Tot.succ ?_
  simp only[Ka]
  refine Ikb (by omega) (Ikb (by omega) (Ikb (by omega) ?_))
  rw[show toNat (i:Int)=i from Vd i,w64 (n:=(i:Int)+1) (by omega) (by omega),Au (d:=Ed) hlt]
  have e0:l.getD i ((⟨#[]⟩:ByteArray),([]:List Int))=l.getD i Ed:=rfl
  rw[e0]
  have e1:plc (l.getD i Ed::l.drop (i+1)) s=if tlt (l.getD i Ed).1 s then plc (l.drop (i+1)) s+1 else 0:=by
   unfold plc
   rw[Zs]
   split<;>rfl
  rw[e1]
  refine Imb (λ h=>?_) (λ h=>?_)
  ·have h':tlt (l.getD i Ed).1 s=true:=h
   rw[if_pos h']
   refine(ih (i+1) (by omega) (by omega)).mono ?_
   rintro r rfl
   rw[show i+1+plc (l.drop (i+1)) s=i+(plc (l.drop (i+1)) s+1) by omega]
  ·have h':¬ (tlt (l.getD i Ed).1 s=true):=by
    have:tlt (l.getD i Ed).1 s=false:=h
    rw[this];simp
   rw[if_neg h']
   exact Igb rfl
def Nda (l:List Nmd) (x:Nmd) (hf:l.length≤1000000000000):Tot (λ k=>Lm k l x) (λ r=>r=ins l x):=by
 unfold Lm ins
 refine Ihb (Kma l x.1 x.2 hf _ 0 rfl (Vs _)) ?_
 intro r hr
 rw[Ya,Wk]at hr
 subst hr
 have hp:=Aab l x.1
 dsimp only
 refine Ikb (by omega) (Ikb (by omega) ?_)
 rw[show toNat ((plc l x.1:Nat):Int)=plc l x.1 from Vd _]
 refine Iob (by simp only[Vi,Vu];omega) ?_
 refine Iob (by simp only[Ve,Vi,Vu,Vc];omega) ?_
 refine Ikb (by omega) (Ikb (by omega) (Iob (by simp only[Ve,Vi,Vu,We,Vc];omega) (Igb ?_)))
 rw[Vz]

def Kna (l:List Int) (h:l.length≤1000000000000):(length ([]:List Int)+l.length)*1≤140737488355328:=by
 simp only[Vi]
 omega
def B0a (l:List Nmd) (hf:Eta l):∀ (n i:Nat) (acc:List Nmd),l.length-i=n→i≤l.length→acc.length≤i→
  Tot (λ k=>Cd k l acc (i:Int)) (λ r=>r=acc++l.drop i):=by
 obtain⟨h1,h2⟩:=hf
 intro n
 induction n with
 |zero=>
  intro i acc hd hi ha
  refine Tot.succ ?_
  simp only[Cd]
  refine Ilb (by omega) (Igb ?_)
  rw[Wp (by omega),Wq]
 |succ n ih=>
  intro i acc hd hi ha
  have hlt:i<l.length:=by omega
  refine Tot.succ ?_
  simp only[Cd]
  refine Ikb (by omega) (Ikb (by omega) (Ikb (by omega) (Ikb (by omega) (Ikb (by omega) ?_))))
  rw[show toNat (i:Int)=i from Vd i,w64 (n:=(i:Int)+1) (by omega) (by omega),Au (d:=Ed) hlt]
  have e0:l.getD i ((⟨#[]⟩:ByteArray),([]:List Int))=l.getD i Ed:=rfl
  rw[e0]
  have hb:=h2 _ (A4 (d:=Ed) hlt)
  refine Iob (Kna _ hb) (Iob (by simp only[Vc,Vi];omega) ?_)
  refine(ih (i+1) (acc++[l.getD i Ed]) (by omega) (by omega) (by simp only[Ve,Vc,Vi];omega)).mono ?_
  rintro r rfl
  rw[Vp]
  rfl
def P7 (l:List Nmd) (hf:Eta l):Tot (λ k=>Bg k l) (λ r=>r=l):=by
 unfold Bg
 refine Ihb (B0a l hf _ 0 [] rfl (Vs _) (Vs _)) ?_
 intro r hr
 rw[Ya,Vz]at hr
 exact Igb hr
def Lx (d:Dsk) (hf:Xza d):Tot (λ k=>A7 k d) (λ r=>r=d):=by
 unfold A7
 refine Isb (P7 d.1 hf.1) ?_
 refine Isb (P7 d.2 hf.2) ?_
 exact Igb rfl
def Tna (l:List Nmd) (s:ByteArray) (hf:l.length≤1000000000000):∀ (n i:Nat),l.length-i=n→i≤l.length→
  Tot (λ k=>J3 k l s (i:Int)) (λ r=>r=match fnd (l.drop i) s with|some j => .inl ((i+j:Nat):Int)|none => .inr ()):=by
 intro n
 induction n with
 |zero=>
  intro i hd hi
  refine Tot.succ ?_
  simp only[J3]
  refine Ilb (by omega) (Igb ?_)
  rw[Wp (by omega)]
  rfl
 |succ n ih=>
  intro i hd hi
  have hlt:i<l.length:=by omega
  refine Tot.succ ?_
  simp only[J3]
  refine Ikb (by omega) (Ikb (by omega) (Ikb (by omega) ?_))
  rw[show toNat (i:Int)=i from Vd i,w64 (n:=(i:Int)+1) (by omega) (by omega),Au (d:=Ed) hlt]
  have e0:l.getD i ((⟨#[]⟩:ByteArray),([]:List Int))=l.getD i Ed:=rfl
  rw[e0]
  have e1:fnd (l.getD i Ed::l.drop (i+1)) s=if teq (l.getD i Ed).1 s then some 0 else (fnd (l.drop (i+1)) s).map (· + 1):=by
   unfold fnd
   rw[Kfb]
  rw[e1]
  refine Imb (λ h=>?_) (λ h=>?_)
  ·have h':teq (l.getD i Ed).1 s=true:=h
   rw[if_pos h']
   exact Igb rfl
  ·have h':¬ (teq (l.getD i Ed).1 s=true):=by
    have:teq (l.getD i Ed).1 s=false:=h
    rw[this];simp
   rw[if_neg h']
   refine(ih (i+1) (by omega) (by omega)).mono ?_
   rintro r rfl
   cases fnd (l.drop (i+1)) s with
   |none=>rfl
   |some j=>
    show Sum.inl _=Sum.inl _
    rw[show i+1+j=i+(j+1) by omega]
def Daa (l:List Nmd) (s:ByteArray) (hf:l.length≤1000000000000):Tot (λ k=>D6 k l s) (λ r=>r=Hja l s):=by
 unfold D6 Hja
 refine Isb (Tna l s hf _ 0 rfl (Vs _)) ?_
 rw[Ya]
 cases fnd l s with
 |none=>exact Igb rfl
 |some j=>
  refine Igb ?_
  rw[Wk]
def cut (l:List Nmd) (s:ByteArray):List Nmd:=l.filter (λ x => !(teq x.1 s))
def Poa (l:List Nmd) (s:ByteArray) (hf:l.length≤1000000000000):∀ (n i:Nat) (acc:List Nmd),l.length-i=n→i≤l.length→acc.length≤i→
  Tot (λ k=>Hb k l s acc (i:Int)) (λ r=>r=acc++cut (l.drop i) s):=by
 intro n
 induction n with
 |zero=>
  intro i acc hd hi ha
  refine Tot.succ ?_
  simp only[Hb]
  refine Ilb (by omega) (Igb ?_)
  rw[Wp (by omega)]
  simp[cut]
 |succ n ih=>
  intro i acc hd hi ha
  have hlt:i<l.length:=by omega
  refine Tot.succ ?_
  simp only[Hb]
  refine Ikb (by omega) (Ikb (by omega) (Ikb (by omega) ?_))
  rw[show toNat (i:Int)=i from Vd i,w64 (n:=(i:Int)+1) (by omega) (by omega),Au (d:=Ed) hlt]
  have e0:l.getD i ((⟨#[]⟩:ByteArray),([]:List Int))=l.getD i Ed:=rfl
  rw[e0]
  have e1:cut (l.getD i Ed::l.drop (i+1)) s=if (!(teq (l.getD i Ed).1 s))=true then l.getD i Ed::cut (l.drop (i+1)) s else cut (l.drop (i+1)) s:=by
   unfold cut
   rw[Zza]
  rw[e1]
  refine Imb (λ h=>?_) (λ h=>?_)
  ·have h':(!(teq (l.getD i Ed).1 s))=true:=h
   rw[if_pos h']
   refine Ikb (by omega) (Ikb (by omega) (Iob (by simp only[Vc,Vi];omega) ?_))
   refine(ih (i+1) (acc++[l.getD i Ed]) (by omega) (by omega) (by simp only[Ve,Vc,Vi];omega)).mono ?_
   rintro r rfl
   rw[Vp]
   rfl
  ·have h':¬ ((!(teq (l.getD i Ed).1 s))=true):=by
    have:(!(teq (l.getD i Ed).1 s))=false:=h
    rw[this];simp
   rw[if_neg h']
   exact ih (i+1) acc (by omega) (by omega) (by omega)
def Toa (l:List Nmd) (s:ByteArray) (hf:l.length≤1000000000000):Tot (λ k=>Iq k l s) (λ r=>r=cut l s):=by
 unfold Iq
 refine Ihb (Poa l s hf _ 0 [] rfl (Vs _) (Vs _)) ?_
 intro r hr
 rw[Ya,Vz]at hr
 exact Igb hr
def Qk (d:Dsk) (hf:Xza d) (hs:Aza d):Tot (λ k=>Bm k d) (λ r=>r=Al d):=by
 unfold Bm Al
 refine Isb (Hna d.1 hf.1.1 hs.1) ?_
 cases h:Iz d.1
 ·exact Iib rfl (Igb rfl)
 refine Ijb rfl (Isb (Hna d.2 hf.2.1 hs.2) ?_)
 exact Igb (by rw[Vw])

def rdN (l:List Nmd) (s:ByteArray):List Int×Bool:=match fnd l s with
 |some i=>((l.getD i Ed).2,true)
 |none=>([],false)
def Nea (d:Dsk) (s:ByteArray) (hf:Eta d.1):Tot (λ k=>F6 k d s) (λ r=>r=rdN d.1 s):=by
 unfold F6 rdN
 refine Isb (Nba d.1 s hf.1) ?_
 unfold Hja
 have hl1:=hf.1
 cases h:fnd d.1 s with
 |none=>exact Ikb (by decide) (Igb rfl)
 |some i=>
  have hl:=(Oa h).1
  dsimp only
  refine Ilb (by omega) (Ikb (by omega) (Ikb (by omega) ?_))
  rw[show toNat (i:Int)=i from Vd i]
  have hb:=hf.2 _ (A4 (d:=Ed) hl)
  refine Isb (Itb (Q:=λ r=>r=(d.1.getD i Ed).2) (Nb _ hb) rfl) ?_
  exact Igb rfl
def Nfa (d:Dsk) (s:ByteArray) (hf:Eta d.1):Tot (λ k=>F7 k d s) (λ r=>r=rdN d.1 s):=by
 unfold F7 rdN
 refine Isb (Daa d.1 s hf.1) ?_
 unfold Hja
 have hl1:=hf.1
 cases h:fnd d.1 s with
 |none=>exact Ikb (by decide) (Igb rfl)
 |some i=>
  have hl:=(Oa h).1
  dsimp only
  refine Ilb (by omega) (Ikb (by omega) (Ikb (by omega) ?_))
  rw[show toNat (i:Int)=i from Vd i]
  have hb:=hf.2 _ (A4 (d:=Ed) hl)
  exact Iob (Kna _ hb) (Igb rfl)

def D5 (l:List Nmd):Prop:=l.Pairwise (λ a b=>tlt a.1 b.1=true)
def Koa:∀ (p:Option ByteArray) (l:List Nmd),chn p l=true↔D5 l∧(∀ r∈l,nOk r=true)∧(∀ q,p=some q→∀ r∈l,tlt q r.1=true)
 |p,[]=>by
  have:chn p []=true:=by cases p<;>rfl
  simp[this,D5]
 |none,r::l=>by
  simp only[chn,Va,Koa (some r.1) l,D5,Wg]
  constructor
  ·rintro⟨h1,h2,h3,h4⟩
   exact⟨⟨λ a ha=>h4 _ rfl a ha,h2⟩,λ a ha=>by rcases Vl.1 ha with rfl|ha;exact h1;exact h3 a ha,λ q hq=>by cases hq⟩
  ·rintro⟨⟨h1,h2⟩,h3,_⟩
   exact⟨h3 r (by simp),h2,λ a ha=>h3 a (Vh _ ha),λ q hq a ha=>by cases hq;exact h1 a ha⟩
 |some q,r::l=>by
  simp only[chn,Va,Koa (some r.1) l,D5,Wg]
  constructor
  ·rintro⟨h1,h0,h2,h3,h4⟩
   refine⟨⟨λ a ha=>h4 _ rfl a ha,h2⟩,λ a ha=>by rcases Vl.1 ha with rfl|ha;exact h1;exact h3 a ha,λ q' hq a ha=>?_⟩
   cases hq
   rcases Vl.1 ha with rfl|ha
   ·exact h0
   ·exact Mv h0 (h4 _ rfl a ha)
  ·rintro⟨⟨h1,h2⟩,h3,h4⟩
   exact⟨h3 r (by simp),h4 q rfl r (by simp),h2,λ a ha=>h3 a (Vh _ ha),λ q' hq a ha=>by cases hq;exact h1 a ha⟩
def Aj {l:List Nmd}:Iz l=true↔D5 l∧(∀ r∈l,nOk r=true)∧l.length≤60:=by
 unfold Iz
 simp only[Va,Koa,decide_eq_true_eq]
 constructor
 ·rintro⟨⟨h1,h2,_⟩,h3⟩
  exact⟨h1,h2,by omega⟩
 ·rintro⟨h1,h2,h3⟩
  exact⟨⟨h1,h2,λ q hq=>by cases hq⟩,by omega⟩
def Ql {x:Nmd}:nOk x=true↔As x.1=true∧x.2.length≤400:=by
 unfold nOk
 simp only[Va,Vx,decide_eq_false_iff_not]
 constructor
 ·rintro⟨h1,h2⟩;exact⟨h1,by omega⟩
 ·rintro⟨h1,h2⟩;exact⟨h1,by omega⟩
def Xa {l:List Nmd} (h:Iz l=true):Eta l∧Oo l:=by
 obtain⟨_,h2,h3⟩:=Aj.1 h
 refine⟨⟨by omega,λ x hx=>by have:=(Ql.1 (h2 x hx)).2;omega⟩,λ x hx=>?_⟩
 have:=Aya (Ql.1 (h2 x hx)).1
 unfold Kf
 omega
def Nga (y:Nmd) (l:List Nmd) (s:ByteArray):fnd (y::l) s=if teq y.1 s then some 0 else (fnd l s).map (· + 1):=by
 unfold fnd
 rw[Kfb]
def Y0a {l:List Nmd} {s:ByteArray}:fnd l s=none↔∀ x∈l,x.1≠s:=by
 unfold fnd
 rw[Ljb]
 constructor
 ·intro h x hx e
  have:=h x hx
  rw[Cy.2 e]at this
  cases this
 ·intro h x hx
  cases ht:teq x.1 s with
  |false=>rfl
  |true=>exact absurd (Cy.1 ht) (h x hx)
def Tf:∀ {l:List Nmd} {s:ByteArray},D5 l→del l s=cut l s
 |[],s,_=>rfl
 |y::l,s,h=>by
  have hc:=Wg.1 h
  have ih:=Tf (l:=l) (s:=s) hc.2
  unfold del cut at *
  rw[Nga,Zza]
  cases ht:teq y.1 s with
  |true=>
   have hno:∀ x∈l,(!(teq x.1 s))=true:=λ x hx=>by
    cases hx2:teq x.1 s
    ·rfl
    have e1:=Cy.1 ht
    have e2:=Cy.1 hx2
    have:=hc.1 x hx
    rw[e1,e2,G8]at this
    cases this
   rw[if_pos rfl,if_neg (by simp)]
   show []++l=_
   rw[Vz,List.filter_eq_self.2 hno]
  |false=>
   rw[if_neg (by simp),if_pos (show (!false)=true from rfl),← ih]
   cases hf:fnd l s with
   |none=>rfl
   |some i=>rfl
def Mg {l:List Nmd} {s:ByteArray} (h:D5 l):D5 (cut l s):=h.sublist L5b
def Nc {l:List Nmd} {s:ByteArray}:(cut l s).Sublist l:=L5b
def Xb {l:List Nmd} {s:ByteArray} (h:Iz l=true):Iz (cut l s)=true:=by
 obtain⟨h1,h2,h3⟩:=Aj.1 h
 exact Aj.2 ⟨Mg h1,λ x hx=>h2 x (Nc.subset hx),by have:=(Nc (l:=l) (s:=s)).length_le;omega⟩
def Cob {l:List Nmd} {s:ByteArray} {i:Nat} (h:fnd l s=some i):(del l s).length+1=l.length:=by
 have hl:=(Oa h).1
 unfold del
 rw[h]
 simp only[Ve,Vu,We]
 omega
def Tpa {l m:List Nmd} (h:m.Sublist l) (hf:Eta l):Eta m:=⟨by have:=h.length_le;have:=hf.1;omega,λ x hx=>hf.2 x (h.subset hx)⟩
def Hoa {l m:List Nmd} (h:m.Sublist l) (hf:Oo l):Oo m:=λ x hx=>hf x (h.subset hx)

def Ppa (l:List Int) (x4:Int):∀ (n:Nat) (x3 i:Int),0≤i→8-i=n→Tot (λ k=>Hi k l x3 x4 i) (λ r=>r.1=l∧r.2.2=x4):=by
 intro n
 induction n with
 |zero=>
  intro x3 i h0 hn
  refine Tot.succ ?_
  simp only[Hi]
  exact Ilb (by omega) (Igb ⟨rfl,rfl⟩)
 |succ n ih=>
  intro x3 i h0 hn
  refine Tot.succ ?_
  simp only[Hi]
  refine Ikb (by omega) ?_
  rw[w64 (n:=i+1) (by omega) (by omega)]
  exact Imb (λ _=>ih _ (i+1) (by omega) (by omega)) (λ _=>ih _ (i+1) (by omega) (by omega))
def Pqa (l:List Int) (hl:l.length≤1000000000000):∀ (n i:Nat) (x3:Int),l.length-i=n→i≤l.length→Tot (λ k=>Hz k l x3 (i:Int)) (λ _=>True):=by
 intro n
 induction n with
 |zero=>
  intro i x3 hd hi
  refine Tot.succ ?_
  simp only[Hz]
  exact Ilb (by omega) (Igb trivial)
 |succ n ih=>
  intro i x3 hd hi
  refine Tot.succ ?_
  simp only[Hz]
  refine Ikb (by omega) (Ikb (by omega) (Ikb (by omega) ?_))
  refine Ihb (Ppa l (i:Int) 8 _ 0 (by decide) (by decide)) ?_
  rintro⟨a,b,c⟩ ⟨h1,h2⟩
  simp only at h1 h2
  subst h1 h2
  dsimp only
  rw[w64 (n:=(i:Int)+1) (by omega) (by omega)]
  exact ih (i+1) b (by omega) (by omega)
def Kpa (l:List Int) (hl:l.length≤1000000000000):Tot (λ k=>Ll k l) (λ _=>True):=by
 unfold Ll
 refine Ihb (Pqa l hl _ 0 _ rfl (Vs _)) (λ r _=>Igb trivial)
def B1a (f:Fil) (hf:A7b f):Tot (λ k=>Bb k f) (λ r=>r.length≤2000000):=by
 unfold Bb
 have hfo:∃ b,Bz f=some b:=by
  unfold Bz
  rw[Rl]
  simp only[Vm]
  cases G9 f.1<;>cases decide ((length f.2.2:Int)≤200)<;>cases f.2.1<;>exact⟨_,rfl⟩
 obtain⟨b,hb⟩:=hfo
 have hl:f.2.2.length≤9:=by have:=hf.2.2.1;omega
 refine Isb (Itb (Q:=λ r=>r=b) hb rfl) ?_
 refine Imb (λ _=>Igb (by simp)) (λ _=>?_)
 refine Isb (D8a [] f.1 (by simp)) ?_
 refine Isb (Itb (Q:=λ r=>r=C2a f.2.1) (N9a _) rfl) ?_
 have h1:=Esa f.1
 refine Isb (W9 _ _ (by simp only[Ve,Vi];omega)) ?_
 have h2:=(Mf (Bq (C2a f.2.1))).1
 have h3:(Le f.2.2).size=f.2.2.length:=Nq _
 refine Isb (N6a _ _ (by simp only[Ve,Vi];omega) (by omega)) ?_
 have h4:=Tka (Le f.2.2)
 refine Ihb (Kpa _ (by simp only[Ve,Vi];omega)) (λ q _=>?_)
 refine Iob (by simp only[Ve,Vc,Vi];omega) (Igb ?_)
 simp only[Ve,Vc,Vi]
 omega
def Eva (d out:Dsk) (s:ByteArray) (hd:Xza d∧Aza d) (ho:Xza out∧Aza out) (hs:Kf s):Tot (λ k=>E8 k d out s) (λ r=>r=bif Al d&&(As s&&Al out) then (out,true) else (d,false)):=by
 unfold E8
 refine Isb (Qk d hd.1 hd.2) ?_
 cases h1:Al d with
 |false=>
  refine Ijb rfl (Isb (Lx d hd.1) ?_)
  exact Igb rfl
 |true=>
  refine Iib rfl (Isb (P6 s hs) ?_)
  cases h2:As s with
  |false=>
   refine Ijb rfl (Isb (Lx d hd.1) ?_)
   exact Igb rfl
  |true=>
   refine Iib rfl (Isb (Qk out ho.1 ho.2) ?_)
   cases h3:Al out with
   |false=>
    refine Ijb rfl (Isb (Lx d hd.1) ?_)
    exact Igb rfl
   |true=>exact Iib rfl (Igb rfl)
def Dba (d:Dsk) (s:ByteArray) (hd:Xza d∧Aza d) (hs:Kf s):Tot (λ k=>Bh k d s) (λ r=>r=bif (fnd d.1 s).isSome&&(Al d&&(As s&&Al (cut d.1 s,d.2))) then ((cut d.1 s,d.2),true) else (d,false)):=by
 unfold Bh
 refine Ihb (Lx d hd.1) ?_
 rintro r rfl
 refine Ihb (Daa r.1 s hd.1.1.1) ?_
 rintro i rfl
 unfold Hja
 cases h:fnd r.1 s with
 |none=>exact Ikb (by decide) (Igb rfl)
 |some i=>
  dsimp only
  refine Ilb (by omega) (Ihb (Toa r.1 s hd.1.1.1) ?_)
  rintro c rfl
  refine Ihb (Eva r (cut r.1 s,r.2) s hd ⟨⟨Tpa Nc hd.1.1,hd.1.2⟩,Hoa Nc hd.2.1,hd.2.2⟩ hs) ?_
  rintro e rfl
  exact Igb rfl

def ptl (x:Nmd):Bool→List Nmd→List Nmd
 |p,[]=>bif p then [] else [x]
 |p,y::l=>(bif !p&&!(tlt y.1 x.1) then [x] else [])++((bif !(teq y.1 x.1) then [y] else [])++ptl x (p||!(tlt y.1 x.1)) l)
def Kqa (l:List Nmd) (s:ByteArray) (b:List Int) (hf:l.length≤1000000000000):∀ (n i:Nat) (acc:List Nmd) (p:Bool),l.length-i=n→i≤l.length→acc.length≤2*i→
  Tot (λ k=>Ci k l s acc p (i:Int) s b) (λ r=>r.1++(bif r.2.1 then [] else [(s,b)])=acc++ptl (s,b) p (l.drop i)∧r.2.2=(s,b)∧r.1.length≤2*l.length):=by
 intro n
 induction n with
 |zero=>
  intro i acc p hd hi ha
  refine Tot.succ ?_
  simp only[Ci]
  refine Ilb (by omega) (Igb ?_)
  rw[Wp (by omega)]
  exact⟨rfl,rfl,by dsimp only;omega⟩
 |succ n ih=>
  intro i acc p hd hi ha
  have hlt:i<l.length:=by omega
  refine Tot.succ ?_
  simp only[Ci]
  refine Ikb (by omega) ?_
  rw[show toNat (i:Int)=i from Vd i,w64 (n:=(i:Int)+1) (by omega) (by omega),Au (d:=Ed) hlt]
  have e0:l.getD i ((⟨#[]⟩:ByteArray),([]:List Int))=l.getD i Ed:=rfl
  rw[e0]
  have step:∀ (ac:List Nmd) (q:Bool),ac.length≤2*i+1→Tot (λ k=>cond (decide ((0:Int)≤i)) (cond (decide ((i:Int)<(length l:Int))) (cond (!((l.getD i Ed).1.toList==s.toList)) (cond (decide ((0:Int)≤i)) (cond (decide ((i:Int)<(length l:Int))) (cond (Nat.ble ((length ac+length [l.getD i Ed])*40) 140737488355328) (Ci k l s (ac++[l.getD i Ed]) q ((i:Int)+1) s b) none) none) none) (Ci k l s ac q ((i:Int)+1) s b)) none) none)
    (λ r=>r.1++(bif r.2.1 then [] else [(s,b)])=ac++((bif !(teq (l.getD i Ed).1 s) then [l.getD i Ed] else [])++ptl (s,b) q (l.drop (i+1)))∧r.2.2=(s,b)∧r.1.length≤2*l.length):=by
   intro ac q hac
   refine Ikb (by omega) (Ikb (by omega) (Imb (λ h=>?_) (λ h=>?_)))
   ·have h':(!(teq (l.getD i Ed).1 s))=true:=h
    rw[h']
    refine Ikb (by omega) (Ikb (by omega) (Iob (by simp only[Vc,Vi];omega) ?_))
    refine(ih (i+1) (ac++[l.getD i Ed]) q (by omega) (by omega) (by simp only[Ve,Vc,Vi];omega)).mono ?_
    rintro r ⟨h1,h2,h3⟩
    refine⟨?_,h2,h3⟩
    rw[h1,Vp]
    rfl
   ·have h':(!(teq (l.getD i Ed).1 s))=false:=h
    rw[h']
    exact ih (i+1) ac q (by omega) (by omega) (by omega)
  cases p with
  |true=>
   refine Iib rfl ?_
   refine(step acc true (by omega)).mono ?_
   rintro r ⟨h1,h2,h3⟩
   exact⟨h1,h2,h3⟩
  |false=>
   refine Ijb rfl (Ikb (by omega) (Ikb (by omega) (Imb (λ h=>?_) (λ h=>?_))))
   ·have h':(!(tlt (l.getD i Ed).1 s))=true:=h
    refine Iob (by simp only[Vc,Vi];omega) ?_
    refine(step (acc++[(s,b)]) true (by simp only[Ve,Vc,Vi];omega)).mono ?_
    rintro r ⟨h1,h2,h3⟩
    refine⟨?_,h2,h3⟩
    rw[h1]
    simp only[ptl,h',Zg,Bool.and_self,Jhb,cond_true,Vp]
   ·have h':(!(tlt (l.getD i Ed).1 s))=false:=h
    refine(step acc false (by omega)).mono ?_
    rintro r ⟨h1,h2,h3⟩
    refine⟨?_,h2,h3⟩
    rw[h1]
    simp only[ptl,h',Zg,Wm,Jhb,cond_false,Vz]
def Ewa (l:List Nmd) (s:ByteArray) (b:List Int) (hf:l.length≤1000000000000) (hb:b.length≤1000000000000):Tot (λ k=>Fb k l s b) (λ r=>r=ptl (s,b) false l):=by
 unfold Fb
 refine Iob (Kna b hb) ?_
 rw[Vz]
 refine Ihb (Kqa l s b hf _ 0 [] false rfl (Vs _) (Vs _)) ?_
 rintro⟨r,q,x,y⟩ ⟨h1,h2,h3⟩
 rw[Ya,Vz]at h1
 dsimp only at h1 h2 h3
 dsimp only
 cases q with
 |true=>
  refine Iib rfl (Igb ?_)
  rw[← h1];simp
 |false=>
  refine Ijb rfl (Iob (by simp only[Vc,Vi];omega) (Igb ?_))
  rw[← h1]
  obtain⟨rfl,rfl⟩:=Prod.mk.inj h2
  rfl
def Tqa (x:Nmd):∀ (p:Bool) (l:List Nmd),∀ y∈ptl x p l,y∈l∨y=x:=by
 intro p l
 induction l generalizing p with
 |nil=>intro y hy;cases p<;>simp_all [ptl]
 |cons a l ih=>
  intro y hy
  simp only[ptl,Vo]at hy
  rcases hy with hy|hy|hy
  ·revert hy;cases (!p&&!(tlt a.1 x.1))<;>simp_all
  ·revert hy;cases (!(teq a.1 x.1))<;>simp_all
  ·rcases ih _ y hy with h|h
   ·exact Or.inl (Vh _ h)
   ·exact Or.inr h
def Cpb (x:Nmd):∀ (p:Bool) (l:List Nmd),(ptl x p l).length≤l.length+(bif p then 0 else 1):=by
 intro p l
 induction l generalizing p with
 |nil=>cases p<;>simp[ptl]
 |cons a l ih=>
  simp only[ptl,Ve,Vc]
  have:=ih (p||!(tlt a.1 x.1))
  revert this
  cases p<;>cases tlt a.1 x.1<;>cases teq a.1 x.1<;>simp<;>omega
def Y1a (x:Nmd):∀ (l:List Nmd),ptl x true l=cut l x.1:=by
 intro l
 induction l with
 |nil=>rfl
 |cons a l ih=>
  simp only[ptl,Yq,Ys,cond_false,Vz,Lvb,ih,cut,Zza]
  cases teq a.1 x.1<;>simp
def Wr (x:Nmd):∀ {l:List Nmd},D5 l→ptl x false l=ins (cut l x.1) x:=by
 intro l
 induction l with
 |nil=>intro _;rfl
 |cons a l ih=>
  intro h
  have hl:D5 l:=(Wg.1 h).2
  have ha:=(Wg.1 h).1
  simp only[ptl,Zg,Vw,Jhb]
  cases ht:tlt a.1 x.1 with
  |true=>
   have he:teq a.1 x.1=false:=by
    cases hq:teq a.1 x.1 with
    |false=>rfl
    |true=>rw[(Cy.1 hq),G8]at ht;cases ht
   simp only[he,Yq,Zg,cond_false,cond_true,Vz,ih hl,cut,Zza,if_true]
   unfold ins plc
   rw[Zs,if_pos ht]
   rfl
  |false=>
   have hc:plc (cut (a::l) x.1) x.1=0:=by
    unfold plc cut
    rw[List.length_eq_zero_iff]
    rw[Zza]
    cases hq:teq a.1 x.1
    ·rw[Zg,if_pos rfl,Zs,if_neg (by rw[ht];simp)]
    have hx:=(Cy.1 hq)
    simp only[Yq,Yb,if_false]
    cases hf:l.filter (λ y => !(teq y.1 x.1)) with
    |nil=>rfl
    |cons b m=>
     have hb:b∈l:=by
      have:b∈l.filter (λ y => !(teq y.1 x.1)):=by rw[hf];exact Yc
      exact(Jxb.1 this).1
     have hab:=ha b hb
     rw[hx]at hab
     rw[Zs,if_neg (by rw[Ud hab];simp)]
   simp only[Zg,cond_true,Y1a]
   unfold ins
   rw[hc]
   simp only[J5b,Vz,Ya,cut,Zza]
   cases teq a.1 x.1<;>simp

def Tra {l:List Nmd} {x:Nmd} {p:Bool} (hl:Eta l) (hl':l.length≤999999999999) (hx:x.2.length≤1000000000000):Eta (ptl x p l):=by
 refine⟨?_,λ y hy=>?_⟩
 ·have:=Cpb x p l
  revert this
  cases p<;>simp<;>omega
 ·rcases Tqa x p l y hy with h|rfl
  ·exact hl.2 y h
  ·exact hx
def Hpa {l:List Nmd} {x:Nmd} {p:Bool} (hl:Oo l) (hx:Kf x.1):Oo (ptl x p l):=by
 intro y hy
 rcases Tqa x p l y hy with h|rfl
 ·exact hl y h
 ·exact hx
def DIn (d:Dsk):Prop:=(Xza d∧Aza d)∧d.1.length≤2000000∧d.2.length≤2000000
def Nd {d:Dsk} (h:Al d=true):DIn d:=by
 unfold Al at h
 rw[Va]at h
 have h1:=Xa h.1
 have h2:=Xa h.2
 exact⟨⟨⟨h1.1,h2.1⟩,h1.2,h2.2⟩,by have:=(Aj.1 h.1).2.2;omega,by have:=(Aj.1 h.2).2.2;omega⟩
def Hqa (d:Dsk) (s:ByteArray) (b:List Int) (hd:DIn d) (hs:Kf s) (hb:b.length≤1000000000000):Tot (λ k=>B5 k d s b) (λ r=>r=bif Al d&&(As s&&Al (ptl (s,b) false d.1,d.2)) then ((ptl (s,b) false d.1,d.2),true) else (d,false)):=by
 unfold B5
 refine Ihb (Lx d hd.1.1) ?_
 rintro r rfl
 refine Ihb (Ewa r.1 s b hd.1.1.1.1 hb) ?_
 rintro c rfl
 refine Ihb (Eva r (ptl (s,b) false r.1,r.2) s hd.1 ⟨⟨Tra hd.1.1.1 (by have:=hd.2.1;omega) hb,hd.1.1.2⟩,Hpa hd.1.2.1 hs,hd.1.2.2⟩ hs) ?_
 rintro e rfl
 exact Igb rfl
def syS (d:Dsk) (s:ByteArray):List Nmd:=match fnd d.1 s with
 |some i=>ptl (s,(d.1.getD i Ed).2) false (cut d.2 s)
 |none=>cut d.2 s
def Fqb {d:Dsk} {s:ByteArray} (hd:DIn d) (hs:Kf s):Eta (syS d s)∧Oo (syS d s):=by
 unfold syS
 have h1:=Tpa (Nc (l:=d.2) (s:=s)) hd.1.1.2
 have h2:=Hoa (Nc (l:=d.2) (s:=s)) hd.1.2.2
 cases h:fnd d.1 s with
 |none=>exact⟨h1,h2⟩
 |some i=>
  have hb:=hd.1.1.1.2 _ (A4 (d:=Ed) (Oa h).1)
  have hc:(cut d.2 s).length≤d.2.length:=(Nc (l:=d.2) (s:=s)).length_le
  exact⟨Tra h1 (by have:=hd.2.2;omega) hb,Hpa h2 hs⟩
def Nha (d:Dsk) (s:ByteArray) (hd:DIn d) (hs:Kf s):Tot (λ k=>An k d s) (λ r=>r=bif Al d&&(As s&&Al (d.1,syS d s)) then ((d.1,syS d s),true) else (d,false)):=by
 unfold An
 have hin:=Fqb hd hs
 refine Ihb (Lx d hd.1.1) ?_
 rintro r rfl
 refine Ihb (Nfa r s hd.1.1.1) ?_
 rintro b rfl
 refine Ihb (Toa r.2 s hd.1.1.2.1) ?_
 rintro c rfl
 have e:∀ o,o=syS r s→Tot (λ k=>(E8 k r (r.1,o) s).bind λ r5=>some (r5.1,r5.2)) (λ q=>q=bif Al r&&(As s&&Al (r.1,syS r s)) then ((r.1,syS r s),true) else (r,false)):=by
  rintro o rfl
  refine Ihb (Eva r (r.1,syS r s) s hd.1 ⟨⟨hd.1.1.1,hin.1⟩,hd.1.2.1,hin.2⟩ hs) ?_
  rintro e rfl
  exact Igb rfl
 have hc:(cut r.2 s).length≤r.2.length:=(Nc (l:=r.2) (s:=s)).length_le
 cases h:fnd r.1 s with
 |none=>
  have h':rdN r.1 s=([],false):=by unfold rdN;rw[h]
  rw[h']
  refine Iib rfl (e _ ?_)
  unfold syS;rw[h]
 |some i=>
  have h':rdN r.1 s=((r.1.getD i Ed).2,true):=by unfold rdN;rw[h]
  rw[h']
  have hb:=hd.1.1.1.2 _ (A4 (d:=Ed) (Oa h).1)
  refine Ijb rfl (Ihb (Ewa (cut r.2 s) s _ (by have:=hd.2.2;omega) hb) ?_)
  rintro o rfl
  refine e _ ?_
  unfold syS;rw[h]
def Pra (d:Dsk) (s:ByteArray) (hd:Xza d∧Aza d):Tot (λ k=>Et k d s) (λ r=>r=bif (fnd d.1 s).isSome&&Al d then ((del d.1 s,d.2),true) else (d,false)):=by
 unfold Et
 refine Ihb (Jr d hd.1) ?_
 rintro r rfl
 refine Ihb (Uk r hd.1 hd.2) ?_
 rintro b rfl
 cases h1:Al r
 ·refine Ijb rfl (Igb ?_);rw[Wm];rfl
 refine Iib rfl (Ihb (Nba r.1 s hd.1.1.1) ?_)
 rintro i rfl
 unfold Hja
 cases h:fnd r.1 s with
 |none=>exact Ikb (by decide) (Igb rfl)
 |some i=>
  dsimp only
  refine Ilb (by omega) (Ihb (Eua r.1 s hd.1.1.1) ?_)
  rintro c rfl
  exact Igb rfl
def syI (d:Dsk) (s:ByteArray):List Nmd:=match fnd d.1 s with
 |some i=>ins (del d.2 s) (s,(d.1.getD i Ed).2)
 |none=>del d.2 s
def Dca (l:List Nmd) (s:ByteArray):(del l s).length≤l.length:=by
 cases h:fnd l s with
 |none=>unfold del;rw[h];exact Vv _
 |some i=>have:=Cob h;omega
def Kra (l:List Nmd) (x:Nmd):(ins l x).length=l.length+1:=by
 unfold ins
 have:=Aab l x.1
 simp only[Ve,Vu,We,Vc,Vi]
 omega
def Y2a (d:Dsk) (s:ByteArray) (hd:DIn d) (hs:Kf s):Tot (λ k=>C5 k d s) (λ r=>r=bif Al d&&(As s&&decide ((syI d s).length≤60)) then ((d.1,syI d s),true) else (d,false)):=by
 unfold C5
 refine Ihb (Jr d hd.1.1) ?_
 rintro r rfl
 refine Ihb (Uk r hd.1.1 hd.1.2) ?_
 rintro b rfl
 cases h1:Al r
 ·exact Ijb rfl (Igb rfl)
 refine Iib rfl (Ihb (Qh s hs) ?_)
 rintro b rfl
 cases h2:As s
 ·exact Ijb rfl (Igb rfl)
 refine Iib rfl (Ihb (Eua r.2 s hd.1.1.2.1) ?_)
 rintro c rfl
 refine Ihb (Nba r.1 s hd.1.1.1.1) ?_
 rintro i rfl
 have hdl:=Dca r.2 s
 have hr2:=hd.2.2
 have hr1:=hd.2.1
 have e:∀ o,o=syI r s→o.length≤4000000→Tot (λ k=>cond (decide ((length o:Int) > 60)) ((A9 k r).bind λ r9=>some (r9,false)) (some ((r.1,o),true))) (λ q=>q=bif true&&(true&&decide ((syI r s).length≤60)) then ((r.1,syI r s),true) else (r,false)):=by
  rintro o rfl _
  refine Inb (λ h=>?_) (λ h=>?_)
  ·refine Ihb (Jr r hd.1.1) ?_
   rintro q rfl
   refine Igb ?_
   rw[decide_eq_false (by omega)]
   rfl
  ·refine Igb ?_
   rw[decide_eq_true (by omega)]
   rfl
 unfold Hja
 cases h:fnd r.1 s with
 |none=>
  refine Ilb (by decide) (e _ ?_ (by omega))
  unfold syI;rw[h]
 |some i=>
  have hl:=(Oa h).1
  dsimp only
  refine Ikb (by omega) (Ikb (by omega) (Ikb (by omega) ?_))
  rw[show toNat (i:Int)=i from Vd i]
  have hb:=hd.1.1.1.2 _ (A4 (d:=Ed) hl)
  refine Ihb (Itb (Q:=λ q=>q=(r.1.getD i Ed).2) (Nb _ hb) rfl) ?_
  rintro q rfl
  refine Ihb (Nda (del r.2 s) (s,(r.1.getD i Ed).2) (by omega)) ?_
  rintro o rfl
  refine e _ ?_ (by rw[Kra];omega)
  unfold syI;rw[h]

def Tsa {d o:Dsk} {b:Bool} (hd:Al d=true):Al (bif Al d&&(b&&Al o) then (o,true) else (d,false)).1=true:=by
 cases b<;>cases h:Al o<;>simp[hd,h]
def Y3a {d o:Dsk} {a b:Bool} (hd:Al d=true):Al (bif a&&(Al d&&(b&&Al o)) then (o,true) else (d,false)).1=true:=by
 cases a<;>cases b<;>cases h:Al o<;>simp[hd,h]
def Tta:∀ (n:Nat) (i:Int) (c:Cur) (a0 a1:List Nmd) (d:Dsk),i=n→n≤6→Bj c→Al d=true→
  Tot (λ k=>Am k i c.1 c.2.1 c.2.2 a0 a1 d.1 d.2) (λ r=>Al (r.2.2.1,r.2.2.2.1)=true∧Bj r.2.2.2.2):=by
 intro n
 induction n with
 |zero=>
  intro i c a0 a1 d hi h6 hc hd
  refine Tot.succ ?_
  simp only[Am]
  exact Ilb (by omega) (Igb ⟨hd,hc⟩)
 |succ n ih=>
  intro i c a0 a1 d hi h6 hc hd
  refine Tot.succ ?_
  simp only[Am]
  refine Ikb (by omega) ?_
  rw[w64 (n:=i-1) (by omega) (by omega)]
  obtain⟨s,c1,e1,hs,k1⟩:=M5 c hc
  refine Isb (Itb (Q:=λ r=>r=(s,c1)) e1 rfl) ?_
  obtain⟨x,c2,e2,_,_,_,k2⟩:=Ad c1 k1 6 (by decide)
  refine Isb (Itb (Q:=λ r=>r=(x,c2)) e2 rfl) ?_
  dsimp only
  have hin:=Nd hd
  have hsh:=(Ky s hs).1
  have wr:Tot (λ k=>(C4 k c2).bind λ r5=>(Bb k r5.1).bind λ r6=>(B5 k (d.1,d.2) s r6).bind λ r7=>Am k (i-1) r5.2.1 r5.2.2.1 r5.2.2.2 a0 a1 r7.1.1 r7.1.2) (λ r=>Al (r.2.2.1,r.2.2.2.1)=true∧Bj r.2.2.2.2):=by
   refine Ihb (No c2 k2) (λ f hf=>?_)
   refine Ihb (B1a f.1 hf.1) (λ b hb=>?_)
   refine Ihb (Hqa d s b hin hsh (by omega)) (λ q hq=>?_)
   have hq':=Tsa (d:=d) (o:=(ptl (s,b) false d.1,d.2)) (b:=As s) hd
   rw[← hq]at hq'
   exact ih (i-1) f.2 a0 a1 q.1 (by omega) (by omega) hf.2 hq'
  have sy:Tot (λ k=>(An k (d.1,d.2) s).bind λ r4=>Am k (i-1) c2.1 c2.2.1 c2.2.2 a0 a1 r4.1.1 r4.1.2) (λ r=>Al (r.2.2.1,r.2.2.2.1)=true∧Bj r.2.2.2.2):=by
   refine Ihb (Nha d s hin hsh) (λ q hq=>?_)
   have hq':=Tsa (d:=d) (o:=(d.1,syS d s)) (b:=As s) hd
   rw[← hq]at hq'
   exact ih (i-1) c2 a0 a1 q.1 (by omega) (by omega) k2 hq'
  refine Imb (λ _=>?_) (λ _=>Imb (λ h=>Imb (λ _=>sy) (λ _=>wr)) (λ _=>Imb (λ _=>sy) (λ _=>wr)))
  refine Ihb (Dba d s hin.1 hsh) (λ q hq=>?_)
  have hq':=Y3a (d:=d) (o:=(cut d.1 s,d.2)) (a:=(fnd d.1 s).isSome) (b:=As s) hd
  rw[← hq]at hq'
  exact ih (i-1) c2 a0 a1 q.1 (by omega) (by omega) k2 hq'
def Tua (c:Cur) (hc:Bj c):Tot (λ k=>Dp k c) (λ r=>Al r.1=true∧Bj r.2):=by
 unfold Dp
 obtain⟨x,c2,e2,h0,h1,_,k2⟩:=Ad c hc 7 (by decide)
 have h1:=h1 (by decide)
 refine Isb (Itb (Q:=λ r=>r=(x,c2)) e2 rfl) ?_
 refine Ihb (Tta x.toNat x c2 [] [] ([],[]) (by omega) (by omega) k2 (by decide)) (λ r hr=>?_)
 exact Igb hr
def My (c:Cur) (hc:Bj c):∃ x c',Ew c=some (x,c')∧Kf x∧Bj c':=by
 obtain⟨b,c1,e1,k1⟩:=Ks c hc 5 (by decide)
 unfold Ew
 cases b with
 |true=>
  obtain⟨x,c',e,hx,k⟩:=Mwa c1 k1 [(⟨#[]⟩:ByteArray),(⟨#[65]⟩:ByteArray),(⟨#[97,32,98]⟩:ByteArray),(⟨#[116,119,101,110,116,121,111,110,101,98,121,116,101,115,116,119,101,110,116,121,111]⟩:ByteArray),(⟨#[116,119,101,110,116,121,98,121,116,101,115,116,119,101,110,116,121,98,121,116]⟩:ByteArray),(⟨#[47]⟩:ByteArray)] (by decide) (by decide)
  refine⟨x,c',by simp only[e1,e,Vm,cond_true],?_,k⟩
  simp only[Vl,Zt,or_false]at hx
  unfold Kf
  rcases hx with rfl|rfl|rfl|rfl|rfl|rfl<;>decide
 |false=>
  obtain⟨x,c',e,hx,k⟩:=M5 c1 k1
  exact⟨x,c',by simp only[e1,e,Vm,cond_false],(Ky x hx).1,k⟩
def Tva {l:List Nmd} {x:Nmd} (h:Eta l) (hl:l.length≤999) (hx:x.2.length≤1000000000000):Eta (l++[x]):=by
 refine⟨by simp only[Ve,Vc,Vi];omega,λ y hy=>?_⟩
 rcases Vo.1 hy with hy|hy
 ·exact h.2 y hy
 ·rw[Vt.1 hy];exact hx
def Hra {l:List Nmd} {x:Nmd} (h:Oo l) (hx:Kf x.1):Oo (l++[x]):=by
 intro y hy
 rcases Vo.1 hy with hy|hy
 ·exact h y hy
 ·rw[Vt.1 hy];exact hx
def Y4a (c:Cur) (hc:Bj c):Tot (λ k=>Ih k c) (λ r=>DIn r.1∧Bj r.2):=by
 unfold Ih
 refine Ihb (Tua c hc) (λ d hd=>?_)
 obtain⟨hd,k0⟩:=hd
 have hin:=Nd hd
 have hd':=hd
 unfold Al at hd'
 rw[Va]at hd'
 have g1:=(Aj.1 hd'.1).2.2
 have g2:=(Aj.1 hd'.2).2.2
 obtain⟨x,c2,e2,_,_,_,k2⟩:=Ad d.2 k0 12 (by decide)
 refine Isb (Itb (Q:=λ r=>r=(x,c2)) e2 rfl) ?_
 refine Imb (λ _=>?_) (λ _=>Imb (λ _=>?_) (λ _=>Igb ⟨hin,k2⟩))
 ·obtain⟨s,c3,e3,hs,k3⟩:=My c2 k2
  refine Isb (Itb (Q:=λ r=>r=(s,c3)) e3 rfl) ?_
  refine Iob (by simp only[Vc,Vi];omega) (Igb ⟨⟨⟨⟨Tva hin.1.1.1 (by omega) (Vs _),hin.1.1.2⟩,Hra hin.1.2.1 hs,hin.1.2.2⟩,?_,hin.2.2⟩,k3⟩)
  simp only[Ve,Vc,Vi];omega
 ·obtain⟨s,c3,e3,hs,k3⟩:=My c2 k2
  refine Isb (Itb (Q:=λ r=>r=(s,c3)) e3 rfl) ?_
  obtain⟨y,c4,e4,y0,y1,_,k4⟩:=Ad c3 k3 2 (by decide)
  have y1:=y1 (by decide)
  refine Isb (Itb (Q:=λ r=>r=(y,c4)) e4 rfl) ?_
  dsimp only
  rw[w64 (n:=400+y) (by omega) (by omega)]
  refine Ikb rfl (Ikb (by omega) (Ikb (by omega) (Iob (by simp only[Vc,Vi];omega) (Igb ⟨⟨⟨⟨hin.1.1.1,Tva hin.1.1.2 (by omega) ?_⟩,hin.1.2.1,Hra hin.1.2.2 hs⟩,hin.2.1,?_⟩,k4⟩))))
  ·simp only[Lsb];omega
  ·simp only[Ve,Vc,Vi];omega

section
open Go
end

def Sx (p:Nmd→Bool):∀ l:List Nmd,l.take (l.takeWhile p).length=l.takeWhile p∧l.drop (l.takeWhile p).length=l.dropWhile p
 |[]=>⟨rfl,rfl⟩
 |y::l=>by
  obtain⟨h1,h2⟩:=Sx p l
  simp only[Zs,K5b]
  cases p y with
  |true=>simp[h1,h2]
  |false=>simp
def Hsa {p:Nmd→Bool}:∀ {l:List Nmd} {y:Nmd},y∈l.takeWhile p→p y=true
 |[],y,h=>by simp at h
 |z::l,y,h=>by
  simp only[Zs]at h
  cases hz:p z
  ·rw[hz]at h;simp at h
  rw[hz]at h
  simp only[if_true]at h
  rcases Vl.1 h with rfl|h
  ·exact hz
  ·exact Hsa h
def Abb (l:List Nmd) (x:Nmd):ins l x=l.takeWhile (λ y=>tlt y.1 x.1)++([x]++l.dropWhile (λ y=>tlt y.1 x.1)):=by
 unfold ins plc
 obtain⟨h1,h2⟩:=Sx (λ y=>tlt y.1 x.1) l
 rw[h1,h2,Vp]
def Dda {x:Nmd}:∀ {l:List Nmd},D5 l→(∀ y∈l,y.1≠x.1)→∀ z∈l.dropWhile (λ y=>tlt y.1 x.1),tlt x.1 z.1=true
 |[],_,_,z,hz=>by simp at hz
 |y::l,hs,hn,z,hz=>by
  obtain⟨h1,h2⟩:=Wg.1 hs
  simp only[K5b]at hz
  cases hy:tlt y.1 x.1 with
  |true=>
   rw[hy]at hz
   simp only[if_true]at hz
   exact Dda h2 (λ w hw=>hn w (Vh _ hw)) z hz
  |false=>
   rw[hy]at hz
   simp only[Yb,if_false]at hz
   have hxy:tlt x.1 y.1=true:=by
    cases hh:tlt x.1 y.1 with
    |true=>rfl
    |false=>exact absurd (Aqa hy hh) (hn y (by simp))
   rcases Vl.1 hz with rfl|hz
   ·exact hxy
   ·exact Mv hxy (h1 z hz)
def Pv {l:List Nmd} {x:Nmd} (hs:D5 l) (hn:∀ y∈l,y.1≠x.1):D5 (ins l x):=by
 rw[Abb]
 have hs':D5 (l.takeWhile (λ y=>tlt y.1 x.1)++l.dropWhile (λ y=>tlt y.1 x.1)):=by rw[Jnb];exact hs
 obtain⟨h1,h2,h3⟩:=Zj.1 hs'
 have h4:∀ y∈l.takeWhile (λ y=>tlt y.1 x.1),tlt y.1 x.1=true:=λ y hy=>Hsa (p:=λ y=>tlt y.1 x.1) hy
 refine Zj.2 ⟨h1,Wg.2 ⟨λ z hz=>Dda hs hn z hz,h2⟩,λ a ha b hb=>?_⟩
 rcases Vl.1 hb with rfl|hb
 ·exact h4 a ha
 ·exact h3 a ha b hb
def Ws {l:List Nmd} {x y:Nmd}:y∈ins l x↔y=x∨y∈l:=by
 rw[Abb]
 have e:=Jnb (p:=λ y:Nmd=>tlt y.1 x.1) (l:=l)
 constructor
 ·intro h
  rcases Vo.1 h with h|h
  ·right;rw[← e];exact Wb _ h
  ·rcases Vl.1 h with h|h
   ·exact .inl h
   ·right;rw[← e];exact Vq _ h
 ·rintro (rfl|h)
  ·exact Vq _ (by simp)
  ·rw[← e]at h
   rcases Vo.1 h with h|h
   ·exact Wb _ h
   ·exact Vq _ (Vh _ h)
def Acb {l:List Nmd} {x:Nmd} (hl:Iz l=true) (hn:∀ y∈l,y.1≠x.1) (hx:nOk x=true):Iz (ins l x)=decide ((ins l x).length≤60):=by
 obtain⟨h1,h2,h3⟩:=Aj.1 hl
 by_cases h:(ins l x).length≤60
 ·rw[decide_eq_true h]
  exact Aj.2 ⟨Pv h1 hn,λ y hy=>by rcases Ws.1 hy with rfl|hy;exact hx;exact h2 y hy,h⟩
 ·rw[decide_eq_false h]
  cases hc:Iz (ins l x) with
  |false=>rfl
  |true=>exact absurd (Aj.1 hc).2.2 h
def Xc {l:List Nmd} {s:ByteArray}:∀ y∈cut l s,y.1≠s:=λ y hy e=>by
 have:=(Jxb.1 hy).2
 simp[e,Cy.2 rfl]at this
def Ksa {l:List Nmd} {s:ByteArray}:cut (cut l s) s=cut l s:=by
 unfold cut
 rw[List.filter_filter]
 congr 1
 funext x
 simp
def Cqb {d:Dsk} {s:ByteArray} (hd:Al d=true):syS d s=syI d s:=by
 unfold Al at hd
 rw[Va]at hd
 have hs:=(Aj.1 hd.2).1
 unfold syS syI
 rw[Tf hs]
 cases fnd d.1 s with
 |none=>rfl
 |some i=>
  show ptl _ false (cut d.2 s)=ins (cut d.2 s) _
  rw[Wr _ (Mg hs)]
  show ins (cut (cut d.2 s) s) _=_
  rw[Ksa]
def Twa {d:Dsk} {s:ByteArray} (hd:Al d=true) (hs:As s=true):Al (d.1,syI d s)=decide ((syI d s).length≤60):=by
 have hd':=hd
 unfold Al at hd'
 rw[Va]at hd'
 have h2:=Aj.1 hd'.2
 unfold Al
 rw[hd'.1,Vw]
 unfold syI
 rw[Tf h2.1]
 cases h:fnd d.1 s with
 |none=>show Iz (cut d.2 s)=decide ((cut d.2 s).length≤60);rw[Xb hd'.2,decide_eq_true (Aj.1 (Xb (s:=s) hd'.2)).2.2]
 |some i=>
  refine Acb (Xb hd'.2) Xc (Ql.2 ⟨hs,?_⟩)
  have h1:=(Aj.1 hd'.1).2.1 _ (A4 (d:=Ed) (Oa h).1)
  exact(Ql.1 h1).2
def Crb {l:List Nmd} (hs:D5 l) {x y:Nmd} (hx:x∈l) (hy:y∈l) (e:x.1=y.1):x=y:=by
 induction l with
 |nil=>simp at hx
 |cons z l ih=>
  obtain⟨h1,h2⟩:=Wg.1 hs
  rcases Vl.1 hx with hx'|hx'
  ·rcases Vl.1 hy with hy'|hy'
   ·rw[hx',hy']
   ·have:=h1 y hy';rw[← hx',e,G8]at this;cases this
  ·rcases Vl.1 hy with hy'|hy'
   ·have:=h1 x hx';rw[← hy',e,G8]at this;cases this
   ·exact ih h2 hx' hy'

def wrI (d:Dsk) (s:ByteArray) (b:List Int):List Nmd:=ins (del d.1 s) (s,b)
def Txa (d:Dsk) (s:ByteArray) (b:List Int) (hd:DIn d) (hs:Kf s) (hb:b.length≤1000000000000):Tot (λ k=>Dz k d s b) (λ r=>r=bif Al d&&(As s&&(decide (b.length≤400)&&decide ((wrI d s b).length≤60))) then ((wrI d s b,d.2),true) else (d,false)):=by
 unfold Dz
 refine Ihb (Jr d hd.1.1) ?_
 rintro r rfl
 refine Ihb (Uk r hd.1.1 hd.1.2) ?_
 rintro b1 rfl
 cases h1:Al r
 ·exact Ijb rfl (Igb rfl)
 refine Iib rfl (Ihb (Qh s hs) ?_)
 rintro b2 rfl
 cases h2:As s
 ·exact Ijb rfl (Igb rfl)
 refine Iib rfl (Inb (λ h=>?_) (λ h=>?_))
 ·rw[decide_eq_false (show ¬ b.length≤400 by omega)]
  exact Igb rfl
 ·rw[decide_eq_true (show b.length≤400 by omega)]
  refine Ihb (Eua r.1 s hd.1.1.1.1) ?_
  rintro c rfl
  refine Ihb (Itb (Q:=λ x=>x=b) (Nb b hb) rfl) ?_
  rintro e rfl
  have hdl:=Dca r.1 s
  refine Ihb (Nda (del r.1 s) (s,e) (by have:=hd.2.1;omega)) ?_
  rintro m rfl
  refine Inb (λ h=>?_) (λ h=>?_)
  ·rw[decide_eq_false (show ¬ (wrI r s e).length≤60 by unfold wrI;omega)]
   refine Ihb (Jr r hd.1.1) ?_
   rintro x rfl
   exact Igb rfl
  ·rw[decide_eq_true (show (wrI r s e).length≤60 by unfold wrI;omega)]
   exact Igb rfl
def Nia {d:Dsk} {s:ByteArray} {b:List Int} (hd:Al d=true) (hs:As s=true):ptl (s,b) false d.1=wrI d s b∧Al (wrI d s b,d.2)=(decide (b.length≤400)&&decide ((wrI d s b).length≤60)):=by
 have hd':=hd
 unfold Al at hd'
 rw[Va]at hd'
 have h1:=Aj.1 hd'.1
 have e1:wrI d s b=ins (cut d.1 s) (s,b):=by unfold wrI;rw[Tf h1.1]
 refine⟨by rw[e1];exact Wr _ h1.1,?_⟩
 unfold Al
 rw[hd'.2,Zz,e1]
 by_cases hb:b.length≤400
 ·rw[decide_eq_true hb,Vw]
  exact Acb (Xb hd'.1) Xc (Ql.2 ⟨hs,hb⟩)
 ·rw[decide_eq_false hb,Ys]
  cases hc:Iz (ins (cut d.1 s) (s,b)) with
  |false=>rfl
  |true=>exact absurd (Ql.1 ((Aj.1 hc).2.1 (s,b) (Ws.2 (.inl rfl)))).2 hb

def TS (l:List ByteArray):Prop:=l.Pairwise (λ a b=>tlt a b=true)
def pk (l:List Nmd) (s:ByteArray):Option Nmd:=match fnd l s with
 |some i=>some (l.getD i Ed)
 |none=>none
def Ov:ByteArray:=⟨#[]⟩
def tpl (l:List ByteArray) (s:ByteArray):Nat:=(l.takeWhile (λ y=>tlt y s)).length
def wt (l:List ByteArray) (s:ByteArray):List ByteArray:=if tpl l s<l.length∧teq (l.getD (tpl l s) Ov) s=true then l else l.take (tpl l s)++[s]++l.drop (tpl l s)
def Frb (l:List ByteArray) (s:ByteArray):tpl l s≤l.length:=(Lrb _).length_le
def Hta {l:List ByteArray} {s y:ByteArray}:y∈wt l s↔y=s∨y∈l:=by
 unfold wt
 by_cases h:tpl l s<l.length∧teq (l.getD (tpl l s) Ov) s=true
 ·rw[if_pos h]
  refine⟨.inr,λ h'=>?_⟩
  rcases h' with rfl|h'
  ·have:=A4 (d:=Ov) h.1
   rwa [Cy.1 h.2]at this
  ·exact h'
 ·rw[if_neg h]
  have e:l.take (tpl l s)++l.drop (tpl l s)=l:=Wl _ _
  constructor
  ·intro h'
   rw[Vp]at h'
   rcases Vo.1 h' with h'|h'
   ·right;rw[← e];exact Wb _ h'
   ·rcases Vo.1 h' with h'|h'
    ·left;simpa using h'
    ·right;rw[← e];exact Vq _ h'
  ·rintro (rfl|h')
   ·simp
   ·rw[← e]at h'
    rcases Vo.1 h' with h'|h'<;>simp[h']
def Nja (p:ByteArray→Bool):∀ l:List ByteArray,l.take (l.takeWhile p).length=l.takeWhile p∧l.drop (l.takeWhile p).length=l.dropWhile p
 |[]=>⟨rfl,rfl⟩
 |y::l=>by
  obtain⟨h1,h2⟩:=Nja p l
  simp only[Zs,K5b]
  cases p y with
  |true=>simp[h1,h2]
  |false=>simp
def Dea {p:ByteArray→Bool}:∀ {l:List ByteArray} {y:ByteArray},y∈l.takeWhile p→p y=true
 |[],y,h=>by simp at h
 |z::l,y,h=>by
  simp only[Zs]at h
  cases hz:p z
  ·rw[hz]at h;simp at h
  rw[hz]at h
  simp only[if_true]at h
  rcases Vl.1 h with rfl|h
  ·exact hz
  ·exact Dea h
def B2a {s:ByteArray}:∀ {l:List ByteArray},TS l→(∀ y r,l.dropWhile (λ y=>tlt y s)=y::r→y≠s)→∀ z∈l.dropWhile (λ y=>tlt y s),tlt s z=true
 |[],_,_,z,hz=>by simp at hz
 |y::l,hs,hn,z,hz=>by
  obtain⟨h1,h2⟩:=Wg.1 hs
  simp only[K5b]at hz hn
  cases hy:tlt y s with
  |true=>
   rw[hy]at hz hn
   simp only[if_true]at hz hn
   exact B2a h2 hn z hz
  |false=>
   rw[hy]at hz hn
   simp only[Yb,if_false]at hz hn
   have hxy:tlt s y=true:=by
    cases hh:tlt s y with
    |true=>rfl
    |false=>exact absurd (Aqa hy hh) (hn y l rfl)
   rcases Vl.1 hz with rfl|hz
   ·exact hxy
   ·exact Mv hxy (h1 z hz)
def Rp {l:List ByteArray} {s:ByteArray} (hs:TS l):TS (wt l s):=by
 unfold wt
 by_cases h:tpl l s<l.length∧teq (l.getD (tpl l s) Ov) s=true
 ·rw[if_pos h];exact hs
 ·rw[if_neg h]
  obtain⟨e1,e2⟩:=Nja (λ y=>tlt y s) l
  have hd:∀ y r,l.dropWhile (λ y=>tlt y s)=y::r→y≠s:=by
   intro y r hr hy
   rw[← e2]at hr
   have hlt:tpl l s<l.length:=by
    rcases K7b (tpl l s) l.length with h'|h'
    ·exact h'
    ·have:l.drop (tpl l s)=[]:=Wp h'
     unfold tpl at this
     rw[this]at hr
     cases hr
   have:l.drop (tpl l s)=l.getD (tpl l s) Ov::l.drop (tpl l s+1):=Au hlt
   unfold tpl at this
   rw[this]at hr
   simp only[Yl]at hr
   exact h ⟨hlt,Cy.2 (hr.1.trans hy)⟩
  have e1':l.take (tpl l s)=l.takeWhile (λ y=>tlt y s):=e1
  have e2':l.drop (tpl l s)=l.dropWhile (λ y=>tlt y s):=e2
  rw[e1',e2',Vp]
  have hs':TS (l.takeWhile (λ y=>tlt y s)++l.dropWhile (λ y=>tlt y s)):=by rw[Jnb];exact hs
  obtain⟨h1,h2,h3⟩:=Zj.1 hs'
  refine Zj.2 ⟨h1,Wg.2 ⟨λ z hz=>B2a hs hd z hz,h2⟩,λ a ha b hb=>?_⟩
  rcases Vl.1 hb with rfl|hb
  ·exact Dea (p:=λ y=>tlt y b) ha
  ·exact h3 a ha b hb

def Tya {l:List ByteArray} {s:ByteArray}:(wt l s).length≤l.length+1:=by
 unfold wt
 have:=Frb l s
 split
 ·omega
 ·simp only[Ve,Vu,We,Vc,Vi];omega

section
variable {α σ R:Type} {a b:α} {p:Prop} [Decidable p]
def dT (h:p):cond (decide p) a b=a:=by rw[decide_eq_true h];rfl
def dF (h:¬ p):cond (decide p) a b=b:=by rw[decide_eq_false h];rfl
def bT {m n:Nat} (h:m≤n):cond (Nat.ble m n) a b=a:=by rw[Zn h];rfl
def Ipb {L:Nat→Int→σ→Option R} {Q:R→Prop} (n:Nat) (I:Nat→σ→Prop) (hend:∀ s,I n s→Tot (λ k=>L (k+1) (n:Int) s) Q)
  (C9a:∀ i s,i<n→I i s→(∀ s',I (i+1) s'→Tot (λ k=>L k ((i:Int)+1) s') Q)→Tot (λ k=>L (k+1) (i:Int) s) Q):
  ∀ (i:Nat) (s:σ),i≤n→I i s→Tot (λ k=>L k (i:Int) s) Q:=by
 suffices h:∀ (m i:Nat) (s:σ),n-i=m→i≤n→I i s→Tot (λ k=>L k (i:Int) s) Q from λ i s hi hs=>h _ i s rfl hi hs
 intro m
 induction m with
 |zero=>
  intro i s hm hi hs
  obtain rfl:i=n:=by omega
  exact Tot.succ (hend s hs)
 |succ m ih=>
  intro i s hm hi hs
  refine Tot.succ (C9a i s (by omega) hs λ s' hs'=>?_)
  have:=ih (i+1) s' (by omega) (by omega) hs'
  rwa [show (((i+1:Nat)):Int)=(i:Int)+1 by omega]at this
end
def cst (x:BitVec 32):BitVec 32:=if x.getLsbD 0 then (x >>> 1) ^^^ 2197175160#32 else x >>> 1
def C4a:Nat→BitVec 32→BitVec 32
 |0,x=>x
 |n+1,x=>C4a n (cst x)
def cby (x:BitVec 32) (b:Int):BitVec 32:=C4a 8 (x ^^^ ofInt 32 b)
def Eib (l:List Int):BitVec 32 := ~~~ (l.foldl cby 4294967295#32)
def crc (l:List Int):Int:=((Eib l).toNat:Int)
def I2b (v:BitVec 32):v.getLsbD 0=decide (v.toNat % 2=1):=by
 rw[BitVec.getLsbD,Nat.testBit_zero]
def Kta (v:BitVec 32):ofInt (IntKind.bits .u32) (v.toNat:Int)=v:=by
 show ofInt 32 (v.toNat:Int)=v
 rw[BitVec.ofInt_natCast,BitVec.ofNat_toNat,BitVec.setWidth_eq]
def Kua (n:Nat) (h:n<4294967296):(ofInt (IntKind.bits .i64) (n:Int)).toNat=n:=Rn n (by omega)
def Hjb (v:BitVec 32):wrap .u32 (v.toNat:Int)=(v.toNat:Int):=Lmb _ ⟨by omega,by have:=v.isLt;omega⟩
def sh1 (v:BitVec 32):Int.fdiv (v.toNat:Int) 2=((v >>> 1).toNat:Int):=by
 rw[Izb _ (by omega),BitVec.toNat_ushiftRight,Nat.shiftRight_eq_div_pow]
 omega
def Hkb (v:BitVec 32):((wrap .u32 ((ofInt (IntKind.bits .u32) (v.toNat:Int) &&& ofInt (IntKind.bits .u32) 1).toNat))==1)=v.getLsbD 0:=by
 show (wrap .u32 (((ofInt 32 (v.toNat:Int) &&& ofInt 32 1).toNat:Nat):Int)==1)=_
 rw[show ofInt 32 (v.toNat:Int)=v from Kta v,Hjb,I2b,K2b,show (ofInt 32 1).toNat=1 from by decide,Nat.and_one_is_mod,Jyb,beq_iff_eq,decide_eq_true_iff]
 omega
def Hlb (v:BitVec 32):((wrap .i64 ((ofInt (IntKind.bits .i64) (v.toNat:Int) &&& ofInt (IntKind.bits .i64) 1).toNat))==1)=v.getLsbD 0:=by
 have:=v.isLt
 rw[I2b,K2b,Kua _ v.isLt,show (ofInt (IntKind.bits .i64) 1).toNat=1 from by decide,Nat.and_one_is_mod,w64 (by omega) (by omega),Jyb,beq_iff_eq,decide_eq_true_iff]
 omega
def Hmb (v w:BitVec 32) (x:Int) (h:ofInt 32 x=w):wrap .u32 ((ofInt (IntKind.bits .u32) (v.toNat:Int) ^^^ ofInt (IntKind.bits .u32) x).toNat)=((v ^^^ w).toNat:Int):=by
 show wrap .u32 (((ofInt 32 (v.toNat:Int) ^^^ ofInt 32 x).toNat:Nat):Int)=_
 rw[show ofInt 32 (v.toNat:Int)=v from Kta v,h]
 exact Hjb _
def H5b (v w:BitVec 32):wrap .i64 ((ofInt (IntKind.bits .i64) (v.toNat:Int) ^^^ ofInt (IntKind.bits .i64) (w.toNat:Int)).toNat)=((v ^^^ w).toNat:Int):=by
 have:=(v ^^^ w).isLt
 rw[BitVec.toNat_xor,Kua _ v.isLt,Kua _ w.isLt,← BitVec.toNat_xor]
 exact w64 (by omega) (by omega)
def I3b (K:IntKind) (h:1≤IntKind.bits K):(2:Int) ^ (min (toNat 1) (IntKind.bits K))=2:=by
 rw[show toNat 1=1 from rfl,Zw h];rfl
def Psa (l:List Int) (x8 x9:Int):∀ (n:Nat) (v:BitVec 32) (i:Int),0≤i→8-i=n→Tot (λ k=>Ji k (v.toNat:Int) l x8 x9 i) (λ r=>r=(((C4a n v).toNat:Int),l,x8,x9)):=by
 intro n
 induction n with
 |zero=>
  intro v i h0 hn
  refine Tot.succ ?_
  simp only[Ji]
  exact Ilb (by omega) (Igb rfl)
 |succ n ih=>
  intro v i h0 hn
  refine Tot.succ ?_
  simp only[Ji]
  refine Ikb (by omega) ?_
  rw[w64 (n:=i+1) (by omega) (by omega),Hkb,I3b _ (by decide),sh1,Hmb _ 2197175160#32 _ (by decide)]
  have e:C4a (n+1) v=C4a n (cst v):=rfl
  rw[e]
  refine Imb (λ h=>?_) (λ h=>?_)
  ·have:=ih (v >>> 1 ^^^ 2197175160#32) (i+1) (by omega) (by omega)
   rwa [show v >>> 1 ^^^ 2197175160#32=cst v by unfold cst;rw[if_pos h]]at this ⊢
  ·have:=ih (v >>> 1) (i+1) (by omega) (by omega)
   rwa [show v >>> 1=cst v by unfold cst;rw[if_neg (by rw[h];simp)]]at this ⊢
def Kva (l:List Int) (x4:Int):∀ (n:Nat) (v:BitVec 32) (i:Int),0≤i→8-i=n→Tot (λ k=>Hi k l (v.toNat:Int) x4 i) (λ r=>r=(l,((C4a n v).toNat:Int),x4)):=by
 intro n
 induction n with
 |zero=>
  intro v i h0 hn
  refine Tot.succ ?_
  simp only[Hi]
  exact Ilb (by omega) (Igb rfl)
 |succ n ih=>
  intro v i h0 hn
  refine Tot.succ ?_
  simp only[Hi]
  have hp:(2197175160:Int)=((2197175160#32:BitVec 32).toNat:Int):=by decide
  refine Ikb (by omega) ?_
  rw[w64 (n:=i+1) (by omega) (by omega),Hlb,I3b _ (by decide),sh1,hp,H5b]
  have e:C4a (n+1) v=C4a n (cst v):=rfl
  rw[e]
  refine Imb (λ h=>?_) (λ h=>?_)
  ·have:=ih (v >>> 1 ^^^ 2197175160#32) (i+1) (by omega) (by omega)
   rwa [show v >>> 1 ^^^ 2197175160#32=cst v by unfold cst;rw[if_pos h]]at this ⊢
  ·have:=ih (v >>> 1) (i+1) (by omega) (by omega)
   rwa [show v >>> 1=cst v by unfold cst;rw[if_neg (by rw[h];simp)]]at this ⊢
def Nka {b:Int} (h:0≤b∧b≤255):b=((ofInt 32 b).toNat:Int):=by
 rw[Kdb]
 omega
def Csb (l:List Int) (hb:Ai l) (hl:l.length≤1000000000000):Tot (λ k=>M9 k l) (λ r=>r=crc l):=by
 unfold M9
 refine Ihb (Q:=λ r=>r=(((l.foldl cby 4294967295#32).toNat:Nat):Int)) ?_ ?_
 ·have:=Ipb (L:=λ k i s=>Jx k s l (l.length:Int) i) (Q:=λ r=>r=(((l.foldl cby 4294967295#32).toNat:Nat):Int)) l.length (λ i s=>∃ v:BitVec 32,s=(v.toNat:Int)∧(l.drop i).foldl cby v=l.foldl cby 4294967295#32) ?_ ?_ 0 4294967295 (Vs _) ⟨4294967295#32,by decide,by rw[Ya]⟩
  ·exact this
  ·rintro s ⟨v,rfl,hv⟩
   simp only[Jx]
   rw[Wh]at hv
   exact Ilb (by omega) (Igb (by rw[← hv];rfl))
  ·rintro i s hi ⟨v,rfl,hv⟩ next
   simp only[Jx]
   have hx:=hb _ (A4 (d:=0) hi)
   refine Ikb (by omega) (Ikb (by omega) (Ikb (by omega) ?_))
   rw[Vd,Lmb _ ⟨hx.1,by omega⟩,Hmb v _ _ rfl]
   refine Isb (Psa l _ _ 8 _ 0 (by decide) (by decide)) ?_
   simp only
   rw[w64 (n:=(i:Int)+1) (by omega) (by omega)]
   refine next _ ⟨_,rfl,?_⟩
   rw[Au (d:=0) hi,Zc]at hv
   exact hv
 ·rintro r rfl
  refine Igb ?_
  unfold crc Eib
  have hm:ofInt 32 (if IntKind.signed .u32 then -1 else IntKind.max .u32)=BitVec.allOnes 32:=by decide
  have e:BitVec.allOnes 32 ^^^ l.foldl cby 4294967295#32 = ~~~ (l.foldl cby 4294967295#32):=by rw[Lwb];exact BitVec.xor_allOnes
  show wrap .i64 (wrap .u32 (((ofInt 32 (if IntKind.signed .u32 then -1 else IntKind.max .u32) ^^^ ofInt 32 ((l.foldl cby 4294967295#32).toNat:Int)).toNat:Nat):Int))=_
  rw[show ofInt 32 ((l.foldl cby 4294967295#32).toNat:Int)=l.foldl cby 4294967295#32 from Kta _,hm,e]
  have:=(~~~ (l.foldl cby 4294967295#32)).isLt
  rw[Hjb,w64 (by omega) (by omega)]
def Ctb (l:List Int) (hb:Ai l) (hl:l.length≤1000000000000):Tot (λ k=>Ll k l) (λ r=>r=crc l):=by
 unfold Ll
 refine Ihb (Q:=λ r=>r=(((l.foldl cby 4294967295#32).toNat:Nat):Int)) ?_ ?_
 ·have:=Ipb (L:=λ k i s=>Hz k l s i) (Q:=λ r=>r=(((l.foldl cby 4294967295#32).toNat:Nat):Int)) l.length (λ i s=>∃ v:BitVec 32,s=(v.toNat:Int)∧(l.drop i).foldl cby v=l.foldl cby 4294967295#32) ?_ ?_ 0 4294967295 (Vs _) ⟨4294967295#32,by decide,by rw[Ya]⟩
  ·exact this
  ·rintro s ⟨v,rfl,hv⟩
   simp only[Hz]
   rw[Wh]at hv
   exact Ilb (by omega) (Igb (by rw[← hv];rfl))
  ·rintro i s hi ⟨v,rfl,hv⟩ next
   simp only[Hz]
   have hx:=hb _ (A4 (d:=0) hi)
   refine Ikb (by omega) (Ikb (by omega) (Ikb (by omega) ?_))
   rw[Vd,w64 (n:=l.getD i 0) (by omega) (by omega),Nka hx,H5b]
   refine Isb (Kva l _ 8 _ 0 (by decide) (by decide)) ?_
   simp only
   rw[w64 (n:=(i:Int)+1) (by omega) (by omega)]
   refine next _ ⟨_,rfl,?_⟩
   rw[Au (d:=0) hi,Zc]at hv
   exact hv
 ·rintro r rfl
  refine Igb ?_
  have hp:(4294967295:Int)=((BitVec.allOnes 32:BitVec 32).toNat:Int):=by decide
  rw[hp,H5b,BitVec.xor_allOnes]
  rfl

def Ejb:Fil:=(((0:Int),((0:Int),(0:Int))),(false,([]:List Int)))
def D9 (f:Fil):Bool:=G9 f.1&&(decide ((f.2.2.length:Int)≤200)&&(!f.2.1||((f.2.2.length:Int)==0)))
def Exa (f:Fil):Ff f=some (D9 f):=by
 unfold Ff D9
 rw[Ata]
 simp only[Vm]
 cases G9 f.1<;>cases decide ((length f.2.2:Int)≤200)<;>cases f.2.1<;>rfl
def Ul (f:Fil):Bz f=some (D9 f):=by
 unfold Bz D9
 rw[Rl]
 simp only[Vm]
 cases G9 f.1<;>cases decide ((length f.2.2:Int)≤200)<;>cases f.2.1<;>rfl
def Ju {f:Fil}:D9 f=true↔G9 f.1=true∧f.2.2.length≤200∧(f.2.1=true→f.2.2=[]):=by
 unfold D9
 rw[Va,Va,decide_eq_true_iff]
 have:(!f.2.1||((f.2.2.length:Int)==0))=true↔(f.2.1=true→f.2.2=[]):=by
  cases f.2.1 with
  |false=>simp
  |true=>simp
 rw[this]
 constructor
 ·rintro⟨h1,h2,h3⟩;exact⟨h1,by omega,h3⟩
 ·rintro⟨h1,h2,h3⟩;exact⟨h1,by omega,h3⟩
def Hua (a b:Fil):Je a b=some (sle b.1 a.1):=by unfold Je;rw[Mza];rfl
def Tza (a b:Fil):L8 a b=some (sle b.1 a.1):=by unfold L8;rw[Ena];rfl
def hdF (s:Stp) (d:Bool):List Int:=Qoa s++Pc (Bq (C2a d))
def Pd (f:Fil):List Int:=hdF f.1 f.2.1++txt (Le f.2.2)
def c4 (c:Int):List Int:=[wrap .u8 (Int.fdiv c (2 ^ (min (toNat 24) (IntKind.bits .i64)))),wrap .u8 (Int.fdiv c (2 ^ (min (toNat 16) (IntKind.bits .i64)))),wrap .u8 (Int.fdiv c (2 ^ (min (toNat 8) (IntKind.bits .i64)))),wrap .u8 c]
def Kh (f:Fil):List Int:=bif D9 f then Pd f++c4 (crc (Pd f)) else []
def Pw {a b:List Int} (ha:Ai a) (hb:Ai b):Ai (a++b):=λ x hx=>(Vo.1 hx).elim (ha x) (hb x)
def Rq (n:Int):Ai (Pc (Bq n)):=Pma _ (On n)
def U0a (s:Stp) (d:Bool):Ai (hdF s d):=Pw (Pw (Rq _) (Pw (Rq _) (Rq _))) (Rq _)
def Qm (f:Fil):Ai (Pd f):=Pw (U0a _ _) (Pw (Rq _) (D6a _))
def Y5a (c:Int):Ai (c4 c):=by
 intro x hx
 simp only[c4,Vl,Zt,or_false]at hx
 rcases hx with rfl|rfl|rfl|rfl<;>exact H8a _
def Of (f:Fil):Ai (Kh f):=by
 unfold Kh
 cases D9 f with
 |false=>intro x hx;simp at hx
 |true=>exact Pw (Qm f) (Y5a _)
def Kwa (s:Stp) (d:Bool):(hdF s d).length≤20:=by
 have h1:=Esa s
 have h2:=(Mf (Bq (C2a d))).1
 unfold hdF
 rw[Ve]
 omega
def B3a (f:Fil):(Pd f).length≤25+f.2.2.length:=by
 have h1:=Kwa f.1 f.2.1
 have h2:=Tka (Le f.2.2)
 have h3:(Le f.2.2).size=f.2.2.length:=Nq _
 unfold Pd
 rw[Ve]
 omega
def Qn (f:Fil):(Kh f).length≤229:=by
 unfold Kh
 cases h:D9 f
 ·simp
 have h1:=B3a f
 have h2:=(Ju.1 h).2.1
 rw[cond_true,Ve]
 simp only[c4,Vc,Vi]
 omega
def Qo (f:Fil):Tot (λ k=>Ey k f) (λ r=>r=Kh f):=by
 unfold Ey Kh
 refine Isb (Itb (Q:=λ b=>b=D9 f) (Exa f) rfl) ?_
 cases h:D9 f
 ·exact Ijb rfl (Igb rfl)
 have h2:=(Ju.1 h).2.1
 have h3:(Le f.2.2).size=f.2.2.length:=Nq _
 have h4:=Kwa f.1 f.2.1
 have h5:=B3a f
 refine Iib rfl (Isb (Pna [] f.1 f.2.1 (by simp)) ?_)
 rw[Vz]
 refine Isb (Xwa _ _ (by unfold hdF at h4;omega) (by omega)) ?_
 have e:Qoa f.1++Pc (Bq (C2a f.2.1))++txt (Le f.2.2)=Pd f:=rfl
 rw[e]
 refine Isb (Csb _ (Qm f) (by omega)) ?_
 exact Iob (by simp only[Vc,Vi];omega) (Igb rfl)
def Qp (f:Fil):Tot (λ k=>Bb k f) (λ r=>r=Kh f):=by
 unfold Bb Kh
 refine Isb (Itb (Q:=λ b=>b=D9 f) (Ul f) rfl) ?_
 cases h:D9 f
 ·exact Ijb rfl (Igb rfl)
 have h2:=(Ju.1 h).2.1
 have h3:(Le f.2.2).size=f.2.2.length:=Nq _
 have h4:=Kwa f.1 f.2.1
 have h5:=B3a f
 have h6:=Esa f.1
 refine Iib rfl (Isb (D8a [] f.1 (by simp)) ?_)
 rw[Vz]
 refine Isb (Itb (Q:=λ r=>r=C2a f.2.1) (N9a _) rfl) ?_
 refine Isb (W9 _ _ (by omega)) ?_
 refine Isb (N6a _ _ (by unfold hdF at h4;omega) (by omega)) ?_
 have e:Qoa f.1++Pc (Bq (C2a f.2.1))++txt (Le f.2.2)=Pd f:=rfl
 rw[e]
 refine Isb (Ctb _ (Qm f) (by omega)) ?_
 exact Iob (by simp only[Vc,Vi];omega) (Igb rfl)
def Mz (b:List Int):Option Fil:=(Qx b 0).bind λ a=>(N7a b a.2).bind λ t=>bif D9 (a.1.1,a.1.2,bytesOf t.1)&&decide (Kh (a.1.1,a.1.2,bytesOf t.1)=b) then some (a.1.1,a.1.2,bytesOf t.1) else none
def Um (b:List Int):Fil×Bool:=match Mz b with
 |some f=>(f,true)
 |none=>(Ejb,false)
def Eya {b:List Int} {f:Fil} (h:Mz b=some f):D9 f=true∧Ai f.2.2∧Kh f=b:=by
 unfold Mz at h
 simp only[Kcb]at h
 obtain⟨a,_,t,_,h⟩:=h
 cases hc:(D9 (a.1.1,a.1.2,bytesOf t.1)&&decide (Kh (a.1.1,a.1.2,bytesOf t.1)=b))
 ·rw[hc]at h;cases h
 rw[hc]at h
 simp only[cond_true,Vg]at h
 subst h
 rw[Va,decide_eq_true_iff]at hc
 exact⟨hc.1,D6a _,hc.2⟩
def U1a (s:Stp) (d:Bool) (rest:List Int) (h:G9 s=true):Qx (hdF s d++rest) 0=some ((s,d),(hdF s d).length):=by
 obtain⟨t,c,n⟩:=s
 unfold G9 at h
 simp only[Va,Co]at h
 obtain⟨⟨t0,t1⟩,⟨c0,c1⟩,n0,n1⟩:=h
 have ht:=Awa t0 t1
 have hc:=Awa c0 (show c≤1000000000 by omega)
 have hn:=Awa n0 (show n≤1000000000 by omega)
 have hbit:(((Bq (C2a d):Nat):Int)==1)=d:=by cases d<;>decide
 have hbit2:¬ (1<Bq (C2a d)):=by cases d<;>decide
 have k:∀ (a:List Int) (n:Nat) (b:List Int),n≤1000000000→Pg (a++(Pc n++b)) a.length=some (n,(a++Pc n).length):=λ a n b hn=>by rw[N4a a n b hn,Ve]
 have e0:hdF (t,c,n) d++rest=Pc (Bq t)++(Pc (Bq c)++(Pc (Bq n)++(Pc (Bq (C2a d))++rest))):=by
  unfold hdF Qoa
  simp only[Vp]
 have el:(hdF (t,c,n) d).length=(Pc (Bq t)).length+(Pc (Bq c)).length+(Pc (Bq n)).length+(Pc (Bq (C2a d))).length:=by
  unfold hdF Qoa
  simp only[Ve]
  omega
 have g1:=k [] (Bq t) (Pc (Bq c)++(Pc (Bq n)++(Pc (Bq (C2a d))++rest))) (On t)
 have g2:=k (Pc (Bq t)) (Bq c) (Pc (Bq n)++(Pc (Bq (C2a d))++rest)) (On c)
 have g3:=k (Pc (Bq t)++Pc (Bq c)) (Bq n) (Pc (Bq (C2a d))++rest) (On n)
 have g4:=k (Pc (Bq t)++Pc (Bq c)++Pc (Bq n)) (Bq (C2a d)) rest (On _)
 simp only[Vp,Vz,Vi]at g1 g2 g3 g4
 simp only[Ve]at g1 g2 g3 g4
 unfold Qx
 rw[e0,el]
 simp only[Zl]at g1 g2 g3 g4 ⊢
 simp only[g1,g2,g3,g4,Vm,decide_eq_false hbit2,cond_false]
 rw[ht,hc,hn,hbit]
def Y6a {l:List Int} {q:Nat} {s:Stp} {d:Bool} (hb:Ai l) (h:Qx l 0=some ((s,d),q)):l=hdF s d++l.drop q∧q≤l.length:=by
 unfold Qx at h
 simp only[Kcb]at h
 obtain⟨⟨t,p2⟩,h2,⟨c,p3⟩,h3,⟨n,p4⟩,h4,⟨e,p5⟩,h5,h⟩:=h
 obtain⟨b1,b2,b3,b4⟩:=Te hb h2
 obtain⟨c1,c2,c3,c4⟩:=Te hb h3
 obtain⟨d1,d2,d3,d4⟩:=Te hb h4
 obtain⟨e1,e2,e3,e4⟩:=Te hb h5
 cases hd:decide (1<e)
 case true=>simp only[hd,cond_true]at h;cases h
 simp only[hd,cond_false,Vg,Wa]at h
 obtain⟨⟨⟨rfl,rfl,rfl⟩,rfl⟩,rfl⟩:=h
 have he:e≤1:=by
  have:=of_decide_eq_false hd
  omega
 have hbit:Bq (C2a ((e:Int)==1))=e:=by
  have:e=0∨e=1:=by omega
  rcases this with rfl|rfl<;>decide
 have k:∀ n:Nat,n≤1000000000→Bq (n:Int)=n:=λ n hn=>by unfold Bq;omega
 simp only at b1 b2 c1 c2 d1 d2 e1 e2
 refine⟨?_,e4⟩
 rw[Ya]at b1
 unfold hdF Qoa
 simp only
 rw[k t b2,k c c2,k n d2,hbit,Vp,Vp,Vp,← e1,← d1,← c1,← b1]
def Si {f:Fil} (h:D9 f=true) (hb:Ai f.2.2):Mz (Kh f)=some f:=by
 obtain⟨h1,h2,h3⟩:=Ju.1 h
 have e:Kh f=hdF f.1 f.2.1++(txt (Le f.2.2)++c4 (crc (Pd f))):=by
  unfold Kh
  rw[h,cond_true]
  unfold Pd
  rw[Vp]
 have g1:=U1a f.1 f.2.1 (txt (Le f.2.2)++c4 (crc (Pd f))) h1
 have g2:=Xxa (hdF f.1 f.2.1) (Le f.2.2) (c4 (crc (Pd f))) (by rw[Nq];omega)
 rw[← e]at g1 g2
 unfold Mz
 simp only[g1,g2,Vm]
 rw[Oe hb]
 have e1:(f.1,f.2.1,f.2.2)=f:=rfl
 rw[e1,h,decide_eq_true rfl]
 rfl
def Un {a b:List Int} (ha:Ai a) (hb:Ai b):((Le a).toList==(Le b).toList)=decide (a=b):=by
 have:teq (Le a) (Le b)=decide (a=b):=by
  rw[Jyb,Cy,decide_eq_true_iff]
  constructor
  ·intro h
   have:=congrArg bytesOf h
   rwa [Oe ha,Oe hb]at this
  ·rintro rfl;rfl
 exact this
def Y7a (l:List Int) (hb:Ai l) (hl:l.length≤1000000000000) (p:Int) (hp:p≤1000000000000):
  Tot (λ k=>Cp k (l,p,true)) (λ r=>r=((⟨#[]⟩:ByteArray),l,p,true)):=by
 unfold Cp
 refine Isb (N8a l hb hl p hp) ?_
 exact Ijb rfl (Igb rfl)
def Y8a {f:Fil}:(((Kh f).length:Int)==0) = !(D9 f):=by
 unfold Kh
 cases h:D9 f
 ·rfl
 rw[cond_true,Ve,Yq,beq_eq_false_iff_ne]
 simp only[c4,Vc,Vi]
 omega
def Tg (b:List Int) (hb:Ai b) (hl:b.length≤1000000000000):Tot (λ k=>Gg k b) (λ r=>r=Um b):=by
 unfold Gg
 refine Ihb (Hib b hb hl 0 (Vs _) false) ?_
 rintro r (⟨_,⟨s,d⟩,q,h1,h2,rfl⟩|⟨h1,s,d,q,h2,rfl⟩)
 ·refine Ihb (Hhb b hb hl q h2) ?_
  rintro r (⟨t,q2,h3,h4,rfl⟩|⟨h3,rfl⟩)
  ·have hsz:=(Kla hb h3).2.1
   refine Iob (by dsimp only;omega) (Isb (Qo _) ?_)
   refine Iib rfl ?_
   have e:Um b=bif D9 (s,d,bytesOf t)&&decide (Kh (s,d,bytesOf t)=b) then ((s,d,bytesOf t),true) else (Ejb,false):=by
    unfold Um Mz
    simp only[h1,h3,Vm]
    cases D9 (s,d,bytesOf t)&&decide (Kh (s,d,bytesOf t)=b)<;>rfl
   simp only
   rw[e,Y8a]
   cases hf:D9 (s,d,bytesOf t)
   ·exact Ijb rfl (Igb rfl)
   refine Iib rfl ?_
   rw[Un (Of _) hb]
   cases decide (Kh (s,d,bytesOf t)=b) with
   |false=>exact Ijb rfl (Igb rfl)
   |true=>exact Iib rfl (Igb rfl)
  ·refine Iob (Vs _) (Isb (Qo _) ?_)
   refine Ijb rfl (Igb ?_)
   unfold Um Mz
   simp only[h1,h3,Vm,Jfb]
   rfl
 ·refine Isb (Y7a b hb hl q (by omega)) ?_
  refine Iob (Vs _) (Isb (Qo _) ?_)
  refine Ijb rfl (Igb ?_)
  unfold Um Mz
  simp only[h1.resolve_left (by simp),Jfb]
  rfl
def B4a (b:List Int) (hb:Ai b) (hl:b.length≤1000000000000):Tot (λ k=>Gj k b) (λ r=>r=Um b):=by
 have none_of:Mz b=none→Um b=(Ejb,false):=λ h=>by unfold Um;rw[h]
 unfold Gj
 refine Ihb (Cnb b hb hl 0) ?_
 rintro r (⟨n1,p1,n2,p2,n3,p3,_,g1,g2,g3,rfl⟩|⟨h,hr⟩)
 ·refine Isb (W8 b hb hl (p3:Int)) ?_
  rw[Y8]
  have g1':Pg b 0=some (n1,p1):=g1
  cases g4:Pg b p3 with
  |none=>
   refine Isb (Era b hb hl 0) ?_
   refine Iib rfl (Ijb rfl (Igb (none_of ?_).symm))
   unfold Mz Qx
   simp only[g1',g2,g3,g4,Vm,Jfb]
  |some x=>
   obtain⟨n4,p4⟩:=x
   simp only
   have es:Qx b 0=bif decide (1<n4) then none else some ((((n1:Int),(n2:Int),(n3:Int)),(n4:Int)==1),p4):=by
    unfold Qx
    simp only[g1',g2,g3,g4,Vm]
   refine Isb (Era b hb hl (p4:Int)) ?_
   rw[Naa]
   refine Iib rfl (Iib rfl ?_)
   cases g5:N7a b p4 with
   |none=>
    refine Ijb rfl (Igb (none_of ?_).symm)
    unfold Mz
    rw[es]
    cases decide (1<n4) with
    |true=>rfl
    |false=>simp only[cond_false,Vm,g5,Jfb]
   |some y=>
    obtain⟨t,q⟩:=y
    refine Iib rfl (Inb (λ h=>Igb (none_of ?_).symm) (λ h=>?_))
    ·unfold Mz
     rw[es,decide_eq_true (by omega)]
     rfl
    ·rw[decide_eq_false (by omega),cond_false]at es
     have hq:=Kla hb g5
     simp only
     rw[w64 (n:=(q:Int)+4) (by omega) (by omega)]
     have ef:Mz b=bif D9 (((n1:Int),(n2:Int),(n3:Int)),(n4:Int)==1,bytesOf t)&&decide (Kh (((n1:Int),(n2:Int),(n3:Int)),(n4:Int)==1,bytesOf t)=b) then some (((n1:Int),(n2:Int),(n3:Int)),(n4:Int)==1,bytesOf t) else none:=by
      unfold Mz
      simp only[es,g5,Vm]
     refine Imb (λ h4=>Igb (none_of ?_).symm) (λ h4=>?_)
     ·rw[ef]
      cases hc:(D9 (((n1:Int),(n2:Int),(n3:Int)),(n4:Int)==1,bytesOf t)&&decide (Kh (((n1:Int),(n2:Int),(n3:Int)),(n4:Int)==1,bytesOf t)=b))
      ·rfl
      exfalso
      rw[Va,decide_eq_true_iff]at hc
      have a1:=(Y6a hb es).1
      rw[hq.1]at a1
      have a2:=hc.2
      unfold Kh at a2
      rw[hc.1,cond_true]at a2
      unfold Pd at a2
      simp only at a2
      rw[Ui,Vp]at a2
      rw[← a2]at a1
      have a3:=Lob (Lob a1)
      have a4:=congrArg length a3
      rw[a2,We]at a4
      simp only[c4,Vc,Vi]at a4
      have:(q:Int)+4=(b.length:Int):=by omega
      simp[this]at h4
     ·refine Iob (by simp only[Vi];omega) ?_
      rw[Vz]
      refine Isb (Itb (Q:=λ r=>r=D9 (((n1:Int),(n2:Int),(n3:Int)),(n4:Int)==1,bytesOf t)) (Ul _) rfl) ?_
      unfold Um
      rw[ef]
      cases hf:D9 (((n1:Int),(n2:Int),(n3:Int)),(n4:Int)==1,bytesOf t)
      ·exact Ijb rfl (Igb rfl)
      refine Iib rfl (Isb (Qp _) ?_)
      rw[Un (Of _) hb,Vw]
      cases decide (Kh (((n1:Int),(n2:Int),(n3:Int)),(n4:Int)==1,bytesOf t)=b) with
      |false=>exact Ijb rfl (Igb rfl)
      |true=>exact Iib rfl (Igb rfl)
 ·obtain⟨r1,r2,r3⟩:=r
  simp only at hr
  subst hr
  refine Isb (W8 b hb hl _) ?_
  refine Isb (Era b hb hl _) ?_
  refine Ijb rfl (Igb (none_of ?_).symm)
  unfold Mz
  rw[Tla (p:=0) (h.resolve_right (by omega))]
  rfl

def gt (l:List Nmd) (s:ByteArray):Option (List Int):=match fnd l s with
 |some i=>some (l.getD i Ed).2
 |none=>none
def Kxa (y:Nmd) (l:List Nmd) (s:ByteArray):gt (y::l) s=if y.1=s then some y.2 else gt l s:=by
 unfold gt
 rw[Nga]
 by_cases h:y.1=s
 ·rw[if_pos (Cy.2 h),if_pos h];rfl
 ·rw[if_neg (λ c=>h (Cy.1 c)),if_neg h]
  cases fnd l s<;>rfl
def Ob {l:List Nmd} {s:ByteArray} {b:List Int} (h:gt l s=some b):(s,b)∈l:=by
 induction l with
 |nil=>cases h
 |cons y l ih=>
  rw[Kxa]at h
  by_cases e:y.1=s
  ·rw[if_pos e]at h
   cases h
   subst e
   exact Yc
  ·rw[if_neg e]at h
   exact Vh _ (ih h)
def Nr {l:List Nmd} {s:ByteArray}:gt l s=none↔∀ x∈l,x.1≠s:=by
 rw[← Y0a]
 unfold gt
 cases fnd l s with
 |none=>simp
 |some i=>simp
def Eza {l:List Nmd} (hs:D5 l) {x:Nmd} (hx:x∈l):gt l x.1=some x.2:=by
 cases h:gt l x.1 with
 |none=>exact absurd rfl (Nr.1 h x hx)
 |some b=>rw[show x=(x.1,b) from Crb hs hx (Ob h) rfl]
def Hva {l:List Nmd} (hs:D5 l) {s:ByteArray} {b:List Int}:gt l s=some b↔(s,b)∈l:=⟨Ob,λ h=>Eza hs h⟩
def B5a {l:List Nmd} {s:ByteArray}:(gt l s).isSome=(fnd l s).isSome:=by
 unfold gt
 cases fnd l s<;>rfl
def Sy {l:List Nmd} (hs:D5 l) {s t:ByteArray}:gt (cut l s) t=if s=t then none else gt l t:=by
 by_cases h:s=t
 ·subst h
  rw[if_pos rfl,Nr]
  exact Xc
 ·rw[if_neg h]
  cases hg:gt l t with
  |none=>exact Nr.2 λ x hx=>Nr.1 hg x (Nc.subset hx)
  |some b=>
   rw[Hva (Mg hs)]
   refine Jxb.2 ⟨Ob hg,?_⟩
   cases ht:teq t s with
   |false=>simp[ht]
   |true=>exact absurd (Cy.1 ht).symm h
def Adb {l:List Nmd} (hs:D5 l) {x:Nmd} (hn:∀ y∈l,y.1≠x.1) {t:ByteArray}:gt (ins l x) t=if x.1=t then some x.2 else gt l t:=by
 have hi:=Pv hs hn
 by_cases h:x.1=t
 ·subst h
  rw[if_pos rfl,Hva hi]
  exact Ws.2 (.inl rfl)
 ·rw[if_neg h]
  cases hg:gt l t with
  |none=>
   refine Nr.2 λ y hy=>?_
   rcases Ws.1 hy with rfl|hy
   ·exact h
   ·exact Nr.1 hg y hy
  |some b=>
   rw[Hva hi]
   exact Ws.2 (.inr (Ob hg))
def Aeb:∀ {l m:List Nmd},D5 l→D5 m→(∀ s,gt l s=gt m s)→l=m:=by
 have key:∀ {l m:List Nmd},D5 l→D5 m→(∀ s,gt l s=gt m s)→∀ x∈l,x∈m:=λ hl hm h x hx=>by
  have:=h x.1
  rw[Eza hl hx]at this
  exact Ob this.symm
 intro l m hl hm h
 have h1:∀ x,x∈l↔x∈m:=λ x=>⟨key hl hm h x,key hm hl (λ s=>(h s).symm) x⟩
 clear h key
 induction l generalizing m with
 |nil=>
  cases m with
  |nil=>rfl
  |cons y m=>exact absurd ((h1 y).2 (by simp)) (by simp)
 |cons x l ih=>
  cases m with
  |nil=>exact absurd ((h1 x).1 (by simp)) (by simp)
  |cons y m=>
   obtain⟨a1,a2⟩:=Wg.1 hl
   obtain⟨b1,b2⟩:=Wg.1 hm
   have e:x=y:=by
    rcases Vl.1 ((h1 x).1 (by simp)) with h|h
    ·exact h
    ·rcases Vl.1 ((h1 y).2 (by simp)) with h'|h'
     ·exact h'.symm
     ·have c1:=a1 y h'
      rw[Ud (b1 x h)]at c1
      cases c1
   subst e
   congr 1
   refine ih a2 b2 λ z=>⟨λ hz=>?_,λ hz=>?_⟩
   ·rcases Vl.1 ((h1 z).1 (Vh _ hz)) with rfl|h
    ·have c:=a1 z hz
     rw[G8]at c
     cases c
    ·exact h
   ·rcases Vl.1 ((h1 z).2 (Vh _ hz)) with rfl|h
    ·have c:=b1 z hz
     rw[G8]at c
     cases c
    ·exact h
def U2a (l:List Nmd) (s:ByteArray):rdN l s=match gt l s with|some b=>(b,true)|none=>([],false):=by
 unfold rdN gt
 cases fnd l s<;>rfl
def Ij {s:ByteArray} (h:As s=true):Kf s:=by
 have:=(Aya h).2
 unfold Kf
 omega
def Df {d:Dsk}:Al d=true↔Iz d.1=true∧Iz d.2=true:=by
 unfold Al
 rw[Va]
def Kk {d:Dsk} (h:Al d=true):D5 d.1:=(Aj.1 (Df.1 h).1).1
def Oq {d:Dsk} (h:Al d=true):D5 d.2:=(Aj.1 (Df.1 h).2).1
def LB (l:List Nmd):Prop:=∀ x∈l,Ai x.2
def DB (d:Dsk):Prop:=LB d.1∧LB d.2
def LB.cut {l:List Nmd} (h:LB l) (s:ByteArray):LB (cut l s):=λ x hx=>h x (Nc.subset hx)
def LB.ins {l:List Nmd} (h:LB l) {x:Nmd} (hx:Ai x.2):LB (ins l x):=λ y hy=>by
 rcases Ws.1 hy with rfl|hy
 ·exact hx
 ·exact h y hy
def LB.gt {l:List Nmd} (h:LB l) {s:ByteArray} {b:List Int} (hg:gt l s=some b):Ai b:=h _ (Ob hg)
def Nf:Ai []:=λ x hx=>by cases hx
def wr (l:List Nmd) (s:ByteArray) (b:List Int):List Nmd:=ins (cut l s) (s,b)
def sy (d:Dsk) (s:ByteArray):List Nmd:=match gt d.1 s with
 |some b=>wr d.2 s b
 |none=>cut d.2 s
def wrD (d:Dsk) (s:ByteArray) (b:List Int):Dsk×Bool:=bif decide (b.length≤400)&&decide ((wr d.1 s b).length≤60) then ((wr d.1 s b,d.2),true) else (d,false)
def syD (d:Dsk) (s:ByteArray):Dsk×Bool:=bif decide ((sy d s).length≤60) then ((d.1,sy d s),true) else (d,false)
def rmD (d:Dsk) (s:ByteArray):Dsk×Bool:=bif (gt d.1 s).isSome then ((cut d.1 s,d.2),true) else (d,false)
section
variable {d:Dsk} {s:ByteArray} {b:List Int}
def U3a (hd:Al d=true):wrI d s b=wr d.1 s b:=by
 unfold wrI wr
 rw[Tf (Kk hd)]
def U4a (hd:Al d=true):syI d s=sy d s:=by
 unfold syI sy gt wr
 rw[Tf (Oq hd)]
 cases fnd d.1 s<;>rfl
def Pta (hd:Al d=true) (hs:As s=true) (hb:b.length≤1000000000000):Tot (λ k=>Dz k d s b) (λ r=>r=wrD d s b):=by
 refine(Txa d s b (Nd hd) (Ij hs) hb).mono ?_
 rintro r rfl
 rw[hd,hs,U3a hd]
 rfl
def Wt (hd:Al d=true) (hs:As s=true) (hb:b.length≤1000000000000):Tot (λ k=>B5 k d s b) (λ r=>r=wrD d s b):=by
 refine(Hqa d s b (Nd hd) (Ij hs) hb).mono ?_
 rintro r rfl
 obtain⟨h1,h2⟩:=Nia (b:=b) hd hs
 rw[hd,hs,h1,h2,U3a hd]
 rfl
def Hwa (hd:Al d=true) (hs:As s=true):Tot (λ k=>C5 k d s) (λ r=>r=syD d s):=by
 refine(Y2a d s (Nd hd) (Ij hs)).mono ?_
 rintro r rfl
 rw[hd,hs,U4a hd]
 rfl
def Rr (hd:Al d=true) (hs:As s=true):Tot (λ k=>An k d s) (λ r=>r=syD d s):=by
 refine(Nha d s (Nd hd) (Ij hs)).mono ?_
 rintro r rfl
 rw[hd,hs,Cqb hd,Twa hd hs,U4a hd]
 rfl
def Cub (hd:Al d=true) (hs:As s=true) (hb:b.length≤400) (hl:(wr d.1 s b).length≤60):Al (wr d.1 s b,d.2)=true:=by
 have:=(Nia (b:=b) hd hs).2
 rw[U3a hd,decide_eq_true hb,decide_eq_true hl]at this
 exact this
def Hnb (hd:Al d=true) (hs:As s=true) (hl:(sy d s).length≤60):Al (d.1,sy d s)=true:=by
 have:=Twa hd hs
 rw[U4a hd,decide_eq_true hl]at this
 exact this
def Nla (hd:Al d=true) (hs:As s=true):Al (wrD d s b).1=true:=by
 unfold wrD
 cases hc:decide (b.length≤400)&&decide ((wr d.1 s b).length≤60)
 ·exact hd
 rw[Va,decide_eq_true_iff,decide_eq_true_iff]at hc
 exact Cub hd hs hc.1 hc.2
def Fsb (hd:Al d=true) (hs:As s=true):Al (syD d s).1=true:=by
 unfold syD
 cases hc:decide ((sy d s).length≤60) with
 |false=>exact hd
 |true=>exact Hnb hd hs (of_decide_eq_true hc)
def Afb (hd:Al d=true):Al (rmD d s).1=true:=by
 unfold rmD
 cases (gt d.1 s).isSome with
 |false=>exact hd
 |true=>exact Df.2 ⟨Xb (Df.1 hd).1,(Df.1 hd).2⟩
def Pua (hd:Al d=true) (h:(gt d.1 s).isSome=true):As s=true:=by
 cases hg:gt d.1 s with
 |none=>rw[hg]at h;cases h
 |some b=>exact(Ql.1 ((Aj.1 (Df.1 hd).1).2.1 _ (Ob hg))).1
def Kya (hd:Al d=true):Tot (λ k=>Et k d s) (λ r=>r=rmD d s):=by
 refine(Pra d s (Nd hd).1).mono ?_
 rintro r rfl
 rw[hd,← B5a,Zz,Tf (Kk hd)]
 rfl
def Qq (hd:Al d=true) (hs:Kf s):Tot (λ k=>Bh k d s) (λ r=>r=rmD d s):=by
 refine(Dba d s (Nd hd).1 hs).mono ?_
 rintro r rfl
 unfold rmD
 rw[hd,← B5a]
 cases h:(gt d.1 s).isSome
 ·rfl
 have h1:Al (cut d.1 s,d.2)=true:=by
  have:=Afb (s:=s) hd
  unfold rmD at this
  rw[h]at this
  exact this
 rw[Pua hd h,h1]
 rfl
end
def lkD (d:Dsk) (s:ByteArray):Fil×Int:=match gt d.1 s with
 |none=>(Ejb,1)
 |some b=>match Mz b with
  |some f=>(f,0)
  |none=>(Ejb,2)
def U5a {l:List Nmd} {s:ByteArray} {b:List Int} (h:Eta l) (hg:gt l s=some b):b.length≤1000000000000:=h.2 _ (Ob hg)
def Y9 {d:Dsk} (hf:Eta d.1) (hb:LB d.1) (s:ByteArray):Tot (λ k=>Jm k d s) (λ r=>r=lkD d s):=by
 unfold Jm lkD
 refine Isb (Nea d s hf) ?_
 rw[U2a]
 cases hg:gt d.1 s with
 |none=>exact Ijb rfl (Igb rfl)
 |some b=>
  refine Iib rfl (Isb (Tg b (hb.gt hg) (U5a hf hg)) ?_)
  unfold Um
  dsimp only
  cases Mz b with
  |none=>exact Ijb rfl (Igb rfl)
  |some f=>exact Iib rfl (Igb rfl)
def Yy {d:Dsk} (hf:Eta d.1) (hb:LB d.1) (s:ByteArray):Tot (λ k=>Hn k d s) (λ r=>r=lkD d s):=by
 unfold Hn lkD
 refine Isb (Nfa d s hf) ?_
 rw[U2a]
 cases hg:gt d.1 s with
 |none=>exact Ijb rfl (Igb rfl)
 |some b=>
  refine Iib rfl (Isb (B4a b (hb.gt hg) (U5a hf hg)) ?_)
  unfold Um
  dsimp only
  cases Mz b with
  |none=>exact Ijb rfl (Igb rfl)
  |some f=>exact Iib rfl (Igb rfl)
def Ot {d:Dsk} {s:ByteArray} {f:Fil}:lkD d s=(f,0)↔∃ b,gt d.1 s=some b∧Mz b=some f:=by
 unfold lkD
 cases gt d.1 s with
 |none=>simp
 |some b=>cases h:Mz b<;>simp[h]
def old (d:Dsk) (s:ByteArray):Option Fil:=(gt d.1 s).bind Mz
def kp1 (d:Dsk) (s:ByteArray) (f:Fil):Option (Dsk×Int):=
 let w:=bif (wrD d s (Kh f)).2 then some ((wrD d s (Kh f)).1,(0:Int)) else none
 match old d s with
 |some o=>bif sle o.1 f.1 then w else some (d,1)
 |none=>w
def kp2 (d:Dsk) (s:ByteArray) (sure:Bool) (x:Dsk×Int):Dsk×Int:=bif sure then (bif (syD x.1 s).2 then ((syD x.1 s).1,x.2) else (d,3)) else x
def Mh (d:Dsk) (s:ByteArray) (f:Fil) (sure:Bool):Dsk×Int:=match kp1 d s f with
 |some x=>kp2 d s sure x
 |none=>(d,3)
def keep (d:Dsk) (s:ByteArray) (f:Fil) (sure:Bool):Dsk×Int:=bif Al d&&(As s&&D9 f) then Mh d s f sure else (d,2)
def Y9a:Mz []=none:=by
 cases h:Mz [] with
 |none=>rfl
 |some f=>
  obtain⟨h1,_,h3⟩:=Eya h
  unfold Kh at h3
  rw[h1]at h3
  simp[c4]at h3
def Ftb {d:Dsk} {s:ByteArray} {f:Fil} (hd:Al d=true) (hs:As s=true) {x:Dsk×Int} (h:kp1 d s f=some x):Al x.1=true:=by
 have hw:∀ x,(bif (wrD d s (Kh f)).2 then some ((wrD d s (Kh f)).1,(0:Int)) else none)=some x→Al x.1=true:=by
  intro x h
  cases hc:(wrD d s (Kh f)).2 with
  |false=>rw[hc]at h;cases h
  |true=>rw[hc]at h;cases h;exact Nla hd hs
 unfold kp1 at h
 simp only at h
 split at h
 ·rename_i o _
  cases hc:sle o.1 f.1 with
  |false=>rw[hc]at h;cases h;exact hd
  |true=>rw[hc]at h;exact hw _ h
 ·exact hw _ h
def Fub {d:Dsk} {s:ByteArray} (hd:Al d=true) (hs:As s=true) {x:Dsk} {c:Int} (hx:Al x=true) (sure:Bool):
  Tot (λ k=>cond sure ((C5 k x s).bind λ r=>cond (!r.2) ((A9 k d).bind λ q=>some (q,3)) (some (r.1,c))) (some (x,c))) (λ r=>r=kp2 d s sure (x,c)):=by
 unfold kp2
 cases sure
 ·exact Igb rfl
 refine Ijb rfl (Isb (Hwa hx hs) ?_)
 cases h:(syD x s).2
 case true=>exact Iib rfl (Igb rfl)
 refine Ijb rfl (Isb (Jr d (Nd hd).1.1) ?_)
 exact Igb rfl
def Yaa (d:Dsk) (s:ByteArray) (f:Fil) (sure:Bool) (hd:DIn d) (hb:LB d.1) (hs:Kf s):Tot (λ k=>M1 k d s f sure) (λ r=>r=keep d s f sure):=by
 have bad:Tot (λ k=>(A9 k d).bind λ r2=>some (r2,(2:Int))) (λ r=>r=(d,2)):=by
  refine Isb (Jr d hd.1.1) ?_
  exact Igb rfl
 unfold M1 keep
 refine Isb (Uk d hd.1.1 hd.1.2) ?_
 cases h1:Al d
 ·exact Ijb rfl bad
 refine Iib rfl (Isb (Qh s hs) ?_)
 cases h2:As s
 ·exact Ijb rfl bad
 refine Iib rfl (Isb (Itb (Q:=λ b=>b=D9 f) (Exa f) rfl) ?_)
 cases h3:D9 f
 ·exact Ijb rfl bad
 refine Iib rfl (Isb (Jr d hd.1.1) ?_)
 refine Isb (Nea d s hd.1.1.1) ?_
 have hlen:=Qn f
 have w:∀ {o:Option Fil},(kp1 d s f=bif (wrD d s (Kh f)).2 then some ((wrD d s (Kh f)).1,(0:Int)) else none)→Tot (λ k=>(Ey k f).bind λ r13=>(Dz k d s r13).bind λ r14=>cond (!r14.2) ((A9 k d).bind λ r15=>some (r15,(3:Int))) (cond sure ((C5 k r14.1 s).bind λ r16=>cond (!r16.2) ((A9 k d).bind λ r17=>some (r17,3)) (some (r16.1,0))) (some (r14.1,0)))) (λ r=>r=Mh d s f sure):=by
  intro _ e
  refine Isb (Qo f) ?_
  refine Isb (Pta h1 h2 (by omega)) ?_
  unfold Mh
  rw[e]
  cases h4:(wrD d s (Kh f)).2 with
  |false=>
   refine Ijb rfl (Isb (Jr d hd.1.1) ?_)
   exact Igb rfl
  |true=>exact Iib rfl (Fub h1 h2 (Nla h1 h2) sure)
 rw[U2a]
 have eo:old d s=(gt d.1 s).bind Mz:=rfl
 cases hg:gt d.1 s with
 |none=>
  rw[hg]at eo
  refine Isb (Tg [] Nf (by simp)) ?_
  unfold Um
  rw[Y9a]
  refine Iib rfl (w (o:=none) ?_)
  unfold kp1
  rw[eo]
  rfl
 |some b=>
  rw[hg]at eo
  have eo:old d s=Mz b:=eo
  refine Isb (Tg b (hb.gt hg) (U5a hd.1.1.1 hg)) ?_
  unfold Um
  cases ho:Mz b with
  |none=>
   refine Iib rfl (w (o:=none) ?_)
   unfold kp1
   rw[eo,ho]
  |some o=>
   rw[ho]at eo
   refine Ijb rfl (Isb (Itb (Q:=λ b=>b=sle o.1 f.1) (Hua f o) rfl) ?_)
   cases hl:sle o.1 f.1 with
   |true=>
    refine Iib rfl (w (o:=none) ?_)
    unfold kp1
    simp only[eo,hl,cond_true]
   |false=>
    have e1:Mh d s f sure=kp2 d s sure (d,1):=by
     unfold Mh kp1
     simp only[eo,hl,cond_false]
    refine Ijb rfl ?_
    show Tot _ (λ r=>r=Mh d s f sure)
    rw[e1]
    exact Fub h1 h2 h1 sure
def Fvb {d:Dsk} {s:ByteArray} (hd:Al d=true) (hs:As s=true) {x:Dsk} {c:Int} (hx:Al x=true):
  Tot (λ k=>(An k x s).bind λ r=>cond (!r.2) ((A7 k d).bind λ q=>some (q,3)) (some (r.1,c))) (λ r=>r=kp2 d s true (x,c)):=by
 unfold kp2
 refine Isb (Rr hx hs) ?_
 cases h:(syD x s).2
 case true=>exact Iib rfl (Igb rfl)
 refine Ijb rfl (Isb (Lx d (Nd hd).1.1) ?_)
 exact Igb rfl
def Nma (d:Dsk) (s:ByteArray) (f:Fil) (sure:Bool) (hd:DIn d) (hb:LB d.1) (hs:Kf s):Tot (λ k=>Jn k d s f sure) (λ r=>r=keep d s f sure):=by
 have bad:Tot (λ k=>(A7 k d).bind λ r2=>some (r2,(2:Int))) (λ r=>r=(d,2)):=by
  refine Isb (Lx d hd.1.1) ?_
  exact Igb rfl
 unfold Jn keep
 refine Isb (Qk d hd.1.1 hd.1.2) ?_
 cases h1:Al d
 ·exact Ijb rfl bad
 refine Iib rfl (Isb (P6 s hs) ?_)
 cases h2:As s
 ·exact Ijb rfl bad
 refine Iib rfl (Isb (Itb (Q:=λ b=>b=D9 f) (Ul f) rfl) ?_)
 cases h3:D9 f
 ·exact Ijb rfl bad
 refine Iib rfl (Isb (Yy hd.1.1.1 hb s) ?_)
 have hlen:=Qn f
 have w:(kp1 d s f=bif (wrD d s (Kh f)).2 then some ((wrD d s (Kh f)).1,(0:Int)) else none)→Tot (λ k=>(Bb k f).bind λ r12=>(B5 k d s r12).bind λ r13=>cond r13.2 (cond sure ((An k r13.1 s).bind λ r14=>cond (!r14.2) ((A7 k d).bind λ r15=>some (r15,(3:Int))) (some (r14.1,0))) (cond (!r13.2) ((A7 k d).bind λ r16=>some (r16,3)) (some (r13.1,0)))) (cond (!r13.2) ((A7 k d).bind λ r17=>some (r17,3)) (some (r13.1,0)))) (λ r=>r=Mh d s f sure):=by
  intro e
  refine Isb (Qp f) ?_
  refine Isb (Wt h1 h2 (by omega)) ?_
  unfold Mh
  rw[e]
  cases h4:(wrD d s (Kh f)).2 with
  |false=>
   refine Iib rfl (Ijb rfl (Isb (Lx d hd.1.1) ?_))
   exact Igb rfl
  |true=>
   refine Ijb rfl ?_
   cases sure with
   |true=>exact Ijb rfl (Fvb h1 h2 (Nla h1 h2))
   |false=>exact Iib rfl (Iib rfl (Igb rfl))
 have eo:old d s=(gt d.1 s).bind Mz:=rfl
 unfold lkD
 cases hg:gt d.1 s with
 |none=>
  rw[hg]at eo
  refine Iib rfl (w ?_)
  unfold kp1
  rw[eo]
  rfl
 |some b=>
  rw[hg]at eo
  have eo:old d s=Mz b:=eo
  simp only
  cases ho:Mz b with
  |none=>
   refine Iib rfl (w ?_)
   unfold kp1
   rw[eo,ho]
  |some o=>
   rw[ho]at eo
   refine Ijb rfl (Isb (Itb (Q:=λ b=>b=sle o.1 f.1) (Tza f o) rfl) ?_)
   cases hl:sle o.1 f.1 with
   |true=>
    refine Iib rfl (w ?_)
    unfold kp1
    simp only[eo,hl,cond_true]
   |false=>
    have e1:Mh d s f sure=kp2 d s sure (d,1):=by
     unfold Mh kp1
     simp only[eo,hl,cond_false]
    refine Ijb rfl ?_
    show Tot _ (λ r=>r=Mh d s f sure)
    rw[e1]
    refine Isb (Lx d hd.1.1) ?_
    cases sure with
    |true=>exact Ijb rfl (Fvb h1 h2 h1)
    |false=>exact Iib rfl (Igb rfl)

end Go.Proofs.YtiiekghlhfbmmaaGreat.Vf
