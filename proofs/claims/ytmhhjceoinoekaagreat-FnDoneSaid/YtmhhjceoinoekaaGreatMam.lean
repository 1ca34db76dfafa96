import Derived.Test.YtmhhjceoinoekaaGreatMal
set_option linter.all false
namespace Go.Proofs.YtmhhjceoinoekaaGreat.Vf
open Go
open List (length getD)
open Int (toNat)
open Go.IntKind (wrap)
open BitVec (ofInt)
def Yj:=@Bool.and_false
def Yv:=@Bool.not_true
def Zt:=@List.takeWhile_cons
def Hkb:=@List.filter_cons
def Hsb:=@Bool.false_or
def I8b:=@List.takeWhile_append_dropWhile
def Ieb:=@Bool.not_false
def Inb:=@List.dropWhile_cons
def Izb:=@List.mem_filter
def Jnb:=@Bool.eq_iff_iff
def Jxb:=@List.findIdx?_eq_none_iff
def K0b:=@Go.IntWalk.u32_in
def K4b:=@List.append_cancel_left
def K7b:=@List.takeWhile_sublist
def Kcb:=@Bool.true_or
def Kdb:=@BitVec.xor_comm

def nOk (x:Nmd):Bool:=Az x.1&&!(decide ((x.2.length:Int) > 400))
def chn:Option ByteArray→List Nmd→Bool
 |_,[]=>true
 |none,r::l=>nOk r&&chn (some r.1) l
 |some q,r::l=>nOk r&&(tlt q r.1&&chn (some r.1) l)
def Kh (l:List Nmd):Bool:=chn none l&&decide ((l.length:Int)≤60)
def An (d:Dsk):Bool:=Kh d.1&&Kh d.2
def Q0 (l:List Nmd):Prop:=∀ x∈l,Lo x.1
def C9a (d:Dsk):Prop:=Q0 d.1∧Q0 d.2
def Aaa (l:List Nmd):Nat→Option ByteArray
 |0=>none
 |i+1=>some (l.getD i Dd).1
def O1a (l:List Nmd) (i:Nat) (h:i<l.length):chn (Aaa l i) (l.drop i)=(nOk (l.getD i Dd)&&(bif decide (0<i) then tlt (l.getD (i-1) Dd).1 (l.getD i Dd).1 else true)&&chn (Aaa l (i+1)) (l.drop (i+1))):=by
 rw[Ah (d:=Dd) h]
 cases i with
 |zero=>simp[Aaa,chn]
 |succ i=>simp[Aaa,chn,Kkb]
def Iha (l:List Nmd) (hf:l.length≤1000000000000) (hs:Q0 l):∀ (n i:Nat),l.length-i=n→i≤l.length→
  Tot (λ k=>Fs k l l (l.length:Int) (i:Int)) (λ r=>r=bif chn (Aaa l i) (l.drop i) then .inr l else .inl false):=by
 intro n
 induction n with
 |zero=>
  intro i hn hi
  refine Tot.succ ?_
  simp only[Fs]
  refine Hcb (by omega) (H7b ?_)
  rw[Wj (by omega)]
  cases Aaa l i<;>rfl
 |succ n ih=>
  intro i hn hi
  have hlt:i<l.length:=by omega
  refine Tot.succ ?_
  simp only[Fs]
  refine Hbb (by omega) (Hbb (by omega) (Hbb (by omega) ?_))
  rw[show toNat (i:Int)=i from Vb i,w64 (n:=(i:Int)+1) (by omega) (by omega),O1a l i hlt]
  have h1:=ih (i+1) (by omega) (by omega)
  have e:(((i+1:Nat)):Int)=(i:Int)+1:=by omega
  rw[e]at h1
  have e0:l.getD i ((⟨#[]⟩:ByteArray),([]:List Int))=l.getD i Dd:=rfl
  rw[e0]
  refine Hib (Pi (l.getD i Dd).1 (hs _ (A4 hlt))) ?_
  cases hb:Az (l.getD i Dd).1
  ·exact Hab rfl (H7b (by rw[show nOk (l.getD i Dd)=false by unfold nOk;rw[hb];rfl];rfl))
  refine H9b rfl ?_
  refine Heb (λ h4=>H7b (by rw[show nOk (l.getD i Dd)=false by unfold nOk;rw[decide_eq_true h4,hb];rfl];rfl)) (λ h4=>?_)
  have hnk:nOk (l.getD i Dd)=true:=by unfold nOk;rw[hb,decide_eq_false h4];rfl
  rw[hnk,Vz]
  refine Heb (λ h0=>?_) (λ h0=>?_)
  ·rw[w64 (n:=(i:Int)-1) (by omega) (by omega)]
   refine Hbb (by omega) (Hbb (by omega) ?_)
   rw[show toNat ((i:Int)-1)=i-1 by omega,decide_eq_true (show 0<i by omega),cond_true]
   refine Hdb (λ ht=>?_) (λ ht=>?_)
   ·have ht':(!(tlt (l.getD (i-1) Dd).1 (l.getD i Dd).1))=true:=ht
    rw[Vw]at ht'
    exact H7b (by rw[ht'];rfl)
   ·have ht':(!(tlt (l.getD (i-1) Dd).1 (l.getD i Dd).1))=false:=ht
    rw[Wi]at ht'
    rw[ht',Vz]
    exact h1
  ·rw[decide_eq_false (show ¬ 0<i by omega),cond_false,Vz]
   exact h1
def Iia (l:List Nmd) (hf:l.length≤1000000000000) (hs:Q0 l):∀ (n i:Nat),l.length-i=n→i≤l.length→
  Tot (λ k=>Hb k l (i:Int)) (λ r=>r=bif chn (Aaa l i) (l.drop i) then .inr l else .inl false):=by
 intro n
 induction n with
 |zero=>
  intro i hn hi
  refine Tot.succ ?_
  simp only[Hb]
  refine Hcb (by omega) (H7b ?_)
  rw[Wj (by omega)]
  cases Aaa l i<;>rfl
 |succ n ih=>
  intro i hn hi
  have hlt:i<l.length:=by omega
  refine Tot.succ ?_
  simp only[Hb]
  refine Hbb (by omega) (Hbb (by omega) (Hbb (by omega) ?_))
  rw[show toNat (i:Int)=i from Vb i,w64 (n:=(i:Int)+1) (by omega) (by omega),O1a l i hlt]
  have h1:=ih (i+1) (by omega) (by omega)
  have e:(((i+1:Nat)):Int)=(i:Int)+1:=by omega
  rw[e]at h1
  have e0:l.getD i ((⟨#[]⟩:ByteArray),([]:List Int))=l.getD i Dd:=rfl
  rw[e0]
  refine Hib (Qb (l.getD i Dd).1 (hs _ (A4 hlt))) ?_
  cases hb:Az (l.getD i Dd).1
  ·exact Hab rfl (H7b (by rw[show nOk (l.getD i Dd)=false by unfold nOk;rw[hb];rfl];rfl))
  refine H9b rfl (Hbb (by omega) (Hbb (by omega) ?_))
  refine Heb (λ h4=>H7b (by rw[show nOk (l.getD i Dd)=false by unfold nOk;rw[decide_eq_true h4,hb];rfl];rfl)) (λ h4=>?_)
  have hnk:nOk (l.getD i Dd)=true:=by unfold nOk;rw[hb,decide_eq_false h4];rfl
  rw[hnk,Vz]
  refine Heb (λ h0=>?_) (λ h0=>?_)
  ·rw[w64 (n:=(i:Int)-1) (by omega) (by omega)]
   refine Hbb (by omega) (Hbb (by omega) (Hbb (by omega) (Hbb (by omega) ?_)))
   rw[show toNat ((i:Int)-1)=i-1 by omega,decide_eq_true (show 0<i by omega),cond_true]
   refine Hdb (λ ht=>?_) (λ ht=>?_)
   ·have ht':(!(tlt (l.getD (i-1) Dd).1 (l.getD i Dd).1))=true:=ht
    rw[Vw]at ht'
    exact H7b (by rw[ht'];rfl)
   ·have ht':(!(tlt (l.getD (i-1) Dd).1 (l.getD i Dd).1))=false:=ht
    rw[Wi]at ht'
    rw[ht',Vz]
    exact h1
  ·rw[decide_eq_false (show ¬ 0<i by omega),cond_false,Vz]
   exact h1
def Ija (l:List Nmd) (hf:l.length≤1000000000000) (hs:Q0 l):Tot (λ k=>F8 k l) (λ r=>r=Kh l):=by
 unfold F8 Kh
 refine Hib (Iha l hf hs _ 0 rfl (Vq _)) ?_
 rw[Wp]
 show Tot _ (λ r=>r=(chn none l&&_))
 cases hc:chn none l with
 |true=>rw[show chn (Aaa l 0) l=true from hc];exact H7b (by rw[Vz])
 |false=>rw[show chn (Aaa l 0) l=false from hc];exact H7b rfl
def Ika (l:List Nmd) (hf:l.length≤1000000000000) (hs:Q0 l):Tot (λ k=>Gu k l) (λ r=>r=Kh l):=by
 unfold Gu Kh
 refine Hib (Iia l hf hs _ 0 rfl (Vq _)) ?_
 rw[Wp]
 show Tot _ (λ r=>r=(chn none l&&_))
 cases hc:chn none l with
 |true=>rw[show chn (Aaa l 0) l=true from hc];exact H7b (by rw[Vz])
 |false=>rw[show chn (Aaa l 0) l=false from hc];exact H7b rfl
def Qc (d:Dsk) (hf:Y6a d) (hs:C9a d):Tot (λ k=>B0 k d) (λ r=>r=An d):=by
 unfold B0 An
 refine Hib (Ija d.1 hf.1.1 hs.1) ?_
 cases h:Kh d.1
 ·exact H9b rfl (H7b rfl)
 refine Hab rfl (Hib (Ija d.2 hf.2.1 hs.2) ?_)
 exact H7b (by rw[Vz])
def plc (l:List Nmd) (s:ByteArray):Nat:=(l.takeWhile (λ y=>tlt y.1 s)).length
def ins (l:List Nmd) (x:Nmd):List Nmd:=l.take (plc l x.1)++[x]++l.drop (plc l x.1)
def Acb (l:List Nmd) (s:ByteArray):plc l s≤l.length:=(K7b _).length_le
def Lfa (l:List Nmd) (s:ByteArray) (b:List Int) (hf:l.length≤1000000000000):∀ (n i:Nat),l.length-i=n→i≤l.length→
  Tot (λ k=>M0 k l (i:Int) s b) (λ r=>r=(l,((i+plc (l.drop i) s:Nat):Int),s,b)):=by
 intro n
 induction n with
 |zero=>
  intro i hd hi
  refine Tot.succ ?_
  simp only[M0]
  refine Hcb (by omega) (H7b ?_)
  rw[Wj (by omega)]
  rfl
 |succ n ih=>
  intro i hd hi
  have hlt:i<l.length:=by omega
  refine Tot.succ ?_
  simp only[M0]
  refine Hbb (by omega) (Hbb (by omega) (Hbb (by omega) ?_))
  rw[show toNat (i:Int)=i from Vb i,w64 (n:=(i:Int)+1) (by omega) (by omega),Ah (d:=Dd) hlt]
  have e0:l.getD i ((⟨#[]⟩:ByteArray),([]:List Int))=l.getD i Dd:=rfl
  rw[e0]
  have e1:plc (l.getD i Dd::l.drop (i+1)) s=if tlt (l.getD i Dd).1 s then plc (l.drop (i+1)) s+1 else 0:=by
   unfold plc
   rw[Zt]
   split<;>rfl
  rw[e1]
  refine Hdb (λ h=>?_) (λ h=>?_)
  ·have h':tlt (l.getD i Dd).1 s=true:=h
   rw[if_pos h']
   refine(ih (i+1) (by omega) (by omega)).mono ?_
   rintro r rfl
   rw[show i+1+plc (l.drop (i+1)) s=i+(plc (l.drop (i+1)) s+1) by omega]
  ·have h':¬ (tlt (l.getD i Dd).1 s=true):=by
    have:tlt (l.getD i Dd).1 s=false:=h
    rw[this];simp
   rw[if_neg h']
   exact H7b rfl
def O2a (l:List Nmd) (x:Nmd) (hf:l.length≤1000000000000):Tot (λ k=>Mz k l x) (λ r=>r=ins l x):=by
 unfold Mz ins
 refine H8b (Lfa l x.1 x.2 hf _ 0 rfl (Vq _)) ?_
 intro r hr
 rw[Wp,Wk]at hr
 subst hr
 have hp:=Acb l x.1
 dsimp only
 refine Hbb (by omega) (Hbb (by omega) ?_)
 rw[show toNat ((plc l x.1:Nat):Int)=plc l x.1 from Vb _]
 refine Hfb (by simp only[Vg,Vs];omega) ?_
 refine Hfb (by simp only[Vd,Vg,Vs,Vc];omega) ?_
 refine Hbb (by omega) (Hbb (by omega) (Hfb (by simp only[Vd,Vg,Vs,Wd,Vc];omega) (H7b ?_)))
 rw[Vx]

def Lga (l:List Int) (h:l.length≤1000000000000):(length ([]:List Int)+l.length)*1≤140737488355328:=by
 simp only[Vg]
 omega
def Caa (l:List Nmd) (hf:Fza l):∀ (n i:Nat) (acc:List Nmd),l.length-i=n→i≤l.length→acc.length≤i→
  Tot (λ k=>Cu k l acc (i:Int)) (λ r=>r=acc++l.drop i):=by
 obtain⟨h1,h2⟩:=hf
 intro n
 induction n with
 |zero=>
  intro i acc hd hi ha
  refine Tot.succ ?_
  simp only[Cu]
  refine Hcb (by omega) (H7b ?_)
  rw[Wj (by omega),Wm]
 |succ n ih=>
  intro i acc hd hi ha
  have hlt:i<l.length:=by omega
  refine Tot.succ ?_
  simp only[Cu]
  refine Hbb (by omega) (Hbb (by omega) (Hbb (by omega) (Hbb (by omega) (Hbb (by omega) ?_))))
  rw[show toNat (i:Int)=i from Vb i,w64 (n:=(i:Int)+1) (by omega) (by omega),Ah (d:=Dd) hlt]
  have e0:l.getD i ((⟨#[]⟩:ByteArray),([]:List Int))=l.getD i Dd:=rfl
  rw[e0]
  have hb:=h2 _ (A4 (d:=Dd) hlt)
  refine Hfb (Lga _ hb) (Hfb (by simp only[Vc,Vg];omega) ?_)
  refine(ih (i+1) (acc++[l.getD i Dd]) (by omega) (by omega) (by simp only[Vd,Vc,Vg];omega)).mono ?_
  rintro r rfl
  rw[Vo]
  rfl
def Qd (l:List Nmd) (hf:Fza l):Tot (λ k=>Bs k l) (λ r=>r=l):=by
 unfold Bs
 refine H8b (Caa l hf _ 0 [] rfl (Vq _) (Vq _)) ?_
 intro r hr
 rw[Wp,Vx]at hr
 exact H7b hr
def N8 (d:Dsk) (hf:Y6a d):Tot (λ k=>A7 k d) (λ r=>r=d):=by
 unfold A7
 refine Hib (Qd d.1 hf.1) ?_
 refine Hib (Qd d.2 hf.2) ?_
 exact H7b rfl
def U4a (l:List Nmd) (s:ByteArray) (hf:l.length≤1000000000000):∀ (n i:Nat),l.length-i=n→i≤l.length→
  Tot (λ k=>Km k l s (i:Int)) (λ r=>r=match fnd (l.drop i) s with|some j => .inl ((i+j:Nat):Int)|none => .inr ()):=by
 intro n
 induction n with
 |zero=>
  intro i hd hi
  refine Tot.succ ?_
  simp only[Km]
  refine Hcb (by omega) (H7b ?_)
  rw[Wj (by omega)]
  rfl
 |succ n ih=>
  intro i hd hi
  have hlt:i<l.length:=by omega
  refine Tot.succ ?_
  simp only[Km]
  refine Hbb (by omega) (Hbb (by omega) (Hbb (by omega) ?_))
  rw[show toNat (i:Int)=i from Vb i,w64 (n:=(i:Int)+1) (by omega) (by omega),Ah (d:=Dd) hlt]
  have e0:l.getD i ((⟨#[]⟩:ByteArray),([]:List Int))=l.getD i Dd:=rfl
  rw[e0]
  have e1:fnd (l.getD i Dd::l.drop (i+1)) s=if teq (l.getD i Dd).1 s then some 0 else (fnd (l.drop (i+1)) s).map (· + 1):=by
   unfold fnd
   rw[Ixb]
  rw[e1]
  refine Hdb (λ h=>?_) (λ h=>?_)
  ·have h':teq (l.getD i Dd).1 s=true:=h
   rw[if_pos h']
   exact H7b rfl
  ·have h':¬ (teq (l.getD i Dd).1 s=true):=by
    have:teq (l.getD i Dd).1 s=false:=h
    rw[this];simp
   rw[if_neg h']
   refine(ih (i+1) (by omega) (by omega)).mono ?_
   rintro r rfl
   cases fnd (l.drop (i+1)) s with
   |none=>rfl
   |some j=>
    show Sum.inl _=Sum.inl _
    rw[show i+1+j=i+(j+1) by omega]
def Eha (l:List Nmd) (s:ByteArray) (hf:l.length≤1000000000000):Tot (λ k=>Ec k l s) (λ r=>r=G0a l s):=by
 unfold Ec G0a
 refine Hib (U4a l s hf _ 0 rfl (Vq _)) ?_
 rw[Wp]
 cases fnd l s with
 |none=>exact H7b rfl
 |some j=>
  refine H7b ?_
  rw[Wk]
def cut (l:List Nmd) (s:ByteArray):List Nmd:=l.filter (λ x => !(teq x.1 s))
def Q7a (l:List Nmd) (s:ByteArray) (hf:l.length≤1000000000000):∀ (n i:Nat) (acc:List Nmd),l.length-i=n→i≤l.length→acc.length≤i→
  Tot (λ k=>Ir k l s acc (i:Int)) (λ r=>r=acc++cut (l.drop i) s):=by
 intro n
 induction n with
 |zero=>
  intro i acc hd hi ha
  refine Tot.succ ?_
  simp only[Ir]
  refine Hcb (by omega) (H7b ?_)
  rw[Wj (by omega)]
  simp[cut]
 |succ n ih=>
  intro i acc hd hi ha
  have hlt:i<l.length:=by omega
  refine Tot.succ ?_
  simp only[Ir]
  refine Hbb (by omega) (Hbb (by omega) (Hbb (by omega) ?_))
  rw[show toNat (i:Int)=i from Vb i,w64 (n:=(i:Int)+1) (by omega) (by omega),Ah (d:=Dd) hlt]
  have e0:l.getD i ((⟨#[]⟩:ByteArray),([]:List Int))=l.getD i Dd:=rfl
  rw[e0]
  have e1:cut (l.getD i Dd::l.drop (i+1)) s=if (!(teq (l.getD i Dd).1 s))=true then l.getD i Dd::cut (l.drop (i+1)) s else cut (l.drop (i+1)) s:=by
   unfold cut
   rw[Hkb]
  rw[e1]
  refine Hdb (λ h=>?_) (λ h=>?_)
  ·have h':(!(teq (l.getD i Dd).1 s))=true:=h
   rw[if_pos h']
   refine Hbb (by omega) (Hbb (by omega) (Hfb (by simp only[Vc,Vg];omega) ?_))
   refine(ih (i+1) (acc++[l.getD i Dd]) (by omega) (by omega) (by simp only[Vd,Vc,Vg];omega)).mono ?_
   rintro r rfl
   rw[Vo]
   rfl
  ·have h':¬ ((!(teq (l.getD i Dd).1 s))=true):=by
    have:(!(teq (l.getD i Dd).1 s))=false:=h
    rw[this];simp
   rw[if_neg h']
   exact ih (i+1) acc (by omega) (by omega) (by omega)
def U5a (l:List Nmd) (s:ByteArray) (hf:l.length≤1000000000000):Tot (λ k=>K6 k l s) (λ r=>r=cut l s):=by
 unfold K6
 refine H8b (Q7a l s hf _ 0 [] rfl (Vq _) (Vq _)) ?_
 intro r hr
 rw[Wp,Vx]at hr
 exact H7b hr
def Rq (d:Dsk) (hf:Y6a d) (hs:C9a d):Tot (λ k=>Bz k d) (λ r=>r=An d):=by
 unfold Bz An
 refine Hib (Ika d.1 hf.1.1 hs.1) ?_
 cases h:Kh d.1
 ·exact H9b rfl (H7b rfl)
 refine Hab rfl (Hib (Ika d.2 hf.2.1 hs.2) ?_)
 exact H7b (by rw[Vz])

def rdN (l:List Nmd) (s:ByteArray):List Int×Bool:=match fnd l s with
 |some i=>((l.getD i Dd).2,true)
 |none=>([],false)
def O3a (d:Dsk) (s:ByteArray) (hf:Fza d.1):Tot (λ k=>Gi k d s) (λ r=>r=rdN d.1 s):=by
 unfold Gi rdN
 refine Hib (C8a d.1 s hf.1) ?_
 unfold G0a
 have hl1:=hf.1
 cases h:fnd d.1 s with
 |none=>exact Hbb (by decide) (H7b rfl)
 |some i=>
  have hl:=(Oe h).1
  dsimp only
  refine Hcb (by omega) (Hbb (by omega) (Hbb (by omega) ?_))
  rw[show toNat (i:Int)=i from Vb i]
  have hb:=hf.2 _ (A4 (d:=Dd) hl)
  refine Hib (Hjb (Q:=λ r=>r=(d.1.getD i Dd).2) (Nq _ hb) rfl) ?_
  exact H7b rfl
def O4a (d:Dsk) (s:ByteArray) (hf:Fza d.1):Tot (λ k=>Ge k d s) (λ r=>r=rdN d.1 s):=by
 unfold Ge rdN
 refine Hib (Eha d.1 s hf.1) ?_
 unfold G0a
 have hl1:=hf.1
 cases h:fnd d.1 s with
 |none=>exact Hbb (by decide) (H7b rfl)
 |some i=>
  have hl:=(Oe h).1
  dsimp only
  refine Hcb (by omega) (Hbb (by omega) (Hbb (by omega) ?_))
  rw[show toNat (i:Int)=i from Vb i]
  have hb:=hf.2 _ (A4 (d:=Dd) hl)
  exact Hfb (Lga _ hb) (H7b rfl)

def Ho (l:List Nmd):Prop:=l.Pairwise (λ a b=>tlt a.1 b.1=true)
def Lha:∀ (p:Option ByteArray) (l:List Nmd),chn p l=true↔Ho l∧(∀ r∈l,nOk r=true)∧(∀ q,p=some q→∀ r∈l,tlt q r.1=true)
 |p,[]=>by
  have:chn p []=true:=by cases p<;>rfl
  simp[this,Ho]
 |none,r::l=>by
  simp only[chn,Va,Lha (some r.1) l,Ho,Wh]
  constructor
  ·rintro⟨h1,h2,h3,h4⟩
   exact⟨⟨λ a ha=>h4 _ rfl a ha,h2⟩,λ a ha=>by rcases Vm.1 ha with rfl|ha;exact h1;exact h3 a ha,λ q hq=>by cases hq⟩
  ·rintro⟨⟨h1,h2⟩,h3,_⟩
   exact⟨h3 r (by simp),h2,λ a ha=>h3 a (Vj _ ha),λ q hq a ha=>by cases hq;exact h1 a ha⟩
 |some q,r::l=>by
  simp only[chn,Va,Lha (some r.1) l,Ho,Wh]
  constructor
  ·rintro⟨h1,h0,h2,h3,h4⟩
   refine⟨⟨λ a ha=>h4 _ rfl a ha,h2⟩,λ a ha=>by rcases Vm.1 ha with rfl|ha;exact h1;exact h3 a ha,λ q' hq a ha=>?_⟩
   cases hq
   rcases Vm.1 ha with rfl|ha
   ·exact h0
   ·exact O3 h0 (h4 _ rfl a ha)
  ·rintro⟨⟨h1,h2⟩,h3,h4⟩
   exact⟨h3 r (by simp),h4 q rfl r (by simp),h2,λ a ha=>h3 a (Vj _ ha),λ q' hq a ha=>by cases hq;exact h1 a ha⟩
def Ai {l:List Nmd}:Kh l=true↔Ho l∧(∀ r∈l,nOk r=true)∧l.length≤60:=by
 unfold Kh
 simp only[Va,Lha,decide_eq_true_eq]
 constructor
 ·rintro⟨⟨h1,h2,_⟩,h3⟩
  exact⟨h1,h2,by omega⟩
 ·rintro⟨h1,h2,h3⟩
  exact⟨⟨h1,h2,λ q hq=>by cases hq⟩,by omega⟩
def Rr {x:Nmd}:nOk x=true↔Az x.1=true∧x.2.length≤400:=by
 unfold nOk
 simp only[Va,Vw,decide_eq_false_iff_not]
 constructor
 ·rintro⟨h1,h2⟩;exact⟨h1,by omega⟩
 ·rintro⟨h1,h2⟩;exact⟨h1,by omega⟩
def Z6 {l:List Nmd} (h:Kh l=true):Fza l∧Q0 l:=by
 obtain⟨_,h2,h3⟩:=Ai.1 h
 refine⟨⟨by omega,λ x hx=>by have:=(Rr.1 (h2 x hx)).2;omega⟩,λ x hx=>?_⟩
 have:=C7a (Rr.1 (h2 x hx)).1
 unfold Lo
 omega
def O5a (y:Nmd) (l:List Nmd) (s:ByteArray):fnd (y::l) s=if teq y.1 s then some 0 else (fnd l s).map (· + 1):=by
 unfold fnd
 rw[Ixb]
def Y7a {l:List Nmd} {s:ByteArray}:fnd l s=none↔∀ x∈l,x.1≠s:=by
 unfold fnd
 rw[Jxb]
 constructor
 ·intro h x hx e
  have:=h x hx
  rw[Lj.2 e]at this
  cases this
 ·intro h x hx
  cases ht:teq x.1 s with
  |false=>rfl
  |true=>exact absurd (Lj.1 ht) (h x hx)
def Rs:∀ {l:List Nmd} {s:ByteArray},Ho l→del l s=cut l s
 |[],s,_=>rfl
 |y::l,s,h=>by
  have hc:=Wh.1 h
  have ih:=Rs (l:=l) (s:=s) hc.2
  unfold del cut at *
  rw[O5a,Hkb]
  cases ht:teq y.1 s with
  |true=>
   have hno:∀ x∈l,(!(teq x.1 s))=true:=λ x hx=>by
    cases hx2:teq x.1 s
    ·rfl
    have e1:=Lj.1 ht
    have e2:=Lj.1 hx2
    have:=hc.1 x hx
    rw[e1,e2,Lm]at this
    cases this
   rw[if_pos rfl,if_neg (by simp)]
   show []++l=_
   rw[Vx,List.filter_eq_self.2 hno]
  |false=>
   rw[if_neg (by simp),if_pos (show (!false)=true from rfl),← ih]
   cases hf:fnd l s with
   |none=>rfl
   |some i=>rfl
def P0 {l:List Nmd} {s:ByteArray} (h:Ho l):Ho (cut l s):=h.sublist List.filter_sublist
def Q1 {l:List Nmd} {s:ByteArray}:(cut l s).Sublist l:=List.filter_sublist
def Z7 {l:List Nmd} {s:ByteArray} (h:Kh l=true):Kh (cut l s)=true:=by
 obtain⟨h1,h2,h3⟩:=Ai.1 h
 exact Ai.2 ⟨P0 h1,λ x hx=>h2 x (Q1.subset hx),by have:=(Q1 (l:=l) (s:=s)).length_le;omega⟩
def Cib {l:List Nmd} {s:ByteArray} {i:Nat} (h:fnd l s=some i):(del l s).length+1=l.length:=by
 have hl:=(Oe h).1
 unfold del
 rw[h]
 simp only[Vd,Vs,Wd]
 omega
def U6a {l m:List Nmd} (h:m.Sublist l) (hf:Fza l):Fza m:=⟨by have:=h.length_le;have:=hf.1;omega,λ x hx=>hf.2 x (h.subset hx)⟩
def Ila {l m:List Nmd} (h:m.Sublist l) (hf:Q0 l):Q0 m:=λ x hx=>hf x (h.subset hx)

def Q8a (l:List Int) (x4:Int):∀ (n:Nat) (x3 i:Int),0≤i→8-i=n→Tot (λ k=>Ix k l x3 x4 i) (λ r=>r.1=l∧r.2.2=x4):=by
 intro n
 induction n with
 |zero=>
  intro x3 i h0 hn
  refine Tot.succ ?_
  simp only[Ix]
  exact Hcb (by omega) (H7b ⟨rfl,rfl⟩)
 |succ n ih=>
  intro x3 i h0 hn
  refine Tot.succ ?_
  simp only[Ix]
  refine Hbb (by omega) ?_
  rw[w64 (n:=i+1) (by omega) (by omega)]
  exact Hdb (λ _=>ih _ (i+1) (by omega) (by omega)) (λ _=>ih _ (i+1) (by omega) (by omega))
def Q9a (l:List Int) (hl:l.length≤1000000000000):∀ (n i:Nat) (x3:Int),l.length-i=n→i≤l.length→Tot (λ k=>Ja k l x3 (i:Int)) (λ _=>True):=by
 intro n
 induction n with
 |zero=>
  intro i x3 hd hi
  refine Tot.succ ?_
  simp only[Ja]
  exact Hcb (by omega) (H7b trivial)
 |succ n ih=>
  intro i x3 hd hi
  refine Tot.succ ?_
  simp only[Ja]
  refine Hbb (by omega) (Hbb (by omega) (Hbb (by omega) ?_))
  refine H8b (Q8a l (i:Int) 8 _ 0 (by decide) (by decide)) ?_
  rintro⟨a,b,c⟩ ⟨h1,h2⟩
  simp only at h1 h2
  subst h1 h2
  dsimp only
  rw[w64 (n:=(i:Int)+1) (by omega) (by omega)]
  exact ih (i+1) b (by omega) (by omega)
def Lia (l:List Int) (hl:l.length≤1000000000000):Tot (λ k=>My k l) (λ _=>True):=by
 unfold My
 refine H8b (Q9a l hl _ 0 _ rfl (Vq _)) (λ r _=>H7b trivial)
def Cba (f:Fil) (hf:A9b f):Tot (λ k=>Bw k f) (λ r=>r.length≤2000000):=by
 unfold Bw
 have hfo:∃ b,Ce f=some b:=by
  unfold Ce
  rw[T2]
  simp only[Vl]
  cases Fj f.1<;>cases decide ((length f.2.2:Int)≤200)<;>cases f.2.1<;>exact⟨_,rfl⟩
 obtain⟨b,hb⟩:=hfo
 have hl:f.2.2.length≤9:=by have:=hf.2.2.1;omega
 refine Hib (Hjb (Q:=λ r=>r=b) hb rfl) ?_
 refine Hdb (λ _=>H7b (by simp)) (λ _=>?_)
 refine Hib (Efa [] f.1 (by simp)) ?_
 refine Hib (Hjb (Q:=λ r=>r=Dda f.2.1) (Nza _) rfl) ?_
 have h1:=Fya f.1
 refine Hib (Y0 _ _ (by simp only[Vd,Vg];omega)) ?_
 have h2:=(Np (C1 (Dda f.2.1))).1
 have h3:(Mu f.2.2).size=f.2.2.length:=Oz _
 refine Hib (Nwa _ _ (by simp only[Vd,Vg];omega) (by omega)) ?_
 have h4:=U1a (Mu f.2.2)
 refine H8b (Lia _ (by simp only[Vd,Vg];omega)) (λ q _=>?_)
 refine Hfb (by simp only[Vd,Vc,Vg];omega) (H7b ?_)
 simp only[Vd,Vc,Vg]
 omega
def G1a (d out:Dsk) (s:ByteArray) (hd:Y6a d∧C9a d) (ho:Y6a out∧C9a out) (hs:Lo s):Tot (λ k=>Fe k d out s) (λ r=>r=bif An d&&(Az s&&An out) then (out,true) else (d,false)):=by
 unfold Fe
 refine Hib (Rq d hd.1 hd.2) ?_
 cases h1:An d with
 |false=>
  refine Hab rfl (Hib (N8 d hd.1) ?_)
  exact H7b rfl
 |true=>
  refine H9b rfl (Hib (Qb s hs) ?_)
  cases h2:Az s with
  |false=>
   refine Hab rfl (Hib (N8 d hd.1) ?_)
   exact H7b rfl
  |true=>
   refine H9b rfl (Hib (Rq out ho.1 ho.2) ?_)
   cases h3:An out with
   |false=>
    refine Hab rfl (Hib (N8 d hd.1) ?_)
    exact H7b rfl
   |true=>exact H9b rfl (H7b rfl)
def Eia (d:Dsk) (s:ByteArray) (hd:Y6a d∧C9a d) (hs:Lo s):Tot (λ k=>Bt k d s) (λ r=>r=bif (fnd d.1 s).isSome&&(An d&&(Az s&&An (cut d.1 s,d.2))) then ((cut d.1 s,d.2),true) else (d,false)):=by
 unfold Bt
 refine H8b (N8 d hd.1) ?_
 rintro r rfl
 refine H8b (Eha r.1 s hd.1.1.1) ?_
 rintro i rfl
 unfold G0a
 cases h:fnd r.1 s with
 |none=>exact Hbb (by decide) (H7b rfl)
 |some i=>
  dsimp only
  refine Hcb (by omega) (H8b (U5a r.1 s hd.1.1.1) ?_)
  rintro c rfl
  refine H8b (G1a r (cut r.1 s,r.2) s hd ⟨⟨U6a Q1 hd.1.1,hd.1.2⟩,Ila Q1 hd.2.1,hd.2.2⟩ hs) ?_
  rintro e rfl
  exact H7b rfl

def ptl (x:Nmd):Bool→List Nmd→List Nmd
 |p,[]=>bif p then [] else [x]
 |p,y::l=>(bif !p&&!(tlt y.1 x.1) then [x] else [])++((bif !(teq y.1 x.1) then [y] else [])++ptl x (p||!(tlt y.1 x.1)) l)
def Lja (l:List Nmd) (s:ByteArray) (b:List Int) (hf:l.length≤1000000000000):∀ (n i:Nat) (acc:List Nmd) (p:Bool),l.length-i=n→i≤l.length→acc.length≤2*i→
  Tot (λ k=>D6 k l s acc p (i:Int) s b) (λ r=>r.1++(bif r.2.1 then [] else [(s,b)])=acc++ptl (s,b) p (l.drop i)∧r.2.2=(s,b)∧r.1.length≤2*l.length):=by
 intro n
 induction n with
 |zero=>
  intro i acc p hd hi ha
  refine Tot.succ ?_
  simp only[D6]
  refine Hcb (by omega) (H7b ?_)
  rw[Wj (by omega)]
  exact⟨rfl,rfl,by dsimp only;omega⟩
 |succ n ih=>
  intro i acc p hd hi ha
  have hlt:i<l.length:=by omega
  refine Tot.succ ?_
  simp only[D6]
  refine Hbb (by omega) ?_
  rw[show toNat (i:Int)=i from Vb i,w64 (n:=(i:Int)+1) (by omega) (by omega),Ah (d:=Dd) hlt]
  have e0:l.getD i ((⟨#[]⟩:ByteArray),([]:List Int))=l.getD i Dd:=rfl
  rw[e0]
  have Bb:∀ (ac:List Nmd) (q:Bool),ac.length≤2*i+1→Tot (λ k=>cond (decide ((0:Int)≤i)) (cond (decide ((i:Int)<(length l:Int))) (cond (!((l.getD i Dd).1.toList==s.toList)) (cond (decide ((0:Int)≤i)) (cond (decide ((i:Int)<(length l:Int))) (cond (Nat.ble ((length ac+length [l.getD i Dd])*40) 140737488355328) (D6 k l s (ac++[l.getD i Dd]) q ((i:Int)+1) s b) none) none) none) (D6 k l s ac q ((i:Int)+1) s b)) none) none)
    (λ r=>r.1++(bif r.2.1 then [] else [(s,b)])=ac++((bif !(teq (l.getD i Dd).1 s) then [l.getD i Dd] else [])++ptl (s,b) q (l.drop (i+1)))∧r.2.2=(s,b)∧r.1.length≤2*l.length):=by
   intro ac q hac
   refine Hbb (by omega) (Hbb (by omega) (Hdb (λ h=>?_) (λ h=>?_)))
   ·have h':(!(teq (l.getD i Dd).1 s))=true:=h
    rw[h']
    refine Hbb (by omega) (Hbb (by omega) (Hfb (by simp only[Vc,Vg];omega) ?_))
    refine(ih (i+1) (ac++[l.getD i Dd]) q (by omega) (by omega) (by simp only[Vd,Vc,Vg];omega)).mono ?_
    rintro r ⟨h1,h2,h3⟩
    refine⟨?_,h2,h3⟩
    rw[h1,Vo]
    rfl
   ·have h':(!(teq (l.getD i Dd).1 s))=false:=h
    rw[h']
    exact ih (i+1) ac q (by omega) (by omega) (by omega)
  cases p with
  |true=>
   refine H9b rfl ?_
   refine(Bb acc true (by omega)).mono ?_
   rintro r ⟨h1,h2,h3⟩
   exact⟨h1,h2,h3⟩
  |false=>
   refine Hab rfl (Hbb (by omega) (Hbb (by omega) (Hdb (λ h=>?_) (λ h=>?_))))
   ·have h':(!(tlt (l.getD i Dd).1 s))=true:=h
    refine Hfb (by simp only[Vc,Vg];omega) ?_
    refine(Bb (acc++[(s,b)]) true (by simp only[Vd,Vc,Vg];omega)).mono ?_
    rintro r ⟨h1,h2,h3⟩
    refine⟨?_,h2,h3⟩
    rw[h1]
    simp only[ptl,h',Ieb,Bool.and_self,Hsb,cond_true,Vo]
   ·have h':(!(tlt (l.getD i Dd).1 s))=false:=h
    refine(Bb acc false (by omega)).mono ?_
    rintro r ⟨h1,h2,h3⟩
    refine⟨?_,h2,h3⟩
    rw[h1]
    simp only[ptl,h',Ieb,Yj,Hsb,cond_false,Vx]
def G2a (l:List Nmd) (s:ByteArray) (b:List Int) (hf:l.length≤1000000000000) (hb:b.length≤1000000000000):Tot (λ k=>Gk k l s b) (λ r=>r=ptl (s,b) false l):=by
 unfold Gk
 refine Hfb (Lga b hb) ?_
 rw[Vx]
 refine H8b (Lja l s b hf _ 0 [] false rfl (Vq _) (Vq _)) ?_
 rintro⟨r,q,x,y⟩ ⟨h1,h2,h3⟩
 rw[Wp,Vx]at h1
 dsimp only at h1 h2 h3
 dsimp only
 cases q with
 |true=>
  refine H9b rfl (H7b ?_)
  rw[← h1];simp
 |false=>
  refine Hab rfl (Hfb (by simp only[Vc,Vg];omega) (H7b ?_))
  rw[← h1]
  obtain⟨rfl,rfl⟩:=Prod.mk.inj h2
  rfl
def U7a (x:Nmd):∀ (p:Bool) (l:List Nmd),∀ y∈ptl x p l,y∈l∨y=x:=by
 intro p l
 induction l generalizing p with
 |nil=>intro y hy;cases p<;>simp_all [ptl]
 |cons a l ih=>
  intro y hy
  simp only[ptl,Vp]at hy
  rcases hy with hy|hy|hy
  ·revert hy;cases (!p&&!(tlt a.1 x.1))<;>simp_all
  ·revert hy;cases (!(teq a.1 x.1))<;>simp_all
  ·rcases ih _ y hy with h|h
   ·exact Or.inl (Vj _ h)
   ·exact Or.inr h
def Cjb (x:Nmd):∀ (p:Bool) (l:List Nmd),(ptl x p l).length≤l.length+(bif p then 0 else 1):=by
 intro p l
 induction l generalizing p with
 |nil=>cases p<;>simp[ptl]
 |cons a l ih=>
  simp only[ptl,Vd,Vc]
  have:=ih (p||!(tlt a.1 x.1))
  revert this
  cases p<;>cases tlt a.1 x.1<;>cases teq a.1 x.1<;>simp<;>omega
def Y8a (x:Nmd):∀ (l:List Nmd),ptl x true l=cut l x.1:=by
 intro l
 induction l with
 |nil=>rfl
 |cons a l ih=>
  simp only[ptl,Yv,Zl,cond_false,Vx,Kcb,ih,cut,Hkb]
  cases teq a.1 x.1<;>simp
def Y1 (x:Nmd):∀ {l:List Nmd},Ho l→ptl x false l=ins (cut l x.1) x:=by
 intro l
 induction l with
 |nil=>intro _;rfl
 |cons a l ih=>
  intro h
  have hl:Ho l:=(Wh.1 h).2
  have ha:=(Wh.1 h).1
  simp only[ptl,Ieb,Vz,Hsb]
  cases ht:tlt a.1 x.1 with
  |true=>
   have he:teq a.1 x.1=false:=by
    cases hq:teq a.1 x.1 with
    |false=>rfl
    |true=>rw[(Lj.1 hq),Lm]at ht;cases ht
   simp only[he,Yv,Ieb,cond_false,cond_true,Vx,ih hl,cut,Hkb,if_true]
   unfold ins plc
   rw[Zt,if_pos ht]
   rfl
  |false=>
   have hc:plc (cut (a::l) x.1) x.1=0:=by
    unfold plc cut
    rw[List.length_eq_zero_iff]
    rw[Hkb]
    cases hq:teq a.1 x.1
    ·rw[Ieb,if_pos rfl,Zt,if_neg (by rw[ht];simp)]
    have hx:=(Lj.1 hq)
    simp only[Yv,Ya,if_false]
    cases hf:l.filter (λ y => !(teq y.1 x.1)) with
    |nil=>rfl
    |cons b m=>
     have hb:b∈l:=by
      have:b∈l.filter (λ y => !(teq y.1 x.1)):=by rw[hf];exact Yk
      exact(Izb.1 this).1
     have hab:=ha b hb
     rw[hx]at hab
     rw[Zt,if_neg (by rw[Wr hab];simp)]
   simp only[Ieb,cond_true,Y8a]
   unfold ins
   rw[hc]
   simp only[Htb,Vx,Wp,cut,Hkb]
   cases teq a.1 x.1<;>simp

def U8a {l:List Nmd} {x:Nmd} {p:Bool} (hl:Fza l) (hl':l.length≤999999999999) (hx:x.2.length≤1000000000000):Fza (ptl x p l):=by
 refine⟨?_,λ y hy=>?_⟩
 ·have:=Cjb x p l
  revert this
  cases p<;>simp<;>omega
 ·rcases U7a x p l y hy with h|rfl
  ·exact hl.2 y h
  ·exact hx
def Ima {l:List Nmd} {x:Nmd} {p:Bool} (hl:Q0 l) (hx:Lo x.1):Q0 (ptl x p l):=by
 intro y hy
 rcases U7a x p l y hy with h|rfl
 ·exact hl y h
 ·exact hx
def DIn (d:Dsk):Prop:=(Y6a d∧C9a d)∧d.1.length≤2000000∧d.2.length≤2000000
def Ng {d:Dsk} (h:An d=true):DIn d:=by
 unfold An at h
 rw[Va]at h
 have h1:=Z6 h.1
 have h2:=Z6 h.2
 exact⟨⟨⟨h1.1,h2.1⟩,h1.2,h2.2⟩,by have:=(Ai.1 h.1).2.2;omega,by have:=(Ai.1 h.2).2.2;omega⟩
def Ina (d:Dsk) (s:ByteArray) (b:List Int) (hd:DIn d) (hs:Lo s) (hb:b.length≤1000000000000):Tot (λ k=>Bo k d s b) (λ r=>r=bif An d&&(Az s&&An (ptl (s,b) false d.1,d.2)) then ((ptl (s,b) false d.1,d.2),true) else (d,false)):=by
 unfold Bo
 refine H8b (N8 d hd.1.1) ?_
 rintro r rfl
 refine H8b (G2a r.1 s b hd.1.1.1.1 hb) ?_
 rintro c rfl
 refine H8b (G1a r (ptl (s,b) false r.1,r.2) s hd.1 ⟨⟨U8a hd.1.1.1 (by have:=hd.2.1;omega) hb,hd.1.1.2⟩,Ima hd.1.2.1 hs,hd.1.2.2⟩ hs) ?_
 rintro e rfl
 exact H7b rfl
def syS (d:Dsk) (s:ByteArray):List Nmd:=match fnd d.1 s with
 |some i=>ptl (s,(d.1.getD i Dd).2) false (cut d.2 s)
 |none=>cut d.2 s
def Ezb {d:Dsk} {s:ByteArray} (hd:DIn d) (hs:Lo s):Fza (syS d s)∧Q0 (syS d s):=by
 unfold syS
 have h1:=U6a (Q1 (l:=d.2) (s:=s)) hd.1.1.2
 have h2:=Ila (Q1 (l:=d.2) (s:=s)) hd.1.2.2
 cases h:fnd d.1 s with
 |none=>exact⟨h1,h2⟩
 |some i=>
  have hb:=hd.1.1.1.2 _ (A4 (d:=Dd) (Oe h).1)
  have hc:(cut d.2 s).length≤d.2.length:=(Q1 (l:=d.2) (s:=s)).length_le
  exact⟨U8a h1 (by have:=hd.2.2;omega) hb,Ima h2 hs⟩
def O6a (d:Dsk) (s:ByteArray) (hd:DIn d) (hs:Lo s):Tot (λ k=>Ap k d s) (λ r=>r=bif An d&&(Az s&&An (d.1,syS d s)) then ((d.1,syS d s),true) else (d,false)):=by
 unfold Ap
 have hin:=Ezb hd hs
 refine H8b (N8 d hd.1.1) ?_
 rintro r rfl
 refine H8b (O4a r s hd.1.1.1) ?_
 rintro b rfl
 refine H8b (U5a r.2 s hd.1.1.2.1) ?_
 rintro c rfl
 have e:∀ o,o=syS r s→Tot (λ k=>(Fe k r (r.1,o) s).bind λ r5=>some (r5.1,r5.2)) (λ q=>q=bif An r&&(Az s&&An (r.1,syS r s)) then ((r.1,syS r s),true) else (r,false)):=by
  rintro o rfl
  refine H8b (G1a r (r.1,syS r s) s hd.1 ⟨⟨hd.1.1.1,hin.1⟩,hd.1.2.1,hin.2⟩ hs) ?_
  rintro e rfl
  exact H7b rfl
 have hc:(cut r.2 s).length≤r.2.length:=(Q1 (l:=r.2) (s:=s)).length_le
 cases h:fnd r.1 s with
 |none=>
  have h':rdN r.1 s=([],false):=by unfold rdN;rw[h]
  rw[h']
  refine H9b rfl (e _ ?_)
  unfold syS;rw[h]
 |some i=>
  have h':rdN r.1 s=((r.1.getD i Dd).2,true):=by unfold rdN;rw[h]
  rw[h']
  have hb:=hd.1.1.1.2 _ (A4 (d:=Dd) (Oe h).1)
  refine Hab rfl (H8b (G2a (cut r.2 s) s _ (by have:=hd.2.2;omega) hb) ?_)
  rintro o rfl
  refine e _ ?_
  unfold syS;rw[h]
def Qaa (d:Dsk) (s:ByteArray) (hd:Y6a d∧C9a d):Tot (λ k=>Fu k d s) (λ r=>r=bif (fnd d.1 s).isSome&&An d then ((del d.1 s,d.2),true) else (d,false)):=by
 unfold Fu
 refine H8b (J7 d hd.1) ?_
 rintro r rfl
 refine H8b (Qc r hd.1 hd.2) ?_
 rintro b rfl
 cases h1:An r
 ·refine Hab rfl (H7b ?_);rw[Yj];rfl
 refine H9b rfl (H8b (C8a r.1 s hd.1.1.1) ?_)
 rintro i rfl
 unfold G0a
 cases h:fnd r.1 s with
 |none=>exact Hbb (by decide) (H7b rfl)
 |some i=>
  dsimp only
  refine Hcb (by omega) (H8b (Wx r.1 s hd.1.1.1) ?_)
  rintro c rfl
  exact H7b rfl
def syI (d:Dsk) (s:ByteArray):List Nmd:=match fnd d.1 s with
 |some i=>ins (del d.2 s) (s,(d.1.getD i Dd).2)
 |none=>del d.2 s
def Eja (l:List Nmd) (s:ByteArray):(del l s).length≤l.length:=by
 cases h:fnd l s with
 |none=>unfold del;rw[h];exact Vv _
 |some i=>have:=Cib h;omega
def Ckb (l:List Nmd) (x:Nmd):(ins l x).length=l.length+1:=by
 unfold ins
 have:=Acb l x.1
 simp only[Vd,Vs,Wd,Vc,Vg]
 omega
def Y9a (d:Dsk) (s:ByteArray) (hd:DIn d) (hs:Lo s):Tot (λ k=>Cm k d s) (λ r=>r=bif An d&&(Az s&&decide ((syI d s).length≤60)) then ((d.1,syI d s),true) else (d,false)):=by
 unfold Cm
 refine H8b (J7 d hd.1.1) ?_
 rintro r rfl
 refine H8b (Qc r hd.1.1 hd.1.2) ?_
 rintro b rfl
 cases h1:An r
 ·exact Hab rfl (H7b rfl)
 refine H9b rfl (H8b (Pi s hs) ?_)
 rintro b rfl
 cases h2:Az s
 ·exact Hab rfl (H7b rfl)
 refine H9b rfl (H8b (Wx r.2 s hd.1.1.2.1) ?_)
 rintro c rfl
 refine H8b (C8a r.1 s hd.1.1.1.1) ?_
 rintro i rfl
 have hdl:=Eja r.2 s
 have hr2:=hd.2.2
 have hr1:=hd.2.1
 have e:∀ o,o=syI r s→o.length≤4000000→Tot (λ k=>cond (decide ((length o:Int) > 60)) ((A5 k r).bind λ r9=>some (r9,false)) (some ((r.1,o),true))) (λ q=>q=bif true&&(true&&decide ((syI r s).length≤60)) then ((r.1,syI r s),true) else (r,false)):=by
  rintro o rfl _
  refine Heb (λ h=>?_) (λ h=>?_)
  ·refine H8b (J7 r hd.1.1) ?_
   rintro q rfl
   refine H7b ?_
   rw[decide_eq_false (by omega)]
   rfl
  ·refine H7b ?_
   rw[decide_eq_true (by omega)]
   rfl
 unfold G0a
 cases h:fnd r.1 s with
 |none=>
  refine Hcb (by decide) (e _ ?_ (by omega))
  unfold syI;rw[h]
 |some i=>
  have hl:=(Oe h).1
  dsimp only
  refine Hbb (by omega) (Hbb (by omega) (Hbb (by omega) ?_))
  rw[show toNat (i:Int)=i from Vb i]
  have hb:=hd.1.1.1.2 _ (A4 (d:=Dd) hl)
  refine H8b (Hjb (Q:=λ q=>q=(r.1.getD i Dd).2) (Nq _ hb) rfl) ?_
  rintro q rfl
  refine H8b (O2a (del r.2 s) (s,(r.1.getD i Dd).2) (by omega)) ?_
  rintro o rfl
  refine e _ ?_ (by rw[Ckb];omega)
  unfold syI;rw[h]

def U9a {d o:Dsk} {b:Bool} (hd:An d=true):An (bif An d&&(b&&An o) then (o,true) else (d,false)).1=true:=by
 cases b<;>cases h:An o<;>simp[hd,h]
def Yaa {d o:Dsk} {a b:Bool} (hd:An d=true):An (bif a&&(An d&&(b&&An o)) then (o,true) else (d,false)).1=true:=by
 cases a<;>cases b<;>cases h:An o<;>simp[hd,h]
def Uaa:∀ (n:Nat) (i:Int) (c:Cur) (a0 a1:List Nmd) (d:Dsk),i=n→n≤6→E9 c→An d=true→
  Tot (λ k=>B9 k i c.1 c.2.1 c.2.2 a0 a1 d.1 d.2) (λ r=>An (r.2.2.1,r.2.2.2.1)=true∧E9 r.2.2.2.2):=by
 intro n
 induction n with
 |zero=>
  intro i c a0 a1 d hi h6 hc hd
  refine Tot.succ ?_
  simp only[B9]
  exact Hcb (by omega) (H7b ⟨hd,hc⟩)
 |succ n ih=>
  intro i c a0 a1 d hi h6 hc hd
  refine Tot.succ ?_
  simp only[B9]
  refine Hbb (by omega) ?_
  rw[w64 (n:=i-1) (by omega) (by omega)]
  obtain⟨s,c1,e1,hs,k1⟩:=Py c hc
  refine Hib (Hjb (Q:=λ r=>r=(s,c1)) e1 rfl) ?_
  obtain⟨x,c2,e2,_,_,_,k2⟩:=Ay c1 k1 6 (by decide)
  refine Hib (Hjb (Q:=λ r=>r=(x,c2)) e2 rfl) ?_
  dsimp only
  have hin:=Ng hd
  have hsh:=(Nf s hs).1
  have wr:Tot (λ k=>(Cz k c2).bind λ r5=>(Bw k r5.1).bind λ r6=>(Bo k (d.1,d.2) s r6).bind λ r7=>B9 k (i-1) r5.2.1 r5.2.2.1 r5.2.2.2 a0 a1 r7.1.1 r7.1.2) (λ r=>An (r.2.2.1,r.2.2.2.1)=true∧E9 r.2.2.2.2):=by
   refine H8b (R4 c2 k2) (λ f hf=>?_)
   refine H8b (Cba f.1 hf.1) (λ b hb=>?_)
   refine H8b (Ina d s b hin hsh (by omega)) (λ q hq=>?_)
   have hq':=U9a (d:=d) (o:=(ptl (s,b) false d.1,d.2)) (b:=Az s) hd
   rw[← hq]at hq'
   exact ih (i-1) f.2 a0 a1 q.1 (by omega) (by omega) hf.2 hq'
  have sy:Tot (λ k=>(Ap k (d.1,d.2) s).bind λ r4=>B9 k (i-1) c2.1 c2.2.1 c2.2.2 a0 a1 r4.1.1 r4.1.2) (λ r=>An (r.2.2.1,r.2.2.2.1)=true∧E9 r.2.2.2.2):=by
   refine H8b (O6a d s hin hsh) (λ q hq=>?_)
   have hq':=U9a (d:=d) (o:=(d.1,syS d s)) (b:=Az s) hd
   rw[← hq]at hq'
   exact ih (i-1) c2 a0 a1 q.1 (by omega) (by omega) k2 hq'
  refine Hdb (λ _=>?_) (λ _=>Hdb (λ h=>Hdb (λ _=>sy) (λ _=>wr)) (λ _=>Hdb (λ _=>sy) (λ _=>wr)))
  refine H8b (Eia d s hin.1 hsh) (λ q hq=>?_)
  have hq':=Yaa (d:=d) (o:=(cut d.1 s,d.2)) (a:=(fnd d.1 s).isSome) (b:=Az s) hd
  rw[← hq]at hq'
  exact ih (i-1) c2 a0 a1 q.1 (by omega) (by omega) k2 hq'
def Uba (c:Cur) (hc:E9 c):Tot (λ k=>G9 k c) (λ r=>An r.1=true∧E9 r.2):=by
 unfold G9
 obtain⟨x,c2,e2,h0,h1,_,k2⟩:=Ay c hc 7 (by decide)
 have h1:=h1 (by decide)
 refine Hib (Hjb (Q:=λ r=>r=(x,c2)) e2 rfl) ?_
 refine H8b (Uaa x.toNat x c2 [] [] ([],[]) (by omega) (by omega) k2 (by decide)) (λ r hr=>?_)
 exact H7b hr
def Rt (c:Cur) (hc:E9 c):∃ x c',G0 c=some (x,c')∧Lo x∧E9 c':=by
 obtain⟨b,c1,e1,k1⟩:=Px c hc 5 (by decide)
 unfold G0
 cases b with
 |true=>
  obtain⟨x,c',e,hx,k⟩:=Nna c1 k1 [(⟨#[]⟩:ByteArray),(⟨#[65]⟩:ByteArray),(⟨#[97,32,98]⟩:ByteArray),(⟨#[116,119,101,110,116,121,111,110,101,98,121,116,101,115,116,119,101,110,116,121,111]⟩:ByteArray),(⟨#[116,119,101,110,116,121,98,121,116,101,115,116,119,101,110,116,121,98,121,116]⟩:ByteArray),(⟨#[47]⟩:ByteArray)] (by decide) (by decide)
  refine⟨x,c',by simp only[e1,e,Vl,cond_true],?_,k⟩
  simp only[Vm,Zk,or_false]at hx
  unfold Lo
  rcases hx with rfl|rfl|rfl|rfl|rfl|rfl<;>decide
 |false=>
  obtain⟨x,c',e,hx,k⟩:=Py c1 k1
  exact⟨x,c',by simp only[e1,e,Vl,cond_false],(Nf x hx).1,k⟩
def Uca {l:List Nmd} {x:Nmd} (h:Fza l) (hl:l.length≤999) (hx:x.2.length≤1000000000000):Fza (l++[x]):=by
 refine⟨by simp only[Vd,Vc,Vg];omega,λ y hy=>?_⟩
 rcases Vp.1 hy with hy|hy
 ·exact h.2 y hy
 ·rw[Vu.1 hy];exact hx
def Ioa {l:List Nmd} {x:Nmd} (h:Q0 l) (hx:Lo x.1):Q0 (l++[x]):=by
 intro y hy
 rcases Vp.1 hy with hy|hy
 ·exact h y hy
 ·rw[Vu.1 hy];exact hx
def Yba (c:Cur) (hc:E9 c):Tot (λ k=>L8 k c) (λ r=>DIn r.1∧E9 r.2):=by
 unfold L8
 refine H8b (Uba c hc) (λ d hd=>?_)
 obtain⟨hd,k0⟩:=hd
 have hin:=Ng hd
 have hd':=hd
 unfold An at hd'
 rw[Va]at hd'
 have g1:=(Ai.1 hd'.1).2.2
 have g2:=(Ai.1 hd'.2).2.2
 obtain⟨x,c2,e2,_,_,_,k2⟩:=Ay d.2 k0 12 (by decide)
 refine Hib (Hjb (Q:=λ r=>r=(x,c2)) e2 rfl) ?_
 refine Hdb (λ _=>?_) (λ _=>Hdb (λ _=>?_) (λ _=>H7b ⟨hin,k2⟩))
 ·obtain⟨s,c3,e3,hs,k3⟩:=Rt c2 k2
  refine Hib (Hjb (Q:=λ r=>r=(s,c3)) e3 rfl) ?_
  refine Hfb (by simp only[Vc,Vg];omega) (H7b ⟨⟨⟨⟨Uca hin.1.1.1 (by omega) (Vq _),hin.1.1.2⟩,Ioa hin.1.2.1 hs,hin.1.2.2⟩,?_,hin.2.2⟩,k3⟩)
  simp only[Vd,Vc,Vg];omega
 ·obtain⟨s,c3,e3,hs,k3⟩:=Rt c2 k2
  refine Hib (Hjb (Q:=λ r=>r=(s,c3)) e3 rfl) ?_
  obtain⟨y,c4,e4,y0,y1,_,k4⟩:=Ay c3 k3 2 (by decide)
  have y1:=y1 (by decide)
  refine Hib (Hjb (Q:=λ r=>r=(y,c4)) e4 rfl) ?_
  dsimp only
  rw[w64 (n:=400+y) (by omega) (by omega)]
  refine Hbb rfl (Hbb (by omega) (Hbb (by omega) (Hfb (by simp only[Vc,Vg];omega) (H7b ⟨⟨⟨⟨hin.1.1.1,Uca hin.1.1.2 (by omega) ?_⟩,hin.1.2.1,Ioa hin.1.2.2 hs⟩,hin.2.1,?_⟩,k4⟩))))
  ·simp only[K8b];omega
  ·simp only[Vd,Vc,Vg];omega

section
open Go
end

def U6 (p:Nmd→Bool):∀ l:List Nmd,l.take (l.takeWhile p).length=l.takeWhile p∧l.drop (l.takeWhile p).length=l.dropWhile p
 |[]=>⟨rfl,rfl⟩
 |y::l=>by
  obtain⟨h1,h2⟩:=U6 p l
  simp only[Zt,Inb]
  cases p y with
  |true=>simp[h1,h2]
  |false=>simp
def Ipa {p:Nmd→Bool}:∀ {l:List Nmd} {y:Nmd},y∈l.takeWhile p→p y=true
 |[],y,h=>by simp at h
 |z::l,y,h=>by
  simp only[Zt]at h
  cases hz:p z
  ·rw[hz]at h;simp at h
  rw[hz]at h
  simp only[if_true]at h
  rcases Vm.1 h with rfl|h
  ·exact hz
  ·exact Ipa h
def Adb (l:List Nmd) (x:Nmd):ins l x=l.takeWhile (λ y=>tlt y.1 x.1)++([x]++l.dropWhile (λ y=>tlt y.1 x.1)):=by
 unfold ins plc
 obtain⟨h1,h2⟩:=U6 (λ y=>tlt y.1 x.1) l
 rw[h1,h2,Vo]
def Eka {x:Nmd}:∀ {l:List Nmd},Ho l→(∀ y∈l,y.1≠x.1)→∀ z∈l.dropWhile (λ y=>tlt y.1 x.1),tlt x.1 z.1=true
 |[],_,_,z,hz=>by simp at hz
 |y::l,hs,hn,z,hz=>by
  obtain⟨h1,h2⟩:=Wh.1 hs
  simp only[Inb]at hz
  cases hy:tlt y.1 x.1 with
  |true=>
   rw[hy]at hz
   simp only[if_true]at hz
   exact Eka h2 (λ w hw=>hn w (Vj _ hw)) z hz
  |false=>
   rw[hy]at hz
   simp only[Ya,if_false]at hz
   have hxy:tlt x.1 y.1=true:=by
    cases hh:tlt x.1 y.1 with
    |true=>rfl
    |false=>exact absurd (C0a hy hh) (hn y (by simp))
   rcases Vm.1 hz with rfl|hz
   ·exact hxy
   ·exact O3 hxy (h1 z hz)
def Tu {l:List Nmd} {x:Nmd} (hs:Ho l) (hn:∀ y∈l,y.1≠x.1):Ho (ins l x):=by
 rw[Adb]
 have hs':Ho (l.takeWhile (λ y=>tlt y.1 x.1)++l.dropWhile (λ y=>tlt y.1 x.1)):=by rw[I8b];exact hs
 obtain⟨h1,h2,h3⟩:=Zd.1 hs'
 have h4:∀ y∈l.takeWhile (λ y=>tlt y.1 x.1),tlt y.1 x.1=true:=λ y hy=>Ipa (p:=λ y=>tlt y.1 x.1) hy
 refine Zd.2 ⟨h1,Wh.2 ⟨λ z hz=>Eka hs hn z hz,h2⟩,λ a ha b hb=>?_⟩
 rcases Vm.1 hb with rfl|hb
 ·exact h4 a ha
 ·exact h3 a ha b hb
def Y2 {l:List Nmd} {x y:Nmd}:y∈ins l x↔y=x∨y∈l:=by
 rw[Adb]
 have e:=I8b (p:=λ y:Nmd=>tlt y.1 x.1) (l:=l)
 constructor
 ·intro h
  rcases Vp.1 h with h|h
  ·right;rw[← e];exact Wc _ h
  ·rcases Vm.1 h with h|h
   ·exact .inl h
   ·right;rw[← e];exact Vt _ h
 ·rintro (rfl|h)
  ·exact Vt _ (by simp)
  ·rw[← e]at h
   rcases Vp.1 h with h|h
   ·exact Wc _ h
   ·exact Vt _ (Vj _ h)
def Aeb {l:List Nmd} {x:Nmd} (hl:Kh l=true) (hn:∀ y∈l,y.1≠x.1) (hx:nOk x=true):Kh (ins l x)=decide ((ins l x).length≤60):=by
 obtain⟨h1,h2,h3⟩:=Ai.1 hl
 by_cases h:(ins l x).length≤60
 ·rw[decide_eq_true h]
  exact Ai.2 ⟨Tu h1 hn,λ y hy=>by rcases Y2.1 hy with rfl|hy;exact hx;exact h2 y hy,h⟩
 ·rw[decide_eq_false h]
  cases hc:Kh (ins l x) with
  |false=>rfl
  |true=>exact absurd (Ai.1 hc).2.2 h
def Cca {l:List Nmd} {s:ByteArray}:∀ y∈cut l s,y.1≠s:=λ y hy e=>by
 have:=(Izb.1 hy).2
 simp[e,Lj.2 rfl]at this
def Clb {l:List Nmd} {s:ByteArray}:cut (cut l s) s=cut l s:=by
 unfold cut
 rw[List.filter_filter]
 congr 1
 funext x
 simp
def Cmb {d:Dsk} {s:ByteArray} (hd:An d=true):syS d s=syI d s:=by
 unfold An at hd
 rw[Va]at hd
 have hs:=(Ai.1 hd.2).1
 unfold syS syI
 rw[Rs hs]
 cases fnd d.1 s with
 |none=>rfl
 |some i=>
  show ptl _ false (cut d.2 s)=ins (cut d.2 s) _
  rw[Y1 _ (P0 hs)]
  show ins (cut (cut d.2 s) s) _=_
  rw[Clb]
def Uda {d:Dsk} {s:ByteArray} (hd:An d=true) (hs:Az s=true):An (d.1,syI d s)=decide ((syI d s).length≤60):=by
 have hd':=hd
 unfold An at hd'
 rw[Va]at hd'
 have h2:=Ai.1 hd'.2
 unfold An
 rw[hd'.1,Vz]
 unfold syI
 rw[Rs h2.1]
 cases h:fnd d.1 s with
 |none=>show Kh (cut d.2 s)=decide ((cut d.2 s).length≤60);rw[Z7 hd'.2,decide_eq_true (Ai.1 (Z7 (s:=s) hd'.2)).2.2]
 |some i=>
  refine Aeb (Z7 hd'.2) Cca (Rr.2 ⟨hs,?_⟩)
  have h1:=(Ai.1 hd'.1).2.1 _ (A4 (d:=Dd) (Oe h).1)
  exact(Rr.1 h1).2
def Cnb {l:List Nmd} (hs:Ho l) {x y:Nmd} (hx:x∈l) (hy:y∈l) (e:x.1=y.1):x=y:=by
 induction l with
 |nil=>simp at hx
 |cons z l ih=>
  obtain⟨h1,h2⟩:=Wh.1 hs
  rcases Vm.1 hx with hx'|hx'
  ·rcases Vm.1 hy with hy'|hy'
   ·rw[hx',hy']
   ·have:=h1 y hy';rw[← hx',e,Lm]at this;cases this
  ·rcases Vm.1 hy with hy'|hy'
   ·have:=h1 x hx';rw[← hy',e,Lm]at this;cases this
   ·exact ih h2 hx' hy'

def wrI (d:Dsk) (s:ByteArray) (b:List Int):List Nmd:=ins (del d.1 s) (s,b)
def Uea (d:Dsk) (s:ByteArray) (b:List Int) (hd:DIn d) (hs:Lo s) (hb:b.length≤1000000000000):Tot (λ k=>F7 k d s b) (λ r=>r=bif An d&&(Az s&&(decide (b.length≤400)&&decide ((wrI d s b).length≤60))) then ((wrI d s b,d.2),true) else (d,false)):=by
 unfold F7
 refine H8b (J7 d hd.1.1) ?_
 rintro r rfl
 refine H8b (Qc r hd.1.1 hd.1.2) ?_
 rintro b1 rfl
 cases h1:An r
 ·exact Hab rfl (H7b rfl)
 refine H9b rfl (H8b (Pi s hs) ?_)
 rintro b2 rfl
 cases h2:Az s
 ·exact Hab rfl (H7b rfl)
 refine H9b rfl (Heb (λ h=>?_) (λ h=>?_))
 ·rw[decide_eq_false (show ¬ b.length≤400 by omega)]
  exact H7b rfl
 ·rw[decide_eq_true (show b.length≤400 by omega)]
  refine H8b (Wx r.1 s hd.1.1.1.1) ?_
  rintro c rfl
  refine H8b (Hjb (Q:=λ x=>x=b) (Nq b hb) rfl) ?_
  rintro e rfl
  have hdl:=Eja r.1 s
  refine H8b (O2a (del r.1 s) (s,e) (by have:=hd.2.1;omega)) ?_
  rintro m rfl
  refine Heb (λ h=>?_) (λ h=>?_)
  ·rw[decide_eq_false (show ¬ (wrI r s e).length≤60 by unfold wrI;omega)]
   refine H8b (J7 r hd.1.1) ?_
   rintro x rfl
   exact H7b rfl
  ·rw[decide_eq_true (show (wrI r s e).length≤60 by unfold wrI;omega)]
   exact H7b rfl
def O7a {d:Dsk} {s:ByteArray} {b:List Int} (hd:An d=true) (hs:Az s=true):ptl (s,b) false d.1=wrI d s b∧An (wrI d s b,d.2)=(decide (b.length≤400)&&decide ((wrI d s b).length≤60)):=by
 have hd':=hd
 unfold An at hd'
 rw[Va]at hd'
 have h1:=Ai.1 hd'.1
 have e1:wrI d s b=ins (cut d.1 s) (s,b):=by unfold wrI;rw[Rs h1.1]
 refine⟨by rw[e1];exact Y1 _ h1.1,?_⟩
 unfold An
 rw[hd'.2,Ibb,e1]
 by_cases hb:b.length≤400
 ·rw[decide_eq_true hb,Vz]
  exact Aeb (Z7 hd'.1) Cca (Rr.2 ⟨hs,hb⟩)
 ·rw[decide_eq_false hb,Zl]
  cases hc:Kh (ins (cut d.1 s) (s,b)) with
  |false=>rfl
  |true=>exact absurd (Rr.1 ((Ai.1 hc).2.1 (s,b) (Y2.2 (.inl rfl)))).2 hb

def TS (l:List ByteArray):Prop:=l.Pairwise (λ a b=>tlt a b=true)
def pk (l:List Nmd) (s:ByteArray):Option Nmd:=match fnd l s with
 |some i=>some (l.getD i Dd)
 |none=>none
def On:ByteArray:=⟨#[]⟩
def tpl (l:List ByteArray) (s:ByteArray):Nat:=(l.takeWhile (λ y=>tlt y s)).length
def wt (l:List ByteArray) (s:ByteArray):List ByteArray:=if tpl l s<l.length∧teq (l.getD (tpl l s) On) s=true then l else l.take (tpl l s)++[s]++l.drop (tpl l s)
def Afb (l:List ByteArray) (s:ByteArray):tpl l s≤l.length:=(K7b _).length_le
def Aba (l:List ByteArray) (s:ByteArray) (hf:l.length≤1000000000000):∀ (n i:Nat),l.length-i=n→i≤l.length→
  Tot (λ k=>Fw k l s (i:Int)) (λ r=>r=(l,s,((i+tpl (l.drop i) s:Nat):Int))):=by
 intro n
 induction n with
 |zero=>
  intro i hd hi
  refine Tot.succ ?_
  simp only[Fw]
  refine Hcb (by omega) (H7b ?_)
  rw[Wj (by omega)]
  rfl
 |succ n ih=>
  intro i hd hi
  have hlt:i<l.length:=by omega
  refine Tot.succ ?_
  simp only[Fw]
  refine Hbb (by omega) (Hbb (by omega) (Hbb (by omega) ?_))
  rw[show toNat (i:Int)=i from Vb i,w64 (n:=(i:Int)+1) (by omega) (by omega),Ah (d:=On) hlt]
  have e0:l.getD i (⟨#[]⟩:ByteArray)=l.getD i On:=rfl
  rw[e0]
  have e1:tpl (l.getD i On::l.drop (i+1)) s=if tlt (l.getD i On) s then tpl (l.drop (i+1)) s+1 else 0:=by
   unfold tpl
   rw[Zt]
   split<;>rfl
  rw[e1]
  refine Hdb (λ h=>?_) (λ h=>?_)
  ·have h':tlt (l.getD i On) s=true:=h
   rw[if_pos h']
   refine(ih (i+1) (by omega) (by omega)).mono ?_
   rintro r rfl
   rw[show i+1+tpl (l.drop (i+1)) s=i+(tpl (l.drop (i+1)) s+1) by omega]
  ·have h':¬ (tlt (l.getD i On) s=true):=by
    have:tlt (l.getD i On) s=false:=h
    rw[this];simp
   rw[if_neg h']
   exact H7b rfl
def Wy (l:List ByteArray) (s:ByteArray) (hf:l.length≤1000000000):Tot (λ k=>Fi k l s) (λ r=>r=wt l s):=by
 unfold Fi
 refine H8b (Aba l s (by omega) _ 0 rfl (Vq _)) ?_
 intro r hr
 rw[Wp,Wk]at hr
 subst hr
 have hj:=Afb l s
 generalize hjj:tpl l s=j at *
 dsimp only
 have hno:¬ (j<l.length∧teq (l.getD j On) s=true)→Tot (λ k=>cond (decide ((0:Int)≤(j:Int))) (cond (decide ((j:Int)≤(length l:Int))) (cond (Nat.ble ((length ([]:List ByteArray)+length (List.take (toNat (j:Int)) l))*16) 140737488355328) (let v3:List ByteArray:=([]:List ByteArray)++(List.take (toNat (j:Int)) l);cond (Nat.ble ((length v3+length [s])*16) 140737488355328) (cond (decide ((0:Int)≤(j:Int))) (cond (decide ((j:Int)≤(length l:Int))) (cond (Nat.ble ((length (v3++[s])+length (List.drop (toNat (j:Int)) l))*16) 140737488355328) (some ((v3++[s])++(List.drop (toNat (j:Int)) l))) none) none) none) none) none) none) none)
   (λ r=>r=wt l s):=by
  intro hn
  refine Hbb (by omega) (Hbb (by omega) ?_)
  rw[show toNat (j:Int)=j from Vb j]
  refine Hfb (by simp only[Vg,Vs];omega) ?_
  refine Hfb (by simp only[Vd,Vg,Vs,Vc];omega) ?_
  refine Hbb (by omega) (Hbb (by omega) (Hfb (by simp only[Vd,Vg,Vs,Wd,Vc];omega) (H7b ?_)))
  unfold wt
  rw[hjj,if_neg hn,Vx]
 refine Heb (λ h=>?_) (λ h=>hno (λ hh=>h (by omega)))
 refine Hbb (by omega) (Hbb h ?_)
 rw[show toNat (j:Int)=j from Vb j]at *
 refine Hdb (λ he=>H7b ?_) (λ he=>hno (λ hh=>?_))
 ·unfold wt
  rw[hjj,if_pos ⟨by omega,he⟩]
 ·have h2:teq (l.getD j On) s=false:=he
  rw[h2]at hh
  cases hh.2
def Iqa {l:List ByteArray} {s y:ByteArray}:y∈wt l s↔y=s∨y∈l:=by
 unfold wt
 by_cases h:tpl l s<l.length∧teq (l.getD (tpl l s) On) s=true
 ·rw[if_pos h]
  refine⟨.inr,λ h'=>?_⟩
  rcases h' with rfl|h'
  ·have:=A4 (d:=On) h.1
   rwa [Lj.1 h.2]at this
  ·exact h'
 ·rw[if_neg h]
  have e:l.take (tpl l s)++l.drop (tpl l s)=l:=Wo _ _
  constructor
  ·intro h'
   rw[Vo]at h'
   rcases Vp.1 h' with h'|h'
   ·right;rw[← e];exact Wc _ h'
   ·rcases Vp.1 h' with h'|h'
    ·left;simpa using h'
    ·right;rw[← e];exact Vt _ h'
  ·rintro (rfl|h')
   ·simp
   ·rw[← e]at h'
    rcases Vp.1 h' with h'|h'<;>simp[h']
def O8a (p:ByteArray→Bool):∀ l:List ByteArray,l.take (l.takeWhile p).length=l.takeWhile p∧l.drop (l.takeWhile p).length=l.dropWhile p
 |[]=>⟨rfl,rfl⟩
 |y::l=>by
  obtain⟨h1,h2⟩:=O8a p l
  simp only[Zt,Inb]
  cases p y with
  |true=>simp[h1,h2]
  |false=>simp
def Ela {p:ByteArray→Bool}:∀ {l:List ByteArray} {y:ByteArray},y∈l.takeWhile p→p y=true
 |[],y,h=>by simp at h
 |z::l,y,h=>by
  simp only[Zt]at h
  cases hz:p z
  ·rw[hz]at h;simp at h
  rw[hz]at h
  simp only[if_true]at h
  rcases Vm.1 h with rfl|h
  ·exact hz
  ·exact Ela h
def Cda {s:ByteArray}:∀ {l:List ByteArray},TS l→(∀ y r,l.dropWhile (λ y=>tlt y s)=y::r→y≠s)→∀ z∈l.dropWhile (λ y=>tlt y s),tlt s z=true
 |[],_,_,z,hz=>by simp at hz
 |y::l,hs,hn,z,hz=>by
  obtain⟨h1,h2⟩:=Wh.1 hs
  simp only[Inb]at hz hn
  cases hy:tlt y s with
  |true=>
   rw[hy]at hz hn
   simp only[if_true]at hz hn
   exact Cda h2 hn z hz
  |false=>
   rw[hy]at hz hn
   simp only[Ya,if_false]at hz hn
   have hxy:tlt s y=true:=by
    cases hh:tlt s y with
    |true=>rfl
    |false=>exact absurd (C0a hy hh) (hn y l rfl)
   rcases Vm.1 hz with rfl|hz
   ·exact hxy
   ·exact O3 hxy (h1 z hz)
def R6 {l:List ByteArray} {s:ByteArray} (hs:TS l):TS (wt l s):=by
 unfold wt
 by_cases h:tpl l s<l.length∧teq (l.getD (tpl l s) On) s=true
 ·rw[if_pos h];exact hs
 ·rw[if_neg h]
  obtain⟨e1,e2⟩:=O8a (λ y=>tlt y s) l
  have hd:∀ y r,l.dropWhile (λ y=>tlt y s)=y::r→y≠s:=by
   intro y r hr hy
   rw[← e2]at hr
   have hlt:tpl l s<l.length:=by
    rcases Ipb (tpl l s) l.length with h'|h'
    ·exact h'
    ·have:l.drop (tpl l s)=[]:=Wj h'
     unfold tpl at this
     rw[this]at hr
     cases hr
   have:l.drop (tpl l s)=l.getD (tpl l s) On::l.drop (tpl l s+1):=Ah hlt
   unfold tpl at this
   rw[this]at hr
   simp only[Yl]at hr
   exact h ⟨hlt,Lj.2 (hr.1.trans hy)⟩
  have e1':l.take (tpl l s)=l.takeWhile (λ y=>tlt y s):=e1
  have e2':l.drop (tpl l s)=l.dropWhile (λ y=>tlt y s):=e2
  rw[e1',e2',Vo]
  have hs':TS (l.takeWhile (λ y=>tlt y s)++l.dropWhile (λ y=>tlt y s)):=by rw[I8b];exact hs
  obtain⟨h1,h2,h3⟩:=Zd.1 hs'
  refine Zd.2 ⟨h1,Wh.2 ⟨λ z hz=>Cda hs hd z hz,h2⟩,λ a ha b hb=>?_⟩
  rcases Vm.1 hb with rfl|hb
  ·exact Ela (p:=λ y=>tlt y b) ha
  ·exact h3 a ha b hb

def O9a {l:List ByteArray} {s:ByteArray}:(wt l s).length≤l.length+1:=by
 unfold wt
 have:=Afb l s
 split
 ·omega
 ·simp only[Vd,Vs,Wd,Vc,Vg];omega

section
variable {α σ R:Type} {a b:α} {p:Prop} [Decidable p]
def dT (h:p):cond (decide p) a b=a:=by rw[decide_eq_true h];rfl
def dF (h:¬ p):cond (decide p) a b=b:=by rw[decide_eq_false h];rfl
def bT {m n:Nat} (h:m≤n):cond (Nat.ble m n) a b=a:=by rw[Zj h];rfl
def Hgb {L:Nat→Int→σ→Option R} {Q:R→Prop} (n:Nat) (I:Nat→σ→Prop) (hend:∀ s,I n s→Tot (λ k=>L (k+1) (n:Int) s) Q)
  (Vra:∀ i s,i<n→I i s→(∀ s',I (i+1) s'→Tot (λ k=>L k ((i:Int)+1) s') Q)→Tot (λ k=>L (k+1) (i:Int) s) Q):
  ∀ (i:Nat) (s:σ),i≤n→I i s→Tot (λ k=>L k (i:Int) s) Q:=by
 suffices h:∀ (m i:Nat) (s:σ),n-i=m→i≤n→I i s→Tot (λ k=>L k (i:Int) s) Q from λ i s hi hs=>h _ i s rfl hi hs
 intro m
 induction m with
 |zero=>
  intro i s hm hi hs
  obtain rfl:i=n:=by omega
  exact Tot.succ (hend s hs)
 |succ m ih=>
  intro i s hm hi hs
  refine Tot.succ (Vra i s (by omega) hs λ s' hs'=>?_)
  have:=ih (i+1) s' (by omega) (by omega) hs'
  rwa [show (((i+1:Nat)):Int)=(i:Int)+1 by omega]at this
end
def cst (x:BitVec 32):BitVec 32:=if x.getLsbD 0 then (x >>> 1) ^^^ 2197175160#32 else x >>> 1
def Dfa:Nat→BitVec 32→BitVec 32
 |0,x=>x
 |n+1,x=>Dfa n (cst x)
def cby (x:BitVec 32) (b:Int):BitVec 32:=Dfa 8 (x ^^^ ofInt 32 b)
def Dub (l:List Int):BitVec 32 := ~~~ (l.foldl cby 4294967295#32)
def crc (l:List Int):Int:=((Dub l).toNat:Int)
def Gxb (v:BitVec 32):v.getLsbD 0=decide (v.toNat % 2=1):=by
 rw[BitVec.getLsbD,Nat.testBit_zero]
def Lka (v:BitVec 32):ofInt (IntKind.bits .u32) (v.toNat:Int)=v:=by
 show ofInt 32 (v.toNat:Int)=v
 rw[BitVec.ofInt_natCast,BitVec.ofNat_toNat,BitVec.setWidth_eq]
def Lla (n:Nat) (h:n<4294967296):(ofInt (IntKind.bits .i64) (n:Int)).toNat=n:=T3 n (by omega)
def Gdb (v:BitVec 32):wrap .u32 (v.toNat:Int)=(v.toNat:Int):=K0b _ ⟨by omega,by have:=v.isLt;omega⟩
def sh1 (v:BitVec 32):Int.fdiv (v.toNat:Int) 2=((v >>> 1).toNat:Int):=by
 rw[Hmb _ (by omega),BitVec.toNat_ushiftRight,Nat.shiftRight_eq_div_pow]
 omega
def Geb (v:BitVec 32):((wrap .u32 ((ofInt (IntKind.bits .u32) (v.toNat:Int) &&& ofInt (IntKind.bits .u32) 1).toNat))==1)=v.getLsbD 0:=by
 show (wrap .u32 (((ofInt 32 (v.toNat:Int) &&& ofInt 32 1).toNat:Nat):Int)==1)=_
 rw[show ofInt 32 (v.toNat:Int)=v from Lka v,Gdb,Gxb,Imb,show (ofInt 32 1).toNat=1 from by decide,Nat.and_one_is_mod,Jnb,beq_iff_eq,decide_eq_true_iff]
 omega
def Gfb (v:BitVec 32):((wrap .i64 ((ofInt (IntKind.bits .i64) (v.toNat:Int) &&& ofInt (IntKind.bits .i64) 1).toNat))==1)=v.getLsbD 0:=by
 have:=v.isLt
 rw[Gxb,Imb,Lla _ v.isLt,show (ofInt (IntKind.bits .i64) 1).toNat=1 from by decide,Nat.and_one_is_mod,w64 (by omega) (by omega),Jnb,beq_iff_eq,decide_eq_true_iff]
 omega
def Ggb (v w:BitVec 32) (x:Int) (h:ofInt 32 x=w):wrap .u32 ((ofInt (IntKind.bits .u32) (v.toNat:Int) ^^^ ofInt (IntKind.bits .u32) x).toNat)=((v ^^^ w).toNat:Int):=by
 show wrap .u32 (((ofInt 32 (v.toNat:Int) ^^^ ofInt 32 x).toNat:Nat):Int)=_
 rw[show ofInt 32 (v.toNat:Int)=v from Lka v,h]
 exact Gdb _
def Fyb (v w:BitVec 32):wrap .i64 ((ofInt (IntKind.bits .i64) (v.toNat:Int) ^^^ ofInt (IntKind.bits .i64) (w.toNat:Int)).toNat)=((v ^^^ w).toNat:Int):=by
 have:=(v ^^^ w).isLt
 rw[BitVec.toNat_xor,Lla _ v.isLt,Lla _ w.isLt,← BitVec.toNat_xor]
 exact w64 (by omega) (by omega)
def Gyb (K:IntKind) (h:1≤IntKind.bits K):(2:Int) ^ (min (toNat 1) (IntKind.bits K))=2:=by
 rw[show toNat 1=1 from rfl,Zw h];rfl
def Qba (l:List Int) (x8 x9:Int):∀ (n:Nat) (v:BitVec 32) (i:Int),0≤i→8-i=n→Tot (λ k=>Lb k (v.toNat:Int) l x8 x9 i) (λ r=>r=(((Dfa n v).toNat:Int),l,x8,x9)):=by
 intro n
 induction n with
 |zero=>
  intro v i h0 hn
  refine Tot.succ ?_
  simp only[Lb]
  exact Hcb (by omega) (H7b rfl)
 |succ n ih=>
  intro v i h0 hn
  refine Tot.succ ?_
  simp only[Lb]
  refine Hbb (by omega) ?_
  rw[w64 (n:=i+1) (by omega) (by omega),Geb,Gyb _ (by decide),sh1,Ggb _ 2197175160#32 _ (by decide)]
  have e:Dfa (n+1) v=Dfa n (cst v):=rfl
  rw[e]
  refine Hdb (λ h=>?_) (λ h=>?_)
  ·have:=ih (v >>> 1 ^^^ 2197175160#32) (i+1) (by omega) (by omega)
   rwa [show v >>> 1 ^^^ 2197175160#32=cst v by unfold cst;rw[if_pos h]]at this ⊢
  ·have:=ih (v >>> 1) (i+1) (by omega) (by omega)
   rwa [show v >>> 1=cst v by unfold cst;rw[if_neg (by rw[h];simp)]]at this ⊢
def Lma (l:List Int) (x4:Int):∀ (n:Nat) (v:BitVec 32) (i:Int),0≤i→8-i=n→Tot (λ k=>Ix k l (v.toNat:Int) x4 i) (λ r=>r=(l,((Dfa n v).toNat:Int),x4)):=by
 intro n
 induction n with
 |zero=>
  intro v i h0 hn
  refine Tot.succ ?_
  simp only[Ix]
  exact Hcb (by omega) (H7b rfl)
 |succ n ih=>
  intro v i h0 hn
  refine Tot.succ ?_
  simp only[Ix]
  have hp:(2197175160:Int)=((2197175160#32:BitVec 32).toNat:Int):=by decide
  refine Hbb (by omega) ?_
  rw[w64 (n:=i+1) (by omega) (by omega),Gfb,Gyb _ (by decide),sh1,hp,Fyb]
  have e:Dfa (n+1) v=Dfa n (cst v):=rfl
  rw[e]
  refine Hdb (λ h=>?_) (λ h=>?_)
  ·have:=ih (v >>> 1 ^^^ 2197175160#32) (i+1) (by omega) (by omega)
   rwa [show v >>> 1 ^^^ 2197175160#32=cst v by unfold cst;rw[if_pos h]]at this ⊢
  ·have:=ih (v >>> 1) (i+1) (by omega) (by omega)
   rwa [show v >>> 1=cst v by unfold cst;rw[if_neg (by rw[h];simp)]]at this ⊢
def Oaa {b:Int} (h:0≤b∧b≤255):b=((ofInt 32 b).toNat:Int):=by
 rw[Ivb]
 omega
def Cob (l:List Int) (hb:As l) (hl:l.length≤1000000000000):Tot (λ k=>Nl k l) (λ r=>r=crc l):=by
 unfold Nl
 refine H8b (Q:=λ r=>r=(((l.foldl cby 4294967295#32).toNat:Nat):Int)) ?_ ?_
 ·have:=Hgb (L:=λ k i s=>Lz k s l (l.length:Int) i) (Q:=λ r=>r=(((l.foldl cby 4294967295#32).toNat:Nat):Int)) l.length (λ i s=>∃ v:BitVec 32,s=(v.toNat:Int)∧(l.drop i).foldl cby v=l.foldl cby 4294967295#32) ?_ ?_ 0 4294967295 (Vq _) ⟨4294967295#32,by decide,by rw[Wp]⟩
  ·exact this
  ·rintro s ⟨v,rfl,hv⟩
   simp only[Lz]
   rw[Wa]at hv
   exact Hcb (by omega) (H7b (by rw[← hv];rfl))
  ·rintro i s hi ⟨v,rfl,hv⟩ next
   simp only[Lz]
   have hx:=hb _ (A4 (d:=0) hi)
   refine Hbb (by omega) (Hbb (by omega) (Hbb (by omega) ?_))
   rw[Vb,K0b _ ⟨hx.1,by omega⟩,Ggb v _ _ rfl]
   refine Hib (Qba l _ _ 8 _ 0 (by decide) (by decide)) ?_
   simp only
   rw[w64 (n:=(i:Int)+1) (by omega) (by omega)]
   refine next _ ⟨_,rfl,?_⟩
   rw[Ah (d:=0) hi,Za]at hv
   exact hv
 ·rintro r rfl
  refine H7b ?_
  unfold crc Dub
  have hm:ofInt 32 (if IntKind.signed .u32 then -1 else IntKind.max .u32)=BitVec.allOnes 32:=by decide
  have e:BitVec.allOnes 32 ^^^ l.foldl cby 4294967295#32 = ~~~ (l.foldl cby 4294967295#32):=by rw[Kdb];exact BitVec.xor_allOnes
  show wrap .i64 (wrap .u32 (((ofInt 32 (if IntKind.signed .u32 then -1 else IntKind.max .u32) ^^^ ofInt 32 ((l.foldl cby 4294967295#32).toNat:Int)).toNat:Nat):Int))=_
  rw[show ofInt 32 ((l.foldl cby 4294967295#32).toNat:Int)=l.foldl cby 4294967295#32 from Lka _,hm,e]
  have:=(~~~ (l.foldl cby 4294967295#32)).isLt
  rw[Gdb,w64 (by omega) (by omega)]
def Cpb (l:List Int) (hb:As l) (hl:l.length≤1000000000000):Tot (λ k=>My k l) (λ r=>r=crc l):=by
 unfold My
 refine H8b (Q:=λ r=>r=(((l.foldl cby 4294967295#32).toNat:Nat):Int)) ?_ ?_
 ·have:=Hgb (L:=λ k i s=>Ja k l s i) (Q:=λ r=>r=(((l.foldl cby 4294967295#32).toNat:Nat):Int)) l.length (λ i s=>∃ v:BitVec 32,s=(v.toNat:Int)∧(l.drop i).foldl cby v=l.foldl cby 4294967295#32) ?_ ?_ 0 4294967295 (Vq _) ⟨4294967295#32,by decide,by rw[Wp]⟩
  ·exact this
  ·rintro s ⟨v,rfl,hv⟩
   simp only[Ja]
   rw[Wa]at hv
   exact Hcb (by omega) (H7b (by rw[← hv];rfl))
  ·rintro i s hi ⟨v,rfl,hv⟩ next
   simp only[Ja]
   have hx:=hb _ (A4 (d:=0) hi)
   refine Hbb (by omega) (Hbb (by omega) (Hbb (by omega) ?_))
   rw[Vb,w64 (n:=l.getD i 0) (by omega) (by omega),Oaa hx,Fyb]
   refine Hib (Lma l _ 8 _ 0 (by decide) (by decide)) ?_
   simp only
   rw[w64 (n:=(i:Int)+1) (by omega) (by omega)]
   refine next _ ⟨_,rfl,?_⟩
   rw[Ah (d:=0) hi,Za]at hv
   exact hv
 ·rintro r rfl
  refine H7b ?_
  have hp:(4294967295:Int)=((BitVec.allOnes 32:BitVec 32).toNat:Int):=by decide
  rw[hp,Fyb,BitVec.xor_allOnes]
  rfl

def F0b:Fil:=(((0:Int),((0:Int),(0:Int))),(false,([]:List Int)))
def Ee (f:Fil):Bool:=Fj f.1&&(decide ((f.2.2.length:Int)≤200)&&(!f.2.1||((f.2.2.length:Int)==0)))
def Asa (f:Fil):Eu f=some (Ee f):=by
 unfold Eu Ee
 rw[Wu]
 simp only[Vl]
 cases Fj f.1<;>cases decide ((length f.2.2:Int)≤200)<;>cases f.2.1<;>rfl
def Wz (f:Fil):Ce f=some (Ee f):=by
 unfold Ce Ee
 rw[T2]
 simp only[Vl]
 cases Fj f.1<;>cases decide ((length f.2.2:Int)≤200)<;>cases f.2.1<;>rfl
def Ke {f:Fil}:Ee f=true↔Fj f.1=true∧f.2.2.length≤200∧(f.2.1=true→f.2.2=[]):=by
 unfold Ee
 rw[Va,Va,decide_eq_true_iff]
 have:(!f.2.1||((f.2.2.length:Int)==0))=true↔(f.2.1=true→f.2.2=[]):=by
  cases f.2.1 with
  |false=>simp
  |true=>simp
 rw[this]
 constructor
 ·rintro⟨h1,h2,h3⟩;exact⟨h1,by omega,h3⟩
 ·rintro⟨h1,h2,h3⟩;exact⟨h1,by omega,h3⟩
def Ufa (a b:Fil):Ml a b=some (sle b.1 a.1):=by unfold Ml;rw[Aqa];rfl
def Uga (a b:Fil):Mj a b=some (sle b.1 a.1):=by unfold Mj;rw[Fsa];rfl
def hdF (s:Stp) (d:Bool):List Int:=R6a s++Ql (C1 (Dda d))
def Qm (f:Fil):List Int:=hdF f.1 f.2.1++txt (Mu f.2.2)
def c4 (c:Int):List Int:=[wrap .u8 (Int.fdiv c (2 ^ (min (toNat 24) (IntKind.bits .i64)))),wrap .u8 (Int.fdiv c (2 ^ (min (toNat 16) (IntKind.bits .i64)))),wrap .u8 (Int.fdiv c (2 ^ (min (toNat 8) (IntKind.bits .i64)))),wrap .u8 c]
def N1 (f:Fil):List Int:=bif Ee f then Qm f++c4 (crc (Qm f)) else []
def R7 {a b:List Int} (ha:As a) (hb:As b):As (a++b):=λ x hx=>(Vp.1 hx).elim (ha x) (hb x)
def T4 (n:Int):As (Ql (C1 n)):=Q5a _ (Pz n)
def Uha (s:Stp) (d:Bool):As (hdF s d):=R7 (R7 (T4 _) (R7 (T4 _) (T4 _))) (T4 _)
def Ru (f:Fil):As (Qm f):=R7 (Uha _ _) (R7 (T4 _) (Eda _))
def Yca (c:Int):As (c4 c):=by
 intro x hx
 simp only[c4,Vm,Zk,or_false]at hx
 rcases hx with rfl|rfl|rfl|rfl<;>exact I4a _
def R8 (f:Fil):As (N1 f):=by
 unfold N1
 cases Ee f with
 |false=>intro x hx;simp at hx
 |true=>exact R7 (Ru f) (Yca _)
def Lna (s:Stp) (d:Bool):(hdF s d).length≤20:=by
 have h1:=Fya s
 have h2:=(Np (C1 (Dda d))).1
 unfold hdF
 rw[Vd]
 omega
def Cea (f:Fil):(Qm f).length≤25+f.2.2.length:=by
 have h1:=Lna f.1 f.2.1
 have h2:=U1a (Mu f.2.2)
 have h3:(Mu f.2.2).size=f.2.2.length:=Oz _
 unfold Qm
 rw[Vd]
 omega
def Ata (f:Fil):(N1 f).length≤229:=by
 unfold N1
 cases h:Ee f
 ·simp
 have h1:=Cea f
 have h2:=(Ke.1 h).2.1
 rw[cond_true,Vd]
 simp only[c4,Vc,Vg]
 omega
def Rv (f:Fil):Tot (λ k=>G7 k f) (λ r=>r=N1 f):=by
 unfold G7 N1
 refine Hib (Hjb (Q:=λ b=>b=Ee f) (Asa f) rfl) ?_
 cases h:Ee f
 ·exact Hab rfl (H7b rfl)
 have h2:=(Ke.1 h).2.1
 have h3:(Mu f.2.2).size=f.2.2.length:=Oz _
 have h4:=Lna f.1 f.2.1
 have h5:=Cea f
 refine H9b rfl (Hib (Q6a [] f.1 f.2.1 (by simp)) ?_)
 rw[Vx]
 refine Hib (Y3a _ _ (by unfold hdF at h4;omega) (by omega)) ?_
 have e:R6a f.1++Ql (C1 (Dda f.2.1))++txt (Mu f.2.2)=Qm f:=rfl
 rw[e]
 refine Hib (Cob _ (Ru f) (by omega)) ?_
 exact Hfb (by simp only[Vc,Vg];omega) (H7b rfl)
def Uo (f:Fil):Tot (λ k=>Bw k f) (λ r=>r=N1 f):=by
 unfold Bw N1
 refine Hib (Hjb (Q:=λ b=>b=Ee f) (Wz f) rfl) ?_
 cases h:Ee f
 ·exact Hab rfl (H7b rfl)
 have h2:=(Ke.1 h).2.1
 have h3:(Mu f.2.2).size=f.2.2.length:=Oz _
 have h4:=Lna f.1 f.2.1
 have h5:=Cea f
 have h6:=Fya f.1
 refine H9b rfl (Hib (Efa [] f.1 (by simp)) ?_)
 rw[Vx]
 refine Hib (Hjb (Q:=λ r=>r=Dda f.2.1) (Nza _) rfl) ?_
 refine Hib (Y0 _ _ (by omega)) ?_
 refine Hib (Nwa _ _ (by unfold hdF at h4;omega) (by omega)) ?_
 have e:R6a f.1++Ql (C1 (Dda f.2.1))++txt (Mu f.2.2)=Qm f:=rfl
 rw[e]
 refine Hib (Cpb _ (Ru f) (by omega)) ?_
 exact Hfb (by simp only[Vc,Vg];omega) (H7b rfl)
def Pf (b:List Int):Option Fil:=(Sd b 0).bind λ a=>(Nxa b a.2).bind λ t=>bif Ee (a.1.1,a.1.2,bytesOf t.1)&&decide (N1 (a.1.1,a.1.2,bytesOf t.1)=b) then some (a.1.1,a.1.2,bytesOf t.1) else none
def Uq (b:List Int):Fil×Bool:=match Pf b with
 |some f=>(f,true)
 |none=>(F0b,false)
def Uia {b:List Int} {f:Fil} (h:Pf b=some f):Ee f=true∧As f.2.2∧N1 f=b:=by
 unfold Pf at h
 simp only[Iub]at h
 obtain⟨a,_,t,_,h⟩:=h
 cases hc:(Ee (a.1.1,a.1.2,bytesOf t.1)&&decide (N1 (a.1.1,a.1.2,bytesOf t.1)=b))
 ·rw[hc]at h;cases h
 rw[hc]at h
 simp only[cond_true,Vh]at h
 subst h
 rw[Va,decide_eq_true_iff]at hc
 exact⟨hc.1,Eda _,hc.2⟩
def Uja (s:Stp) (d:Bool) (rest:List Int) (h:Fj s=true):Sd (hdF s d++rest) 0=some ((s,d),(hdF s d).length):=by
 obtain⟨t,c,n⟩:=s
 unfold Fj at h
 simp only[Va,Cc]at h
 obtain⟨⟨t0,t1⟩,⟨c0,c1⟩,n0,n1⟩:=h
 have ht:=C5a t0 t1
 have hc:=C5a c0 (show c≤1000000000 by omega)
 have hn:=C5a n0 (show n≤1000000000 by omega)
 have hbit:(((C1 (Dda d):Nat):Int)==1)=d:=by cases d<;>decide
 have hbit2:¬ (1<C1 (Dda d)):=by cases d<;>decide
 have k:∀ (a:List Int) (n:Nat) (b:List Int),n≤1000000000→Qo (a++(Ql n++b)) a.length=some (n,(a++Ql n).length):=λ a n b hn=>by rw[Nua a n b hn,Vd]
 have e0:hdF (t,c,n) d++rest=Ql (C1 t)++(Ql (C1 c)++(Ql (C1 n)++(Ql (C1 (Dda d))++rest))):=by
  unfold hdF R6a
  simp only[Vo]
 have el:(hdF (t,c,n) d).length=(Ql (C1 t)).length+(Ql (C1 c)).length+(Ql (C1 n)).length+(Ql (C1 (Dda d))).length:=by
  unfold hdF R6a
  simp only[Vd]
  omega
 have g1:=k [] (C1 t) (Ql (C1 c)++(Ql (C1 n)++(Ql (C1 (Dda d))++rest))) (Pz t)
 have g2:=k (Ql (C1 t)) (C1 c) (Ql (C1 n)++(Ql (C1 (Dda d))++rest)) (Pz c)
 have g3:=k (Ql (C1 t)++Ql (C1 c)) (C1 n) (Ql (C1 (Dda d))++rest) (Pz n)
 have g4:=k (Ql (C1 t)++Ql (C1 c)++Ql (C1 n)) (C1 (Dda d)) rest (Pz _)
 simp only[Vo,Vx,Vg]at g1 g2 g3 g4
 simp only[Vd]at g1 g2 g3 g4
 unfold Sd
 rw[e0,el]
 simp only[Zh]at g1 g2 g3 g4 ⊢
 simp only[g1,g2,g3,g4,Vl,decide_eq_false hbit2,cond_false]
 rw[ht,hc,hn,hbit]
def Yda {l:List Int} {q:Nat} {s:Stp} {d:Bool} (hb:As l) (h:Sd l 0=some ((s,d),q)):l=hdF s d++l.drop q∧q≤l.length:=by
 unfold Sd at h
 simp only[Iub]at h
 obtain⟨⟨t,p2⟩,h2,⟨c,p3⟩,h3,⟨n,p4⟩,h4,⟨e,p5⟩,h5,h⟩:=h
 obtain⟨b1,b2,b3,b4⟩:=Un hb h2
 obtain⟨c1,c2,c3,c4⟩:=Un hb h3
 obtain⟨d1,d2,d3,d4⟩:=Un hb h4
 obtain⟨e1,e2,e3,e4⟩:=Un hb h5
 cases hd:decide (1<e)
 case true=>simp only[hd,cond_true]at h;cases h
 simp only[hd,cond_false,Vh,Wb]at h
 obtain⟨⟨⟨rfl,rfl,rfl⟩,rfl⟩,rfl⟩:=h
 have he:e≤1:=by
  have:=of_decide_eq_false hd
  omega
 have hbit:C1 (Dda ((e:Int)==1))=e:=by
  have:e=0∨e=1:=by omega
  rcases this with rfl|rfl<;>decide
 have k:∀ n:Nat,n≤1000000000→C1 (n:Int)=n:=λ n hn=>by unfold C1;omega
 simp only at b1 b2 c1 c2 d1 d2 e1 e2
 refine⟨?_,e4⟩
 rw[Wp]at b1
 unfold hdF R6a
 simp only
 rw[k t b2,k c c2,k n d2,hbit,Vo,Vo,Vo,← e1,← d1,← c1,← b1]
def Aua {f:Fil} (h:Ee f=true) (hb:As f.2.2):Pf (N1 f)=some f:=by
 obtain⟨h1,h2,h3⟩:=Ke.1 h
 have e:N1 f=hdF f.1 f.2.1++(txt (Mu f.2.2)++c4 (crc (Qm f))):=by
  unfold N1
  rw[h,cond_true]
  unfold Qm
  rw[Vo]
 have g1:=Uja f.1 f.2.1 (txt (Mu f.2.2)++c4 (crc (Qm f))) h1
 have g2:=Y4a (hdF f.1 f.2.1) (Mu f.2.2) (c4 (crc (Qm f))) (by rw[Oz];omega)
 rw[← e]at g1 g2
 unfold Pf
 simp only[g1,g2,Vl]
 rw[Pj hb]
 have e1:(f.1,f.2.1,f.2.2)=f:=rfl
 rw[e1,h,decide_eq_true rfl]
 rfl
def X1 {a b:List Int} (ha:As a) (hb:As b):((Mu a).toList==(Mu b).toList)=decide (a=b):=by
 have:teq (Mu a) (Mu b)=decide (a=b):=by
  rw[Jnb,Lj,decide_eq_true_iff]
  constructor
  ·intro h
   have:=congrArg bytesOf h
   rwa [Pj ha,Pj hb]at this
  ·rintro rfl;rfl
 exact this
def Yea (l:List Int) (hb:As l) (hl:l.length≤1000000000000) (p:Int) (hp:p≤1000000000000):
  Tot (λ k=>Ds k (l,p,true)) (λ r=>r=((⟨#[]⟩:ByteArray),l,p,true)):=by
 unfold Ds
 refine Hib (Nya l hb hl p hp) ?_
 exact Hab rfl (H7b rfl)
def Yfa {f:Fil}:(((N1 f).length:Int)==0) = !(Ee f):=by
 unfold N1
 cases h:Ee f
 ·rfl
 rw[cond_true,Vd,Yv,beq_eq_false_iff_ne]
 simp only[c4,Vc,Vg]
 omega
def Rw (b:List Int) (hb:As b) (hl:b.length≤1000000000000):Tot (λ k=>Fa k b) (λ r=>r=Uq b):=by
 unfold Fa
 refine H8b (Gcb b hb hl 0 (Vq _) false) ?_
 rintro r (⟨_,⟨s,d⟩,q,h1,h2,rfl⟩|⟨h1,s,d,q,h2,rfl⟩)
 ·refine H8b (Gbb b hb hl q h2) ?_
  rintro r (⟨t,q2,h3,h4,rfl⟩|⟨h3,rfl⟩)
  ·have hsz:=(Lea hb h3).2.1
   refine Hfb (by dsimp only;omega) (Hib (Rv _) ?_)
   refine H9b rfl ?_
   have e:Uq b=bif Ee (s,d,bytesOf t)&&decide (N1 (s,d,bytesOf t)=b) then ((s,d,bytesOf t),true) else (F0b,false):=by
    unfold Uq Pf
    simp only[h1,h3,Vl]
    cases Ee (s,d,bytesOf t)&&decide (N1 (s,d,bytesOf t)=b)<;>rfl
   simp only
   rw[e,Yfa]
   cases hf:Ee (s,d,bytesOf t)
   ·exact Hab rfl (H7b rfl)
   refine H9b rfl ?_
   rw[X1 (R8 _) hb]
   cases decide (N1 (s,d,bytesOf t)=b) with
   |false=>exact Hab rfl (H7b rfl)
   |true=>exact H9b rfl (H7b rfl)
  ·refine Hfb (Vq _) (Hib (Rv _) ?_)
   refine Hab rfl (H7b ?_)
   unfold Uq Pf
   simp only[h1,h3,Vl,Hzb]
   rfl
 ·refine Hib (Yea b hb hl q (by omega)) ?_
  refine Hfb (Vq _) (Hib (Rv _) ?_)
  refine Hab rfl (H7b ?_)
  unfold Uq Pf
  simp only[h1.resolve_left (by simp),Hzb]
  rfl
def Cfa (b:List Int) (hb:As b) (hl:b.length≤1000000000000):Tot (λ k=>Hs k b) (λ r=>r=Uq b):=by
 have none_of:Pf b=none→Uq b=(F0b,false):=λ h=>by unfold Uq;rw[h]
 unfold Hs
 refine H8b (Chb b hb hl 0) ?_
 rintro r (⟨n1,p1,n2,p2,n3,p3,_,g1,g2,g3,rfl⟩|⟨h,hr⟩)
 ·refine Hib (Xz b hb hl (p3:Int)) ?_
  rw[Ara]
  have g1':Qo b 0=some (n1,p1):=g1
  cases g4:Qo b p3 with
  |none=>
   refine Hib (Fxa b hb hl 0) ?_
   refine H9b rfl (Hab rfl (H7b (none_of ?_).symm))
   unfold Pf Sd
   simp only[g1',g2,g3,g4,Vl,Hzb]
  |some x=>
   obtain⟨n4,p4⟩:=x
   simp only
   have es:Sd b 0=bif decide (1<n4) then none else some ((((n1:Int),(n2:Int),(n3:Int)),(n4:Int)==1),p4):=by
    unfold Sd
    simp only[g1',g2,g3,g4,Vl]
   refine Hib (Fxa b hb hl (p4:Int)) ?_
   rw[O0a]
   refine H9b rfl (H9b rfl ?_)
   cases g5:Nxa b p4 with
   |none=>
    refine Hab rfl (H7b (none_of ?_).symm)
    unfold Pf
    rw[es]
    cases decide (1<n4) with
    |true=>rfl
    |false=>simp only[cond_false,Vl,g5,Hzb]
   |some y=>
    obtain⟨t,q⟩:=y
    refine H9b rfl (Heb (λ h=>H7b (none_of ?_).symm) (λ h=>?_))
    ·unfold Pf
     rw[es,decide_eq_true (by omega)]
     rfl
    ·rw[decide_eq_false (by omega),cond_false]at es
     have hq:=Lea hb g5
     simp only
     rw[w64 (n:=(q:Int)+4) (by omega) (by omega)]
     have ef:Pf b=bif Ee (((n1:Int),(n2:Int),(n3:Int)),(n4:Int)==1,bytesOf t)&&decide (N1 (((n1:Int),(n2:Int),(n3:Int)),(n4:Int)==1,bytesOf t)=b) then some (((n1:Int),(n2:Int),(n3:Int)),(n4:Int)==1,bytesOf t) else none:=by
      unfold Pf
      simp only[es,g5,Vl]
     refine Hdb (λ h4=>H7b (none_of ?_).symm) (λ h4=>?_)
     ·rw[ef]
      cases hc:(Ee (((n1:Int),(n2:Int),(n3:Int)),(n4:Int)==1,bytesOf t)&&decide (N1 (((n1:Int),(n2:Int),(n3:Int)),(n4:Int)==1,bytesOf t)=b))
      ·rfl
      exfalso
      rw[Va,decide_eq_true_iff]at hc
      have a1:=(Yda hb es).1
      rw[hq.1]at a1
      have a2:=hc.2
      unfold N1 at a2
      rw[hc.1,cond_true]at a2
      unfold Qm at a2
      simp only at a2
      rw[Ww,Vo]at a2
      rw[← a2]at a1
      have a3:=K4b (K4b a1)
      have a4:=congrArg length a3
      rw[a2,Wd]at a4
      simp only[c4,Vc,Vg]at a4
      have:(q:Int)+4=(b.length:Int):=by omega
      simp[this]at h4
     ·refine Hfb (by simp only[Vg];omega) ?_
      rw[Vx]
      refine Hib (Hjb (Q:=λ r=>r=Ee (((n1:Int),(n2:Int),(n3:Int)),(n4:Int)==1,bytesOf t)) (Wz _) rfl) ?_
      unfold Uq
      rw[ef]
      cases hf:Ee (((n1:Int),(n2:Int),(n3:Int)),(n4:Int)==1,bytesOf t)
      ·exact Hab rfl (H7b rfl)
      refine H9b rfl (Hib (Uo _) ?_)
      rw[X1 (R8 _) hb,Vz]
      cases decide (N1 (((n1:Int),(n2:Int),(n3:Int)),(n4:Int)==1,bytesOf t)=b) with
      |false=>exact Hab rfl (H7b rfl)
      |true=>exact H9b rfl (H7b rfl)
 ·obtain⟨r1,r2,r3⟩:=r
  simp only at hr
  subst hr
  refine Hib (Xz b hb hl _) ?_
  refine Hib (Fxa b hb hl _) ?_
  refine Hab rfl (H7b (none_of ?_).symm)
  unfold Pf
  rw[U2a (p:=0) (h.resolve_right (by omega))]
  rfl

def gt (l:List Nmd) (s:ByteArray):Option (List Int):=match fnd l s with
 |some i=>some (l.getD i Dd).2
 |none=>none
def Loa (y:Nmd) (l:List Nmd) (s:ByteArray):gt (y::l) s=if y.1=s then some y.2 else gt l s:=by
 unfold gt
 rw[O5a]
 by_cases h:y.1=s
 ·rw[if_pos (Lj.2 h),if_pos h];rfl
 ·rw[if_neg (λ c=>h (Lj.1 c)),if_neg h]
  cases fnd l s<;>rfl
def Qe {l:List Nmd} {s:ByteArray} {b:List Int} (h:gt l s=some b):(s,b)∈l:=by
 induction l with
 |nil=>cases h
 |cons y l ih=>
  rw[Loa]at h
  by_cases e:y.1=s
  ·rw[if_pos e]at h
   cases h
   subst e
   exact Yk
  ·rw[if_neg e]at h
   exact Vj _ (ih h)
def P3 {l:List Nmd} {s:ByteArray}:gt l s=none↔∀ x∈l,x.1≠s:=by
 rw[← Y7a]
 unfold gt
 cases fnd l s with
 |none=>simp
 |some i=>simp
def Uka {l:List Nmd} (hs:Ho l) {x:Nmd} (hx:x∈l):gt l x.1=some x.2:=by
 cases h:gt l x.1 with
 |none=>exact absurd rfl (P3.1 h x hx)
 |some b=>rw[show x=(x.1,b) from Cnb hs hx (Qe h) rfl]
def Ira {l:List Nmd} (hs:Ho l) {s:ByteArray} {b:List Int}:gt l s=some b↔(s,b)∈l:=⟨Qe,λ h=>Uka hs h⟩
def Cga {l:List Nmd} {s:ByteArray}:(gt l s).isSome=(fnd l s).isSome:=by
 unfold gt
 cases fnd l s<;>rfl
def X2 {l:List Nmd} (hs:Ho l) {s t:ByteArray}:gt (cut l s) t=if s=t then none else gt l t:=by
 by_cases h:s=t
 ·subst h
  rw[if_pos rfl,P3]
  exact Cca
 ·rw[if_neg h]
  cases hg:gt l t with
  |none=>exact P3.2 λ x hx=>P3.1 hg x (Q1.subset hx)
  |some b=>
   rw[Ira (P0 hs)]
   refine Izb.2 ⟨Qe hg,?_⟩
   cases ht:teq t s with
   |false=>simp[ht]
   |true=>exact absurd (Lj.1 ht).symm h
def Agb {l:List Nmd} (hs:Ho l) {x:Nmd} (hn:∀ y∈l,y.1≠x.1) {t:ByteArray}:gt (ins l x) t=if x.1=t then some x.2 else gt l t:=by
 have hi:=Tu hs hn
 by_cases h:x.1=t
 ·subst h
  rw[if_pos rfl,Ira hi]
  exact Y2.2 (.inl rfl)
 ·rw[if_neg h]
  cases hg:gt l t with
  |none=>
   refine P3.2 λ y hy=>?_
   rcases Y2.1 hy with rfl|hy
   ·exact h
   ·exact P3.1 hg y hy
  |some b=>
   rw[Ira hi]
   exact Y2.2 (.inr (Qe hg))
def Ahb:∀ {l m:List Nmd},Ho l→Ho m→(∀ s,gt l s=gt m s)→l=m:=by
 have key:∀ {l m:List Nmd},Ho l→Ho m→(∀ s,gt l s=gt m s)→∀ x∈l,x∈m:=λ hl hm h x hx=>by
  have:=h x.1
  rw[Uka hl hx]at this
  exact Qe this.symm
 intro l m hl hm h
 have h1:∀ x,x∈l↔x∈m:=λ x=>⟨key hl hm h x,key hm hl (λ s=>(h s).symm) x⟩
 clear h key
 induction l generalizing m with
 |nil=>
  cases m with
  |nil=>rfl
  |cons y m=>exact absurd ((h1 y).2 (by simp)) (by simp)
 |cons x l ih=>
  cases m with
  |nil=>exact absurd ((h1 x).1 (by simp)) (by simp)
  |cons y m=>
   obtain⟨a1,a2⟩:=Wh.1 hl
   obtain⟨b1,b2⟩:=Wh.1 hm
   have e:x=y:=by
    rcases Vm.1 ((h1 x).1 (by simp)) with h|h
    ·exact h
    ·rcases Vm.1 ((h1 y).2 (by simp)) with h'|h'
     ·exact h'.symm
     ·have c1:=a1 y h'
      rw[Wr (b1 x h)]at c1
      cases c1
   subst e
   congr 1
   refine ih a2 b2 λ z=>⟨λ hz=>?_,λ hz=>?_⟩
   ·rcases Vm.1 ((h1 z).1 (Vj _ hz)) with rfl|h
    ·have c:=a1 z hz
     rw[Lm]at c
     cases c
    ·exact h
   ·rcases Vm.1 ((h1 z).2 (Vj _ hz)) with rfl|h
    ·have c:=b1 z hz
     rw[Lm]at c
     cases c
    ·exact h
def Ula (l:List Nmd) (s:ByteArray):rdN l s=match gt l s with|some b=>(b,true)|none=>([],false):=by
 unfold rdN gt
 cases fnd l s<;>rfl
def J8 {s:ByteArray} (h:Az s=true):Lo s:=by
 have:=(C7a h).2
 unfold Lo
 omega
def E8 {d:Dsk}:An d=true↔Kh d.1=true∧Kh d.2=true:=by
 unfold An
 rw[Va]
def Nu {d:Dsk} (h:An d=true):Ho d.1:=(Ai.1 (E8.1 h).1).1
def Qn {d:Dsk} (h:An d=true):Ho d.2:=(Ai.1 (E8.1 h).2).1
def LB (l:List Nmd):Prop:=∀ x∈l,As x.2
def DB (d:Dsk):Prop:=LB d.1∧LB d.2
def LB.cut {l:List Nmd} (h:LB l) (s:ByteArray):LB (cut l s):=λ x hx=>h x (Q1.subset hx)
def LB.ins {l:List Nmd} (h:LB l) {x:Nmd} (hx:As x.2):LB (ins l x):=λ y hy=>by
 rcases Y2.1 hy with rfl|hy
 ·exact hx
 ·exact h y hy
def LB.gt {l:List Nmd} (h:LB l) {s:ByteArray} {b:List Int} (hg:gt l s=some b):As b:=h _ (Qe hg)
def Oo:As []:=λ x hx=>by cases hx
def wr (l:List Nmd) (s:ByteArray) (b:List Int):List Nmd:=ins (cut l s) (s,b)
def sy (d:Dsk) (s:ByteArray):List Nmd:=match gt d.1 s with
 |some b=>wr d.2 s b
 |none=>cut d.2 s
def wrD (d:Dsk) (s:ByteArray) (b:List Int):Dsk×Bool:=bif decide (b.length≤400)&&decide ((wr d.1 s b).length≤60) then ((wr d.1 s b,d.2),true) else (d,false)
def syD (d:Dsk) (s:ByteArray):Dsk×Bool:=bif decide ((sy d s).length≤60) then ((d.1,sy d s),true) else (d,false)
def rmD (d:Dsk) (s:ByteArray):Dsk×Bool:=bif (gt d.1 s).isSome then ((cut d.1 s,d.2),true) else (d,false)
section
variable {d:Dsk} {s:ByteArray} {b:List Int}
def Uma (hd:An d=true):wrI d s b=wr d.1 s b:=by
 unfold wrI wr
 rw[Rs (Nu hd)]
def Una (hd:An d=true):syI d s=sy d s:=by
 unfold syI sy gt wr
 rw[Rs (Qn hd)]
 cases fnd d.1 s<;>rfl
def Qca (hd:An d=true) (hs:Az s=true) (hb:b.length≤1000000000000):Tot (λ k=>F7 k d s b) (λ r=>r=wrD d s b):=by
 refine(Uea d s b (Ng hd) (J8 hs) hb).mono ?_
 rintro r rfl
 rw[hd,hs,Uma hd]
 rfl
def Ema (hd:An d=true) (hs:Az s=true) (hb:b.length≤1000000000000):Tot (λ k=>Bo k d s b) (λ r=>r=wrD d s b):=by
 refine(Ina d s b (Ng hd) (J8 hs) hb).mono ?_
 rintro r rfl
 obtain⟨h1,h2⟩:=O7a (b:=b) hd hs
 rw[hd,hs,h1,h2,Uma hd]
 rfl
def Isa (hd:An d=true) (hs:Az s=true):Tot (λ k=>Cm k d s) (λ r=>r=syD d s):=by
 refine(Y9a d s (Ng hd) (J8 hs)).mono ?_
 rintro r rfl
 rw[hd,hs,Una hd]
 rfl
def X3 (hd:An d=true) (hs:Az s=true):Tot (λ k=>Ap k d s) (λ r=>r=syD d s):=by
 refine(O6a d s (Ng hd) (J8 hs)).mono ?_
 rintro r rfl
 rw[hd,hs,Cmb hd,Uda hd hs,Una hd]
 rfl
def Cqb (hd:An d=true) (hs:Az s=true) (hb:b.length≤400) (hl:(wr d.1 s b).length≤60):An (wr d.1 s b,d.2)=true:=by
 have:=(O7a (b:=b) hd hs).2
 rw[Uma hd,decide_eq_true hb,decide_eq_true hl]at this
 exact this
def Ghb (hd:An d=true) (hs:Az s=true) (hl:(sy d s).length≤60):An (d.1,sy d s)=true:=by
 have:=Uda hd hs
 rw[Una hd,decide_eq_true hl]at this
 exact this
def Oba (hd:An d=true) (hs:Az s=true):An (wrD d s b).1=true:=by
 unfold wrD
 cases hc:decide (b.length≤400)&&decide ((wr d.1 s b).length≤60)
 ·exact hd
 rw[Va,decide_eq_true_iff,decide_eq_true_iff]at hc
 exact Cqb hd hs hc.1 hc.2
def F1b (hd:An d=true) (hs:Az s=true):An (syD d s).1=true:=by
 unfold syD
 cases hc:decide ((sy d s).length≤60) with
 |false=>exact hd
 |true=>exact Ghb hd hs (of_decide_eq_true hc)
def Aib (hd:An d=true):An (rmD d s).1=true:=by
 unfold rmD
 cases (gt d.1 s).isSome with
 |false=>exact hd
 |true=>exact E8.2 ⟨Z7 (E8.1 hd).1,(E8.1 hd).2⟩
def Qda (hd:An d=true) (h:(gt d.1 s).isSome=true):Az s=true:=by
 cases hg:gt d.1 s with
 |none=>rw[hg]at h;cases h
 |some b=>exact(Rr.1 ((Ai.1 (E8.1 hd).1).2.1 _ (Qe hg))).1
def Lpa (hd:An d=true):Tot (λ k=>Fu k d s) (λ r=>r=rmD d s):=by
 refine(Qaa d s (Ng hd).1).mono ?_
 rintro r rfl
 rw[hd,← Cga,Ibb,Rs (Nu hd)]
 rfl
def Ur (hd:An d=true) (hs:Lo s):Tot (λ k=>Bt k d s) (λ r=>r=rmD d s):=by
 refine(Eia d s (Ng hd).1 hs).mono ?_
 rintro r rfl
 unfold rmD
 rw[hd,← Cga]
 cases h:(gt d.1 s).isSome
 ·rfl
 have h1:An (cut d.1 s,d.2)=true:=by
  have:=Aib (s:=s) hd
  unfold rmD at this
  rw[h]at this
  exact this
 rw[Qda hd h,h1]
 rfl
end
def lkD (d:Dsk) (s:ByteArray):Fil×Int:=match gt d.1 s with
 |none=>(F0b,1)
 |some b=>match Pf b with
  |some f=>(f,0)
  |none=>(F0b,2)
def Uoa {l:List Nmd} {s:ByteArray} {b:List Int} (h:Fza l) (hg:gt l s=some b):b.length≤1000000000000:=h.2 _ (Qe hg)
def Oca {d:Dsk} (hf:Fza d.1) (hb:LB d.1) (s:ByteArray):Tot (λ k=>M9 k d s) (λ r=>r=lkD d s):=by
 unfold M9 lkD
 refine Hib (O3a d s hf) ?_
 rw[Ula]
 cases hg:gt d.1 s with
 |none=>exact Hab rfl (H7b rfl)
 |some b=>
  refine H9b rfl (Hib (Rw b (hb.gt hg) (Uoa hf hg)) ?_)
  unfold Uq
  dsimp only
  cases Pf b with
  |none=>exact Hab rfl (H7b rfl)
  |some f=>exact H9b rfl (H7b rfl)
def Ava {d:Dsk} (hf:Fza d.1) (hb:LB d.1) (s:ByteArray):Tot (λ k=>J2 k d s) (λ r=>r=lkD d s):=by
 unfold J2 lkD
 refine Hib (O4a d s hf) ?_
 rw[Ula]
 cases hg:gt d.1 s with
 |none=>exact Hab rfl (H7b rfl)
 |some b=>
  refine H9b rfl (Hib (Cfa b (hb.gt hg) (Uoa hf hg)) ?_)
  unfold Uq
  dsimp only
  cases Pf b with
  |none=>exact Hab rfl (H7b rfl)
  |some f=>exact H9b rfl (H7b rfl)
def R9 {d:Dsk} {s:ByteArray} {f:Fil}:lkD d s=(f,0)↔∃ b,gt d.1 s=some b∧Pf b=some f:=by
 unfold lkD
 cases gt d.1 s with
 |none=>simp
 |some b=>cases h:Pf b<;>simp[h]
def old (d:Dsk) (s:ByteArray):Option Fil:=(gt d.1 s).bind Pf
def kp1 (d:Dsk) (s:ByteArray) (f:Fil):Option (Dsk×Int):=
 let w:=bif (wrD d s (N1 f)).2 then some ((wrD d s (N1 f)).1,(0:Int)) else none
 match old d s with
 |some o=>bif sle o.1 f.1 then w else some (d,1)
 |none=>w
def kp2 (d:Dsk) (s:ByteArray) (sure:Bool) (x:Dsk×Int):Dsk×Int:=bif sure then (bif (syD x.1 s).2 then ((syD x.1 s).1,x.2) else (d,3)) else x
def O4 (d:Dsk) (s:ByteArray) (f:Fil) (sure:Bool):Dsk×Int:=match kp1 d s f with
 |some x=>kp2 d s sure x
 |none=>(d,3)
def keep (d:Dsk) (s:ByteArray) (f:Fil) (sure:Bool):Dsk×Int:=bif An d&&(Az s&&Ee f) then O4 d s f sure else (d,2)
def Yga:Pf []=none:=by
 cases h:Pf [] with
 |none=>rfl
 |some f=>
  obtain⟨h1,_,h3⟩:=Uia h
  unfold N1 at h3
  rw[h1]at h3
  simp[c4]at h3
def F2b {d:Dsk} {s:ByteArray} {f:Fil} (hd:An d=true) (hs:Az s=true) {x:Dsk×Int} (h:kp1 d s f=some x):An x.1=true:=by
 have hw:∀ x,(bif (wrD d s (N1 f)).2 then some ((wrD d s (N1 f)).1,(0:Int)) else none)=some x→An x.1=true:=by
  intro x h
  cases hc:(wrD d s (N1 f)).2 with
  |false=>rw[hc]at h;cases h
  |true=>rw[hc]at h;cases h;exact Oba hd hs
 unfold kp1 at h
 simp only at h
 split at h
 ·rename_i o _
  cases hc:sle o.1 f.1 with
  |false=>rw[hc]at h;cases h;exact hd
  |true=>rw[hc]at h;exact hw _ h
 ·exact hw _ h
def F3b {d:Dsk} {s:ByteArray} (hd:An d=true) (hs:Az s=true) {x:Dsk} {c:Int} (hx:An x=true) (sure:Bool):
  Tot (λ k=>cond sure ((Cm k x s).bind λ r=>cond (!r.2) ((A5 k d).bind λ q=>some (q,3)) (some (r.1,c))) (some (x,c))) (λ r=>r=kp2 d s sure (x,c)):=by
 unfold kp2
 cases sure
 ·exact H7b rfl
 refine Hab rfl (Hib (Isa hx hs) ?_)
 cases h:(syD x s).2
 case true=>exact H9b rfl (H7b rfl)
 refine Hab rfl (Hib (J7 d (Ng hd).1.1) ?_)
 exact H7b rfl
def Oda (d:Dsk) (s:ByteArray) (f:Fil) (sure:Bool) (hd:DIn d) (hb:LB d.1) (hs:Lo s):Tot (λ k=>M8 k d s f sure) (λ r=>r=keep d s f sure):=by
 have bad:Tot (λ k=>(A5 k d).bind λ r2=>some (r2,(2:Int))) (λ r=>r=(d,2)):=by
  refine Hib (J7 d hd.1.1) ?_
  exact H7b rfl
 unfold M8 keep
 refine Hib (Qc d hd.1.1 hd.1.2) ?_
 cases h1:An d
 ·exact Hab rfl bad
 refine H9b rfl (Hib (Pi s hs) ?_)
 cases h2:Az s
 ·exact Hab rfl bad
 refine H9b rfl (Hib (Hjb (Q:=λ b=>b=Ee f) (Asa f) rfl) ?_)
 cases h3:Ee f
 ·exact Hab rfl bad
 refine H9b rfl (Hib (J7 d hd.1.1) ?_)
 refine Hib (O3a d s hd.1.1.1) ?_
 have hlen:=Ata f
 have w:∀ {o:Option Fil},(kp1 d s f=bif (wrD d s (N1 f)).2 then some ((wrD d s (N1 f)).1,(0:Int)) else none)→Tot (λ k=>(G7 k f).bind λ r13=>(F7 k d s r13).bind λ r14=>cond (!r14.2) ((A5 k d).bind λ r15=>some (r15,(3:Int))) (cond sure ((Cm k r14.1 s).bind λ r16=>cond (!r16.2) ((A5 k d).bind λ r17=>some (r17,3)) (some (r16.1,0))) (some (r14.1,0)))) (λ r=>r=O4 d s f sure):=by
  intro _ e
  refine Hib (Rv f) ?_
  refine Hib (Qca h1 h2 (by omega)) ?_
  unfold O4
  rw[e]
  cases h4:(wrD d s (N1 f)).2 with
  |false=>
   refine Hab rfl (Hib (J7 d hd.1.1) ?_)
   exact H7b rfl
  |true=>exact H9b rfl (F3b h1 h2 (Oba h1 h2) sure)
 rw[Ula]
 have eo:old d s=(gt d.1 s).bind Pf:=rfl
 cases hg:gt d.1 s with
 |none=>
  rw[hg]at eo
  refine Hib (Rw [] Oo (by simp)) ?_
  unfold Uq
  rw[Yga]
  refine H9b rfl (w (o:=none) ?_)
  unfold kp1
  rw[eo]
  rfl
 |some b=>
  rw[hg]at eo
  have eo:old d s=Pf b:=eo
  refine Hib (Rw b (hb.gt hg) (Uoa hd.1.1.1 hg)) ?_
  unfold Uq
  cases ho:Pf b with
  |none=>
   refine H9b rfl (w (o:=none) ?_)
   unfold kp1
   rw[eo,ho]
  |some o=>
   rw[ho]at eo
   refine Hab rfl (Hib (Hjb (Q:=λ b=>b=sle o.1 f.1) (Ufa f o) rfl) ?_)
   cases hl:sle o.1 f.1 with
   |true=>
    refine H9b rfl (w (o:=none) ?_)
    unfold kp1
    simp only[eo,hl,cond_true]
   |false=>
    have e1:O4 d s f sure=kp2 d s sure (d,1):=by
     unfold O4 kp1
     simp only[eo,hl,cond_false]
    refine Hab rfl ?_
    show Tot _ (λ r=>r=O4 d s f sure)
    rw[e1]
    exact F3b h1 h2 h1 sure
def F4b {d:Dsk} {s:ByteArray} (hd:An d=true) (hs:Az s=true) {x:Dsk} {c:Int} (hx:An x=true):
  Tot (λ k=>(Ap k x s).bind λ r=>cond (!r.2) ((A7 k d).bind λ q=>some (q,3)) (some (r.1,c))) (λ r=>r=kp2 d s true (x,c)):=by
 unfold kp2
 refine Hib (X3 hx hs) ?_
 cases h:(syD x s).2
 case true=>exact H9b rfl (H7b rfl)
 refine Hab rfl (Hib (N8 d (Ng hd).1.1) ?_)
 exact H7b rfl
def Oea (d:Dsk) (s:ByteArray) (f:Fil) (sure:Bool) (hd:DIn d) (hb:LB d.1) (hs:Lo s):Tot (λ k=>Ld k d s f sure) (λ r=>r=keep d s f sure):=by
 have bad:Tot (λ k=>(A7 k d).bind λ r2=>some (r2,(2:Int))) (λ r=>r=(d,2)):=by
  refine Hib (N8 d hd.1.1) ?_
  exact H7b rfl
 unfold Ld keep
 refine Hib (Rq d hd.1.1 hd.1.2) ?_
 cases h1:An d
 ·exact Hab rfl bad
 refine H9b rfl (Hib (Qb s hs) ?_)
 cases h2:Az s
 ·exact Hab rfl bad
 refine H9b rfl (Hib (Hjb (Q:=λ b=>b=Ee f) (Wz f) rfl) ?_)
 cases h3:Ee f
 ·exact Hab rfl bad
 refine H9b rfl (Hib (Ava hd.1.1.1 hb s) ?_)
 have hlen:=Ata f
 have w:(kp1 d s f=bif (wrD d s (N1 f)).2 then some ((wrD d s (N1 f)).1,(0:Int)) else none)→Tot (λ k=>(Bw k f).bind λ r12=>(Bo k d s r12).bind λ r13=>cond r13.2 (cond sure ((Ap k r13.1 s).bind λ r14=>cond (!r14.2) ((A7 k d).bind λ r15=>some (r15,(3:Int))) (some (r14.1,0))) (cond (!r13.2) ((A7 k d).bind λ r16=>some (r16,3)) (some (r13.1,0)))) (cond (!r13.2) ((A7 k d).bind λ r17=>some (r17,3)) (some (r13.1,0)))) (λ r=>r=O4 d s f sure):=by
  intro e
  refine Hib (Uo f) ?_
  refine Hib (Ema h1 h2 (by omega)) ?_
  unfold O4
  rw[e]
  cases h4:(wrD d s (N1 f)).2 with
  |false=>
   refine H9b rfl (Hab rfl (Hib (N8 d hd.1.1) ?_))
   exact H7b rfl
  |true=>
   refine Hab rfl ?_
   cases sure with
   |true=>exact Hab rfl (F4b h1 h2 (Oba h1 h2))
   |false=>exact H9b rfl (H9b rfl (H7b rfl))
 have eo:old d s=(gt d.1 s).bind Pf:=rfl
 unfold lkD
 cases hg:gt d.1 s with
 |none=>
  rw[hg]at eo
  refine H9b rfl (w ?_)
  unfold kp1
  rw[eo]
  rfl
 |some b=>
  rw[hg]at eo
  have eo:old d s=Pf b:=eo
  simp only
  cases ho:Pf b with
  |none=>
   refine H9b rfl (w ?_)
   unfold kp1
   rw[eo,ho]
  |some o=>
   rw[ho]at eo
   refine Hab rfl (Hib (Hjb (Q:=λ b=>b=sle o.1 f.1) (Uga f o) rfl) ?_)
   cases hl:sle o.1 f.1 with
   |true=>
    refine H9b rfl (w ?_)
    unfold kp1
    simp only[eo,hl,cond_true]
   |false=>
    have e1:O4 d s f sure=kp2 d s sure (d,1):=by
     unfold O4 kp1
     simp only[eo,hl,cond_false]
    refine Hab rfl ?_
    show Tot _ (λ r=>r=O4 d s f sure)
    rw[e1]
    refine Hib (N8 d hd.1.1) ?_
    cases sure with
    |true=>exact Hab rfl (F4b h1 h2 h1)
    |false=>exact H9b rfl (H7b rfl)

end Go.Proofs.YtmhhjceoinoekaaGreat.Vf
