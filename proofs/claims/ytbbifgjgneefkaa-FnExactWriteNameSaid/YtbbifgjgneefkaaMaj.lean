import Derived.Test.YtbbifgjgneefkaaMai
set_option linter.all false
namespace Go.Proofs.Ytbbifgjgneefkaa.Vf
open Go
open List (length getD)
open Int (toNat)
open Go.IntKind (wrap)
open BitVec (ofInt)
def Zl:=@List.takeWhile_cons
def Jla:=@Bool.not_false
def Jma:=@List.filter_cons
def Jza:=@List.takeWhile_append_dropWhile
def Kpa:=@Bool.false_or
def Kqa:=@Bool.not_true

abbrev Nmd:=ByteArray×List Int
abbrev Dsk:=List Nmd×List Nmd
def Dk:Nmd:=((⟨#[]⟩:ByteArray),[])
def B8a (l:List Nmd):Prop:=l.length≤1000000000000∧∀ x∈l,x.2.length≤1000000000000
def Fga (d:Dsk):Prop:=B8a d.1∧B8a d.2
def J1 (l:List Int) (h:l.length≤1000000000000):B6 l=some l:=by
 unfold B6;rw[show Nat.ble ((length ([]:List Int)+length l)*1) 140737488355328=true from Yp (by simp only[We];omega)];rfl
def Ke (l:List Nmd) (hf:B8a l):∀ (n i:Nat) (acc:List Nmd),l.length-i=n→i≤l.length→acc.length≤i→
  Tot (λ k=>B2 k acc l (l.length:Int) (i:Int)) (λ r=>r=acc++l.drop i):=by
 obtain⟨h1,h2⟩:=hf;intro n
 induction n with
 |zero=>
  intro i acc hd hi ha;refine Tot.succ ?_;simp only[B2];refine J9a (by omega) (J4a ?_);rw[Yl (by omega),Yc]
 |succ n ih=>
  intro i acc hd hi ha
  have hlt:i<l.length:=by omega
  refine Tot.succ ?_;simp only[B2];refine J8a (by omega) (J8a (by omega) (J8a (by omega) ?_));rw[show toNat (i:Int)=i from Vy i,w64 (n:=(i:Int)+1) (by omega) (by omega),G3 (d:=Dk) hlt];have e0:l.getD i ((⟨#[]⟩:ByteArray),([]:List Int))=l.getD i Dk:=rfl;rw[e0];have hb:=h2 _ (Fb (d:=Dk) hlt);refine Jea (Jfa (Q:=λ r=>r=(l.getD i Dk).2) (J1 _ hb) rfl) ?_;refine Jca (by simp only[Vh,We];omega) ?_;refine(ih (i+1) (acc++[l.getD i Dk]) (by omega) (by omega) (by simp only[Vk,Vh,We];omega)).mono ?_;rintro r rfl;rw[Vl];rfl
def J2 (l:List Nmd) (hf:B8a l):Tot (λ k=>Am k l) (λ r=>r=l):=by
 unfold Am;refine J5a (Ke l hf _ 0 [] rfl (Ya _) (Ya _)) ?_;intro r hr;rw[Wq,Wn]at hr;exact J4a hr
def Jy (d:Dsk) (hf:Fga d):Tot (λ k=>C3 k d) (λ r=>r=d):=by
 unfold C3;refine Jea (J2 d.1 hf.1) ?_;refine Jea (J2 d.2 hf.2) ?_;exact J4a rfl
def fnd (l:List Nmd) (s:ByteArray):Option Nat:=l.findIdx? (λ x=>teq x.1 s)
def Hqa (l:List Nmd) (s:ByteArray):Int:=match fnd l s with
 |some i=>(i:Int)
 |none => -1
def Ana (l:List Nmd) (s:ByteArray) (hf:l.length≤1000000000000):∀ (n i:Nat),l.length-i=n→i≤l.length→
  Tot (λ k=>D8 k s l (l.length:Int) (i:Int)) (λ r=>r=match fnd (l.drop i) s with|some j => .inl ((i+j:Nat):Int)|none => .inr ()):=by
 intro n
 induction n with
 |zero=>
  intro i hd hi;refine Tot.succ ?_;simp only[D8];refine J9a (by omega) (J4a ?_);rw[Yl (by omega)];rfl
 |succ n ih=>
  intro i hd hi
  have hlt:i<l.length:=by omega
  refine Tot.succ ?_;simp only[D8];refine J8a (by omega) (J8a (by omega) (J8a (by omega) ?_));rw[show toNat (i:Int)=i from Vy i,w64 (n:=(i:Int)+1) (by omega) (by omega),G3 (d:=Dk) hlt];have e0:l.getD i ((⟨#[]⟩:ByteArray),([]:List Int))=l.getD i Dk:=rfl;rw[e0]
  have e1:fnd (l.getD i Dk::l.drop (i+1)) s=if teq (l.getD i Dk).1 s then some 0 else (fnd (l.drop (i+1)) s).map (· + 1):=by
   unfold fnd;rw[List.findIdx?_cons]
  rw[e1];refine Jaa (λ h=>?_) (λ h=>?_)
  ·have h':teq (l.getD i Dk).1 s=true:=h;rw[if_pos h'];exact J4a rfl
  ·have h':¬ (teq (l.getD i Dk).1 s=true):=by
    have:teq (l.getD i Dk).1 s=false:=h;rw[this];simp
   rw[if_neg h'];refine(ih (i+1) (by omega) (by omega)).mono ?_;rintro r rfl
   cases fnd (l.drop (i+1)) s with
   |none=>rfl
   |some j=>
    show Sum.inl _=Sum.inl _;rw[show i+1+j=i+(j+1) by omega]
def H4a (l:List Nmd) (s:ByteArray) (hf:l.length≤1000000000000):Tot (λ k=>Et k l s) (λ r=>r=Hqa l s):=by
 unfold Et Hqa;refine Jea (Ana l s hf _ 0 rfl (Ya _)) ?_;rw[Wq]
 cases fnd l s with
 |none=>exact J4a rfl
 |some j=>
  refine J4a ?_;rw[Vx]
def Dua {l:List Nmd} {s:ByteArray} {i:Nat} (h:fnd l s=some i):i<l.length∧(l.getD i Dk).1=s:=by
 unfold fnd at h;rw[List.findIdx?_eq_some_iff_getElem]at h;obtain⟨h1,h2,_⟩:=h;refine⟨h1,?_⟩;rw[Vm,Vp h1];exact Jr.1 h2
def del (l:List Nmd) (s:ByteArray):List Nmd:=match fnd l s with
 |some i=>l.take i++l.drop (i+1)
 |none=>l
def Cxa (l:List Nmd) (s:ByteArray) (hf:l.length≤1000000000000):Tot (λ k=>Dp k l s) (λ r=>r=del l s):=by
 unfold Dp del;refine Jea (H4a l s hf) ?_;unfold Hqa
 cases h:fnd l s with
 |none=>exact J8a (by decide) (J4a rfl)
 |some i=>
  have hl:=(Dua h).1;dsimp only
  first
  |refine J9a (by omega) (J8a (by omega) (J8a (by omega) ?_))
   rw[w64 (n:=(i:Int)+1) (by omega) (by omega),show toNat (i:Int)=i from Vy i,show toNat ((i:Int)+1)=i+1 by omega];refine Jca (by simp only[We,Vj];omega) ?_;refine J8a (by omega) (J8a (by omega) (Jca (by simp only[Vk,We,Vj,Vv];omega) (J4a rfl)))
  |refine J9a (by omega) (J7a (by rw[Va,decide_eq_true_iff,decide_eq_true_iff];omega) ?_)
   rw[w64 (n:=(i:Int)+1) (by omega) (by omega),show toNat (i:Int)=i from Vy i,show toNat ((i:Int)+1)=i+1 by omega];refine J8a (by simp only[Vj];omega) (Jca (by simp only[We,Vj];omega) ?_);refine J7a (by rw[Va,Va,decide_eq_true_iff,decide_eq_true_iff];exact⟨⟨by omega,by omega⟩,Yp (by omega)⟩) (Jca (by simp only[Vk,We,Vj,Vv];omega) (J4a rfl))

def nOk (x:Nmd):Bool:=Dt x.1&&!(decide ((x.2.length:Int) > 400))
def chn:Option ByteArray→List Nmd→Bool
 |_,[]=>true
 |none,r::l=>nOk r&&chn (some r.1) l
 |some q,r::l=>nOk r&&(tlt q r.1&&chn (some r.1) l)
def Cd (l:List Nmd):Bool:=chn none l&&decide ((l.length:Int)≤60)
def Ck (d:Dsk):Bool:=Cd d.1&&Cd d.2
def Ht (l:List Nmd):Prop:=∀ x∈l,Hp x.1
def Qc (d:Dsk):Prop:=Ht d.1∧Ht d.2
def Kf (l:List Nmd):Nat→Option ByteArray
 |0=>none
 |i+1=>some (l.getD i Dk).1
def Tq (l:List Nmd) (i:Nat) (h:i<l.length):chn (Kf l i) (l.drop i)=(nOk (l.getD i Dk)&&(bif decide (0<i) then tlt (l.getD (i-1) Dk).1 (l.getD i Dk).1 else true)&&chn (Kf l (i+1)) (l.drop (i+1))):=by
 rw[G3 (d:=Dk) h]
 cases i with
 |zero=>simp[Kf,chn]
 |succ i=>simp[Kf,chn,Bool.and_assoc]
def Qd (l:List Nmd) (hf:l.length≤1000000000000) (hs:Ht l):∀ (n i:Nat),l.length-i=n→i≤l.length→
  Tot (λ k=>Bc k l l (l.length:Int) (i:Int)) (λ r=>r=bif chn (Kf l i) (l.drop i) then .inr l else .inl false):=by
 intro n
 induction n with
 |zero=>
  intro i hn hi;refine Tot.succ ?_;simp only[Bc];refine J9a (by omega) (J4a ?_);rw[Yl (by omega)]
  cases Kf l i<;>rfl
 |succ n ih=>
  intro i hn hi
  have hlt:i<l.length:=by omega
  refine Tot.succ ?_;simp only[Bc];refine J8a (by omega) (J8a (by omega) (J8a (by omega) ?_));rw[show toNat (i:Int)=i from Vy i,w64 (n:=(i:Int)+1) (by omega) (by omega),Tq l i hlt];have h1:=ih (i+1) (by omega) (by omega)
  have e:(((i+1:Nat)):Int)=(i:Int)+1:=by omega
  rw[e]at h1;have e0:l.getD i ((⟨#[]⟩:ByteArray),([]:List Int))=l.getD i Dk:=rfl;rw[e0];refine Jea (Tn (l.getD i Dk).1 (hs _ (Fb hlt))) ?_;cases hb:Dt (l.getD i Dk).1
  ·exact J7a rfl (J4a (by rw[show nOk (l.getD i Dk)=false by unfold nOk;rw[hb];rfl];rfl))
  refine J6a rfl ?_;refine Jba (λ h4=>J4a (by rw[show nOk (l.getD i Dk)=false by unfold nOk;rw[decide_eq_true h4,hb];rfl];rfl)) (λ h4=>?_)
  have hnk:nOk (l.getD i Dk)=true:=by unfold nOk;rw[hb,decide_eq_false h4];rfl
  rw[hnk,Yr];refine Jba (λ h0=>?_) (λ h0=>?_)
  ·rw[w64 (n:=(i:Int)-1) (by omega) (by omega)];refine J8a (by omega) (J8a (by omega) ?_);rw[show toNat ((i:Int)-1)=i-1 by omega,decide_eq_true (show 0<i by omega),cond_true];refine Jaa (λ ht=>?_) (λ ht=>?_)
   ·have ht':(!(tlt (l.getD (i-1) Dk).1 (l.getD i Dk).1))=true:=ht;rw[Wg]at ht';exact J4a (by rw[ht'];rfl)
   ·have ht':(!(tlt (l.getD (i-1) Dk).1 (l.getD i Dk).1))=false:=ht;rw[Bool.not_eq_false']at ht';rw[ht',Yr];exact h1
  ·rw[decide_eq_false (show ¬ 0<i by omega),cond_false,Yr];exact h1
def Qe (l:List Nmd) (hf:l.length≤1000000000000) (hs:Ht l):∀ (n i:Nat),l.length-i=n→i≤l.length→
  Tot (λ k=>Bq k l (i:Int)) (λ r=>r=bif chn (Kf l i) (l.drop i) then .inr l else .inl false):=by
 intro n
 induction n with
 |zero=>
  intro i hn hi;refine Tot.succ ?_;simp only[Bq];refine J9a (by omega) (J4a ?_);rw[Yl (by omega)]
  cases Kf l i<;>rfl
 |succ n ih=>
  intro i hn hi
  have hlt:i<l.length:=by omega
  refine Tot.succ ?_;simp only[Bq];refine J8a (by omega) (J8a (by omega) (J8a (by omega) ?_));rw[show toNat (i:Int)=i from Vy i,w64 (n:=(i:Int)+1) (by omega) (by omega),Tq l i hlt];have h1:=ih (i+1) (by omega) (by omega)
  have e:(((i+1:Nat)):Int)=(i:Int)+1:=by omega
  rw[e]at h1;have e0:l.getD i ((⟨#[]⟩:ByteArray),([]:List Int))=l.getD i Dk:=rfl;rw[e0];refine Jea (Tp (l.getD i Dk).1 (hs _ (Fb hlt))) ?_;cases hb:Dt (l.getD i Dk).1
  ·exact J7a rfl (J4a (by rw[show nOk (l.getD i Dk)=false by unfold nOk;rw[hb];rfl];rfl))
  refine J6a rfl (J8a (by omega) (J8a (by omega) ?_));refine Jba (λ h4=>J4a (by rw[show nOk (l.getD i Dk)=false by unfold nOk;rw[decide_eq_true h4,hb];rfl];rfl)) (λ h4=>?_)
  have hnk:nOk (l.getD i Dk)=true:=by unfold nOk;rw[hb,decide_eq_false h4];rfl
  rw[hnk,Yr];refine Jba (λ h0=>?_) (λ h0=>?_)
  ·rw[w64 (n:=(i:Int)-1) (by omega) (by omega)];refine J8a (by omega) (J8a (by omega) (J8a (by omega) (J8a (by omega) ?_)));rw[show toNat ((i:Int)-1)=i-1 by omega,decide_eq_true (show 0<i by omega),cond_true];refine Jaa (λ ht=>?_) (λ ht=>?_)
   ·have ht':(!(tlt (l.getD (i-1) Dk).1 (l.getD i Dk).1))=true:=ht;rw[Wg]at ht';exact J4a (by rw[ht'];rfl)
   ·have ht':(!(tlt (l.getD (i-1) Dk).1 (l.getD i Dk).1))=false:=ht;rw[Bool.not_eq_false']at ht';rw[ht',Yr];exact h1
  ·rw[decide_eq_false (show ¬ 0<i by omega),cond_false,Yr];exact h1
def Qf (l:List Nmd) (hf:l.length≤1000000000000) (hs:Ht l):Tot (λ k=>B8 k l) (λ r=>r=Cd l):=by
 unfold B8 Cd;refine Jea (Qd l hf hs _ 0 rfl (Ya _)) ?_;rw[Wq];show Tot _ (λ r=>r=(chn none l&&_))
 cases hc:chn none l with
 |true=>rw[show chn (Kf l 0) l=true from hc];exact J4a (by rw[Yr])
 |false=>rw[show chn (Kf l 0) l=false from hc];exact J4a rfl
def Qg (l:List Nmd) (hf:l.length≤1000000000000) (hs:Ht l):Tot (λ k=>Bj k l) (λ r=>r=Cd l):=by
 unfold Bj Cd;refine Jea (Qe l hf hs _ 0 rfl (Ya _)) ?_;rw[Wq];show Tot _ (λ r=>r=(chn none l&&_))
 cases hc:chn none l with
 |true=>rw[show chn (Kf l 0) l=true from hc];exact J4a (by rw[Yr])
 |false=>rw[show chn (Kf l 0) l=false from hc];exact J4a rfl
def Cya (d:Dsk) (hf:Fga d) (hs:Qc d):Tot (λ k=>Cn k d) (λ r=>r=Ck d):=by
 unfold Cn Ck;refine Jea (Qf d.1 hf.1.1 hs.1) ?_;cases h:Cd d.1
 ·exact J6a rfl (J4a rfl)
 refine J7a rfl (Jea (Qf d.2 hf.2.1 hs.2) ?_);exact J4a (by rw[Yr])
def plc (l:List Nmd) (s:ByteArray):Nat:=(l.takeWhile (λ y=>tlt y.1 s)).length
def ins (l:List Nmd) (x:Nmd):List Nmd:=l.take (plc l x.1)++[x]++l.drop (plc l x.1)
def H5a (l:List Nmd) (s:ByteArray):plc l s≤l.length:=(List.takeWhile_sublist _).length_le
def S4 (l:List Nmd) (s:ByteArray) (b:List Int) (hf:l.length≤1000000000000):∀ (n i:Nat),l.length-i=n→i≤l.length→
  Tot (λ k=>Co k l (i:Int) s b) (λ r=>r=(l,((i+plc (l.drop i) s:Nat):Int),s,b)):=by
 intro n
 induction n with
 |zero=>
  intro i hd hi;refine Tot.succ ?_;simp only[Co];refine J9a (by omega) (J4a ?_);rw[Yl (by omega)];rfl
 |succ n ih=>
  intro i hd hi
  have hlt:i<l.length:=by omega
  refine Tot.succ ?_;simp only[Co];refine J8a (by omega) (J8a (by omega) (J8a (by omega) ?_));rw[show toNat (i:Int)=i from Vy i,w64 (n:=(i:Int)+1) (by omega) (by omega),G3 (d:=Dk) hlt];have e0:l.getD i ((⟨#[]⟩:ByteArray),([]:List Int))=l.getD i Dk:=rfl;rw[e0]
  have e1:plc (l.getD i Dk::l.drop (i+1)) s=if tlt (l.getD i Dk).1 s then plc (l.drop (i+1)) s+1 else 0:=by
   unfold plc;rw[Zl]
   split<;>rfl
  rw[e1];refine Jaa (λ h=>?_) (λ h=>?_)
  ·have h':tlt (l.getD i Dk).1 s=true:=h;rw[if_pos h'];refine(ih (i+1) (by omega) (by omega)).mono ?_;rintro r rfl;rw[show i+1+plc (l.drop (i+1)) s=i+(plc (l.drop (i+1)) s+1) by omega]
  ·have h':¬ (tlt (l.getD i Dk).1 s=true):=by
    have:tlt (l.getD i Dk).1 s=false:=h;rw[this];simp
   rw[if_neg h'];exact J4a rfl
def Cza (l:List Nmd) (x:Nmd) (hf:l.length≤1000000000000):Tot (λ k=>E8 k l x) (λ r=>r=ins l x):=by
 unfold E8 ins;refine J5a (S4 l x.1 x.2 hf _ 0 rfl (Nat.zero_le _)) ?_;intro r hr;rw[List.drop_zero,Nat.zero_add]at hr;subst hr;have hp:=H5a l x.1;dsimp only
 first
 |refine J8a (by omega) (J8a (by omega) ?_)
  rw[show toNat ((plc l x.1:Nat):Int)=plc l x.1 from Vy _];refine Jca (by simp only[We,Vj];omega) ?_;refine Jca (by simp only[Vk,We,Vj,Vh];omega) ?_;refine J8a (by omega) (J8a (by omega) (Jca (by simp only[Vk,We,Vj,Vv,Vh];omega) (J4a ?_)))
 |refine J7a (by rw[Va,decide_eq_true_iff,decide_eq_true_iff];omega) ?_
  rw[show toNat ((plc l x.1:Nat):Int)=plc l x.1 from Vy _];refine J8a (by simp only[Vj];omega) ?_;refine Jca (by simp only[We,Vj];omega) ?_;refine Jca (by simp only[Vk,We,Vj,Vh];omega) ?_;refine J7a (by rw[Va,Va,decide_eq_true_iff,decide_eq_true_iff];exact⟨⟨by omega,by omega⟩,Yp (by omega)⟩) (Jca (by simp only[Vk,We,Vj,Vv,Vh];omega) (J4a ?_))
 rw[Wn]

def Aoa (l:List Int) (h:l.length≤1000000000000):(length ([]:List Int)+l.length)*1≤140737488355328:=by
 simp only[We];omega
def M3 (l:List Nmd) (hf:B8a l):∀ (n i:Nat) (acc:List Nmd),l.length-i=n→i≤l.length→acc.length≤i→
  Tot (λ k=>As k l acc (i:Int)) (λ r=>r=acc++l.drop i):=by
 obtain⟨h1,h2⟩:=hf;intro n
 induction n with
 |zero=>
  intro i acc hd hi ha;refine Tot.succ ?_;simp only[As];refine J9a (by omega) (J4a ?_);rw[Yl (by omega),Yc]
 |succ n ih=>
  intro i acc hd hi ha
  have hlt:i<l.length:=by omega
  refine Tot.succ ?_;simp only[As];refine J8a (by omega) (J8a (by omega) (J8a (by omega) (J8a (by omega) (J8a (by omega) ?_))));rw[show toNat (i:Int)=i from Vy i,w64 (n:=(i:Int)+1) (by omega) (by omega),G3 (d:=Dk) hlt];have e0:l.getD i ((⟨#[]⟩:ByteArray),([]:List Int))=l.getD i Dk:=rfl;rw[e0];have hb:=h2 _ (Fb (d:=Dk) hlt);refine Jca (Aoa _ hb) (Jca (by simp only[Vh,We];omega) ?_);refine(ih (i+1) (acc++[l.getD i Dk]) (by omega) (by omega) (by simp only[Vk,Vh,We];omega)).mono ?_;rintro r rfl;rw[Vl];rfl
def Jz (l:List Nmd) (hf:B8a l):Tot (λ k=>B1 k l) (λ r=>r=l):=by
 unfold B1;refine J5a (M3 l hf _ 0 [] rfl (Ya _) (Ya _)) ?_;intro r hr;rw[Wq,Wn]at hr;exact J4a hr
def Ks (d:Dsk) (hf:Fga d):Tot (λ k=>Bw k d) (λ r=>r=d):=by
 unfold Bw;refine Jea (Jz d.1 hf.1) ?_;refine Jea (Jz d.2 hf.2) ?_;exact J4a rfl
def cut (l:List Nmd) (s:ByteArray):List Nmd:=l.filter (λ x => !(teq x.1 s))
def Tr (d:Dsk) (hf:Fga d) (hs:Qc d):Tot (λ k=>Cf k d) (λ r=>r=Ck d):=by
 unfold Cf Ck;refine Jea (Qg d.1 hf.1.1 hs.1) ?_;cases h:Cd d.1
 ·exact J6a rfl (J4a rfl)
 refine J7a rfl (Jea (Qg d.2 hf.2.1 hs.2) ?_);exact J4a (by rw[Yr])

section
open Go
end

def Ea (l:List Nmd):Prop:=l.Pairwise (λ a b=>tlt a.1 b.1=true)
def S5:∀ (p:Option ByteArray) (l:List Nmd),chn p l=true↔Ea l∧(∀ r∈l,nOk r=true)∧(∀ q,p=some q→∀ r∈l,tlt q r.1=true)
 |p,[]=>by
  have:chn p []=true:=by cases p<;>rfl
  simp[this,Ea]
 |none,r::l=>by
  simp only[chn,Va,S5 (some r.1) l,Ea,Yt];constructor
  ·rintro⟨h1,h2,h3,h4⟩;exact⟨⟨λ a ha=>h4 _ rfl a ha,h2⟩,λ a ha=>by rcases Vi.1 ha with rfl|ha;exact h1;exact h3 a ha,λ q hq=>by cases hq⟩
  ·rintro⟨⟨h1,h2⟩,h3,_⟩;exact⟨h3 r (by simp),h2,λ a ha=>h3 a (Ve _ ha),λ q hq a ha=>by cases hq;exact h1 a ha⟩
 |some q,r::l=>by
  simp only[chn,Va,S5 (some r.1) l,Ea,Yt];constructor
  ·rintro⟨h1,h0,h2,h3,h4⟩;refine⟨⟨λ a ha=>h4 _ rfl a ha,h2⟩,λ a ha=>by rcases Vi.1 ha with rfl|ha;exact h1;exact h3 a ha,λ q' hq a ha=>?_⟩;cases hq;rcases Vi.1 ha with rfl|ha
   ·exact h0
   ·exact M2 h0 (h4 _ rfl a ha)
  ·rintro⟨⟨h1,h2⟩,h3,h4⟩;exact⟨h3 r (by simp),h4 q rfl r (by simp),h2,λ a ha=>h3 a (Ve _ ha),λ q' hq a ha=>by cases hq;exact h1 a ha⟩
def C7 {l:List Nmd}:Cd l=true↔Ea l∧(∀ r∈l,nOk r=true)∧l.length≤60:=by
 unfold Cd;simp only[Va,S5,decide_eq_true_eq];constructor
 ·rintro⟨⟨h1,h2,_⟩,h3⟩;exact⟨h1,h2,by omega⟩
 ·rintro⟨h1,h2,h3⟩;exact⟨⟨h1,h2,λ q hq=>by cases hq⟩,by omega⟩
def M4 {x:Nmd}:nOk x=true↔Dt x.1=true∧x.2.length≤400:=by
 unfold nOk;simp only[Va,Wg,decide_eq_false_iff_not];constructor
 ·rintro⟨h1,h2⟩;exact⟨h1,by omega⟩
 ·rintro⟨h1,h2⟩;exact⟨h1,by omega⟩
def K5 {l:List Nmd} (h:Cd l=true):B8a l∧Ht l:=by
 obtain⟨_,h2,h3⟩:=C7.1 h;refine⟨⟨by omega,λ x hx=>by have:=(M4.1 (h2 x hx)).2;omega⟩,λ x hx=>?_⟩;have:=I4 (M4.1 (h2 x hx)).1;unfold Hp;omega
def D0a (y:Nmd) (l:List Nmd) (s:ByteArray):fnd (y::l) s=if teq y.1 s then some 0 else (fnd l s).map (· + 1):=by
 unfold fnd;rw[List.findIdx?_cons]
def S6:∀ {l:List Nmd} {s:ByteArray},Ea l→del l s=cut l s
 |[],s,_=>rfl
 |y::l,s,h=>by
  have hc:=Yt.1 h;have ih:=S6 (l:=l) (s:=s) hc.2;unfold del cut at *;rw[D0a,Jma]
  cases ht:teq y.1 s with
  |true=>
   have hno:∀ x∈l,(!(teq x.1 s))=true:=λ x hx=>by
    cases hx2:teq x.1 s
    ·rfl
    have e1:=Jr.1 ht;have e2:=Jr.1 hx2;have:=hc.1 x hx;rw[e1,e2,Js]at this;cases this
   rw[if_pos rfl,if_neg (by simp)];show []++l=_;rw[Wn,List.filter_eq_self.2 hno]
  |false=>
   rw[if_neg (by simp),if_pos (show (!false)=true from rfl),← ih]
   cases hf:fnd l s with
   |none=>rfl
   |some i=>rfl
def Uu {l:List Nmd} {s:ByteArray} (h:Ea l):Ea (cut l s):=h.sublist List.filter_sublist
def Apa {l:List Nmd} {s:ByteArray}:(cut l s).Sublist l:=List.filter_sublist
def H6a {l:List Nmd} {s:ByteArray} (h:Cd l=true):Cd (cut l s)=true:=by
 obtain⟨h1,h2,h3⟩:=C7.1 h;exact C7.2 ⟨Uu h1,λ x hx=>h2 x (Apa.subset hx),by have:=(Apa (l:=l) (s:=s)).length_le;omega⟩
def Fha {l:List Nmd} {s:ByteArray} {i:Nat} (h:fnd l s=some i):(del l s).length+1=l.length:=by
 have hl:=(Dua h).1;unfold del;rw[h];simp only[Vk,Vj,Vv];omega

def D1a (d out:Dsk) (s:ByteArray) (hd:Fga d∧Qc d) (ho:Fga out∧Qc out) (hs:Hp s):Tot (λ k=>Cm k d out s) (λ r=>r=bif Ck d&&(Dt s&&Ck out) then (out,true) else (d,false)):=by
 unfold Cm;refine Jea (Tr d hd.1 hd.2) ?_
 cases h1:Ck d with
 |false=>
  refine J7a rfl (Jea (Ks d hd.1) ?_);exact J4a rfl
 |true=>
  refine J6a rfl (Jea (Tp s hs) ?_)
  cases h2:Dt s with
  |false=>
   refine J7a rfl (Jea (Ks d hd.1) ?_);exact J4a rfl
  |true=>
   refine J6a rfl (Jea (Tr out ho.1 ho.2) ?_)
   cases h3:Ck out with
   |false=>
    refine J7a rfl (Jea (Ks d hd.1) ?_);exact J4a rfl
   |true=>exact J6a rfl (J4a rfl)

def ptl (x:Nmd):Bool→List Nmd→List Nmd
 |p,[]=>bif p then [] else [x]
 |p,y::l=>(bif !p&&!(tlt y.1 x.1) then [x] else [])++((bif !(teq y.1 x.1) then [y] else [])++ptl x (p||!(tlt y.1 x.1)) l)
def S7 (l:List Nmd) (s:ByteArray) (b:List Int) (hf:l.length≤1000000000000):∀ (n i:Nat) (acc:List Nmd) (p:Bool),l.length-i=n→i≤l.length→acc.length≤2*i→
  Tot (λ k=>Ap k l s acc p (i:Int) s b) (λ r=>r.1++(bif r.2.1 then [] else [(s,b)])=acc++ptl (s,b) p (l.drop i)∧r.2.2=(s,b)∧r.1.length≤2*l.length):=by
 intro n
 induction n with
 |zero=>
  intro i acc p hd hi ha;refine Tot.succ ?_;simp only[Ap];refine J9a (by omega) (J4a ?_);rw[List.drop_of_length_le (by omega)];exact⟨rfl,rfl,by dsimp only;omega⟩
 |succ n ih=>
  intro i acc p hd hi ha
  have hlt:i<l.length:=by omega
  refine Tot.succ ?_;simp only[Ap];refine J8a (by omega) ?_;rw[show toNat (i:Int)=i from Vy i,w64 (n:=(i:Int)+1) (by omega) (by omega),G3 (d:=Dk) hlt];have e0:l.getD i ((⟨#[]⟩:ByteArray),([]:List Int))=l.getD i Dk:=rfl;rw[e0]
  have Af:∀ (ac:List Nmd) (q:Bool),ac.length≤2*i+1→Tot (λ k=>cond (decide ((0:Int)≤i)) (cond (decide ((i:Int)<(length l:Int))) (cond (!((l.getD i Dk).1.toList==s.toList)) (cond (decide ((0:Int)≤i)) (cond (decide ((i:Int)<(length l:Int))) (cond (Nat.ble ((length ac+length [l.getD i Dk])*40) 140737488355328) (Ap k l s (ac++[l.getD i Dk]) q ((i:Int)+1) s b) none) none) none) (Ap k l s ac q ((i:Int)+1) s b)) none) none)
    (λ r=>r.1++(bif r.2.1 then [] else [(s,b)])=ac++((bif !(teq (l.getD i Dk).1 s) then [l.getD i Dk] else [])++ptl (s,b) q (l.drop (i+1)))∧r.2.2=(s,b)∧r.1.length≤2*l.length):=by
   intro ac q hac;refine J8a (by omega) (J8a (by omega) (Jaa (λ h=>?_) (λ h=>?_)))
   ·have h':(!(teq (l.getD i Dk).1 s))=true:=h;rw[h'];refine J8a (by omega) (J8a (by omega) (Jca (by simp only[Vh,We];omega) ?_));refine(ih (i+1) (ac++[l.getD i Dk]) q (by omega) (by omega) (by simp only[Vk,Vh,We];omega)).mono ?_;rintro r ⟨h1,h2,h3⟩;refine⟨?_,h2,h3⟩;rw[h1,Vl];rfl
   ·have h':(!(teq (l.getD i Dk).1 s))=false:=h;rw[h'];exact ih (i+1) ac q (by omega) (by omega) (by omega)
  cases p with
  |true=>
   refine J6a rfl ?_;refine(Af acc true (by omega)).mono ?_;rintro r ⟨h1,h2,h3⟩;exact⟨h1,h2,h3⟩
  |false=>
   refine J7a rfl (J8a (by omega) (J8a (by omega) (Jaa (λ h=>?_) (λ h=>?_))))
   ·have h':(!(tlt (l.getD i Dk).1 s))=true:=h;refine Jca (by simp only[Vh,We];omega) ?_;refine(Af (acc++[(s,b)]) true (by simp only[Vk,Vh,We];omega)).mono ?_;rintro r ⟨h1,h2,h3⟩;refine⟨?_,h2,h3⟩;rw[h1];simp only[ptl,h',Jla,Bool.and_self,Kpa,cond_true,Vl]
   ·have h':(!(tlt (l.getD i Dk).1 s))=false:=h;refine(Af acc false (by omega)).mono ?_;rintro r ⟨h1,h2,h3⟩;refine⟨?_,h2,h3⟩;rw[h1];simp only[ptl,h',Jla,Bool.and_false,Kpa,cond_false,Wn]
def D2a (l:List Nmd) (s:ByteArray) (b:List Int) (hf:l.length≤1000000000000) (hb:b.length≤1000000000000):Tot (λ k=>Cv k l s b) (λ r=>r=ptl (s,b) false l):=by
 unfold Cv;refine Jca (Aoa b hb) ?_;rw[List.nil_append];refine J5a (S7 l s b hf _ 0 [] false rfl (Nat.zero_le _) (Nat.zero_le _)) ?_;rintro⟨r,q,x,y⟩ ⟨h1,h2,h3⟩;rw[List.drop_zero,List.nil_append]at h1;dsimp only at h1 h2 h3;dsimp only
 cases q with
 |true=>
  refine J6a rfl (J4a ?_);rw[← h1];simp
 |false=>
  refine J7a rfl (Jca (by simp only[Vh,We];omega) (J4a ?_));rw[← h1];obtain⟨rfl,rfl⟩:=Prod.mk.inj h2;rfl
def Aqa (x:Nmd):∀ (p:Bool) (l:List Nmd),∀ y∈ptl x p l,y∈l∨y=x:=by
 intro p l
 induction l generalizing p with
 |nil=>intro y hy;cases p<;>simp_all [ptl]
 |cons a l ih=>
  intro y hy;simp only[ptl,Vn]at hy;rcases hy with hy|hy|hy
  ·revert hy;cases (!p&&!(tlt a.1 x.1))<;>simp_all
  ·revert hy;cases (!(teq a.1 x.1))<;>simp_all
  ·rcases ih _ y hy with h|h
   ·exact Or.inl (Ve _ h)
   ·exact Or.inr h
def Fia (x:Nmd):∀ (p:Bool) (l:List Nmd),(ptl x p l).length≤l.length+(bif p then 0 else 1):=by
 intro p l
 induction l generalizing p with
 |nil=>cases p<;>simp[ptl]
 |cons a l ih=>
  simp only[ptl,Vk,Vh];have:=ih (p||!(tlt a.1 x.1))
  revert this
  cases p<;>cases tlt a.1 x.1<;>cases teq a.1 x.1<;>simp<;>omega
def D3a (x:Nmd):∀ (l:List Nmd),ptl x true l=cut l x.1:=by
 intro l
 induction l with
 |nil=>rfl
 |cons a l ih=>
  simp only[ptl,Kqa,Kca,cond_false,Wn,Bool.true_or,ih,cut,Jma]
  cases teq a.1 x.1<;>simp
def Uv (x:Nmd):∀ {l:List Nmd},Ea l→ptl x false l=ins (cut l x.1) x:=by
 intro l
 induction l with
 |nil=>intro _;rfl
 |cons a l ih=>
  intro h;have hl:Ea l:=(Yt.1 h).2;have ha:=(Yt.1 h).1;simp only[ptl,Jla,Yr,Kpa]
  cases ht:tlt a.1 x.1 with
  |true=>
   have he:teq a.1 x.1=false:=by
    cases hq:teq a.1 x.1 with
    |false=>rfl
    |true=>rw[(Jr.1 hq),Js]at ht;cases ht
   simp only[he,Kqa,Jla,cond_false,cond_true,Wn,ih hl,cut,Jma,if_true];unfold ins plc;rw[Zl,if_pos ht];rfl
  |false=>
   have hc:plc (cut (a::l) x.1) x.1=0:=by
    unfold plc cut;rw[List.length_eq_zero_iff];rw[Jma];cases hq:teq a.1 x.1
    ·rw[Jla,if_pos rfl,Zl,if_neg (by rw[ht];simp)]
    have hx:=(Jr.1 hq);simp only[Kqa,Vz,if_false]
    cases hf:l.filter (λ y => !(teq y.1 x.1)) with
    |nil=>rfl
    |cons b m=>
     have hb:b∈l:=by
      have:b∈l.filter (λ y => !(teq y.1 x.1)):=by rw[hf];exact K8a
      exact(List.mem_filter.1 this).1
     have hab:=ha b hb;rw[hx]at hab;rw[Zl,if_neg (by rw[Ala hab];simp)]
   simp only[Jla,cond_true,D3a];unfold ins;rw[hc];simp only[Zu,Wn,Wq,cut,Jma]
   cases teq a.1 x.1<;>simp

def Fja {l:List Nmd} {x:Nmd} {p:Bool} (hl:B8a l) (hl':l.length≤999999999999) (hx:x.2.length≤1000000000000):B8a (ptl x p l):=by
 refine⟨?_,λ y hy=>?_⟩
 ·have:=Fia x p l
  revert this
  cases p<;>simp<;>omega
 ·rcases Aqa x p l y hy with h|rfl
  ·exact hl.2 y h
  ·exact hx
def Ara {l:List Nmd} {x:Nmd} {p:Bool} (hl:Ht l) (hx:Hp x.1):Ht (ptl x p l):=by
 intro y hy;rcases Aqa x p l y hy with h|rfl
 ·exact hl y h
 ·exact hx
def DIn (d:Dsk):Prop:=(Fga d∧Qc d)∧d.1.length≤2000000∧d.2.length≤2000000
def Dva {d:Dsk} (h:Ck d=true):DIn d:=by
 unfold Ck at h;rw[Va]at h;have h1:=K5 h.1;have h2:=K5 h.2;exact⟨⟨⟨h1.1,h2.1⟩,h1.2,h2.2⟩,by have:=(C7.1 h.1).2.2;omega,by have:=(C7.1 h.2).2.2;omega⟩
def M5 (d:Dsk) (s:ByteArray) (b:List Int) (hd:DIn d) (hs:Hp s) (hb:b.length≤1000000000000):Tot (λ k=>Bg k d s b) (λ r=>r=bif Ck d&&(Dt s&&Ck (ptl (s,b) false d.1,d.2)) then ((ptl (s,b) false d.1,d.2),true) else (d,false)):=by
 unfold Bg;refine J5a (Ks d hd.1.1) ?_;rintro r rfl;refine J5a (D2a r.1 s b hd.1.1.1.1 hb) ?_;rintro c rfl;refine J5a (D1a r (ptl (s,b) false r.1,r.2) s hd.1 ⟨⟨Fja hd.1.1.1 (by have:=hd.2.1;omega) hb,hd.1.1.2⟩,Ara hd.1.2.1 hs,hd.1.2.2⟩ hs) ?_;rintro e rfl;exact J4a rfl
def Uw (l:List Nmd) (s:ByteArray):(del l s).length≤l.length:=by
 cases h:fnd l s with
 |none=>unfold del;rw[h];exact Vo _
 |some i=>have:=Fha h;omega

section
open Go
end

section
open Go
end

def Hu (p:Nmd→Bool):∀ l:List Nmd,l.take (l.takeWhile p).length=l.takeWhile p∧l.drop (l.takeWhile p).length=l.dropWhile p
 |[]=>⟨rfl,rfl⟩
 |y::l=>by
  obtain⟨h1,h2⟩:=Hu p l;simp only[Zl,List.dropWhile_cons]
  cases p y with
  |true=>simp[h1,h2]
  |false=>simp
def Qh {p:Nmd→Bool}:∀ {l:List Nmd} {y:Nmd},y∈l.takeWhile p→p y=true
 |[],y,h=>by simp at h
 |z::l,y,h=>by
  simp only[Zl]at h;cases hz:p z
  ·rw[hz]at h;simp at h
  rw[hz]at h;simp only[if_true]at h;rcases Vi.1 h with rfl|h
  ·exact hz
  ·exact Qh h
def Dwa (l:List Nmd) (x:Nmd):ins l x=l.takeWhile (λ y=>tlt y.1 x.1)++([x]++l.dropWhile (λ y=>tlt y.1 x.1)):=by
 unfold ins plc;obtain⟨h1,h2⟩:=Hu (λ y=>tlt y.1 x.1) l;rw[h1,h2,Vl]
def N5 {x:Nmd}:∀ {l:List Nmd},Ea l→(∀ y∈l,y.1≠x.1)→∀ z∈l.dropWhile (λ y=>tlt y.1 x.1),tlt x.1 z.1=true
 |[],_,_,z,hz=>by simp at hz
 |y::l,hs,hn,z,hz=>by
  obtain⟨h1,h2⟩:=Yt.1 hs;simp only[List.dropWhile_cons]at hz
  cases hy:tlt y.1 x.1 with
  |true=>
   rw[hy]at hz;simp only[if_true]at hz;exact N5 h2 (λ w hw=>hn w (Ve _ hw)) z hz
  |false=>
   rw[hy]at hz;simp only[Vz,if_false]at hz
   have hxy:tlt x.1 y.1=true:=by
    cases hh:tlt x.1 y.1 with
    |true=>rfl
    |false=>exact absurd (Fda hy hh) (hn y (by simp))
   rcases Vi.1 hz with rfl|hz
   ·exact hxy
   ·exact M2 hxy (h1 z hz)
def Ux {l:List Nmd} {x:Nmd} (hs:Ea l) (hn:∀ y∈l,y.1≠x.1):Ea (ins l x):=by
 rw[Dwa]
 have hs':Ea (l.takeWhile (λ y=>tlt y.1 x.1)++l.dropWhile (λ y=>tlt y.1 x.1)):=by rw[Jza];exact hs
 obtain⟨h1,h2,h3⟩:=Zp.1 hs';have h4:∀ y∈l.takeWhile (λ y=>tlt y.1 x.1),tlt y.1 x.1=true:=λ y hy=>Qh (p:=λ y=>tlt y.1 x.1) hy;refine Zp.2 ⟨h1,Yt.2 ⟨λ z hz=>N5 hs hn z hz,h2⟩,λ a ha b hb=>?_⟩;rcases Vi.1 hb with rfl|hb
 ·exact h4 a ha
 ·exact h3 a ha b hb
def Asa {l:List Nmd} {x y:Nmd}:y∈ins l x↔y=x∨y∈l:=by
 rw[Dwa];have e:=Jza (p:=λ y:Nmd=>tlt y.1 x.1) (l:=l);constructor
 ·intro h;rcases Vn.1 h with h|h
  ·right;rw[← e];exact Vq _ h
  ·rcases Vi.1 h with h|h
   ·exact .inl h
   ·right;rw[← e];exact Vg _ h
 ·rintro (rfl|h)
  ·exact Vg _ (by simp)
  ·rw[← e]at h;rcases Vn.1 h with h|h
   ·exact Vq _ h
   ·exact Vg _ (Ve _ h)
def H7a {l:List Nmd} {x:Nmd} (hl:Cd l=true) (hn:∀ y∈l,y.1≠x.1) (hx:nOk x=true):Cd (ins l x)=decide ((ins l x).length≤60):=by
 obtain⟨h1,h2,h3⟩:=C7.1 hl
 by_cases h:(ins l x).length≤60
 ·rw[decide_eq_true h];exact C7.2 ⟨Ux h1 hn,λ y hy=>by rcases Asa.1 hy with rfl|hy;exact hx;exact h2 y hy,h⟩
 ·rw[decide_eq_false h]
  cases hc:Cd (ins l x) with
  |false=>rfl
  |true=>exact absurd (C7.1 hc).2.2 h
def H8a {l:List Nmd} {s:ByteArray}:∀ y∈cut l s,y.1≠s:=λ y hy e=>by
 have:=(List.mem_filter.1 hy).2;simp[e,Jr.2 rfl]at this

def wrI (d:Dsk) (s:ByteArray) (b:List Int):List Nmd:=ins (del d.1 s) (s,b)
def M6 (d:Dsk) (s:ByteArray) (b:List Int) (hd:DIn d) (hs:Hp s) (hb:b.length≤1000000000000):Tot (λ k=>B7 k d s b) (λ r=>r=bif Ck d&&(Dt s&&(decide (b.length≤400)&&decide ((wrI d s b).length≤60))) then ((wrI d s b,d.2),true) else (d,false)):=by
 unfold B7;refine J5a (Jy d hd.1.1) ?_;rintro r rfl;refine J5a (Cya r hd.1.1 hd.1.2) ?_;rintro b1 rfl;cases h1:Ck r
 ·exact J7a rfl (J4a rfl)
 refine J6a rfl (J5a (Tn s hs) ?_);rintro b2 rfl;cases h2:Dt s
 ·exact J7a rfl (J4a rfl)
 refine J6a rfl (Jba (λ h=>?_) (λ h=>?_))
 ·rw[decide_eq_false (show ¬ b.length≤400 by omega)];exact J4a rfl
 ·rw[decide_eq_true (show b.length≤400 by omega)];refine J5a (Cxa r.1 s hd.1.1.1.1) ?_;rintro c rfl;refine J5a (Jfa (Q:=λ x=>x=b) (J1 b hb) rfl) ?_;rintro e rfl;have hdl:=Uw r.1 s;refine J5a (Cza (del r.1 s) (s,e) (by have:=hd.2.1;omega)) ?_;rintro m rfl;refine Jba (λ h=>?_) (λ h=>?_)
  ·rw[decide_eq_false (show ¬ (wrI r s e).length≤60 by unfold wrI;omega)];refine J5a (Jy r hd.1.1) ?_;rintro x rfl;exact J4a rfl
  ·rw[decide_eq_true (show (wrI r s e).length≤60 by unfold wrI;omega)];exact J4a rfl
def Tt {d:Dsk} {s:ByteArray} {b:List Int} (hd:Ck d=true) (hs:Dt s=true):ptl (s,b) false d.1=wrI d s b∧Ck (wrI d s b,d.2)=(decide (b.length≤400)&&decide ((wrI d s b).length≤60)):=by
 have hd':=hd;unfold Ck at hd';rw[Va]at hd';have h1:=C7.1 hd'.1
 have e1:wrI d s b=ins (cut d.1 s) (s,b):=by unfold wrI;rw[S6 h1.1]
 refine⟨by rw[e1];exact Uv _ h1.1,?_⟩;unfold Ck;rw[hd'.2,Kfa,e1]
 by_cases hb:b.length≤400
 ·rw[decide_eq_true hb,Yr];exact H7a (H6a hd'.1) H8a (M4.2 ⟨hs,hb⟩)
 ·rw[decide_eq_false hb,Kca]
  cases hc:Cd (ins (cut d.1 s) (s,b)) with
  |false=>rfl
  |true=>exact absurd (M4.1 ((C7.1 hc).2.1 (s,b) (Asa.2 (.inl rfl)))).2 hb

def Ioa:ByteArray:=⟨#[]⟩

section
open Go
end

section
variable {α σ R:Type} {a b:α} {p:Prop} [Decidable p]
def dT (h:p):cond (decide p) a b=a:=by rw[decide_eq_true h];rfl
def dF (h:¬ p):cond (decide p) a b=b:=by rw[decide_eq_false h];rfl
def Jda {L:Nat→Int→σ→Option R} {Q:R→Prop} (n:Nat) (I:Nat→σ→Prop) (hend:∀ s,I n s→Tot (λ k=>L (k+1) (n:Int) s) Q)
  (Mj:∀ i s,i<n→I i s→(∀ s',I (i+1) s'→Tot (λ k=>L k ((i:Int)+1) s') Q)→Tot (λ k=>L (k+1) (i:Int) s) Q):
  ∀ (i:Nat) (s:σ),i≤n→I i s→Tot (λ k=>L k (i:Int) s) Q:=by
 suffices h:∀ (m i:Nat) (s:σ),n-i=m→i≤n→I i s→Tot (λ k=>L k (i:Int) s) Q from λ i s hi hs=>h _ i s rfl hi hs
 intro m
 induction m with
 |zero=>
  intro i s hm hi hs
  obtain rfl:i=n:=by omega
  exact Tot.succ (hend s hs)
 |succ m ih=>
  intro i s hm hi hs;refine Tot.succ (Mj i s (by omega) hs λ s' hs'=>?_);have:=ih (i+1) s' (by omega) (by omega) hs';rwa [show (((i+1:Nat)):Int)=(i:Int)+1 by omega]at this
end
def cst (x:BitVec 32):BitVec 32:=if x.getLsbD 0 then (x >>> 1) ^^^ 2197175160#32 else x >>> 1
def H9a:Nat→BitVec 32→BitVec 32
 |0,x=>x
 |n+1,x=>H9a n (cst x)
def cby (x:BitVec 32) (b:Int):BitVec 32:=H9a 8 (x ^^^ ofInt 32 b)
def Iva (l:List Int):BitVec 32 := ~~~ (l.foldl cby 4294967295#32)
def crc (l:List Int):Int:=((Iva l).toNat:Int)

def Ata (f:Fil):Bool:=Ffa f.1&&(decide ((f.2.2.length:Int)≤200)&&(!f.2.1||((f.2.2.length:Int)==0)))
def hdF (s:Stp) (d:Bool):List Int:=Iua s++H2a (Qb (Ita d))
def Haa (f:Fil):List Int:=hdF f.1 f.2.1++txt (K7 f.2.2)
def c4 (c:Int):List Int:=[wrap .u8 (Int.fdiv c (2 ^ (min (toNat 24) (IntKind.bits .i64)))),wrap .u8 (Int.fdiv c (2 ^ (min (toNat 16) (IntKind.bits .i64)))),wrap .u8 (Int.fdiv c (2 ^ (min (toNat 8) (IntKind.bits .i64)))),wrap .u8 c]
def I7a (f:Fil):List Int:=bif Ata f then Haa f++c4 (crc (Haa f)) else []
def Ipa (b:List Int):Option Fil:=(I6a b 0).bind λ a=>(Isa b a.2).bind λ t=>bif Ata (a.1.1,a.1.2,bytesOf t.1)&&decide (I7a (a.1.1,a.1.2,bytesOf t.1)=b) then some (a.1.1,a.1.2,bytesOf t.1) else none

def gt (l:List Nmd) (s:ByteArray):Option (List Int):=match fnd l s with
 |some i=>some (l.getD i Dk).2
 |none=>none
def N6 {s:ByteArray} (h:Dt s=true):Hp s:=by
 have:=(I4 h).2;unfold Hp;omega
def D4a {d:Dsk}:Ck d=true↔Cd d.1=true∧Cd d.2=true:=by
 unfold Ck;rw[Va]
def Fka {d:Dsk} (h:Ck d=true):Ea d.1:=(C7.1 (D4a.1 h).1).1
def wr (l:List Nmd) (s:ByteArray) (b:List Int):List Nmd:=ins (cut l s) (s,b)
def sy (d:Dsk) (s:ByteArray):List Nmd:=match gt d.1 s with
 |some b=>wr d.2 s b
 |none=>cut d.2 s
def wrD (d:Dsk) (s:ByteArray) (b:List Int):Dsk×Bool:=bif decide (b.length≤400)&&decide ((wr d.1 s b).length≤60) then ((wr d.1 s b,d.2),true) else (d,false)
def syD (d:Dsk) (s:ByteArray):Dsk×Bool:=bif decide ((sy d s).length≤60) then ((d.1,sy d s),true) else (d,false)
section
variable {d:Dsk} {s:ByteArray} {b:List Int}
def Aua (hd:Ck d=true):wrI d s b=wr d.1 s b:=by
 unfold wrI wr;rw[S6 (Fka hd)]
def Uy (hd:Ck d=true) (hs:Dt s=true) (hb:b.length≤1000000000000):Tot (λ k=>B7 k d s b) (λ r=>r=wrD d s b):=by
 refine(M6 d s b (Dva hd) (N6 hs) hb).mono ?_;rintro r rfl;rw[hd,hs,Aua hd];rfl
def Uz (hd:Ck d=true) (hs:Dt s=true) (hb:b.length≤1000000000000):Tot (λ k=>Bg k d s b) (λ r=>r=wrD d s b):=by
 refine(M5 d s b (Dva hd) (N6 hs) hb).mono ?_;rintro r rfl;obtain⟨h1,h2⟩:=Tt (b:=b) hd hs;rw[hd,hs,h1,h2,Aua hd];rfl
def I8a (hd:Ck d=true) (hs:Dt s=true) (hb:b.length≤400) (hl:(wr d.1 s b).length≤60):Ck (wr d.1 s b,d.2)=true:=by
 have:=(Tt (b:=b) hd hs).2;rw[Aua hd,decide_eq_true hb,decide_eq_true hl]at this;exact this
def Hba (hd:Ck d=true) (hs:Dt s=true):Ck (wrD d s b).1=true:=by
 unfold wrD;cases hc:decide (b.length≤400)&&decide ((wr d.1 s b).length≤60)
 ·exact hd
 rw[Va,decide_eq_true_iff,decide_eq_true_iff]at hc;exact I8a hd hs hc.1 hc.2
end
def old (d:Dsk) (s:ByteArray):Option Fil:=(gt d.1 s).bind Ipa
def kp1 (d:Dsk) (s:ByteArray) (f:Fil):Option (Dsk×Int):=
 let w:=bif (wrD d s (I7a f)).2 then some ((wrD d s (I7a f)).1,(0:Int)) else none
 match old d s with
 |some o=>bif sle o.1 f.1 then w else some (d,1)
 |none=>w
def kp2 (d:Dsk) (s:ByteArray) (sure:Bool) (x:Dsk×Int):Dsk×Int:=bif sure then (bif (syD x.1 s).2 then ((syD x.1 s).1,x.2) else (d,3)) else x
def I9a (d:Dsk) (s:ByteArray) (f:Fil) (sure:Bool):Dsk×Int:=match kp1 d s f with
 |some x=>kp2 d s sure x
 |none=>(d,3)
def keep (d:Dsk) (s:ByteArray) (f:Fil) (sure:Bool):Dsk×Int:=bif Ck d&&(Dt s&&Ata f) then I9a d s f sure else (d,2)

section
open Go
end

section
variable {d:Dsk} {s:ByteArray} {f:Fil} {sure:Bool}
end

section
open Go
end

abbrev Dev:=Int×Int×Int
abbrev Rng:=Int×List (List Int)
def Fxa (l:List Int) (n:Int):Bool:=l.any (· == n)
def Fla (l:List Dev) (id:Int):Option Dev:=l.find? (λ d=>d.1==id)
def Hca (d:Dev):Bool:=inR d.1 0 20&&(inR d.2.1 0 20&&inR d.2.2 1 1000)
def Iaa:Option Int→List Dev→Bool
 |_,[]=>true
 |none,d::l=>Hca d&&Iaa (some d.1) l
 |some q,d::l=>Hca d&&(decide (q<d.1)&&Iaa (some d.1) l)
def Hda (l:List Dev):Bool:=Iaa none l&&inR (l.length:Int) 1 12
def Iba (l:List Dev) (out:List Int) (id:Int):List Int:=match Fla l id with
 |some d=>bif Fxa out d.2.1 then out else out++[d.2.1]
 |none=>out
def Fma (ids:List Int) (l:List Dev):List Int:=ids.foldl (Iba l) []

def cnt (id n x:Int):Int:=bif x==id then n+1 else n
def Iwa (id n:Int) (p:List Int):Int:=p.foldl (cnt id) n
def Qi (r:Rng) (id:Int):Int:=r.2.foldl (Iwa id) 0

def Ica (r:Rng) (p zs:List Int) (a:Option (Dev×Bool)) (d:Dev):Option (Dev×Bool):=
 bif Fxa p d.1 then a else match a with
 |none=>some (d,!(Fxa zs d.2.1))
 |some (b,fr)=>bif (!(Fxa zs d.2.1)&&!fr)||(((!(Fxa zs d.2.1))==fr)&&decide ((Qi r d.1+1)*b.2.2<(Qi r b.1+1)*d.2.2)) then some (d,!(Fxa zs d.2.1)) else some (b,fr)
def Ida (r:Rng) (p:List Int) (l:List Dev):Option (Dev×Bool):=l.foldl (Ica r p (Fma p l)) none
def Ixa (r:Rng) (p:List Int) (l:List Dev):Int:=match Ida r p l with
 |some b=>b.1.1
 |none => -1
def bs (r:Rng):Option (Dev×Bool)→Int×Bool×Dev
 |some (b,fr)=>(Qi r b.1+1,fr,b)
 |none=>(0,false,-1,0,0)

def Hea (l:List Dev) (reps:Int) (ps:List (List Int)):Nat→List Int→List Int
 |0,p=>p
 |n+1,p=>Hea l reps ps n (p++[Ixa (reps,ps++[p]) p l])
def Iqa (l:List Dev) (reps:Int):Nat→List (List Int)→List (List Int)
 |0,ps=>ps
 |n+1,ps=>Iqa l reps n (ps++[Hea l reps ps reps.toNat []])
def build (l:List Dev) (parts reps:Int):Rng×Bool:=bif Hda l&&(inR parts 1 64&&(inR reps 1 5&&!(decide (reps > (l.length:Int))))) then ((reps,Iqa l reps parts.toNat []),true) else ((0,[]),false)

def hv (r:Rng) (l:List Dev) (b id:Int):Bool:=match Fla l b with
 |none=>false
 |some x=>match Fla l id with
  |none=>false
  |some d=>(d.2.1==x.2.1)&&decide (Qi r id-Qi r b≥2)

section
open Go
end

section
open Go
end

section
open Go
end

def Iya (l:List ByteArray) (s:ByteArray):Bool:=l.any λ y=>teq y s
def Iea (l:List ByteArray):Nat→ByteArray→List ByteArray×Nat
 |0,_=>(l,0)
 |k+1,s=>bif tlt s (l.getD k Ioa) then Iea (l.set (k+1) (l.getD k Ioa)) k s else (l,k+1)
def Iza (l:List ByteArray) (s:ByteArray):List ByteArray:=(Iea (l++[s]) l.length s).1.set (Iea (l++[s]) l.length s).2 s
def hS1 (l:List Nmd) (j:Nat) (out:List ByteArray) (x:Nmd):List ByteArray:=bif (Ipa x.2).isSome&&(!(Iya out x.1)&&(Hqa l x.1==(j:Int))) then Iza out x.1 else out
def hS (l:List Nmd):List Nmd→Nat→List ByteArray→List ByteArray
 |[],_,out=>out
 |x::r,j,out=>hS l r (j+1) (hS1 l j out x)

section
open Go
end

def Mj (v:BitVec 32) (b:Int):BitVec 32:=(v ^^^ ofInt 32 b)*16777619#32

section
variable {R:Type} {L:Nat→Int→Option (Sum Bool R)}
end

def quo (n:Int):Int:=n/2+1

section
open Go
end

section
open Go
end

def SzR (n:Int) (B:Prop) (r:Int):Prop:=r<0∨(0≤r∧r≤n∧B)
abbrev Dxa:Nat:=140737488351232
abbrev Gj:Int:=1048576
def SzR.then {f:Nat→Option Int} {g:Int→Nat→Option Int} {n:Int} {B C:Prop} (hf:Tot f (SzR n B)) (hg:∀ r,0≤r→r≤n→Tot (g r) (SzR r C)):
  Tot (λ k=>(f k).bind λ r=>cond (decide (r<0)) (some (-1)) (g r k)) (SzR n (B∧C)):=by
 refine J5a hf ?_;intro r hr;refine Jba (λ h=>J4a (.inl (by decide))) (λ h=>?_);rcases hr with hr|⟨h0,h1,hB⟩
 ·exact absurd hr h
 ·refine(hg r h0 h1).mono ?_;rintro q (hq|⟨q0,q1,hC⟩)
  ·exact .inl hq
  ·exact .inr ⟨q0,by omega,hB,hC⟩
def SzR.last {f:Nat→Option Int} {n:Int} {B:Prop} (hf:Tot f (SzR n B)):Tot (λ k=>(f k).bind λ r=>cond (decide (r<0)) (some (-1)) (some r)) (SzR n B):=by
 refine J5a hf ?_;intro r hr;exact Jba (λ h=>J4a (.inl (by decide))) (λ h=>J4a hr)
def SzR.imp {f:Nat→Option Int} {n:Int} {B C:Prop} (hf:Tot f (SzR n B)) (h:B→C):Tot f (SzR n C):=
 hf.mono (by rintro r (hr|⟨h0,h1,hB⟩);exact .inl hr;exact .inr ⟨h0,h1,h hB⟩)
def Fna {f:Nat→Option Int} {n:Int} {m:Nat} {C:Prop} (hm:m≤Dxa) (h0:0≤n) (h1:n≤Gj) (hf:(m:Int)≤Gj→0≤n-(m:Int)→Tot f (SzR (n-(m:Int)) C)):
  Tot (λ k=>cond (decide ((wrap .i64 (n-(m:Int)))<0)) (some (-1)) (f k)) (SzR n ((m:Int)≤Gj∧C)):=by
 simp only[Dxa]at hm;simp only[Gj]at h1 hf ⊢;rw[w64 (n:=n-(m:Int)) (by omega) (by omega)];refine Jba (λ h=>J4a (.inl (by decide))) (λ h=>?_);refine(hf (by omega) (by omega)).mono ?_;rintro q (hq|⟨q0,q1,hC⟩)
 ·exact .inl hq
 ·exact .inr ⟨q0,by omega,by omega,hC⟩
def Hfa {n:Int} {m:Nat} (hm:m≤Dxa) (h0:0≤n) (h1:n≤Gj):
  Tot (λ _=>cond (decide ((wrap .i64 (n-(m:Int)))<0)) (some (-1)) (some (wrap .i64 (n-(m:Int))))) (SzR n ((m:Int)≤Gj)):=by
 refine(Fna (C:=True) hm h0 h1 (λ h2 h3=>J4a ?_)).mono ?_
 ·simp only[Dxa]at hm;simp only[Gj]at h1 h2;rw[w64 (n:=n-(m:Int)) (by omega) (by omega)];exact .inr ⟨h3,Int.le_refl _,trivial⟩
 ·rintro r (hr|⟨a,b,c,_⟩)
  ·exact .inl hr
  ·exact .inr ⟨a,b,c⟩
def Hga {α:Type} (d:α) (l:List α) (B:α→Prop) {L:Nat→Int→Int→Option (Sum Int Int)}
  (hend:∀ s,Tot (λ k=>L (k+1) s (l.length:Int)) (λ r=>r = .inr s))
  (Mj:∀ (j:Nat) (s:Int) (Q:Sum Int Int→Prop),j<l.length→0≤s→s≤Gj→(∀ r,r<0→Q (.inl r))→(∀ r,SzR s (B (l.getD j d)) r→0≤r→Tot (λ k=>L k r ((j:Int)+1)) Q)→Tot (λ k=>L (k+1) s (j:Int)) Q)
  {n:Int} (h0:0≤n) (h1:n≤Gj):Tot (λ k=>(L k n 0).bind λ r1=>Sum.elim (λ y2=>some y2) (λ z3=>some z3) r1) (SzR n (∀ x∈l,B x)):=by
 refine J5a (Q:=λ r=>(∃ s,s<0∧r = .inl s)∨∃ s,r = .inr s∧0≤s∧s≤n∧∀ i,i<l.length→B (l.getD i d)) ?_ ?_
 ·refine Jda (L:=λ k i (s:Int)=>L k s i) l.length (λ j s=>0≤s∧s≤n∧∀ i,i<j→B (l.getD i d)) ?_ ?_ 0 n (Ya _) ⟨h0,Int.le_refl _,λ i hi=>by omega⟩
  ·rintro s ⟨a,b,c⟩;exact(hend s).mono (by rintro r rfl;exact .inr ⟨s,rfl,a,b,c⟩)
  ·rintro j s hj ⟨a,b,c⟩ next;refine Mj j s _ hj a (by omega) (λ r hr => .inl ⟨r,hr,rfl⟩) (λ r hr h=>next r ?_);rcases hr with hr|⟨_,h2,h3⟩
   ·omega
   ·refine⟨h,by omega,λ i hi=>?_⟩
    by_cases e:i=j
    ·subst e;exact h3
    ·exact c i (by omega)
 ·rintro r (⟨s,hs,rfl⟩|⟨s,rfl,a,b,c⟩)
  ·exact J4a (.inl hs)
  ·refine J4a (.inr ⟨a,b,λ x hx=>?_⟩);obtain⟨i,hi,rfl⟩:=List.mem_iff_getElem.1 hx;have:=c i hi;rwa [Vm,Vp hi,Zb]at this
abbrev SmT (s:ByteArray):Prop:=(s.size:Int)≤Gj
abbrev SmL {α:Type} (l:List α):Prop:=(l.length:Int)≤Gj
abbrev HgT (s:ByteArray):Prop:=s.size≤Dxa
abbrev HgL {α:Type} (l:List α):Prop:=l.length≤Dxa
def Ava (x:Nmd):Prop:=HgT x.1∧HgL x.2
def Hl (l:List Nmd):Prop:=HgL l∧∀ x∈l,Ava x
def M7 (x:Nmd):Prop:=SmT x.1∧SmL x.2
def Dh (l:List Nmd):Prop:=SmL l∧∀ x∈l,M7 x
def V0 (l:List Int) (h:HgL l) {n:Int} (h0:0≤n) (h1:n≤Gj):Tot (λ _=>Cg l n) (SzR n (SmL l)):=Hfa h h0 h1
def V1 (x:Nmd) (h:Ava x) {n:Int} (h0:0≤n) (h1:n≤Gj):Tot (λ _=>Ch x n) (SzR n (M7 x)):=
 Fna h.1 h0 h1 (λ h2 h3=>by
  have hh:=h.1;simp only[HgT,Dxa,Gj]at hh h1;rw[w64 (n:=n-(x.1.size:Int)) (by omega) (by omega)]
  exact SzR.last (V0 x.2 h.2 h3 (by simp only[Gj];omega)))
def M8 (l:List Nmd) (h:Hl l) {n:Int} (h0:0≤n) (h1:n≤Gj):Tot (λ k=>Ar k l n) (SzR n (Dh l)):=by
 have hh:=h.1;unfold Ar;refine Fna h.1 h0 h1 (λ h2 h3=>?_);simp only[HgL,Dxa,Gj]at hh h1;rw[w64 (n:=n-(l.length:Int)) (by omega) (by omega)];refine Hga Dk l M7 ?_ ?_ h3 (by simp only[Gj];omega)
 ·intro s;simp (disch:=omega) only [Bp,dF];exact J4a rfl
 ·intro j s Q hj s0 s1 no yes;have hm:=h.2 _ (Fb (d:=Dk) hj);have e0:l.getD j ((⟨#[]⟩:ByteArray),[])=l.getD j Dk:=rfl;simp (disch:=omega) only [Bp,dT,Vy,w64,e0];refine J5a (V1 (l.getD j Dk) hm s0 s1) ?_;intro r hr;exact Jba (λ hc=>J4a (no _ (by decide))) (λ hc=>yes r hr (by omega))
def Awa (x:Dsk) (h:Hl x.1∧Hl x.2) {n:Int} (h0:0≤n) (h1:n≤Gj):Tot (λ k=>Cy k x n) (SzR n (Dh x.1∧Dh x.2)):=
 SzR.then (M8 x.1 h.1 h0 h1) (λ r r0 r1=>SzR.last (M8 x.2 h.2 r0 (Int.le_trans r1 h1)))
def Axa {α:Type} {l s:List α} {j:Nat} {z d:α} (hj:j<l.length) (h:s=l.take j++List.replicate (l.length-j) z):s.set j (l.getD j d)=l.take (j+1)++List.replicate (l.length-(j+1)) z:=by
 have hl:(l.take j).length=j:=by rw[Vj];omega
 rw[h,show l.length-j=(l.length-(j+1))+1 by omega,Jna,List.set_append_right _ _ (by omega),hl,Kra,List.set_cons_zero,List.take_succ_eq_append_getElem hj,Vl,Vm,Vp hj];rfl
def Dya {α:Type} (d z:α) (l:List α) {L:Nat→List α→Int→Option (List α)} (hend:∀ s,Tot (λ k=>L (k+1) s (l.length:Int)) (λ r=>r=s))
  (Mj:∀ (j:Nat) (s:List α) (Q:List α→Prop),j<l.length→s.length=l.length→Tot (λ k=>L k (s.set j (l.getD j d)) ((j:Int)+1)) Q→Tot (λ k=>L (k+1) s (j:Int)) Q):
  Tot (λ k=>L k (List.replicate l.length z) 0) (λ r=>r=l):=by
 refine Jda (L:=λ k i (s:List α)=>L k s i) l.length (λ j s=>s=l.take j++List.replicate (l.length-j) z) ?_ ?_ 0 _ (Ya _) (by rw[Zu,Wn,K6a])
 ·rintro s h;rw[Kra,K2a,List.replicate_zero,Yc]at h;exact(hend s).mono (by rintro r rfl;exact h)
 ·rintro j s hj h next;refine Mj j s _ hj ?_ (next _ (Axa hj h));rw[h,Vk,Vj,Kla];omega
def Dza {n:Nat} {R:Type} {e:R} {L:Nat→Int→Option R} (hend:Tot (λ k=>L (k+1) (n:Int)) (λ r=>r=e)) (Mj:∀ (j:Nat) (Q:R→Prop),j<n→Tot (λ k=>L k ((j:Int)+1)) Q→Tot (λ k=>L (k+1) (j:Int)) Q):
  Tot (λ k=>L k 0) (λ r=>r=e):=
 Jda (L:=λ k i (_:Unit)=>L k i) n (λ _ _=>True) (λ _ _=>hend) (λ j _ hj _ next=>Mj j _ hj (next () trivial)) 0 () (Ya _) trivial
def N7 (l:List Int) (h:SmL l):Tot (λ k=>Az k l) (λ r=>r=l):=by
 have hl:(l.length:Int)≤1048576:=h;unfold Az;simp (disch:=omega) only [dT,Vy];refine J5a (Q:=λ r=>r=l) ?_ (by rintro r rfl;exact J4a rfl);refine Dya (L:=λ k s i=>Bl k l s i) (0:Int) _ l ?_ ?_
 ·intro s;simp (disch:=omega) only [Bl,dF];exact J4a rfl
 ·intro j s Q hj hs next;simp (disch:=omega) only [Bl,dT,Vy,w64];exact next
def V2 (x:Nmd) (h:M7 x):Tot (λ k=>Ci k x) (λ r=>r=x):=J5a (N7 x.2 h.2) (by rintro r rfl;exact J4a rfl)
def M9 (l:List Nmd) (h:Dh l):Tot (λ k=>Au k l) (λ r=>r=l):=by
 have hl:(l.length:Int)≤1048576:=h.1;unfold Au;simp (disch:=omega) only [dT,Vy];refine J5a (Q:=λ r=>r=l) ?_ (by rintro r rfl;exact J4a rfl);refine Dya (L:=λ k s i=>Bb k l s i) Dk _ l ?_ ?_
 ·intro s;simp (disch:=omega) only [Bb,dF];exact J4a rfl
 ·intro j s Q hj hs next;have e0:l.getD j ((⟨#[]⟩:ByteArray),[])=l.getD j Dk:=rfl;simp (disch:=omega) only [Bb,dT,Vy,w64,e0];refine J5a (V2 _ (h.2 _ (Fb (d:=Dk) hj))) ?_;rintro r rfl;exact next
def Aya (x:Dsk) (h:Dh x.1∧Dh x.2):Tot (λ k=>C8 k x) (λ r=>r=x):=J5a (M9 x.1 h.1) (by rintro r rfl;exact J5a (M9 x.2 h.2) (by rintro r rfl;exact J4a rfl))
def Ifa (x:Int):(x != x)=false:=by rw[bne,beq_self_eq_true];rfl
def J0a (s:ByteArray):(s.toList==s.toList)=true:=beq_self_eq_true _
def N8 (l:List Int) (h:SmL l):Tot (λ k=>Bn k l l) (λ r=>r=true):=by
 have hl:(l.length:Int)≤1048576:=h;unfold Bn;refine J6a (Ifa _) (J5a (Q:=λ r=>r = .inr ()) ?_ (by rintro r rfl;exact J4a rfl));refine Dza (L:=λ k i=>Bm k l l i) (n:=l.length) ?_ ?_
 ·simp (disch:=omega) only [Bm,dF];exact J4a rfl
 ·intro j Q hj next;simp (disch:=omega) only [Bm,dT,Vy,w64];exact J6a (Ifa _) next
def V3 (x:Nmd) (h:M7 x):Tot (λ k=>Cj k x x) (λ r=>r=true):=J6a (by rw[J0a];rfl) (J5a (N8 x.2 h.2) (by rintro r rfl;exact J4a rfl))
def Ma (l:List Nmd) (h:Dh l):Tot (λ k=>Av k l l) (λ r=>r=true):=by
 have hl:(l.length:Int)≤1048576:=h.1;unfold Av;refine J6a (Ifa _) (J5a (Q:=λ r=>r = .inr ()) ?_ (by rintro r rfl;exact J4a rfl));refine Dza (L:=λ k i=>Bd k l l i) (n:=l.length) ?_ ?_
 ·simp (disch:=omega) only [Bd,dF];exact J4a rfl
 ·intro j Q hj next;have e0:l.getD j ((⟨#[]⟩:ByteArray),[])=l.getD j Dk:=rfl;simp (disch:=omega) only [Bd,dT,Vy,w64,e0];refine J5a (V3 _ (h.2 _ (Fb (d:=Dk) hj))) ?_;rintro r rfl;exact J6a rfl next
def Qj (x:Dsk) (h:Dh x.1∧Dh x.2):Tot (λ k=>C9 k x x) (λ r=>r=true):=J5a (Ma x.1 h.1) (by rintro r rfl;exact J6a rfl (J5a (Ma x.2 h.2) (by rintro r rfl;exact J4a rfl)))
def ByN (l:List Nmd):Prop:=∀ x∈l,Aka x.2
def I5 {l:List Nmd} (h:Dh l):(B8a l∧Ht l)∧l.length≤2000000:=by
 have h1:(l.length:Int)≤1048576:=h.1;refine⟨⟨⟨by omega,λ x hx=>?_⟩,λ x hx=>?_⟩,by omega⟩
 ·have:(x.2.length:Int)≤1048576:=(h.2 x hx).2;omega
 ·have:(x.1.size:Int)≤1048576:=(h.2 x hx).1;show x.1.size≤_;omega

abbrev I6:Nat:=1000000000000000
def Qk {α:Type} (w:α→Nat):List α→Nat
 |[]=>0
 |x::l=>w x+Qk w l
def MH {α:Type} (m:Nat→α→Int→Option (Int×α)) (h:Nat→α→Int→Option Int) (b:Nat) (x:α):Prop:=∀ k:Nat,k+b≤I6→
 Tot (λ f=>m f x (k:Int)) (λ r=>∃ n:Nat,n≤b∧r.1=((k+n:Nat):Int)∧Tot (λ f=>h f r.2 (k:Int)) (λ q=>q=((k+n:Nat):Int)))
def E0a {α:Type} (d:α) (M:Nat→Int→Int→List α→Option (Int×List α)) (H:Nat→List α→Int→Int→Option (Sum Int Int)) (l:List α) (w:α→Nat)
  (hMend:∀ (x:Int) (s:List α),s.length=l.length→Tot (λ f=>M (f+1) x (l.length:Int) s) (λ r=>r=(x,s)))
  (hHend:∀ (s:List α) (x:Int),Tot (λ f=>H (f+1) s x (s.length:Int)) (λ r=>r = .inr x))
  (Mj:∀ (j k:Nat) (s:List α),j<l.length→s.length=l.length→s.getD j d=l.getD j d→k+w (l.getD j d)≤I6→
   ∀ Q:Int×List α→Prop,(∀ (n:Nat) (y:α),n≤w (l.getD j d)→(∀ (s':List α) (Q':Sum Int Int→Prop),j<s'.length→s'.getD j d=y→Tot (λ f=>H f s' ((k+n:Nat):Int) ((j:Int)+1)) Q'→Tot (λ f=>H (f+1) s' (k:Int) (j:Int)) Q')→Tot (λ f=>M f ((k+n:Nat):Int) ((j:Int)+1) (s.set j y)) Q)→Tot (λ f=>M (f+1) (k:Int) (j:Int) s) Q)
  {k:Nat} (hk:k+Qk w l≤I6):Tot (λ f=>M f (k:Int) 0 l) (λ r=>∃ n:Nat,n≤Qk w l∧r.1=((k+n:Nat):Int)∧r.2.length=l.length∧Tot (λ f=>H f r.2 (k:Int) 0) (λ q=>q = .inr ((k+n:Nat):Int))):=by
 have main:∀ (c j n:Nat) (s:List α),l.length-j=c→j≤l.length→s.length=l.length→s.drop j=l.drop j→n+Qk w (l.drop j)≤Qk w l→
   (∀ (s':List α) (Q:Sum Int Int→Prop),s'.length=l.length→s'.take j=s.take j→Tot (λ f=>H f s' ((k+n:Nat):Int) (j:Int)) Q→Tot (λ f=>H f s' (k:Int) 0) Q)→
   Tot (λ f=>M f ((k+n:Nat):Int) (j:Int) s) (λ r=>∃ n:Nat,n≤Qk w l∧r.1=((k+n:Nat):Int)∧r.2.length=l.length∧Tot (λ f=>H f r.2 (k:Int) 0) (λ q=>q = .inr ((k+n:Nat):Int))):=by
  intro c
  induction c with
  |zero=>
   intro j n s hc hj hs hd hn hp
   have e:j=l.length:=by omega
   subst e;refine Tot.succ ((hMend _ s hs).mono ?_);rintro r rfl;refine⟨n,by omega,rfl,hs,hp s _ hs rfl (Tot.succ ?_)⟩;have:=hHend s ((k+n:Nat):Int);rw[hs]at this;exact this
  |succ c ih=>
   intro j n s hc hj hs hd hn hp
   have hlt:j<l.length:=by omega
   have hcons:l.drop j=l.getD j d::l.drop (j+1):=by
    rw[Vm,Vp hlt,Zb];exact Yf hlt
   have hsj:s.getD j d=l.getD j d:=by
    have:=congrArg (λ x=>x.getD 0 d) hd
    simpa[Vm,Wm] using this
   rw[hcons]at hn;have hn':n+(w (l.getD j d)+Qk w (l.drop (j+1)))≤Qk w l:=hn;refine Tot.succ (Mj j (k+n) s hlt hs hsj (by omega) _ (λ m y hm hh=>?_));rw[show k+n+m=k+(n+m) by omega]
   have hjj:(j:Int)+1=((j+1:Nat):Int):=by omega
   rw[hjj];refine ih (j+1) (n+m) (s.set j y) (by omega) (by omega) (by rw[Yj];exact hs) ?_ (by omega) (λ s' Q h1 h2 h3=>?_)
   ·rw[List.drop_set_of_lt (by omega)];have:=congrArg (List.drop 1) hd;rw[Wj,Wj]at this;exact this
   ·refine hp s' Q h1 ?_ ?_
    ·have:=congrArg (List.take j) h2;rw[Zk,Zk,Zh (by omega),List.take_set_of_le (by omega)]at this;exact this
    ·refine Tot.succ (hh s' Q (by omega) ?_ ?_)
     ·have:=congrArg (λ x=>x.getD j d) h2
      have hj1:j<s.length:=by omega
      simpa[Vm,Wa,List.getElem?_set,hj1] using this
     ·rw[hjj,show k+n+m=k+(n+m) by omega];exact h3
 have:=main l.length 0 0 l (by omega) (Ya _) rfl rfl (by rw[Wq];omega) (λ s' Q _ _ h=>h);exact this
def Om {α:Type}:∀ l:List α,Qk (λ _=>1) l=l.length
 |[]=>rfl
 |x::l=>by rw[Qk,Om l,Vh,Ze]
def Aza (l:List Int) (hl:l.length≤1000000000000):MH Aq Bh l.length l:=by
 intro k hk
 have h:=E0a (0:Int) (λ f x i s=>B3 f x i s) (λ f s x i=>B4 f s x i) l (λ _=>1)
  (λ x s hs=>by simp only[B3];exact J9a (by omega) (J4a rfl))
  (λ s x=>by simp only[B4];exact J9a (by omega) (J4a rfl))
  (λ j k s hj hs hsj hk Q next=>by
   simp only[B3,I6]at hk ⊢;refine J8a (by omega) (J8a (by omega) (J8a (by omega) ?_));rw[show toNat (j:Int)=j from Vy j,w64 (n:=(j:Int)+1) (by omega) (by omega),w64 (n:=(k:Int)+1) (by omega) (by omega)];refine next 1 (wrap .u8 (k:Int)) (Vo _) (λ s' Q' hj' hy h=>?_);simp only[B4];refine J8a (by omega) (J8a (by omega) (J8a (by omega) ?_));rw[show toNat (j:Int)=j from Vy j,w64 (n:=(j:Int)+1) (by omega) (by omega),w64 (n:=(k:Int)+1) (by omega) (by omega)];refine J6a (by rw[hy,bne,beq_self_eq_true];rfl) ?_
   exact h) (k:=k) (by rw[Om];exact hk)
 unfold Aq;refine J5a h ?_;rintro⟨r1,r2⟩ ⟨n,hn,rfl,hlen,hh⟩;rw[Om]at hn;refine J4a ⟨n,hn,rfl,?_⟩;unfold Bh;refine J5a hh ?_;rintro _ rfl;exact J4a rfl
def S8:∀ (m:Nat) (x:Nat) (t:ByteArray),x<10 ^ m→x≤I6→t.size+m≤1000000→Tot (λ f=>Be f (x:Int) t) (λ r=>r.size≤t.size+m):=by
 intro m
 induction m with
 |zero=>
  intro x t hx hx2 ht
  have:x=0:=by simpa using hx
  subst this;refine Tot.succ ?_;simp only[Be];exact J9a (by omega) (J4a (by omega))
 |succ m ih=>
  intro x t hx hx2 ht;simp only[I6]at hx2;refine Tot.succ ?_;simp only[Be];refine Jba (λ h=>?_) (λ h=>J4a (by omega))
  have hs:(K7 [wrap .u8 (wrap .i64 (48+(Int.tmod (x:Int) 10)))]).size=1:=by rw[Ut];rfl
  refine Jca (by rw[hs];omega) ?_
  have hq:Int.tdiv (x:Int) 10=((x/10:Nat):Int):=by
   rw[Int.tdiv_eq_ediv_of_nonneg (by omega)];omega
  have hxx:x<10*10 ^ m:=by rw[Nat.pow_succ,Nat.mul_comm]at hx;exact hx
  rw[hq,w64 (by omega) (by omega)];refine(ih (x/10) _ (by omega) (by simp only[I6];omega) ?_).mono ?_
  ·rw[ByteArray.size_append,hs];omega
  ·intro r hr;rw[ByteArray.size_append,hs]at hr;omega
def S9 (k:Nat) (hk:k≤I6):Tot (λ f=>B0 f (k:Int)) (λ _=>True):=by
 unfold B0;refine Jba (λ h=>J4a trivial) (λ h=>?_);refine J5a (S8 17 k _ (by simp only[I6]at hk;omega) hk (by decide)) ?_;intro r hr;have h0:(⟨#[]⟩:ByteArray).size=0:=rfl;have h1:(⟨#[109]⟩:ByteArray).size=1:=rfl;rw[h0]at hr;exact Jca (by rw[h1];omega) (J4a trivial)
def Ql (k:Nat) (hk:k≤I6):∃ t,Tot (λ f=>B0 f (k:Int)) (λ r=>r=t):=by
 obtain⟨t,K,h,_⟩:=S9 k hk;exact⟨t,t,K,h,rfl⟩
abbrev D5a (x:Nmd):Nat:=1+x.2.length
def Tu (l:List Nmd) (hl:l.length≤1000000000000) (hb:∀ x∈l,x.2.length≤1000000000000):MH Aj Al (Qk D5a l) l:=by
 intro k hk
 have h:=E0a Dk (λ f x i s=>Aw f x i s) (λ f s x i=>Ax f s x i) l D5a
  (λ x s hs=>by simp only[Aw];exact J9a (by omega) (J4a rfl))
  (λ s x=>by simp only[Ax];exact J9a (by omega) (J4a rfl))
  (λ j k s hj hs hsj hk Q next=>by
   have e0:∀ (z:List Nmd) (i:Nat),z.getD i ((⟨#[]⟩:ByteArray),([]:List Int))=z.getD i Dk:=λ _ _=>rfl
   have hjl:(l.getD j Dk).2.length≤1000000000000:=by
    rw[Vm,Vp hj,Zb];exact hb _ (Kha hj)
   simp only[Aw,D5a,I6]at hk ⊢;obtain⟨t,ht⟩:=Ql k (by simp only[I6];omega);refine J8a (by omega) (Jea ht ?_);refine J8a (by omega) (J8a (by omega) (J8a (by omega) (J8a (by rw[Yj];omega) ?_)))
   have e1:((s.set j (t,(s.getD j Dk).2)).getD j Dk)=(t,(l.getD j Dk).2):=by
    rw[hsj,Vm,List.getElem?_set]
    have:j<s.length:=by omega
    simp[this]
   simp only[show toNat (j:Int)=j from Vy j,e0,e1];rw[w64 (n:=(j:Int)+1) (by omega) (by omega),w64 (n:=(k:Int)+1) (by omega) (by omega),show (k:Int)+1=((k+1:Nat):Int) by omega];refine J5a (Aza _ hjl (k+1) (by simp only[I6];omega)) ?_;rintro⟨r1,r2⟩ ⟨n,hn,rfl,hh⟩;rw[List.set_set,show k+1+n=k+(1+n) by omega];refine next (1+n) (t,r2) (by simp only[D5a];omega) (λ s' Q' hj' hy h=>?_);simp only[Ax];refine J8a (by omega) (J8a (by omega) (J8a (by omega) (Jea ht ?_)));simp only[show toNat (j:Int)=j from Vy j,e0,hy];refine J6a (by rw[beq_self_eq_true];rfl) (J8a (by omega) (J8a (by omega) ?_));rw[w64 (n:=(j:Int)+1) (by omega) (by omega),w64 (n:=(k:Int)+1) (by omega) (by omega),show (k:Int)+1=((k+1:Nat):Int) by omega];refine J5a hh ?_;rintro _ rfl;refine J9a (by omega) ?_;rw[show k+1+n=k+(1+n) by omega]
   exact h) (k:=k) hk
 unfold Aj;refine J5a h ?_;rintro⟨r1,r2⟩ ⟨n,hn,rfl,hlen,hh⟩;refine J4a ⟨n,hn,rfl,?_⟩;unfold Al;refine J5a hh ?_;rintro _ rfl;exact J4a rfl
abbrev Hha (d:Dsk):Nat:=Qk D5a d.1+Qk D5a d.2
def MkL (l:List Nmd):Prop:=l.length≤1000000000000∧∀ x∈l,x.2.length≤1000000000000
def Hia (d:Dsk) (h1:MkL d.1) (h2:MkL d.2):MH Bs Bt (Hha d) d:=by
 intro k hk;simp only[Hha]at hk;unfold Bs;refine J5a (Tu d.1 h1.1 h1.2 k (by omega)) ?_;rintro⟨r1,r2⟩ ⟨n,hn,rfl,hh⟩;refine J5a (Tu d.2 h2.1 h2.2 (k+n) (by omega)) ?_;rintro⟨q1,q2⟩ ⟨m,hm,rfl,hh2⟩;refine J4a ⟨n+m,by simp only[Hha];omega,by dsimp only;omega,?_⟩;unfold Bt;refine J5a hh ?_;rintro _ rfl;refine J9a (by omega) (J5a hh2 ?_);rintro _ rfl;refine J9a (by omega) (J4a (by omega))

def tyB (ti:TypeId→Option TI) (e:TypeId):Bool:=match ti e with
 |some te=>Nat.ble 1 te.by_
 |none=>false
section
variable {ti:TypeId→Option TI}
def B0a {e:TypeId} {r:Ty} {xs:List r.den} (h:Ty.fit ti (.sl e r) xs) (hk:tyB ti e=true):HgL xs:=by
 unfold tyB at hk;split at hk
 ·rename_i te ht;have h1:=h.1 te ht;have h2:=Vd hk;show xs.length≤140737488351232;exact Yo (Nat.le_mul_of_pos_right _ (by omega)) h1
 ·cases hk
abbrev byT (b:TypeId):Ty := .sl b (.i .u8)
abbrev Iga (b:TypeId):Ty := .pr .s (byT b)
abbrev J1a (b n:TypeId):Ty := .pr (.sl n (Iga b)) (.sl n (Iga b))
def B1a {b:TypeId} {xs:List Int} (h:Ty.fit ti (byT b) xs):Aka xs:=λ x hx=>by
 have:=h.2 x hx;have h1:(decide (IntKind.min .u8≤x)&&decide (x≤IntKind.max .u8))=true:=this;rw[Va,decide_eq_true_iff,decide_eq_true_iff]at h1;exact h1
def J3 {b n:TypeId} {l:List Nmd} (h:Ty.fit ti (.sl n (Iga b)) l) (hb:tyB ti b=true) (hn:tyB ti n=true):Hl l∧ByN l:=
 ⟨⟨B0a h hn,λ x hx=>⟨Yo (h.2 x hx).1 (by decide),B0a (h.2 x hx).2 hb⟩⟩,λ x hx=>B1a (h.2 x hx).2⟩
end

def J2a {ti:TypeId→Option TI} {b n:TypeId} {d:Dsk} (hk:(tyB ti b&&tyB ti n)=true) (h:Ty.fit ti (J1a b n) d):(Hl d.1∧Hl d.2)∧ByN d.1∧ByN d.2:=by
 rw[Va]at hk;obtain⟨h1,h2⟩:=h;exact⟨⟨(J3 h1 hk.1 hk.2).1,(J3 h2 hk.1 hk.2).1⟩,(J3 h1 hk.1 hk.2).2,(J3 h2 hk.1 hk.2).2⟩
abbrev SmD (d:Dsk):Prop:=Dh d.1∧Dh d.2
def Tv {d:Dsk} (h:SmD d):DIn d:=by
 obtain⟨⟨a1,a2⟩,a3⟩:=I5 h.1;obtain⟨⟨b1,b2⟩,b3⟩:=I5 h.2;exact⟨⟨⟨a1,b1⟩,a2,b2⟩,a3,b3⟩
def Hja {l:List Nmd} (h:Cd l=true):Dh l:=by
 obtain⟨_,h2,h3⟩:=C7.1 h;refine⟨by show (l.length:Int)≤1048576;omega,λ x hx=>?_⟩;obtain⟨h4,h5⟩:=M4.1 (h2 x hx);have h6:=(I4 h4).2;exact⟨by show (x.1.size:Int)≤1048576;omega,by show (x.2.length:Int)≤1048576;omega⟩
def J3a {d:Dsk} (h:Ck d=true):SmD d:=by
 unfold Ck at h;rw[Va]at h;exact⟨Hja h.1,Hja h.2⟩
def B2a {α:Type} (w:α→Nat) (c:Nat):∀ l:List α,(∀ x∈l,w x≤c)→Qk w l≤l.length*c
 |[],_=>by simp[Qk]
 |x::l,h=>by
  have h1:=h x (by simp);have h2:=B2a w c l (λ y hy=>h y (Ve _ hy));rw[Qk,Vh,K5a];omega
def Hka {l:List Nmd} (h:Dh l):Qk D5a l≤1099512676352:=by
 have h0:(l.length:Int)≤1048576:=h.1
 have h1:=B2a D5a 1048577 l (λ x hx=>by
  have:(x.2.length:Int)≤1048576:=(h.2 x hx).2;simp only[D5a]
  omega)
 have h2:l.length*1048577≤1048576*1048577:=Wc _ (by omega);omega
def Iha {d:Dsk} (h:SmD d):Hha d≤2199025352704:=by
 have h1:=Hka h.1;have h2:=Hka h.2;simp only[Hha];omega
def E1a {l:List Nmd} (h:Dh l):MkL l:=(I5 h).1.1
def mhD {d:Dsk} (h:SmD d) (k:Nat) (hk:k≤900000000000000):Tot (λ f=>Bs f d (k:Int)) (λ r=>∃ n:Nat,n≤2199025352704∧r.1=((k+n:Nat):Int)∧Tot (λ f=>Bt f r.2 (k:Int)) (λ q=>q=((k+n:Nat):Int))):=by
 have hw:=Iha h;refine(Hia d (E1a h.1) (E1a h.2) k (by simp only[I6];omega)).mono ?_;rintro r ⟨n,h1,h2,h3⟩;exact⟨n,by omega,h2,h3⟩
def mhB {l:List Int} (h:SmL l) (k:Nat) (hk:k≤900000000000000):Tot (λ f=>Aq f l (k:Int)) (λ r=>∃ n:Nat,n≤1048576∧r.1=((k+n:Nat):Int)∧Tot (λ f=>Bh f r.2 (k:Int)) (λ q=>q=((k+n:Nat):Int))):=by
 have hl:(l.length:Int)≤1048576:=h;refine(Aza l (by omega) k (by simp only[I6];omega)).mono ?_;rintro r ⟨n,h1,h2,h3⟩;exact⟨n,by omega,h2,h3⟩
def B3a (d:Dsk) (s:ByteArray) (b:List Int) (hd:SmD d) (hs:Hp s) (hb:SmL b):∃ v:Dsk×Bool,Tot (λ k=>Bg k d s b) (λ r=>r=v)∧Tot (λ k=>B7 k d s b) (λ r=>r=v)∧SmD v.1:=by
 have hbl:(b.length:Int)≤1048576:=hb
 have hb':b.length≤1000000000000:=by omega
 cases h1:Ck d
 ·refine⟨(d,false),(M5 d s b (Tv hd) hs hb').mono ?_,(M6 d s b (Tv hd) hs hb').mono ?_,hd⟩<;>(rintro r rfl;rw[h1];rfl)
 cases h2:Dt s
 ·refine⟨(d,false),(M5 d s b (Tv hd) hs hb').mono ?_,(M6 d s b (Tv hd) hs hb').mono ?_,hd⟩<;>(rintro r rfl;rw[h1,h2];rfl)
 exact⟨wrD d s b,Uz h1 h2 hb',Uy h1 h2 hb',J3a (Hba h1 h2)⟩

end Go.Proofs.Ytbbifgjgneefkaa.Vf

section
set_option linter.unusedVariables false
set_option linter.unusedSimpArgs false
namespace Go.Proofs.Ytbbifgjgneefkaa.Pure
open Go Go.RowKit Go.Proofs.Ytbbifgjgneefkaa.Vf
theorem FnExactWriteName:∀ (a0:(List (ByteArray×(List Int)))×(List (ByteArray×(List Int)))) (a1:ByteArray) (a2:List Int),Ty.fit ti (.pr (.sl 80 (.pr .s (.sl 5 (.i .u8)))) (.sl 80 (.pr .s (.sl 5 (.i .u8))))) a0→Ty.fit ti .s a1→Ty.fit ti (.sl 5 (.i .u8)) a2→∃ k,An k a0 a1 a2=some true:=by
 intro a0 a1 a2 f0 f1 f2;obtain⟨hg,hb⟩:=J2a (by kernel_rfl) f0;refine Tot.law (f:=λ k=>An k a0 a1 a2) ?_;unfold An;refine Jba (λ _=>J4a rfl) (λ hs1=>Jba (λ _=>J4a rfl) (λ hs2=>?_))
 have hs:Hp a1:=by show a1.size≤_;omega
 have hl:SmL a2:=by show (a2.length:Int)≤1048576;omega
 refine J5a (Awa a0 hg (by decide) (by decide)) ?_;intro r hr;refine Jba (λ _=>J4a rfl) (λ h=>?_);rcases hr with hr|⟨_,_,hd⟩
 ·exact absurd hr h
 have tD:=Aya a0 hd;have tB:=N7 a2 hl;obtain⟨v,v1,v2,v3⟩:=B3a a0 a1 a2 hd hs hl;have eV:=Qj v.1 v3;refine Jea tD (Jea tB (Jea v1 (Jea tD (Jea tB (Jea v2 (Jea eV (J6a rfl (J6a (by rw[beq_self_eq_true];rfl) ?_))))))));refine Jea tD (Jea (Qj a0 hd) (J6a rfl (Jea tB (Jea (N8 a2 hl) (J6a rfl ?_)))));refine J5a (mhD hd 1 (by decide)) ?_;rintro⟨q1,q2⟩ ⟨n,hn,rfl,_⟩;refine J5a (mhB hl (1+n) (by omega)) ?_;rintro⟨p1,p2⟩ ⟨m,hm,rfl,_⟩;refine J9a (by omega) (Jea eV (J6a rfl (J6a (by rw[beq_self_eq_true];rfl) ?_)));refine J5a (mhD v3 1 (by decide)) ?_;rintro⟨g1,g2⟩ ⟨c,hc,rfl,hh⟩;refine Jea hh (J9a (by omega) (J6a (by rw[bne,beq_self_eq_true];rfl) ?_));refine Jea tD (Jea tB (Jea v2 (Jea eV (J6a rfl (J6a (by rw[beq_self_eq_true];rfl) ?_)))));exact Jea hh (J9a (by omega) (J6a (by rw[bne,beq_self_eq_true];rfl) (J4a rfl)))
end Go.Proofs.Ytbbifgjgneefkaa.Pure
end
