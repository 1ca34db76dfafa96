import Derived.Test.YtbbifgjgneefkaaMai
set_option linter.all false
namespace Go.Proofs.Ytbbifgjgneefkaa.Vf
open Go
open List (length getD)
open Int (toNat)
open Go.IntKind (wrap)
open BitVec (ofInt)
def Zl:=@List.takeWhile_cons
def Zu:=@List.filter_cons
def K1a:=@Bool.not_false
def Kea:=@List.takeWhile_append_dropWhile
def Koa:=@List.findIdx?_cons
def L5a:=@Bool.false_or
def L6a:=@Bool.not_true

abbrev Nmd:=ByteArray×List Int
abbrev Dsk:=List Nmd×List Nmd
def Ci:Nmd:=((⟨#[]⟩:ByteArray),[])
def Tz (l:List Nmd):Prop:=l.length≤1000000000000∧∀ x∈l,x.2.length≤1000000000000
def Fqa (d:Dsk):Prop:=Tz d.1∧Tz d.2
def J5 (l:List Int) (h:l.length≤1000000000000):B4 l=some l:=by
 unfold B4;rw[show Nat.ble ((length ([]:List Int)+length l)*1) 140737488355328=true from Yp (by simp only[Vz];omega)];rfl
def Kk (l:List Nmd) (hf:Tz l):∀ (n i:Nat) (acc:List Nmd),l.length-i=n→i≤l.length→acc.length≤i→
  Tot (λ k=>B2 k acc l (l.length:Int) (i:Int)) (λ r=>r=acc++l.drop i):=by
 obtain⟨h1,h2⟩:=hf;intro n
 induction n with
 |zero=>
  intro i acc hd hi ha;refine Tot.succ ?_;simp only[B2];refine Joa (by omega) (Jja ?_);rw[Ye (by omega),Yc]
 |succ n ih=>
  intro i acc hd hi ha
  have hlt:i<l.length:=by omega
  refine Tot.succ ?_;simp only[B2];refine Jna (by omega) (Jna (by omega) (Jna (by omega) ?_));rw[show toNat (i:Int)=i from Vw i,w64 (n:=(i:Int)+1) (by omega) (by omega),F3 (d:=Ci) hlt];have e0:l.getD i ((⟨#[]⟩:ByteArray),([]:List Int))=l.getD i Ci:=rfl;rw[e0];have hb:=h2 _ (Dr (d:=Ci) hlt);refine Jta (Jua (Q:=λ r=>r=(l.getD i Ci).2) (J5 _ hb) rfl) ?_;refine Jra (by simp only[Vh,Vz];omega) ?_;refine(ih (i+1) (acc++[l.getD i Ci]) (by omega) (by omega) (by simp only[Vi,Vh,Vz];omega)).mono ?_;rintro r rfl;rw[Vl];rfl
def J6 (l:List Nmd) (hf:Tz l):Tot (λ k=>Am k l) (λ r=>r=l):=by
 unfold Am;refine Jka (Kk l hf _ 0 [] rfl (Wn _) (Wn _)) ?_;intro r hr;rw[Wj,Wl]at hr;exact Jja hr
def Ka (d:Dsk) (hf:Fqa d):Tot (λ k=>Bd k d) (λ r=>r=d):=by
 unfold Bd;refine Jta (J6 d.1 hf.1) ?_;refine Jta (J6 d.2 hf.2) ?_;exact Jja rfl
def fnd (l:List Nmd) (s:ByteArray):Option Nat:=l.findIdx? (λ x=>teq x.1 s)
def E2a (l:List Nmd) (s:ByteArray):Int:=match fnd l s with
 |some i=>(i:Int)
 |none => -1
def Ata (l:List Nmd) (s:ByteArray) (hf:l.length≤1000000000000):∀ (n i:Nat),l.length-i=n→i≤l.length→
  Tot (λ k=>Dd k s l (l.length:Int) (i:Int)) (λ r=>r=match fnd (l.drop i) s with|some j => .inl ((i+j:Nat):Int)|none => .inr ()):=by
 intro n
 induction n with
 |zero=>
  intro i hd hi;refine Tot.succ ?_;simp only[Dd];refine Joa (by omega) (Jja ?_);rw[Ye (by omega)];rfl
 |succ n ih=>
  intro i hd hi
  have hlt:i<l.length:=by omega
  refine Tot.succ ?_;simp only[Dd];refine Jna (by omega) (Jna (by omega) (Jna (by omega) ?_));rw[show toNat (i:Int)=i from Vw i,w64 (n:=(i:Int)+1) (by omega) (by omega),F3 (d:=Ci) hlt];have e0:l.getD i ((⟨#[]⟩:ByteArray),([]:List Int))=l.getD i Ci:=rfl;rw[e0]
  have e1:fnd (l.getD i Ci::l.drop (i+1)) s=if teq (l.getD i Ci).1 s then some 0 else (fnd (l.drop (i+1)) s).map (· + 1):=by
   unfold fnd;rw[Koa]
  rw[e1];refine Jpa (λ h=>?_) (λ h=>?_)
  ·have h':teq (l.getD i Ci).1 s=true:=h;rw[if_pos h'];exact Jja rfl
  ·have h':¬ (teq (l.getD i Ci).1 s=true):=by
    have:teq (l.getD i Ci).1 s=false:=h;rw[this];simp
   rw[if_neg h'];refine(ih (i+1) (by omega) (by omega)).mono ?_;rintro r rfl
   cases fnd (l.drop (i+1)) s with
   |none=>rfl
   |some j=>
    show Sum.inl _=Sum.inl _;rw[show i+1+j=i+(j+1) by omega]
def E3a (l:List Nmd) (s:ByteArray) (hf:l.length≤1000000000000):Tot (λ k=>Ef k l s) (λ r=>r=E2a l s):=by
 unfold Ef E2a;refine Jta (Ata l s hf _ 0 rfl (Wn _)) ?_;rw[Wj]
 cases fnd l s with
 |none=>exact Jja rfl
 |some j=>
  refine Jja ?_;rw[Vy]
def M9 {l:List Nmd} {s:ByteArray} {i:Nat} (h:fnd l s=some i):i<l.length∧(l.getD i Ci).1=s:=by
 unfold fnd at h;rw[List.findIdx?_eq_some_iff_getElem]at h;obtain⟨h1,h2,_⟩:=h;refine⟨h1,?_⟩;rw[Vm,Vp h1];exact Jw.1 h2
def del (l:List Nmd) (s:ByteArray):List Nmd:=match fnd l s with
 |some i=>l.take i++l.drop (i+1)
 |none=>l
def D3a (l:List Nmd) (s:ByteArray) (hf:l.length≤1000000000000):Tot (λ k=>Dw k l s) (λ r=>r=del l s):=by
 unfold Dw del;refine Jta (E3a l s hf) ?_;unfold E2a
 cases h:fnd l s with
 |none=>exact Jna (by decide) (Jja rfl)
 |some i=>
  have hl:=(M9 h).1;dsimp only
  first
  |refine Joa (by omega) (Jna (by omega) (Jna (by omega) ?_))
   rw[w64 (n:=(i:Int)+1) (by omega) (by omega),show toNat (i:Int)=i from Vw i,show toNat ((i:Int)+1)=i+1 by omega];refine Jra (by simp only[Vz,Vj];omega) ?_;refine Jna (by omega) (Jna (by omega) (Jra (by simp only[Vi,Vz,Vj,Vv];omega) (Jja rfl)))
  |refine Joa (by omega) (Jma (by rw[Va,decide_eq_true_iff,decide_eq_true_iff];omega) ?_)
   rw[w64 (n:=(i:Int)+1) (by omega) (by omega),show toNat (i:Int)=i from Vw i,show toNat ((i:Int)+1)=i+1 by omega];refine Jna (by simp only[Vj];omega) (Jra (by simp only[Vz,Vj];omega) ?_);refine Jma (by rw[Va,Va,decide_eq_true_iff,decide_eq_true_iff];exact⟨⟨by omega,by omega⟩,Yp (by omega)⟩) (Jra (by simp only[Vi,Vz,Vj,Vv];omega) (Jja rfl))

def nOk (x:Nmd):Bool:=Dt x.1&&!(decide ((x.2.length:Int) > 400))
def chn:Option ByteArray→List Nmd→Bool
 |_,[]=>true
 |none,r::l=>nOk r&&chn (some r.1) l
 |some q,r::l=>nOk r&&(tlt q r.1&&chn (some r.1) l)
def Cj (l:List Nmd):Bool:=chn none l&&decide ((l.length:Int)≤60)
def Ce (d:Dsk):Bool:=Cj d.1&&Cj d.2
def G9 (l:List Nmd):Prop:=∀ x∈l,Hd x.1
def Qi (d:Dsk):Prop:=G9 d.1∧G9 d.2
def Kl (l:List Nmd):Nat→Option ByteArray
 |0=>none
 |i+1=>some (l.getD i Ci).1
def U0 (l:List Nmd) (i:Nat) (h:i<l.length):chn (Kl l i) (l.drop i)=(nOk (l.getD i Ci)&&(bif decide (0<i) then tlt (l.getD (i-1) Ci).1 (l.getD i Ci).1 else true)&&chn (Kl l (i+1)) (l.drop (i+1))):=by
 rw[F3 (d:=Ci) h]
 cases i with
 |zero=>simp[Kl,chn]
 |succ i=>simp[Kl,chn,Bool.and_assoc]
def Qj (l:List Nmd) (hf:l.length≤1000000000000) (hs:G9 l):∀ (n i:Nat),l.length-i=n→i≤l.length→
  Tot (λ k=>Bb k l l (l.length:Int) (i:Int)) (λ r=>r=bif chn (Kl l i) (l.drop i) then .inr l else .inl false):=by
 intro n
 induction n with
 |zero=>
  intro i hn hi;refine Tot.succ ?_;simp only[Bb];refine Joa (by omega) (Jja ?_);rw[Ye (by omega)]
  cases Kl l i<;>rfl
 |succ n ih=>
  intro i hn hi
  have hlt:i<l.length:=by omega
  refine Tot.succ ?_;simp only[Bb];refine Jna (by omega) (Jna (by omega) (Jna (by omega) ?_));rw[show toNat (i:Int)=i from Vw i,w64 (n:=(i:Int)+1) (by omega) (by omega),U0 l i hlt];have h1:=ih (i+1) (by omega) (by omega)
  have e:(((i+1:Nat)):Int)=(i:Int)+1:=by omega
  rw[e]at h1;have e0:l.getD i ((⟨#[]⟩:ByteArray),([]:List Int))=l.getD i Ci:=rfl;rw[e0];refine Jta (Tw (l.getD i Ci).1 (hs _ (Dr hlt))) ?_;cases hb:Dt (l.getD i Ci).1
  ·exact Jma rfl (Jja (by rw[show nOk (l.getD i Ci)=false by unfold nOk;rw[hb];rfl];rfl))
  refine Jla rfl ?_;refine Jqa (λ h4=>Jja (by rw[show nOk (l.getD i Ci)=false by unfold nOk;rw[decide_eq_true h4,hb];rfl];rfl)) (λ h4=>?_)
  have hnk:nOk (l.getD i Ci)=true:=by unfold nOk;rw[hb,decide_eq_false h4];rfl
  rw[hnk,Yr];refine Jqa (λ h0=>?_) (λ h0=>?_)
  ·rw[w64 (n:=(i:Int)-1) (by omega) (by omega)];refine Jna (by omega) (Jna (by omega) ?_);rw[show toNat ((i:Int)-1)=i-1 by omega,decide_eq_true (show 0<i by omega),cond_true];refine Jpa (λ ht=>?_) (λ ht=>?_)
   ·have ht':(!(tlt (l.getD (i-1) Ci).1 (l.getD i Ci).1))=true:=ht;rw[Wg]at ht';exact Jja (by rw[ht'];rfl)
   ·have ht':(!(tlt (l.getD (i-1) Ci).1 (l.getD i Ci).1))=false:=ht;rw[Bool.not_eq_false']at ht';rw[ht',Yr];exact h1
  ·rw[decide_eq_false (show ¬ 0<i by omega),cond_false,Yr];exact h1
def Qk (l:List Nmd) (hf:l.length≤1000000000000) (hs:G9 l):∀ (n i:Nat),l.length-i=n→i≤l.length→
  Tot (λ k=>Bo k l (i:Int)) (λ r=>r=bif chn (Kl l i) (l.drop i) then .inr l else .inl false):=by
 intro n
 induction n with
 |zero=>
  intro i hn hi;refine Tot.succ ?_;simp only[Bo];refine Joa (by omega) (Jja ?_);rw[Ye (by omega)]
  cases Kl l i<;>rfl
 |succ n ih=>
  intro i hn hi
  have hlt:i<l.length:=by omega
  refine Tot.succ ?_;simp only[Bo];refine Jna (by omega) (Jna (by omega) (Jna (by omega) ?_));rw[show toNat (i:Int)=i from Vw i,w64 (n:=(i:Int)+1) (by omega) (by omega),U0 l i hlt];have h1:=ih (i+1) (by omega) (by omega)
  have e:(((i+1:Nat)):Int)=(i:Int)+1:=by omega
  rw[e]at h1;have e0:l.getD i ((⟨#[]⟩:ByteArray),([]:List Int))=l.getD i Ci:=rfl;rw[e0];refine Jta (Tx (l.getD i Ci).1 (hs _ (Dr hlt))) ?_;cases hb:Dt (l.getD i Ci).1
  ·exact Jma rfl (Jja (by rw[show nOk (l.getD i Ci)=false by unfold nOk;rw[hb];rfl];rfl))
  refine Jla rfl (Jna (by omega) (Jna (by omega) ?_));refine Jqa (λ h4=>Jja (by rw[show nOk (l.getD i Ci)=false by unfold nOk;rw[decide_eq_true h4,hb];rfl];rfl)) (λ h4=>?_)
  have hnk:nOk (l.getD i Ci)=true:=by unfold nOk;rw[hb,decide_eq_false h4];rfl
  rw[hnk,Yr];refine Jqa (λ h0=>?_) (λ h0=>?_)
  ·rw[w64 (n:=(i:Int)-1) (by omega) (by omega)];refine Jna (by omega) (Jna (by omega) (Jna (by omega) (Jna (by omega) ?_)));rw[show toNat ((i:Int)-1)=i-1 by omega,decide_eq_true (show 0<i by omega),cond_true];refine Jpa (λ ht=>?_) (λ ht=>?_)
   ·have ht':(!(tlt (l.getD (i-1) Ci).1 (l.getD i Ci).1))=true:=ht;rw[Wg]at ht';exact Jja (by rw[ht'];rfl)
   ·have ht':(!(tlt (l.getD (i-1) Ci).1 (l.getD i Ci).1))=false:=ht;rw[Bool.not_eq_false']at ht';rw[ht',Yr];exact h1
  ·rw[decide_eq_false (show ¬ 0<i by omega),cond_false,Yr];exact h1
def Ql (l:List Nmd) (hf:l.length≤1000000000000) (hs:G9 l):Tot (λ k=>B5 k l) (λ r=>r=Cj l):=by
 unfold B5 Cj;refine Jta (Qj l hf hs _ 0 rfl (Wn _)) ?_;rw[Wj];show Tot _ (λ r=>r=(chn none l&&_))
 cases hc:chn none l with
 |true=>rw[show chn (Kl l 0) l=true from hc];exact Jja (by rw[Yr])
 |false=>rw[show chn (Kl l 0) l=false from hc];exact Jja rfl
def Qm (l:List Nmd) (hf:l.length≤1000000000000) (hs:G9 l):Tot (λ k=>Bi k l) (λ r=>r=Cj l):=by
 unfold Bi Cj;refine Jta (Qk l hf hs _ 0 rfl (Wn _)) ?_;rw[Wj];show Tot _ (λ r=>r=(chn none l&&_))
 cases hc:chn none l with
 |true=>rw[show chn (Kl l 0) l=true from hc];exact Jja (by rw[Yr])
 |false=>rw[show chn (Kl l 0) l=false from hc];exact Jja rfl
def D4a (d:Dsk) (hf:Fqa d) (hs:Qi d):Tot (λ k=>Cr k d) (λ r=>r=Ce d):=by
 unfold Cr Ce;refine Jta (Ql d.1 hf.1.1 hs.1) ?_;cases h:Cj d.1
 ·exact Jla rfl (Jja rfl)
 refine Jma rfl (Jta (Ql d.2 hf.2.1 hs.2) ?_);exact Jja (by rw[Yr])
def plc (l:List Nmd) (s:ByteArray):Nat:=(l.takeWhile (λ y=>tlt y.1 s)).length
def ins (l:List Nmd) (x:Nmd):List Nmd:=l.take (plc l x.1)++[x]++l.drop (plc l x.1)
def E4a (l:List Nmd) (s:ByteArray):plc l s≤l.length:=(List.takeWhile_sublist _).length_le
def Sa (l:List Nmd) (s:ByteArray) (b:List Int) (hf:l.length≤1000000000000):∀ (n i:Nat),l.length-i=n→i≤l.length→
  Tot (λ k=>Cs k l (i:Int) s b) (λ r=>r=(l,((i+plc (l.drop i) s:Nat):Int),s,b)):=by
 intro n
 induction n with
 |zero=>
  intro i hd hi;refine Tot.succ ?_;simp only[Cs];refine Joa (by omega) (Jja ?_);rw[Ye (by omega)];rfl
 |succ n ih=>
  intro i hd hi
  have hlt:i<l.length:=by omega
  refine Tot.succ ?_;simp only[Cs];refine Jna (by omega) (Jna (by omega) (Jna (by omega) ?_));rw[show toNat (i:Int)=i from Vw i,w64 (n:=(i:Int)+1) (by omega) (by omega),F3 (d:=Ci) hlt];have e0:l.getD i ((⟨#[]⟩:ByteArray),([]:List Int))=l.getD i Ci:=rfl;rw[e0]
  have e1:plc (l.getD i Ci::l.drop (i+1)) s=if tlt (l.getD i Ci).1 s then plc (l.drop (i+1)) s+1 else 0:=by
   unfold plc;rw[Zl]
   split<;>rfl
  rw[e1];refine Jpa (λ h=>?_) (λ h=>?_)
  ·have h':tlt (l.getD i Ci).1 s=true:=h;rw[if_pos h'];refine(ih (i+1) (by omega) (by omega)).mono ?_;rintro r rfl;rw[show i+1+plc (l.drop (i+1)) s=i+(plc (l.drop (i+1)) s+1) by omega]
  ·have h':¬ (tlt (l.getD i Ci).1 s=true):=by
    have:tlt (l.getD i Ci).1 s=false:=h;rw[this];simp
   rw[if_neg h'];exact Jja rfl
def D5a (l:List Nmd) (x:Nmd) (hf:l.length≤1000000000000):Tot (λ k=>Ee k l x) (λ r=>r=ins l x):=by
 unfold Ee ins;refine Jka (Sa l x.1 x.2 hf _ 0 rfl (Nat.zero_le _)) ?_;intro r hr;rw[List.drop_zero,Nat.zero_add]at hr;subst hr;have hp:=E4a l x.1;dsimp only
 first
 |refine Jna (by omega) (Jna (by omega) ?_)
  rw[show toNat ((plc l x.1:Nat):Int)=plc l x.1 from Vw _];refine Jra (by simp only[Vz,Vj];omega) ?_;refine Jra (by simp only[Vi,Vz,Vj,Vh];omega) ?_;refine Jna (by omega) (Jna (by omega) (Jra (by simp only[Vi,Vz,Vj,Vv,Vh];omega) (Jja ?_)))
 |refine Jma (by rw[Va,decide_eq_true_iff,decide_eq_true_iff];omega) ?_
  rw[show toNat ((plc l x.1:Nat):Int)=plc l x.1 from Vw _];refine Jna (by simp only[Vj];omega) ?_;refine Jra (by simp only[Vz,Vj];omega) ?_;refine Jra (by simp only[Vi,Vz,Vj,Vh];omega) ?_;refine Jma (by rw[Va,Va,decide_eq_true_iff,decide_eq_true_iff];exact⟨⟨by omega,by omega⟩,Yp (by omega)⟩) (Jra (by simp only[Vi,Vz,Vj,Vv,Vh];omega) (Jja ?_))
 rw[Wl]

def Sc (l:List Int) (h:l.length≤1000000000000):(length ([]:List Int)+l.length)*1≤140737488355328:=by
 simp only[Vz];omega
def Ma (l:List Nmd) (hf:Tz l):∀ (n i:Nat) (acc:List Nmd),l.length-i=n→i≤l.length→acc.length≤i→
  Tot (λ k=>Aw k l acc (i:Int)) (λ r=>r=acc++l.drop i):=by
 obtain⟨h1,h2⟩:=hf;intro n
 induction n with
 |zero=>
  intro i acc hd hi ha;refine Tot.succ ?_;simp only[Aw];refine Joa (by omega) (Jja ?_);rw[Ye (by omega),Yc]
 |succ n ih=>
  intro i acc hd hi ha
  have hlt:i<l.length:=by omega
  refine Tot.succ ?_;simp only[Aw];refine Jna (by omega) (Jna (by omega) (Jna (by omega) (Jna (by omega) (Jna (by omega) ?_))));rw[show toNat (i:Int)=i from Vw i,w64 (n:=(i:Int)+1) (by omega) (by omega),F3 (d:=Ci) hlt];have e0:l.getD i ((⟨#[]⟩:ByteArray),([]:List Int))=l.getD i Ci:=rfl;rw[e0];have hb:=h2 _ (Dr (d:=Ci) hlt);refine Jra (Sc _ hb) (Jra (by simp only[Vh,Vz];omega) ?_);refine(ih (i+1) (acc++[l.getD i Ci]) (by omega) (by omega) (by simp only[Vi,Vh,Vz];omega)).mono ?_;rintro r rfl;rw[Vl];rfl
def Kd (l:List Nmd) (hf:Tz l):Tot (λ k=>B1 k l) (λ r=>r=l):=by
 unfold B1;refine Jka (Ma l hf _ 0 [] rfl (Wn _) (Wn _)) ?_;intro r hr;rw[Wj,Wl]at hr;exact Jja hr
def Kz (d:Dsk) (hf:Fqa d):Tot (λ k=>Bv k d) (λ r=>r=d):=by
 unfold Bv;refine Jta (Kd d.1 hf.1) ?_;refine Jta (Kd d.2 hf.2) ?_;exact Jja rfl
def Aua (l:List Nmd) (s:ByteArray) (hf:l.length≤1000000000000):∀ (n i:Nat),l.length-i=n→i≤l.length→
  Tot (λ k=>Cg k l s (i:Int)) (λ r=>r=match fnd (l.drop i) s with|some j => .inl ((i+j:Nat):Int)|none => .inr ()):=by
 intro n
 induction n with
 |zero=>
  intro i hd hi;refine Tot.succ ?_;simp only[Cg];refine Joa (by omega) (Jja ?_);rw[Ye (by omega)];rfl
 |succ n ih=>
  intro i hd hi
  have hlt:i<l.length:=by omega
  refine Tot.succ ?_;simp only[Cg];refine Jna (by omega) (Jna (by omega) (Jna (by omega) ?_));rw[show toNat (i:Int)=i from Vw i,w64 (n:=(i:Int)+1) (by omega) (by omega),F3 (d:=Ci) hlt];have e0:l.getD i ((⟨#[]⟩:ByteArray),([]:List Int))=l.getD i Ci:=rfl;rw[e0]
  have e1:fnd (l.getD i Ci::l.drop (i+1)) s=if teq (l.getD i Ci).1 s then some 0 else (fnd (l.drop (i+1)) s).map (· + 1):=by
   unfold fnd;rw[Koa]
  rw[e1];refine Jpa (λ h=>?_) (λ h=>?_)
  ·have h':teq (l.getD i Ci).1 s=true:=h;rw[if_pos h'];exact Jja rfl
  ·have h':¬ (teq (l.getD i Ci).1 s=true):=by
    have:teq (l.getD i Ci).1 s=false:=h;rw[this];simp
   rw[if_neg h'];refine(ih (i+1) (by omega) (by omega)).mono ?_;rintro r rfl
   cases fnd (l.drop (i+1)) s with
   |none=>rfl
   |some j=>
    show Sum.inl _=Sum.inl _;rw[show i+1+j=i+(j+1) by omega]
def Hla (l:List Nmd) (s:ByteArray) (hf:l.length≤1000000000000):Tot (λ k=>Dp k l s) (λ r=>r=E2a l s):=by
 unfold Dp E2a;refine Jta (Aua l s hf _ 0 rfl (Wn _)) ?_;rw[Wj]
 cases fnd l s with
 |none=>exact Jja rfl
 |some j=>
  refine Jja ?_;rw[Vy]
def cut (l:List Nmd) (s:ByteArray):List Nmd:=l.filter (λ x => !(teq x.1 s))
def V1 (l:List Nmd) (s:ByteArray) (hf:l.length≤1000000000000):∀ (n i:Nat) (acc:List Nmd),l.length-i=n→i≤l.length→acc.length≤i→
  Tot (λ k=>C3 k l s acc (i:Int)) (λ r=>r=acc++cut (l.drop i) s):=by
 intro n
 induction n with
 |zero=>
  intro i acc hd hi ha;refine Tot.succ ?_;simp only[C3];refine Joa (by omega) (Jja ?_);rw[Ye (by omega)];simp[cut]
 |succ n ih=>
  intro i acc hd hi ha
  have hlt:i<l.length:=by omega
  refine Tot.succ ?_;simp only[C3];refine Jna (by omega) (Jna (by omega) (Jna (by omega) ?_));rw[show toNat (i:Int)=i from Vw i,w64 (n:=(i:Int)+1) (by omega) (by omega),F3 (d:=Ci) hlt];have e0:l.getD i ((⟨#[]⟩:ByteArray),([]:List Int))=l.getD i Ci:=rfl;rw[e0]
  have e1:cut (l.getD i Ci::l.drop (i+1)) s=if (!(teq (l.getD i Ci).1 s))=true then l.getD i Ci::cut (l.drop (i+1)) s else cut (l.drop (i+1)) s:=by
   unfold cut;rw[Zu]
  rw[e1];refine Jpa (λ h=>?_) (λ h=>?_)
  ·have h':(!(teq (l.getD i Ci).1 s))=true:=h;rw[if_pos h'];refine Jna (by omega) (Jna (by omega) (Jra (by simp only[Vh,Vz];omega) ?_));refine(ih (i+1) (acc++[l.getD i Ci]) (by omega) (by omega) (by simp only[Vi,Vh,Vz];omega)).mono ?_;rintro r rfl;rw[Vl];rfl
  ·have h':¬ ((!(teq (l.getD i Ci).1 s))=true):=by
    have:(!(teq (l.getD i Ci).1 s))=false:=h;rw[this];simp
   rw[if_neg h'];exact ih (i+1) acc (by omega) (by omega) (by omega)
def Fra (l:List Nmd) (s:ByteArray) (hf:l.length≤1000000000000):Tot (λ k=>D5 k l s) (λ r=>r=cut l s):=by
 unfold D5;refine Jka (V1 l s hf _ 0 [] rfl (Wn _) (Wn _)) ?_;intro r hr;rw[Wj,Wl]at hr;exact Jja hr
def U1 (d:Dsk) (hf:Fqa d) (hs:Qi d):Tot (λ k=>Cl k d) (λ r=>r=Ce d):=by
 unfold Cl Ce;refine Jta (Qm d.1 hf.1.1 hs.1) ?_;cases h:Cj d.1
 ·exact Jla rfl (Jja rfl)
 refine Jma rfl (Jta (Qm d.2 hf.2.1 hs.2) ?_);exact Jja (by rw[Yr])

def rdN (l:List Nmd) (s:ByteArray):List Int×Bool:=match fnd l s with
 |some i=>((l.getD i Ci).2,true)
 |none=>([],false)
def D6a (d:Dsk) (s:ByteArray) (hf:Tz d.1):Tot (λ k=>C6 k d s) (λ r=>r=rdN d.1 s):=by
 unfold C6 rdN;refine Jta (Hla d.1 s hf.1) ?_;unfold E2a;have hl1:=hf.1
 cases h:fnd d.1 s with
 |none=>exact Jna (by decide) (Jja rfl)
 |some i=>
  have hl:=(M9 h).1;dsimp only;refine Joa (by omega) (Jna (by omega) (Jna (by omega) ?_));rw[show toNat (i:Int)=i from Int.toNat_natCast i];have hb:=hf.2 _ (Dr (d:=Ci) hl);exact Jra (Sc _ hb) (Jja rfl)

def Eh (l:List Nmd):Prop:=l.Pairwise (λ a b=>tlt a.1 b.1=true)
def Sd:∀ (p:Option ByteArray) (l:List Nmd),chn p l=true↔Eh l∧(∀ r∈l,nOk r=true)∧(∀ q,p=some q→∀ r∈l,tlt q r.1=true)
 |p,[]=>by
  have:chn p []=true:=by cases p<;>rfl
  simp[this,Eh]
 |none,r::l=>by
  simp only[chn,Va,Sd (some r.1) l,Eh,Yt];constructor
  ·rintro⟨h1,h2,h3,h4⟩;exact⟨⟨λ a ha=>h4 _ rfl a ha,h2⟩,λ a ha=>by rcases Vk.1 ha with rfl|ha;exact h1;exact h3 a ha,λ q hq=>by cases hq⟩
  ·rintro⟨⟨h1,h2⟩,h3,_⟩;exact⟨h3 r (by simp),h2,λ a ha=>h3 a (Ve _ ha),λ q hq a ha=>by cases hq;exact h1 a ha⟩
 |some q,r::l=>by
  simp only[chn,Va,Sd (some r.1) l,Eh,Yt];constructor
  ·rintro⟨h1,h0,h2,h3,h4⟩;refine⟨⟨λ a ha=>h4 _ rfl a ha,h2⟩,λ a ha=>by rcases Vk.1 ha with rfl|ha;exact h1;exact h3 a ha,λ q' hq a ha=>?_⟩;cases hq;rcases Vk.1 ha with rfl|ha
   ·exact h0
   ·exact M8 h0 (h4 _ rfl a ha)
  ·rintro⟨⟨h1,h2⟩,h3,h4⟩;exact⟨h3 r (by simp),h4 q rfl r (by simp),h2,λ a ha=>h3 a (Ve _ ha),λ q' hq a ha=>by cases hq;exact h1 a ha⟩
def Bx {l:List Nmd}:Cj l=true↔Eh l∧(∀ r∈l,nOk r=true)∧l.length≤60:=by
 unfold Cj;simp only[Va,Sd,decide_eq_true_eq];constructor
 ·rintro⟨⟨h1,h2,_⟩,h3⟩;exact⟨h1,h2,by omega⟩
 ·rintro⟨h1,h2,h3⟩;exact⟨⟨h1,h2,λ q hq=>by cases hq⟩,by omega⟩
def Mb {x:Nmd}:nOk x=true↔Dt x.1=true∧x.2.length≤400:=by
 unfold nOk;simp only[Va,Wg,decide_eq_false_iff_not];constructor
 ·rintro⟨h1,h2⟩;exact⟨h1,by omega⟩
 ·rintro⟨h1,h2⟩;exact⟨h1,by omega⟩
def Ke {l:List Nmd} (h:Cj l=true):Tz l∧G9 l:=by
 obtain⟨_,h2,h3⟩:=Bx.1 h;refine⟨⟨by omega,λ x hx=>by have:=(Mb.1 (h2 x hx)).2;omega⟩,λ x hx=>?_⟩;have:=I9 (Mb.1 (h2 x hx)).1;unfold Hd;omega
def D7a (y:Nmd) (l:List Nmd) (s:ByteArray):fnd (y::l) s=if teq y.1 s then some 0 else (fnd l s).map (· + 1):=by
 unfold fnd;rw[Koa]
def Oq:∀ {l:List Nmd} {s:ByteArray},Eh l→del l s=cut l s
 |[],s,_=>rfl
 |y::l,s,h=>by
  have hc:=Yt.1 h;have ih:=Oq (l:=l) (s:=s) hc.2;unfold del cut at *;rw[D7a,Zu]
  cases ht:teq y.1 s with
  |true=>
   have hno:∀ x∈l,(!(teq x.1 s))=true:=λ x hx=>by
    cases hx2:teq x.1 s
    ·rfl
    have e1:=Jw.1 ht;have e2:=Jw.1 hx2;have:=hc.1 x hx;rw[e1,e2,Jx]at this;cases this
   rw[if_pos rfl,if_neg (by simp)];show []++l=_;rw[Wl,List.filter_eq_self.2 hno]
  |false=>
   rw[if_neg (by simp),if_pos (show (!false)=true from rfl),← ih]
   cases hf:fnd l s with
   |none=>rfl
   |some i=>rfl
def Na {l:List Nmd} {s:ByteArray} (h:Eh l):Eh (cut l s):=h.sublist List.filter_sublist
def Jy {l:List Nmd} {s:ByteArray}:(cut l s).Sublist l:=List.filter_sublist
def Ava {l:List Nmd} {s:ByteArray} (h:Cj l=true):Cj (cut l s)=true:=by
 obtain⟨h1,h2,h3⟩:=Bx.1 h;exact Bx.2 ⟨Na h1,λ x hx=>h2 x (Jy.subset hx),by have:=(Jy (l:=l) (s:=s)).length_le;omega⟩
def Fsa {l:List Nmd} {s:ByteArray} {i:Nat} (h:fnd l s=some i):(del l s).length+1=l.length:=by
 have hl:=(M9 h).1;unfold del;rw[h];simp only[Vi,Vj,Vv];omega
def Fta {l m:List Nmd} (h:m.Sublist l) (hf:Tz l):Tz m:=⟨by have:=h.length_le;have:=hf.1;omega,λ x hx=>hf.2 x (h.subset hx)⟩
def Awa {l m:List Nmd} (h:m.Sublist l) (hf:G9 l):G9 m:=λ x hx=>hf x (h.subset hx)

def D8a (d out:Dsk) (s:ByteArray) (hd:Fqa d∧Qi d) (ho:Fqa out∧Qi out) (hs:Hd s):Tot (λ k=>Cc k d out s) (λ r=>r=bif Ce d&&(Dt s&&Ce out) then (out,true) else (d,false)):=by
 unfold Cc;refine Jta (U1 d hd.1 hd.2) ?_
 cases h1:Ce d with
 |false=>
  refine Jma rfl (Jta (Kz d hd.1) ?_);exact Jja rfl
 |true=>
  refine Jla rfl (Jta (Tx s hs) ?_)
  cases h2:Dt s with
  |false=>
   refine Jma rfl (Jta (Kz d hd.1) ?_);exact Jja rfl
  |true=>
   refine Jla rfl (Jta (U1 out ho.1 ho.2) ?_)
   cases h3:Ce out with
   |false=>
    refine Jma rfl (Jta (Kz d hd.1) ?_);exact Jja rfl
   |true=>exact Jla rfl (Jja rfl)

def ptl (x:Nmd):Bool→List Nmd→List Nmd
 |p,[]=>bif p then [] else [x]
 |p,y::l=>(bif !p&&!(tlt y.1 x.1) then [x] else [])++((bif !(teq y.1 x.1) then [y] else [])++ptl x (p||!(tlt y.1 x.1)) l)
def Se (l:List Nmd) (s:ByteArray) (b:List Int) (hf:l.length≤1000000000000):∀ (n i:Nat) (acc:List Nmd) (p:Bool),l.length-i=n→i≤l.length→acc.length≤2*i→
  Tot (λ k=>Ao k l s acc p (i:Int) s b) (λ r=>r.1++(bif r.2.1 then [] else [(s,b)])=acc++ptl (s,b) p (l.drop i)∧r.2.2=(s,b)∧r.1.length≤2*l.length):=by
 intro n
 induction n with
 |zero=>
  intro i acc p hd hi ha;refine Tot.succ ?_;simp only[Ao];refine Joa (by omega) (Jja ?_);rw[List.drop_of_length_le (by omega)];exact⟨rfl,rfl,by dsimp only;omega⟩
 |succ n ih=>
  intro i acc p hd hi ha
  have hlt:i<l.length:=by omega
  refine Tot.succ ?_;simp only[Ao];refine Jna (by omega) ?_;rw[show toNat (i:Int)=i from Vw i,w64 (n:=(i:Int)+1) (by omega) (by omega),F3 (d:=Ci) hlt];have e0:l.getD i ((⟨#[]⟩:ByteArray),([]:List Int))=l.getD i Ci:=rfl;rw[e0]
  have Af:∀ (ac:List Nmd) (q:Bool),ac.length≤2*i+1→Tot (λ k=>cond (decide ((0:Int)≤i)) (cond (decide ((i:Int)<(length l:Int))) (cond (!((l.getD i Ci).1.toList==s.toList)) (cond (decide ((0:Int)≤i)) (cond (decide ((i:Int)<(length l:Int))) (cond (Nat.ble ((length ac+length [l.getD i Ci])*40) 140737488355328) (Ao k l s (ac++[l.getD i Ci]) q ((i:Int)+1) s b) none) none) none) (Ao k l s ac q ((i:Int)+1) s b)) none) none)
    (λ r=>r.1++(bif r.2.1 then [] else [(s,b)])=ac++((bif !(teq (l.getD i Ci).1 s) then [l.getD i Ci] else [])++ptl (s,b) q (l.drop (i+1)))∧r.2.2=(s,b)∧r.1.length≤2*l.length):=by
   intro ac q hac;refine Jna (by omega) (Jna (by omega) (Jpa (λ h=>?_) (λ h=>?_)))
   ·have h':(!(teq (l.getD i Ci).1 s))=true:=h;rw[h'];refine Jna (by omega) (Jna (by omega) (Jra (by simp only[Vh,Vz];omega) ?_));refine(ih (i+1) (ac++[l.getD i Ci]) q (by omega) (by omega) (by simp only[Vi,Vh,Vz];omega)).mono ?_;rintro r ⟨h1,h2,h3⟩;refine⟨?_,h2,h3⟩;rw[h1,Vl];rfl
   ·have h':(!(teq (l.getD i Ci).1 s))=false:=h;rw[h'];exact ih (i+1) ac q (by omega) (by omega) (by omega)
  cases p with
  |true=>
   refine Jla rfl ?_;refine(Af acc true (by omega)).mono ?_;rintro r ⟨h1,h2,h3⟩;exact⟨h1,h2,h3⟩
  |false=>
   refine Jma rfl (Jna (by omega) (Jna (by omega) (Jpa (λ h=>?_) (λ h=>?_))))
   ·have h':(!(tlt (l.getD i Ci).1 s))=true:=h;refine Jra (by simp only[Vh,Vz];omega) ?_;refine(Af (acc++[(s,b)]) true (by simp only[Vi,Vh,Vz];omega)).mono ?_;rintro r ⟨h1,h2,h3⟩;refine⟨?_,h2,h3⟩;rw[h1];simp only[ptl,h',K1a,Bool.and_self,L5a,cond_true,Vl]
   ·have h':(!(tlt (l.getD i Ci).1 s))=false:=h;refine(Af acc false (by omega)).mono ?_;rintro r ⟨h1,h2,h3⟩;refine⟨?_,h2,h3⟩;rw[h1];simp only[ptl,h',K1a,Bool.and_false,L5a,cond_false,Wl]
def D9a (l:List Nmd) (s:ByteArray) (b:List Int) (hf:l.length≤1000000000000) (hb:b.length≤1000000000000):Tot (λ k=>D0 k l s b) (λ r=>r=ptl (s,b) false l):=by
 unfold D0;refine Jra (Sc b hb) ?_;rw[List.nil_append];refine Jka (Se l s b hf _ 0 [] false rfl (Nat.zero_le _) (Nat.zero_le _)) ?_;rintro⟨r,q,x,y⟩ ⟨h1,h2,h3⟩;rw[List.drop_zero,List.nil_append]at h1;dsimp only at h1 h2 h3;dsimp only
 cases q with
 |true=>
  refine Jla rfl (Jja ?_);rw[← h1];simp
 |false=>
  refine Jma rfl (Jra (by simp only[Vh,Vz];omega) (Jja ?_));rw[← h1];obtain⟨rfl,rfl⟩:=Prod.mk.inj h2;rfl
def Axa (x:Nmd):∀ (p:Bool) (l:List Nmd),∀ y∈ptl x p l,y∈l∨y=x:=by
 intro p l
 induction l generalizing p with
 |nil=>intro y hy;cases p<;>simp_all [ptl]
 |cons a l ih=>
  intro y hy;simp only[ptl,Vn]at hy;rcases hy with hy|hy|hy
  ·revert hy;cases (!p&&!(tlt a.1 x.1))<;>simp_all
  ·revert hy;cases (!(teq a.1 x.1))<;>simp_all
  ·rcases ih _ y hy with h|h
   ·exact Or.inl (Ve _ h)
   ·exact Or.inr h
def Fua (x:Nmd):∀ (p:Bool) (l:List Nmd),(ptl x p l).length≤l.length+(bif p then 0 else 1):=by
 intro p l
 induction l generalizing p with
 |nil=>cases p<;>simp[ptl]
 |cons a l ih=>
  simp only[ptl,Vi,Vh];have:=ih (p||!(tlt a.1 x.1))
  revert this
  cases p<;>cases tlt a.1 x.1<;>cases teq a.1 x.1<;>simp<;>omega
def Daa (x:Nmd):∀ (l:List Nmd),ptl x true l=cut l x.1:=by
 intro l
 induction l with
 |nil=>rfl
 |cons a l ih=>
  simp only[ptl,L6a,L3a,cond_false,Wl,Bool.true_or,ih,cut,Zu]
  cases teq a.1 x.1<;>simp
def V2 (x:Nmd):∀ {l:List Nmd},Eh l→ptl x false l=ins (cut l x.1) x:=by
 intro l
 induction l with
 |nil=>intro _;rfl
 |cons a l ih=>
  intro h;have hl:Eh l:=(Yt.1 h).2;have ha:=(Yt.1 h).1;simp only[ptl,K1a,Yr,L5a]
  cases ht:tlt a.1 x.1 with
  |true=>
   have he:teq a.1 x.1=false:=by
    cases hq:teq a.1 x.1 with
    |false=>rfl
    |true=>rw[(Jw.1 hq),Jx]at ht;cases ht
   simp only[he,L6a,K1a,cond_false,cond_true,Wl,ih hl,cut,Zu,if_true];unfold ins plc;rw[Zl,if_pos ht];rfl
  |false=>
   have hc:plc (cut (a::l) x.1) x.1=0:=by
    unfold plc cut;rw[List.length_eq_zero_iff];rw[Zu];cases hq:teq a.1 x.1
    ·rw[K1a,if_pos rfl,Zl,if_neg (by rw[ht];simp)]
    have hx:=(Jw.1 hq);simp only[L6a,Wa,if_false]
    cases hf:l.filter (λ y => !(teq y.1 x.1)) with
    |nil=>rfl
    |cons b m=>
     have hb:b∈l:=by
      have:b∈l.filter (λ y => !(teq y.1 x.1)):=by rw[hf];exact Kna
      exact(List.mem_filter.1 this).1
     have hab:=ha b hb;rw[hx]at hab;rw[Zl,if_neg (by rw[Ara hab];simp)]
   simp only[K1a,cond_true,Daa];unfold ins;rw[hc];simp only[Jva,Wl,Wj,cut,Zu]
   cases teq a.1 x.1<;>simp

def Fva {l:List Nmd} {x:Nmd} {p:Bool} (hl:Tz l) (hl':l.length≤999999999999) (hx:x.2.length≤1000000000000):Tz (ptl x p l):=by
 refine⟨?_,λ y hy=>?_⟩
 ·have:=Fua x p l
  revert this
  cases p<;>simp<;>omega
 ·rcases Axa x p l y hy with h|rfl
  ·exact hl.2 y h
  ·exact hx
def Aya {l:List Nmd} {x:Nmd} {p:Bool} (hl:G9 l) (hx:Hd x.1):G9 (ptl x p l):=by
 intro y hy;rcases Axa x p l y hy with h|rfl
 ·exact hl y h
 ·exact hx
def DIn (d:Dsk):Prop:=(Fqa d∧Qi d)∧d.1.length≤2000000∧d.2.length≤2000000
def E5a {d:Dsk} (h:Ce d=true):DIn d:=by
 unfold Ce at h;rw[Va]at h;have h1:=Ke h.1;have h2:=Ke h.2;exact⟨⟨⟨h1.1,h2.1⟩,h1.2,h2.2⟩,by have:=(Bx.1 h.1).2.2;omega,by have:=(Bx.1 h.2).2.2;omega⟩
def syS (d:Dsk) (s:ByteArray):List Nmd:=match fnd d.1 s with
 |some i=>ptl (s,(d.1.getD i Ci).2) false (cut d.2 s)
 |none=>cut d.2 s
def Hma {d:Dsk} {s:ByteArray} (hd:DIn d) (hs:Hd s):Tz (syS d s)∧G9 (syS d s):=by
 unfold syS;have h1:=Fta (Jy (l:=d.2) (s:=s)) hd.1.1.2;have h2:=Awa (Jy (l:=d.2) (s:=s)) hd.1.2.2
 cases h:fnd d.1 s with
 |none=>exact⟨h1,h2⟩
 |some i=>
  have hb:=hd.1.1.1.2 _ (Dr (d:=Ci) (M9 h).1);have hc:(cut d.2 s).length≤d.2.length:=(Jy (l:=d.2) (s:=s)).length_le;exact⟨Fva h1 (by have:=hd.2.2;omega) hb,Aya h2 hs⟩
def Ot (d:Dsk) (s:ByteArray) (hd:DIn d) (hs:Hd s):Tot (λ k=>Bs k d s) (λ r=>r=bif Ce d&&(Dt s&&Ce (d.1,syS d s)) then ((d.1,syS d s),true) else (d,false)):=by
 unfold Bs;have hin:=Hma hd hs;refine Jka (Kz d hd.1.1) ?_;rintro r rfl;refine Jka (D6a r s hd.1.1.1) ?_;rintro b rfl;refine Jka (Fra r.2 s hd.1.1.2.1) ?_;rintro c rfl
 have e:∀ o,o=syS r s→Tot (λ k=>(Cc k r (r.1,o) s).bind λ r5=>some (r5.1,r5.2)) (λ q=>q=bif Ce r&&(Dt s&&Ce (r.1,syS r s)) then ((r.1,syS r s),true) else (r,false)):=by
  rintro o rfl;refine Jka (D8a r (r.1,syS r s) s hd.1 ⟨⟨hd.1.1.1,hin.1⟩,hd.1.2.1,hin.2⟩ hs) ?_;rintro e rfl;exact Jja rfl
 have hc:(cut r.2 s).length≤r.2.length:=(Jy (l:=r.2) (s:=s)).length_le
 cases h:fnd r.1 s with
 |none=>
  have h':rdN r.1 s=([],false):=by unfold rdN;rw[h]
  rw[h'];refine Jla rfl (e _ ?_);unfold syS;rw[h]
 |some i=>
  have h':rdN r.1 s=((r.1.getD i Ci).2,true):=by unfold rdN;rw[h]
  rw[h'];have hb:=hd.1.1.1.2 _ (Dr (d:=Ci) (M9 h).1);refine Jma rfl (Jka (D9a (cut r.2 s) s _ (by have:=hd.2.2;omega) hb) ?_);rintro o rfl;refine e _ ?_;unfold syS;rw[h]
def syI (d:Dsk) (s:ByteArray):List Nmd:=match fnd d.1 s with
 |some i=>ins (del d.2 s) (s,(d.1.getD i Ci).2)
 |none=>del d.2 s
def V3 (l:List Nmd) (s:ByteArray):(del l s).length≤l.length:=by
 cases h:fnd l s with
 |none=>unfold del;rw[h];exact Vo _
 |some i=>have:=Fsa h;omega
def Fwa (l:List Nmd) (x:Nmd):(ins l x).length=l.length+1:=by
 unfold ins;have:=E4a l x.1;simp only[Vi,Vj,Vv,Vh,Vz];omega
def Ou (d:Dsk) (s:ByteArray) (hd:DIn d) (hs:Hd s):Tot (λ k=>Be k d s) (λ r=>r=bif Ce d&&(Dt s&&decide ((syI d s).length≤60)) then ((d.1,syI d s),true) else (d,false)):=by
 unfold Be;refine Jka (Ka d hd.1.1) ?_;rintro r rfl;refine Jka (D4a r hd.1.1 hd.1.2) ?_;rintro b rfl;cases h1:Ce r
 ·exact Jma rfl (Jja rfl)
 refine Jla rfl (Jka (Tw s hs) ?_);rintro b rfl;cases h2:Dt s
 ·exact Jma rfl (Jja rfl)
 refine Jla rfl (Jka (D3a r.2 s hd.1.1.2.1) ?_);rintro c rfl;refine Jka (E3a r.1 s hd.1.1.1.1) ?_;rintro i rfl;have hdl:=V3 r.2 s;have hr2:=hd.2.2;have hr1:=hd.2.1
 have e:∀ o,o=syI r s→o.length≤4000000→Tot (λ k=>cond (decide ((length o:Int) > 60)) ((Bd k r).bind λ r9=>some (r9,false)) (some ((r.1,o),true))) (λ q=>q=bif true&&(true&&decide ((syI r s).length≤60)) then ((r.1,syI r s),true) else (r,false)):=by
  rintro o rfl _;refine Jqa (λ h=>?_) (λ h=>?_)
  ·refine Jka (Ka r hd.1.1) ?_;rintro q rfl;refine Jja ?_;rw[decide_eq_false (by omega)];rfl
  ·refine Jja ?_;rw[decide_eq_true (by omega)];rfl
 unfold E2a
 cases h:fnd r.1 s with
 |none=>
  refine Joa (by decide) (e _ ?_ (by omega));unfold syI;rw[h]
 |some i=>
  have hl:=(M9 h).1;dsimp only;refine Jna (by omega) (Jna (by omega) (Jna (by omega) ?_));rw[show toNat (i:Int)=i from Int.toNat_natCast i];have hb:=hd.1.1.1.2 _ (Dr (d:=Ci) hl);refine Jka (Jua (Q:=λ q=>q=(r.1.getD i Ci).2) (J5 _ hb) rfl) ?_;rintro q rfl;refine Jka (D5a (del r.2 s) (s,(r.1.getD i Ci).2) (by omega)) ?_;rintro o rfl;refine e _ ?_ (by rw[Fwa];omega);unfold syI;rw[h]

section
open Go
end

section
open Go
end

def Hz (p:Nmd→Bool):∀ l:List Nmd,l.take (l.takeWhile p).length=l.takeWhile p∧l.drop (l.takeWhile p).length=l.dropWhile p
 |[]=>⟨rfl,rfl⟩
 |y::l=>by
  obtain⟨h1,h2⟩:=Hz p l;simp only[Zl,List.dropWhile_cons]
  cases p y with
  |true=>simp[h1,h2]
  |false=>simp
def Qn {p:Nmd→Bool}:∀ {l:List Nmd} {y:Nmd},y∈l.takeWhile p→p y=true
 |[],y,h=>by simp at h
 |z::l,y,h=>by
  simp only[Zl]at h;cases hz:p z
  ·rw[hz]at h;simp at h
  rw[hz]at h;simp only[if_true]at h;rcases Vk.1 h with rfl|h
  ·exact hz
  ·exact Qn h
def E6a (l:List Nmd) (x:Nmd):ins l x=l.takeWhile (λ y=>tlt y.1 x.1)++([x]++l.dropWhile (λ y=>tlt y.1 x.1)):=by
 unfold ins plc;obtain⟨h1,h2⟩:=Hz (λ y=>tlt y.1 x.1) l;rw[h1,h2,Vl]
def Nb {x:Nmd}:∀ {l:List Nmd},Eh l→(∀ y∈l,y.1≠x.1)→∀ z∈l.dropWhile (λ y=>tlt y.1 x.1),tlt x.1 z.1=true
 |[],_,_,z,hz=>by simp at hz
 |y::l,hs,hn,z,hz=>by
  obtain⟨h1,h2⟩:=Yt.1 hs;simp only[List.dropWhile_cons]at hz
  cases hy:tlt y.1 x.1 with
  |true=>
   rw[hy]at hz;simp only[if_true]at hz;exact Nb h2 (λ w hw=>hn w (Ve _ hw)) z hz
  |false=>
   rw[hy]at hz;simp only[Wa,if_false]at hz
   have hxy:tlt x.1 y.1=true:=by
    cases hh:tlt x.1 y.1 with
    |true=>rfl
    |false=>exact absurd (Fna hy hh) (hn y (by simp))
   rcases Vk.1 hz with rfl|hz
   ·exact hxy
   ·exact M8 hxy (h1 z hz)
def V4 {l:List Nmd} {x:Nmd} (hs:Eh l) (hn:∀ y∈l,y.1≠x.1):Eh (ins l x):=by
 rw[E6a]
 have hs':Eh (l.takeWhile (λ y=>tlt y.1 x.1)++l.dropWhile (λ y=>tlt y.1 x.1)):=by rw[Kea];exact hs
 obtain⟨h1,h2,h3⟩:=Zp.1 hs';have h4:∀ y∈l.takeWhile (λ y=>tlt y.1 x.1),tlt y.1 x.1=true:=λ y hy=>Qn (p:=λ y=>tlt y.1 x.1) hy;refine Zp.2 ⟨h1,Yt.2 ⟨λ z hz=>Nb hs hn z hz,h2⟩,λ a ha b hb=>?_⟩;rcases Vk.1 hb with rfl|hb
 ·exact h4 a ha
 ·exact h3 a ha b hb
def Fxa {l:List Nmd} {x y:Nmd}:y∈ins l x↔y=x∨y∈l:=by
 rw[E6a];have e:=Kea (p:=λ y:Nmd=>tlt y.1 x.1) (l:=l);constructor
 ·intro h;rcases Vn.1 h with h|h
  ·right;rw[← e];exact Vq _ h
  ·rcases Vk.1 h with h|h
   ·exact .inl h
   ·right;rw[← e];exact Vg _ h
 ·rintro (rfl|h)
  ·exact Vg _ (by simp)
  ·rw[← e]at h;rcases Vn.1 h with h|h
   ·exact Vq _ h
   ·exact Vg _ (Ve _ h)
def Hna {l:List Nmd} {x:Nmd} (hl:Cj l=true) (hn:∀ y∈l,y.1≠x.1) (hx:nOk x=true):Cj (ins l x)=decide ((ins l x).length≤60):=by
 obtain⟨h1,h2,h3⟩:=Bx.1 hl
 by_cases h:(ins l x).length≤60
 ·rw[decide_eq_true h];exact Bx.2 ⟨V4 h1 hn,λ y hy=>by rcases Fxa.1 hy with rfl|hy;exact hx;exact h2 y hy,h⟩
 ·rw[decide_eq_false h]
  cases hc:Cj (ins l x) with
  |false=>rfl
  |true=>exact absurd (Bx.1 hc).2.2 h
def Hoa {l:List Nmd} {s:ByteArray}:∀ y∈cut l s,y.1≠s:=λ y hy e=>by
 have:=(List.mem_filter.1 hy).2;simp[e,Jw.2 rfl]at this
def Fya {l:List Nmd} {s:ByteArray}:cut (cut l s) s=cut l s:=by
 unfold cut;rw[List.filter_filter];congr 1;funext x;simp
def Fza {d:Dsk} {s:ByteArray} (hd:Ce d=true):syS d s=syI d s:=by
 unfold Ce at hd;rw[Va]at hd;have hs:=(Bx.1 hd.2).1;unfold syS syI;rw[Oq hs]
 cases fnd d.1 s with
 |none=>rfl
 |some i=>
  show ptl _ false (cut d.2 s)=ins (cut d.2 s) _;rw[V2 _ (Na hs)];show ins (cut (cut d.2 s) s) _=_;rw[Fya]
def Aza {d:Dsk} {s:ByteArray} (hd:Ce d=true) (hs:Dt s=true):Ce (d.1,syI d s)=decide ((syI d s).length≤60):=by
 have hd':=hd;unfold Ce at hd';rw[Va]at hd';have h2:=Bx.1 hd'.2;unfold Ce;rw[hd'.1,Yr];unfold syI;rw[Oq h2.1]
 cases h:fnd d.1 s with
 |none=>show Cj (cut d.2 s)=decide ((cut d.2 s).length≤60);rw[Ava hd'.2,decide_eq_true (Bx.1 (Ava (s:=s) hd'.2)).2.2]
 |some i=>
  refine Hna (Ava hd'.2) Hoa (Mb.2 ⟨hs,?_⟩);have h1:=(Bx.1 hd'.1).2.1 _ (Dr (d:=Ci) (M9 h).1);exact(Mb.1 h1).2

section
open Go
end

def J3a:ByteArray:=⟨#[]⟩

section
open Go
end

section
variable {α σ R:Type} {a b:α} {p:Prop} [Decidable p]
def dT (h:p):cond (decide p) a b=a:=by rw[decide_eq_true h];rfl
def dF (h:¬ p):cond (decide p) a b=b:=by rw[decide_eq_false h];rfl
def Jsa {L:Nat→Int→σ→Option R} {Q:R→Prop} (n:Nat) (I:Nat→σ→Prop) (hend:∀ s,I n s→Tot (λ k=>L (k+1) (n:Int) s) Q)
  (Mp:∀ i s,i<n→I i s→(∀ s',I (i+1) s'→Tot (λ k=>L k ((i:Int)+1) s') Q)→Tot (λ k=>L (k+1) (i:Int) s) Q):
  ∀ (i:Nat) (s:σ),i≤n→I i s→Tot (λ k=>L k (i:Int) s) Q:=by
 suffices h:∀ (m i:Nat) (s:σ),n-i=m→i≤n→I i s→Tot (λ k=>L k (i:Int) s) Q from λ i s hi hs=>h _ i s rfl hi hs
 intro m
 induction m with
 |zero=>
  intro i s hm hi hs
  obtain rfl:i=n:=by omega
  exact Tot.succ (hend s hs)
 |succ m ih=>
  intro i s hm hi hs;refine Tot.succ (Mp i s (by omega) hs λ s' hs'=>?_);have:=ih (i+1) s' (by omega) (by omega) hs';rwa [show (((i+1:Nat)):Int)=(i:Int)+1 by omega]at this
end
def cst (x:BitVec 32):BitVec 32:=if x.getLsbD 0 then (x >>> 1) ^^^ 2197175160#32 else x >>> 1
def Hpa:Nat→BitVec 32→BitVec 32
 |0,x=>x
 |n+1,x=>Hpa n (cst x)
def cby (x:BitVec 32) (b:Int):BitVec 32:=Hpa 8 (x ^^^ ofInt 32 b)
def Jaa (l:List Int):BitVec 32 := ~~~ (l.foldl cby 4294967295#32)
def crc (l:List Int):Int:=((Jaa l).toNat:Int)

def B0a (f:Fil):Bool:=Fpa f.1&&(decide ((f.2.2.length:Int)≤200)&&(!f.2.1||((f.2.2.length:Int)==0)))
def hdF (s:Stp) (d:Bool):List Int:=J9a s++Hja (Qh (J8a d))
def Hqa (f:Fil):List Int:=hdF f.1 f.2.1++txt (Kg f.2.2)
def c4 (c:Int):List Int:=[wrap .u8 (Int.fdiv c (2 ^ (min (toNat 24) (IntKind.bits .i64)))),wrap .u8 (Int.fdiv c (2 ^ (min (toNat 16) (IntKind.bits .i64)))),wrap .u8 (Int.fdiv c (2 ^ (min (toNat 8) (IntKind.bits .i64)))),wrap .u8 c]
def Ika (f:Fil):List Int:=bif B0a f then Hqa f++c4 (crc (Hqa f)) else []
def J4a (b:List Int):Option Fil:=(Ija b 0).bind λ a=>(J7a b a.2).bind λ t=>bif B0a (a.1.1,a.1.2,bytesOf t.1)&&decide (Ika (a.1.1,a.1.2,bytesOf t.1)=b) then some (a.1.1,a.1.2,bytesOf t.1) else none

def gt (l:List Nmd) (s:ByteArray):Option (List Int):=match fnd l s with
 |some i=>some (l.getD i Ci).2
 |none=>none
def Nc {s:ByteArray} (h:Dt s=true):Hd s:=by
 have:=(I9 h).2;unfold Hd;omega
def Dba {d:Dsk}:Ce d=true↔Cj d.1=true∧Cj d.2=true:=by
 unfold Ce;rw[Va]
def G0a {d:Dsk} (h:Ce d=true):Eh d.2:=(Bx.1 (Dba.1 h).2).1
def wr (l:List Nmd) (s:ByteArray) (b:List Int):List Nmd:=ins (cut l s) (s,b)
def sy (d:Dsk) (s:ByteArray):List Nmd:=match gt d.1 s with
 |some b=>wr d.2 s b
 |none=>cut d.2 s
def wrD (d:Dsk) (s:ByteArray) (b:List Int):Dsk×Bool:=bif decide (b.length≤400)&&decide ((wr d.1 s b).length≤60) then ((wr d.1 s b,d.2),true) else (d,false)
def syD (d:Dsk) (s:ByteArray):Dsk×Bool:=bif decide ((sy d s).length≤60) then ((d.1,sy d s),true) else (d,false)
section
variable {d:Dsk} {s:ByteArray} {b:List Int}
def B1a (hd:Ce d=true):syI d s=sy d s:=by
 unfold syI sy gt wr;rw[Oq (G0a hd)]
 cases fnd d.1 s<;>rfl
def B2a (hd:Ce d=true) (hs:Dt s=true):Tot (λ k=>Be k d s) (λ r=>r=syD d s):=by
 refine(Ou d s (E5a hd) (Nc hs)).mono ?_;rintro r rfl;rw[hd,hs,B1a hd];rfl
def B3a (hd:Ce d=true) (hs:Dt s=true):Tot (λ k=>Bs k d s) (λ r=>r=syD d s):=by
 refine(Ot d s (E5a hd) (Nc hs)).mono ?_;rintro r rfl;rw[hd,hs,Fza hd,Aza hd hs,B1a hd];rfl
def Ila (hd:Ce d=true) (hs:Dt s=true) (hl:(sy d s).length≤60):Ce (d.1,sy d s)=true:=by
 have:=Aza hd hs;rw[B1a hd,decide_eq_true hl]at this;exact this
def Hra (hd:Ce d=true) (hs:Dt s=true):Ce (syD d s).1=true:=by
 unfold syD
 cases hc:decide ((sy d s).length≤60) with
 |false=>exact hd
 |true=>exact Ila hd hs (of_decide_eq_true hc)
end
def old (d:Dsk) (s:ByteArray):Option Fil:=(gt d.1 s).bind J4a
def kp1 (d:Dsk) (s:ByteArray) (f:Fil):Option (Dsk×Int):=
 let w:=bif (wrD d s (Ika f)).2 then some ((wrD d s (Ika f)).1,(0:Int)) else none
 match old d s with
 |some o=>bif sle o.1 f.1 then w else some (d,1)
 |none=>w
def kp2 (d:Dsk) (s:ByteArray) (sure:Bool) (x:Dsk×Int):Dsk×Int:=bif sure then (bif (syD x.1 s).2 then ((syD x.1 s).1,x.2) else (d,3)) else x
def Ima (d:Dsk) (s:ByteArray) (f:Fil) (sure:Bool):Dsk×Int:=match kp1 d s f with
 |some x=>kp2 d s sure x
 |none=>(d,3)
def keep (d:Dsk) (s:ByteArray) (f:Fil) (sure:Bool):Dsk×Int:=bif Ce d&&(Dt s&&B0a f) then Ima d s f sure else (d,2)

section
open Go
end

section
variable {d:Dsk} {s:ByteArray} {f:Fil} {sure:Bool}
end

section
open Go
end

abbrev Dev:=Int×Int×Int
abbrev Rng:=Int×List (List Int)
def Gea (l:List Int) (n:Int):Bool:=l.any (· == n)
def G1a (l:List Dev) (id:Int):Option Dev:=l.find? (λ d=>d.1==id)
def Hsa (d:Dev):Bool:=inR d.1 0 20&&(inR d.2.1 0 20&&inR d.2.2 1 1000)
def Ina:Option Int→List Dev→Bool
 |_,[]=>true
 |none,d::l=>Hsa d&&Ina (some d.1) l
 |some q,d::l=>Hsa d&&(decide (q<d.1)&&Ina (some d.1) l)
def Hta (l:List Dev):Bool:=Ina none l&&inR (l.length:Int) 1 12
def Ioa (l:List Dev) (out:List Int) (id:Int):List Int:=match G1a l id with
 |some d=>bif Gea out d.2.1 then out else out++[d.2.1]
 |none=>out
def G2a (ids:List Int) (l:List Dev):List Int:=ids.foldl (Ioa l) []

def cnt (id n x:Int):Int:=bif x==id then n+1 else n
def Jba (id n:Int) (p:List Int):Int:=p.foldl (cnt id) n
def Qo (r:Rng) (id:Int):Int:=r.2.foldl (Jba id) 0

def Ipa (r:Rng) (p zs:List Int) (a:Option (Dev×Bool)) (d:Dev):Option (Dev×Bool):=
 bif Gea p d.1 then a else match a with
 |none=>some (d,!(Gea zs d.2.1))
 |some (b,fr)=>bif (!(Gea zs d.2.1)&&!fr)||(((!(Gea zs d.2.1))==fr)&&decide ((Qo r d.1+1)*b.2.2<(Qo r b.1+1)*d.2.2)) then some (d,!(Gea zs d.2.1)) else some (b,fr)
def Iqa (r:Rng) (p:List Int) (l:List Dev):Option (Dev×Bool):=l.foldl (Ipa r p (G2a p l)) none
def Jca (r:Rng) (p:List Int) (l:List Dev):Int:=match Iqa r p l with
 |some b=>b.1.1
 |none => -1
def bs (r:Rng):Option (Dev×Bool)→Int×Bool×Dev
 |some (b,fr)=>(Qo r b.1+1,fr,b)
 |none=>(0,false,-1,0,0)

def Hua (l:List Dev) (reps:Int) (ps:List (List Int)):Nat→List Int→List Int
 |0,p=>p
 |n+1,p=>Hua l reps ps n (p++[Jca (reps,ps++[p]) p l])
def J5a (l:List Dev) (reps:Int):Nat→List (List Int)→List (List Int)
 |0,ps=>ps
 |n+1,ps=>J5a l reps n (ps++[Hua l reps ps reps.toNat []])
def build (l:List Dev) (parts reps:Int):Rng×Bool:=bif Hta l&&(inR parts 1 64&&(inR reps 1 5&&!(decide (reps > (l.length:Int))))) then ((reps,J5a l reps parts.toNat []),true) else ((0,[]),false)

def hv (r:Rng) (l:List Dev) (b id:Int):Bool:=match G1a l b with
 |none=>false
 |some x=>match G1a l id with
  |none=>false
  |some d=>(d.2.1==x.2.1)&&decide (Qo r id-Qo r b≥2)

section
open Go
end

section
open Go
end

section
open Go
end

def Jda (l:List ByteArray) (s:ByteArray):Bool:=l.any λ y=>teq y s
def Ira (l:List ByteArray):Nat→ByteArray→List ByteArray×Nat
 |0,_=>(l,0)
 |k+1,s=>bif tlt s (l.getD k J3a) then Ira (l.set (k+1) (l.getD k J3a)) k s else (l,k+1)
def Jea (l:List ByteArray) (s:ByteArray):List ByteArray:=(Ira (l++[s]) l.length s).1.set (Ira (l++[s]) l.length s).2 s
def hS1 (l:List Nmd) (j:Nat) (out:List ByteArray) (x:Nmd):List ByteArray:=bif (J4a x.2).isSome&&(!(Jda out x.1)&&(E2a l x.1==(j:Int))) then Jea out x.1 else out
def hS (l:List Nmd):List Nmd→Nat→List ByteArray→List ByteArray
 |[],_,out=>out
 |x::r,j,out=>hS l r (j+1) (hS1 l j out x)

section
open Go
end

def Mp (v:BitVec 32) (b:Int):BitVec 32:=(v ^^^ ofInt 32 b)*16777619#32

section
variable {R:Type} {L:Nat→Int→Option (Sum Bool R)}
end

def quo (n:Int):Int:=n/2+1

section
open Go
end

section
open Go
end

def SzR (n:Int) (B:Prop) (r:Int):Prop:=r<0∨(0≤r∧r≤n∧B)
abbrev E7a:Nat:=140737488351232
abbrev Gr:Int:=1048576
def SzR.then {f:Nat→Option Int} {g:Int→Nat→Option Int} {n:Int} {B C:Prop} (hf:Tot f (SzR n B)) (hg:∀ r,0≤r→r≤n→Tot (g r) (SzR r C)):
  Tot (λ k=>(f k).bind λ r=>cond (decide (r<0)) (some (-1)) (g r k)) (SzR n (B∧C)):=by
 refine Jka hf ?_;intro r hr;refine Jqa (λ h=>Jja (.inl (by decide))) (λ h=>?_);rcases hr with hr|⟨h0,h1,hB⟩
 ·exact absurd hr h
 ·refine(hg r h0 h1).mono ?_;rintro q (hq|⟨q0,q1,hC⟩)
  ·exact .inl hq
  ·exact .inr ⟨q0,by omega,hB,hC⟩
def SzR.last {f:Nat→Option Int} {n:Int} {B:Prop} (hf:Tot f (SzR n B)):Tot (λ k=>(f k).bind λ r=>cond (decide (r<0)) (some (-1)) (some r)) (SzR n B):=by
 refine Jka hf ?_;intro r hr;exact Jqa (λ h=>Jja (.inl (by decide))) (λ h=>Jja hr)
def SzR.imp {f:Nat→Option Int} {n:Int} {B C:Prop} (hf:Tot f (SzR n B)) (h:B→C):Tot f (SzR n C):=
 hf.mono (by rintro r (hr|⟨h0,h1,hB⟩);exact .inl hr;exact .inr ⟨h0,h1,h hB⟩)
def G3a {f:Nat→Option Int} {n:Int} {m:Nat} {C:Prop} (hm:m≤E7a) (h0:0≤n) (h1:n≤Gr) (hf:(m:Int)≤Gr→0≤n-(m:Int)→Tot f (SzR (n-(m:Int)) C)):
  Tot (λ k=>cond (decide ((wrap .i64 (n-(m:Int)))<0)) (some (-1)) (f k)) (SzR n ((m:Int)≤Gr∧C)):=by
 simp only[E7a]at hm;simp only[Gr]at h1 hf ⊢;rw[w64 (n:=n-(m:Int)) (by omega) (by omega)];refine Jqa (λ h=>Jja (.inl (by decide))) (λ h=>?_);refine(hf (by omega) (by omega)).mono ?_;rintro q (hq|⟨q0,q1,hC⟩)
 ·exact .inl hq
 ·exact .inr ⟨q0,by omega,by omega,hC⟩
def Hva {n:Int} {m:Nat} (hm:m≤E7a) (h0:0≤n) (h1:n≤Gr):
  Tot (λ _=>cond (decide ((wrap .i64 (n-(m:Int)))<0)) (some (-1)) (some (wrap .i64 (n-(m:Int))))) (SzR n ((m:Int)≤Gr)):=by
 refine(G3a (C:=True) hm h0 h1 (λ h2 h3=>Jja ?_)).mono ?_
 ·simp only[E7a]at hm;simp only[Gr]at h1 h2;rw[w64 (n:=n-(m:Int)) (by omega) (by omega)];exact .inr ⟨h3,Int.le_refl _,trivial⟩
 ·rintro r (hr|⟨a,b,c,_⟩)
  ·exact .inl hr
  ·exact .inr ⟨a,b,c⟩
def Hwa {α:Type} (d:α) (l:List α) (B:α→Prop) {L:Nat→Int→Int→Option (Sum Int Int)}
  (hend:∀ s,Tot (λ k=>L (k+1) s (l.length:Int)) (λ r=>r = .inr s))
  (Mp:∀ (j:Nat) (s:Int) (Q:Sum Int Int→Prop),j<l.length→0≤s→s≤Gr→(∀ r,r<0→Q (.inl r))→(∀ r,SzR s (B (l.getD j d)) r→0≤r→Tot (λ k=>L k r ((j:Int)+1)) Q)→Tot (λ k=>L (k+1) s (j:Int)) Q)
  {n:Int} (h0:0≤n) (h1:n≤Gr):Tot (λ k=>(L k n 0).bind λ r1=>Sum.elim (λ y2=>some y2) (λ z3=>some z3) r1) (SzR n (∀ x∈l,B x)):=by
 refine Jka (Q:=λ r=>(∃ s,s<0∧r = .inl s)∨∃ s,r = .inr s∧0≤s∧s≤n∧∀ i,i<l.length→B (l.getD i d)) ?_ ?_
 ·refine Jsa (L:=λ k i (s:Int)=>L k s i) l.length (λ j s=>0≤s∧s≤n∧∀ i,i<j→B (l.getD i d)) ?_ ?_ 0 n (Wn _) ⟨h0,Int.le_refl _,λ i hi=>by omega⟩
  ·rintro s ⟨a,b,c⟩;exact(hend s).mono (by rintro r rfl;exact .inr ⟨s,rfl,a,b,c⟩)
  ·rintro j s hj ⟨a,b,c⟩ next;refine Mp j s _ hj a (by omega) (λ r hr => .inl ⟨r,hr,rfl⟩) (λ r hr h=>next r ?_);rcases hr with hr|⟨_,h2,h3⟩
   ·omega
   ·refine⟨h,by omega,λ i hi=>?_⟩
    by_cases e:i=j
    ·subst e;exact h3
    ·exact c i (by omega)
 ·rintro r (⟨s,hs,rfl⟩|⟨s,rfl,a,b,c⟩)
  ·exact Jja (.inl hs)
  ·refine Jja (.inr ⟨a,b,λ x hx=>?_⟩);obtain⟨i,hi,rfl⟩:=List.mem_iff_getElem.1 hx;have:=c i hi;rwa [Vm,Vp hi,Zb]at this
abbrev SmT (s:ByteArray):Prop:=(s.size:Int)≤Gr
abbrev SmL {α:Type} (l:List α):Prop:=(l.length:Int)≤Gr
abbrev HgT (s:ByteArray):Prop:=s.size≤E7a
abbrev HgL {α:Type} (l:List α):Prop:=l.length≤E7a
def B4a (x:Nmd):Prop:=HgT x.1∧HgL x.2
def Hs (l:List Nmd):Prop:=HgL l∧∀ x∈l,B4a x
def Mc (x:Nmd):Prop:=SmT x.1∧SmL x.2
def Dm (l:List Nmd):Prop:=SmL l∧∀ x∈l,Mc x
def V5 (l:List Int) (h:HgL l) {n:Int} (h0:0≤n) (h1:n≤Gr):Tot (λ _=>Cm l n) (SzR n (SmL l)):=Hva h h0 h1
def V6 (x:Nmd) (h:B4a x) {n:Int} (h0:0≤n) (h1:n≤Gr):Tot (λ _=>Cn x n) (SzR n (Mc x)):=
 G3a h.1 h0 h1 (λ h2 h3=>by
  have hh:=h.1;simp only[HgT,E7a,Gr]at hh h1;rw[w64 (n:=n-(x.1.size:Int)) (by omega) (by omega)]
  exact SzR.last (V5 x.2 h.2 h3 (by simp only[Gr];omega)))
def Md (l:List Nmd) (h:Hs l) {n:Int} (h0:0≤n) (h1:n≤Gr):Tot (λ k=>Aq k l n) (SzR n (Dm l)):=by
 have hh:=h.1;unfold Aq;refine G3a h.1 h0 h1 (λ h2 h3=>?_);simp only[HgL,E7a,Gr]at hh h1;rw[w64 (n:=n-(l.length:Int)) (by omega) (by omega)];refine Hwa Ci l Mc ?_ ?_ h3 (by simp only[Gr];omega)
 ·intro s;simp (disch:=omega) only [Bl,dF];exact Jja rfl
 ·intro j s Q hj s0 s1 no yes;have hm:=h.2 _ (Dr (d:=Ci) hj);have e0:l.getD j ((⟨#[]⟩:ByteArray),[])=l.getD j Ci:=rfl;simp (disch:=omega) only [Bl,dT,Vw,w64,e0];refine Jka (V6 (l.getD j Ci) hm s0 s1) ?_;intro r hr;exact Jqa (λ hc=>Jja (no _ (by decide))) (λ hc=>yes r hr (by omega))
def B5a (x:Dsk) (h:Hs x.1∧Hs x.2) {n:Int} (h0:0≤n) (h1:n≤Gr):Tot (λ k=>D7 k x n) (SzR n (Dm x.1∧Dm x.2)):=
 SzR.then (Md x.1 h.1 h0 h1) (λ r r0 r1=>SzR.last (Md x.2 h.2 r0 (Int.le_trans r1 h1)))
def B6a {α:Type} {l s:List α} {j:Nat} {z d:α} (hj:j<l.length) (h:s=l.take j++List.replicate (l.length-j) z):s.set j (l.getD j d)=l.take (j+1)++List.replicate (l.length-(j+1)) z:=by
 have hl:(l.take j).length=j:=by rw[Vj];omega
 rw[h,show l.length-j=(l.length-(j+1))+1 by omega,K2a,List.set_append_right _ _ (by omega),hl,L7a,List.set_cons_zero,List.take_succ_eq_append_getElem hj,Vl,Vm,Vp hj];rfl
def E8a {α:Type} (d z:α) (l:List α) {L:Nat→List α→Int→Option (List α)} (hend:∀ s,Tot (λ k=>L (k+1) s (l.length:Int)) (λ r=>r=s))
  (Mp:∀ (j:Nat) (s:List α) (Q:List α→Prop),j<l.length→s.length=l.length→Tot (λ k=>L k (s.set j (l.getD j d)) ((j:Int)+1)) Q→Tot (λ k=>L (k+1) s (j:Int)) Q):
  Tot (λ k=>L k (List.replicate l.length z) 0) (λ r=>r=l):=by
 refine Jsa (L:=λ k i (s:List α)=>L k s i) l.length (λ j s=>s=l.take j++List.replicate (l.length-j) z) ?_ ?_ 0 _ (Wn _) (by rw[Jva,Wl,Kla])
 ·rintro s h;rw[L7a,Kha,List.replicate_zero,Yc]at h;exact(hend s).mono (by rintro r rfl;exact h)
 ·rintro j s hj h next;refine Mp j s _ hj ?_ (next _ (B6a hj h));rw[h,Vi,Vj,Kza];omega
def E9a {n:Nat} {R:Type} {e:R} {L:Nat→Int→Option R} (hend:Tot (λ k=>L (k+1) (n:Int)) (λ r=>r=e)) (Mp:∀ (j:Nat) (Q:R→Prop),j<n→Tot (λ k=>L k ((j:Int)+1)) Q→Tot (λ k=>L (k+1) (j:Int)) Q):
  Tot (λ k=>L k 0) (λ r=>r=e):=
 Jsa (L:=λ k i (_:Unit)=>L k i) n (λ _ _=>True) (λ _ _=>hend) (λ j _ hj _ next=>Mp j _ hj (next () trivial)) 0 () (Wn _) trivial
def V7 (l:List Int) (h:SmL l):Tot (λ k=>C8 k l) (λ r=>r=l):=by
 have hl:(l.length:Int)≤1048576:=h;unfold C8;simp (disch:=omega) only [dT,Vw];refine Jka (Q:=λ r=>r=l) ?_ (by rintro r rfl;exact Jja rfl);refine E8a (L:=λ k s i=>Bg k l s i) (0:Int) _ l ?_ ?_
 ·intro s;simp (disch:=omega) only [Bg,dF];exact Jja rfl
 ·intro j s Q hj hs next;simp (disch:=omega) only [Bg,dT,Vw,w64];exact next
def V8 (x:Nmd) (h:Mc x):Tot (λ k=>Co k x) (λ r=>r=x):=Jka (V7 x.2 h.2) (by rintro r rfl;exact Jja rfl)
def Me (l:List Nmd) (h:Dm l):Tot (λ k=>Ar k l) (λ r=>r=l):=by
 have hl:(l.length:Int)≤1048576:=h.1;unfold Ar;simp (disch:=omega) only [dT,Vw];refine Jka (Q:=λ r=>r=l) ?_ (by rintro r rfl;exact Jja rfl);refine E8a (L:=λ k s i=>B8 k l s i) Ci _ l ?_ ?_
 ·intro s;simp (disch:=omega) only [B8,dF];exact Jja rfl
 ·intro j s Q hj hs next;have e0:l.getD j ((⟨#[]⟩:ByteArray),[])=l.getD j Ci:=rfl;simp (disch:=omega) only [B8,dT,Vw,w64,e0];refine Jka (V8 _ (h.2 _ (Dr (d:=Ci) hj))) ?_;rintro r rfl;exact next
def B7a (x:Dsk) (h:Dm x.1∧Dm x.2):Tot (λ k=>Ca k x) (λ r=>r=x):=Jka (Me x.1 h.1) (by rintro r rfl;exact Jka (Me x.2 h.2) (by rintro r rfl;exact Jja rfl))
def Isa (x:Int):(x != x)=false:=by rw[bne,beq_self_eq_true];rfl
def Jfa (s:ByteArray):(s.toList==s.toList)=true:=beq_self_eq_true _
def V9 (l:List Int) (h:SmL l):Tot (λ k=>C9 k l l) (λ r=>r=true):=by
 have hl:(l.length:Int)≤1048576:=h;unfold C9;refine Jla (Isa _) (Jka (Q:=λ r=>r = .inr ()) ?_ (by rintro r rfl;exact Jja rfl));refine E9a (L:=λ k i=>Bh k l l i) (n:=l.length) ?_ ?_
 ·simp (disch:=omega) only [Bh,dF];exact Jja rfl
 ·intro j Q hj next;simp (disch:=omega) only [Bh,dT,Vw,w64];exact Jla (Isa _) next
def Vr (x:Nmd) (h:Mc x):Tot (λ k=>Cp k x x) (λ r=>r=true):=Jla (by rw[Jfa];rfl) (Jka (V9 x.2 h.2) (by rintro r rfl;exact Jja rfl))
def Mf (l:List Nmd) (h:Dm l):Tot (λ k=>As k l l) (λ r=>r=true):=by
 have hl:(l.length:Int)≤1048576:=h.1;unfold As;refine Jla (Isa _) (Jka (Q:=λ r=>r = .inr ()) ?_ (by rintro r rfl;exact Jja rfl));refine E9a (L:=λ k i=>B9 k l l i) (n:=l.length) ?_ ?_
 ·simp (disch:=omega) only [B9,dF];exact Jja rfl
 ·intro j Q hj next;have e0:l.getD j ((⟨#[]⟩:ByteArray),[])=l.getD j Ci:=rfl;simp (disch:=omega) only [B9,dT,Vw,w64,e0];refine Jka (Vr _ (h.2 _ (Dr (d:=Ci) hj))) ?_;rintro r rfl;exact Jla rfl next
def Qp (x:Dsk) (h:Dm x.1∧Dm x.2):Tot (λ k=>Cb k x x) (λ r=>r=true):=Jka (Mf x.1 h.1) (by rintro r rfl;exact Jla rfl (Jka (Mf x.2 h.2) (by rintro r rfl;exact Jja rfl)))
def ByN (l:List Nmd):Prop:=∀ x∈l,Aqa x.2
def Ia {l:List Nmd} (h:Dm l):(Tz l∧G9 l)∧l.length≤2000000:=by
 have h1:(l.length:Int)≤1048576:=h.1;refine⟨⟨⟨by omega,λ x hx=>?_⟩,λ x hx=>?_⟩,by omega⟩
 ·have:(x.2.length:Int)≤1048576:=(h.2 x hx).2;omega
 ·have:(x.1.size:Int)≤1048576:=(h.2 x hx).1;show x.1.size≤_;omega

abbrev J7:Nat:=1000000000000000
def Qq {α:Type} (w:α→Nat):List α→Nat
 |[]=>0
 |x::l=>w x+Qq w l
def MH {α:Type} (m:Nat→α→Int→Option (Int×α)) (h:Nat→α→Int→Option Int) (b:Nat) (x:α):Prop:=∀ k:Nat,k+b≤J7→
 Tot (λ f=>m f x (k:Int)) (λ r=>∃ n:Nat,n≤b∧r.1=((k+n:Nat):Int)∧Tot (λ f=>h f r.2 (k:Int)) (λ q=>q=((k+n:Nat):Int)))
def Eaa {α:Type} (d:α) (M:Nat→Int→Int→List α→Option (Int×List α)) (H:Nat→List α→Int→Int→Option (Sum Int Int)) (l:List α) (w:α→Nat)
  (hMend:∀ (x:Int) (s:List α),s.length=l.length→Tot (λ f=>M (f+1) x (l.length:Int) s) (λ r=>r=(x,s)))
  (hHend:∀ (s:List α) (x:Int),Tot (λ f=>H (f+1) s x (s.length:Int)) (λ r=>r = .inr x))
  (Mp:∀ (j k:Nat) (s:List α),j<l.length→s.length=l.length→s.getD j d=l.getD j d→k+w (l.getD j d)≤J7→
   ∀ Q:Int×List α→Prop,(∀ (n:Nat) (y:α),n≤w (l.getD j d)→(∀ (s':List α) (Q':Sum Int Int→Prop),j<s'.length→s'.getD j d=y→Tot (λ f=>H f s' ((k+n:Nat):Int) ((j:Int)+1)) Q'→Tot (λ f=>H (f+1) s' (k:Int) (j:Int)) Q')→Tot (λ f=>M f ((k+n:Nat):Int) ((j:Int)+1) (s.set j y)) Q)→Tot (λ f=>M (f+1) (k:Int) (j:Int) s) Q)
  {k:Nat} (hk:k+Qq w l≤J7):Tot (λ f=>M f (k:Int) 0 l) (λ r=>∃ n:Nat,n≤Qq w l∧r.1=((k+n:Nat):Int)∧r.2.length=l.length∧Tot (λ f=>H f r.2 (k:Int) 0) (λ q=>q = .inr ((k+n:Nat):Int))):=by
 have main:∀ (c j n:Nat) (s:List α),l.length-j=c→j≤l.length→s.length=l.length→s.drop j=l.drop j→n+Qq w (l.drop j)≤Qq w l→
   (∀ (s':List α) (Q:Sum Int Int→Prop),s'.length=l.length→s'.take j=s.take j→Tot (λ f=>H f s' ((k+n:Nat):Int) (j:Int)) Q→Tot (λ f=>H f s' (k:Int) 0) Q)→
   Tot (λ f=>M f ((k+n:Nat):Int) (j:Int) s) (λ r=>∃ n:Nat,n≤Qq w l∧r.1=((k+n:Nat):Int)∧r.2.length=l.length∧Tot (λ f=>H f r.2 (k:Int) 0) (λ q=>q = .inr ((k+n:Nat):Int))):=by
  intro c
  induction c with
  |zero=>
   intro j n s hc hj hs hd hn hp
   have e:j=l.length:=by omega
   subst e;refine Tot.succ ((hMend _ s hs).mono ?_);rintro r rfl;refine⟨n,by omega,rfl,hs,hp s _ hs rfl (Tot.succ ?_)⟩;have:=hHend s ((k+n:Nat):Int);rw[hs]at this;exact this
  |succ c ih=>
   intro j n s hc hj hs hd hn hp
   have hlt:j<l.length:=by omega
   have hcons:l.drop j=l.getD j d::l.drop (j+1):=by
    rw[Vm,Vp hlt,Zb];exact Yg hlt
   have hsj:s.getD j d=l.getD j d:=by
    have:=congrArg (λ x=>x.getD 0 d) hd
    simpa[Vm,Wp] using this
   rw[hcons]at hn;have hn':n+(w (l.getD j d)+Qq w (l.drop (j+1)))≤Qq w l:=hn;refine Tot.succ (Mp j (k+n) s hlt hs hsj (by omega) _ (λ m y hm hh=>?_));rw[show k+n+m=k+(n+m) by omega]
   have hjj:(j:Int)+1=((j+1:Nat):Int):=by omega
   rw[hjj];refine ih (j+1) (n+m) (s.set j y) (by omega) (by omega) (by rw[Yk];exact hs) ?_ (by omega) (λ s' Q h1 h2 h3=>?_)
   ·rw[List.drop_set_of_lt (by omega)];have:=congrArg (List.drop 1) hd;rw[Wk,Wk]at this;exact this
   ·refine hp s' Q h1 ?_ ?_
    ·have:=congrArg (List.take j) h2;rw[Zk,Zk,Zh (by omega),List.take_set_of_le (by omega)]at this;exact this
    ·refine Tot.succ (hh s' Q (by omega) ?_ ?_)
     ·have:=congrArg (λ x=>x.getD j d) h2
      have hj1:j<s.length:=by omega
      simpa[Vm,Wb,List.getElem?_set,hj1] using this
     ·rw[hjj,show k+n+m=k+(n+m) by omega];exact h3
 have:=main l.length 0 0 l (by omega) (Wn _) rfl rfl (by rw[Wj];omega) (λ s' Q _ _ h=>h);exact this
def Ov {α:Type}:∀ l:List α,Qq (λ _=>1) l=l.length
 |[]=>rfl
 |x::l=>by rw[Qq,Ov l,Vh,Ze]
def G4a (l:List Int) (hl:l.length≤1000000000000):MH Bm Bn l.length l:=by
 intro k hk
 have h:=Eaa (0:Int) (λ f x i s=>Az f x i s) (λ f s x i=>B0 f s x i) l (λ _=>1)
  (λ x s hs=>by simp only[Az];exact Joa (by omega) (Jja rfl))
  (λ s x=>by simp only[B0];exact Joa (by omega) (Jja rfl))
  (λ j k s hj hs hsj hk Q next=>by
   simp only[Az,J7]at hk ⊢;refine Jna (by omega) (Jna (by omega) (Jna (by omega) ?_));rw[show toNat (j:Int)=j from Vw j,w64 (n:=(j:Int)+1) (by omega) (by omega),w64 (n:=(k:Int)+1) (by omega) (by omega)];refine next 1 (wrap .u8 (k:Int)) (Vo _) (λ s' Q' hj' hy h=>?_);simp only[B0];refine Jna (by omega) (Jna (by omega) (Jna (by omega) ?_));rw[show toNat (j:Int)=j from Vw j,w64 (n:=(j:Int)+1) (by omega) (by omega),w64 (n:=(k:Int)+1) (by omega) (by omega)];refine Jla (by rw[hy,bne,beq_self_eq_true];rfl) ?_
   exact h) (k:=k) (by rw[Ov];exact hk)
 unfold Bm;refine Jka h ?_;rintro⟨r1,r2⟩ ⟨n,hn,rfl,hlen,hh⟩;rw[Ov]at hn;refine Jja ⟨n,hn,rfl,?_⟩;unfold Bn;refine Jka hh ?_;rintro _ rfl;exact Jja rfl
def Sf:∀ (m:Nat) (x:Nat) (t:ByteArray),x<10 ^ m→x≤J7→t.size+m≤1000000→Tot (λ f=>Ba f (x:Int) t) (λ r=>r.size≤t.size+m):=by
 intro m
 induction m with
 |zero=>
  intro x t hx hx2 ht
  have:x=0:=by simpa using hx
  subst this;refine Tot.succ ?_;simp only[Ba];exact Joa (by omega) (Jja (by omega))
 |succ m ih=>
  intro x t hx hx2 ht;simp only[J7]at hx2;refine Tot.succ ?_;simp only[Ba];refine Jqa (λ h=>?_) (λ h=>Jja (by omega))
  have hs:(Kg [wrap .u8 (wrap .i64 (48+(Int.tmod (x:Int) 10)))]).size=1:=by rw[V0];rfl
  refine Jra (by rw[hs];omega) ?_
  have hq:Int.tdiv (x:Int) 10=((x/10:Nat):Int):=by
   rw[Int.tdiv_eq_ediv_of_nonneg (by omega)];omega
  have hxx:x<10*10 ^ m:=by rw[Nat.pow_succ,Nat.mul_comm]at hx;exact hx
  rw[hq,w64 (by omega) (by omega)];refine(ih (x/10) _ (by omega) (by simp only[J7];omega) ?_).mono ?_
  ·rw[ByteArray.size_append,hs];omega
  ·intro r hr;rw[ByteArray.size_append,hs]at hr;omega
def Sg (k:Nat) (hk:k≤J7):Tot (λ f=>Ay f (k:Int)) (λ _=>True):=by
 unfold Ay;refine Jqa (λ h=>Jja trivial) (λ h=>?_);refine Jka (Sf 17 k _ (by simp only[J7]at hk;omega) hk (by decide)) ?_;intro r hr;have h0:(⟨#[]⟩:ByteArray).size=0:=rfl;have h1:(⟨#[109]⟩:ByteArray).size=1:=rfl;rw[h0]at hr;exact Jra (by rw[h1];omega) (Jja trivial)
def Qr (k:Nat) (hk:k≤J7):∃ t,Tot (λ f=>Ay f (k:Int)) (λ r=>r=t):=by
 obtain⟨t,K,h,_⟩:=Sg k hk;exact⟨t,t,K,h,rfl⟩
abbrev Dca (x:Nmd):Nat:=1+x.2.length
def U3 (l:List Nmd) (hl:l.length≤1000000000000) (hb:∀ x∈l,x.2.length≤1000000000000):MH Aj Al (Qq Dca l) l:=by
 intro k hk
 have h:=Eaa Ci (λ f x i s=>Au f x i s) (λ f s x i=>Av f s x i) l Dca
  (λ x s hs=>by simp only[Au];exact Joa (by omega) (Jja rfl))
  (λ s x=>by simp only[Av];exact Joa (by omega) (Jja rfl))
  (λ j k s hj hs hsj hk Q next=>by
   have e0:∀ (z:List Nmd) (i:Nat),z.getD i ((⟨#[]⟩:ByteArray),([]:List Int))=z.getD i Ci:=λ _ _=>rfl
   have hjl:(l.getD j Ci).2.length≤1000000000000:=by
    rw[Vm,Vp hj,Zb];exact hb _ (Kva hj)
   simp only[Au,Dca,J7]at hk ⊢;obtain⟨t,ht⟩:=Qr k (by simp only[J7];omega);refine Jna (by omega) (Jta ht ?_);refine Jna (by omega) (Jna (by omega) (Jna (by omega) (Jna (by rw[Yk];omega) ?_)))
   have e1:((s.set j (t,(s.getD j Ci).2)).getD j Ci)=(t,(l.getD j Ci).2):=by
    rw[hsj,Vm,List.getElem?_set]
    have:j<s.length:=by omega
    simp[this]
   simp only[show toNat (j:Int)=j from Vw j,e0,e1];rw[w64 (n:=(j:Int)+1) (by omega) (by omega),w64 (n:=(k:Int)+1) (by omega) (by omega),show (k:Int)+1=((k+1:Nat):Int) by omega];refine Jka (G4a _ hjl (k+1) (by simp only[J7];omega)) ?_;rintro⟨r1,r2⟩ ⟨n,hn,rfl,hh⟩;rw[List.set_set,show k+1+n=k+(1+n) by omega];refine next (1+n) (t,r2) (by simp only[Dca];omega) (λ s' Q' hj' hy h=>?_);simp only[Av];refine Jna (by omega) (Jna (by omega) (Jna (by omega) (Jta ht ?_)));simp only[show toNat (j:Int)=j from Vw j,e0,hy];refine Jla (by rw[beq_self_eq_true];rfl) (Jna (by omega) (Jna (by omega) ?_));rw[w64 (n:=(j:Int)+1) (by omega) (by omega),w64 (n:=(k:Int)+1) (by omega) (by omega),show (k:Int)+1=((k+1:Nat):Int) by omega];refine Jka hh ?_;rintro _ rfl;refine Joa (by omega) ?_;rw[show k+1+n=k+(1+n) by omega]
   exact h) (k:=k) hk
 unfold Aj;refine Jka h ?_;rintro⟨r1,r2⟩ ⟨n,hn,rfl,hlen,hh⟩;refine Jja ⟨n,hn,rfl,?_⟩;unfold Al;refine Jka hh ?_;rintro _ rfl;exact Jja rfl
abbrev Hxa (d:Dsk):Nat:=Qq Dca d.1+Qq Dca d.2
def MkL (l:List Nmd):Prop:=l.length≤1000000000000∧∀ x∈l,x.2.length≤1000000000000
def Hya (d:Dsk) (h1:MkL d.1) (h2:MkL d.2):MH Bq Br (Hxa d) d:=by
 intro k hk;simp only[Hxa]at hk;unfold Bq;refine Jka (U3 d.1 h1.1 h1.2 k (by omega)) ?_;rintro⟨r1,r2⟩ ⟨n,hn,rfl,hh⟩;refine Jka (U3 d.2 h2.1 h2.2 (k+n) (by omega)) ?_;rintro⟨q1,q2⟩ ⟨m,hm,rfl,hh2⟩;refine Jja ⟨n+m,by simp only[Hxa];omega,by dsimp only;omega,?_⟩;unfold Br;refine Jka hh ?_;rintro _ rfl;refine Joa (by omega) (Jka hh2 ?_);rintro _ rfl;refine Joa (by omega) (Jja (by omega))

def tyB (ti:TypeId→Option TI) (e:TypeId):Bool:=match ti e with
 |some te=>Nat.ble 1 te.by_
 |none=>false
section
variable {ti:TypeId→Option TI}
def B8a {e:TypeId} {r:Ty} {xs:List r.den} (h:Ty.fit ti (.sl e r) xs) (hk:tyB ti e=true):HgL xs:=by
 unfold tyB at hk;split at hk
 ·rename_i te ht;have h1:=h.1 te ht;have h2:=Vd hk;show xs.length≤140737488351232;exact Yo (Nat.le_mul_of_pos_right _ (by omega)) h1
 ·cases hk
abbrev byT (b:TypeId):Ty := .sl b (.i .u8)
abbrev Ita (b:TypeId):Ty := .pr .s (byT b)
abbrev Jga (b n:TypeId):Ty := .pr (.sl n (Ita b)) (.sl n (Ita b))
def B9a {b:TypeId} {xs:List Int} (h:Ty.fit ti (byT b) xs):Aqa xs:=λ x hx=>by
 have:=h.2 x hx;have h1:(decide (IntKind.min .u8≤x)&&decide (x≤IntKind.max .u8))=true:=this;rw[Va,decide_eq_true_iff,decide_eq_true_iff]at h1;exact h1
def J8 {b n:TypeId} {l:List Nmd} (h:Ty.fit ti (.sl n (Ita b)) l) (hb:tyB ti b=true) (hn:tyB ti n=true):Hs l∧ByN l:=
 ⟨⟨B8a h hn,λ x hx=>⟨Yo (h.2 x hx).1 (by decide),B8a (h.2 x hx).2 hb⟩⟩,λ x hx=>B9a (h.2 x hx).2⟩
end

def Jha {ti:TypeId→Option TI} {b n:TypeId} {d:Dsk} (hk:(tyB ti b&&tyB ti n)=true) (h:Ty.fit ti (Jga b n) d):(Hs d.1∧Hs d.2)∧ByN d.1∧ByN d.2:=by
 rw[Va]at hk;obtain⟨h1,h2⟩:=h;exact⟨⟨(J8 h1 hk.1 hk.2).1,(J8 h2 hk.1 hk.2).1⟩,(J8 h1 hk.1 hk.2).2,(J8 h2 hk.1 hk.2).2⟩
abbrev SmD (d:Dsk):Prop:=Dm d.1∧Dm d.2
def U4 {d:Dsk} (h:SmD d):DIn d:=by
 obtain⟨⟨a1,a2⟩,a3⟩:=Ia h.1;obtain⟨⟨b1,b2⟩,b3⟩:=Ia h.2;exact⟨⟨⟨a1,b1⟩,a2,b2⟩,a3,b3⟩
def Hza {l:List Nmd} (h:Cj l=true):Dm l:=by
 obtain⟨_,h2,h3⟩:=Bx.1 h;refine⟨by show (l.length:Int)≤1048576;omega,λ x hx=>?_⟩;obtain⟨h4,h5⟩:=Mb.1 (h2 x hx);have h6:=(I9 h4).2;exact⟨by show (x.1.size:Int)≤1048576;omega,by show (x.2.length:Int)≤1048576;omega⟩
def Jia {d:Dsk} (h:Ce d=true):SmD d:=by
 unfold Ce at h;rw[Va]at h;exact⟨Hza h.1,Hza h.2⟩
def Baa {α:Type} (w:α→Nat) (c:Nat):∀ l:List α,(∀ x∈l,w x≤c)→Qq w l≤l.length*c
 |[],_=>by simp[Qq]
 |x::l,h=>by
  have h1:=h x (by simp);have h2:=Baa w c l (λ y hy=>h y (Ve _ hy));rw[Qq,Vh,Kka];omega
def I0a {l:List Nmd} (h:Dm l):Qq Dca l≤1099512676352:=by
 have h0:(l.length:Int)≤1048576:=h.1
 have h1:=Baa Dca 1048577 l (λ x hx=>by
  have:(x.2.length:Int)≤1048576:=(h.2 x hx).2;simp only[Dca]
  omega)
 have h2:l.length*1048577≤1048576*1048577:=Wd _ (by omega);omega
def Iua {d:Dsk} (h:SmD d):Hxa d≤2199025352704:=by
 have h1:=I0a h.1;have h2:=I0a h.2;simp only[Hxa];omega
def Eba {l:List Nmd} (h:Dm l):MkL l:=(Ia h).1.1
def mhD {d:Dsk} (h:SmD d) (k:Nat) (hk:k≤900000000000000):Tot (λ f=>Bq f d (k:Int)) (λ r=>∃ n:Nat,n≤2199025352704∧r.1=((k+n:Nat):Int)∧Tot (λ f=>Br f r.2 (k:Int)) (λ q=>q=((k+n:Nat):Int))):=by
 have hw:=Iua h;refine(Hya d (Eba h.1) (Eba h.2) k (by simp only[J7];omega)).mono ?_;rintro r ⟨n,h1,h2,h3⟩;exact⟨n,by omega,h2,h3⟩
def Dda (d:Dsk) (s:ByteArray) (hd:SmD d) (hs:Hd s):∃ v:Dsk×Bool,Tot (λ k=>Bs k d s) (λ r=>r=v)∧Tot (λ k=>Be k d s) (λ r=>r=v)∧SmD v.1:=by
 cases h1:Ce d
 ·refine⟨(d,false),(Ot d s (U4 hd) hs).mono ?_,(Ou d s (U4 hd) hs).mono ?_,hd⟩<;>(rintro r rfl;rw[h1];rfl)
 cases h2:Dt s
 ·refine⟨(d,false),(Ot d s (U4 hd) hs).mono ?_,(Ou d s (U4 hd) hs).mono ?_,hd⟩<;>(rintro r rfl;rw[h1,h2];rfl)
 exact⟨syD d s,B3a h1 h2,B2a h1 h2,Jia (Hra h1 h2)⟩

end Go.Proofs.Ytbbifgjgneefkaa.Vf

section
set_option linter.unusedVariables false
set_option linter.unusedSimpArgs false
namespace Go.Proofs.Ytbbifgjgneefkaa.Pure
open Go Go.RowKit Go.Proofs.Ytbbifgjgneefkaa.Vf
theorem FnExactSyncName:∀ (a0:(List (ByteArray×(List Int)))×(List (ByteArray×(List Int)))) (a1:ByteArray),Ty.fit ti (.pr (.sl 80 (.pr .s (.sl 5 (.i .u8)))) (.sl 80 (.pr .s (.sl 5 (.i .u8))))) a0→Ty.fit ti .s a1→∃ k,Ap k a0 a1=some true:=by
 intro a0 a1 f0 f1;obtain⟨hg,hb⟩:=Jha (by kernel_rfl) f0;refine Tot.law (f:=λ k=>Ap k a0 a1) ?_;unfold Ap;refine Jqa (λ _=>Jja rfl) (λ hs1=>?_)
 have hs:Hd a1:=by show a1.size≤_;omega
 refine Jka (B5a a0 hg (by decide) (by decide)) ?_;intro r hr;refine Jqa (λ _=>Jja rfl) (λ h=>?_);rcases hr with hr|⟨_,_,hd⟩
 ·exact absurd hr h
 have tD:=B7a a0 hd;obtain⟨v,v1,v2,v3⟩:=Dda a0 a1 hd hs;have eV:=Qp v.1 v3;refine Jta tD (Jta v1 (Jta tD (Jta v2 (Jta eV (Jla rfl (Jla (by rw[beq_self_eq_true];rfl) ?_))))));refine Jta tD (Jta (Qp a0 hd) (Jla rfl ?_));refine Jka (mhD hd 1 (by decide)) ?_;rintro⟨q1,q2⟩ ⟨n,hn,rfl,_⟩;refine Joa (by omega) (Jta eV (Jla rfl (Jla (by rw[beq_self_eq_true];rfl) ?_)));refine Jka (mhD v3 1 (by decide)) ?_;rintro⟨g1,g2⟩ ⟨c,hc,rfl,hh⟩;refine Jta hh (Joa (by omega) (Jla (by rw[bne,beq_self_eq_true];rfl) ?_));refine Jta tD (Jta v2 (Jta eV (Jla rfl (Jla (by rw[beq_self_eq_true];rfl) ?_))));exact Jta hh (Joa (by omega) (Jla (by rw[bne,beq_self_eq_true];rfl) (Jja rfl)))
end Go.Proofs.Ytbbifgjgneefkaa.Pure
end
