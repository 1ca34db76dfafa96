import Derived.Test.YtiiekghlhfbmmaaGreatMal
set_option linter.all false
namespace Go.Proofs.YtiiekghlhfbmmaaGreat.Vf
open Go
open List (length getD)
open Int (toNat)
open Go.IntKind (wrap)
open BitVec (ofInt)
def Yc:=@Bool.and_false
def Yw:=@Bool.not_true
def Zk:=@Bool.not_false
def Zq:=@List.takeWhile_cons
def Zz:=@List.filter_cons
def Zza:=@Bool.false_or
def L2b:=@List.takeWhile_append_dropWhile
def Lbb:=@List.mem_filter
def Lcb:=@Bool.eq_iff_iff
def Lkb:=@List.dropWhile_cons
def Lpb:=@Bool.true_or
def Mkb:=@List.filter_sublist
def Mvb:=@List.findIdx?_eq_none_iff
def Myb:=@Go.IntWalk.u32_in
def N0b:=@List.append_cancel_left
def N3b:=@List.takeWhile_sublist
def N7b:=@BitVec.xor_comm
def N8b:=@BitVec.eq_of_toNat_eq
def Ndb:=@Nat.mod_lt

def nOk (x:Nmd):Bool:=Bi x.1&&!(decide ((x.2.length:Int) > 400))
def chn:Option ByteArray→List Nmd→Bool
 |_,[]=>true
 |none,r::l=>nOk r&&chn (some r.1) l
 |some q,r::l=>nOk r&&(tlt q r.1&&chn (some r.1) l)
def Kq (l:List Nmd):Bool:=chn none l&&decide ((l.length:Int)≤60)
def B7 (d:Dsk):Bool:=Kq d.1&&Kq d.2
def Rl (l:List Nmd):Prop:=∀ x∈l,Ni x.1
def Cxa (d:Dsk):Prop:=Rl d.1∧Rl d.2
def Awa (l:List Nmd):Nat→Option ByteArray
 |0=>none
 |i+1=>some (l.getD i Dy).1
def Oxa (l:List Nmd) (i:Nat) (h:i<l.length):chn (Awa l i) (l.drop i)=(nOk (l.getD i Dy)&&(bif decide (0<i) then tlt (l.getD (i-1) Dy).1 (l.getD i Dy).1 else true)&&chn (Awa l (i+1)) (l.drop (i+1))):=by
 rw[Aj (d:=Dy) h]
 cases i with
 |zero=>simp[Awa,chn]
 |succ i=>simp[Awa,chn,Nfb]
def Jfa (l:List Nmd) (hf:l.length≤1000000000000) (hs:Rl l):∀ (n i:Nat),l.length-i=n→i≤l.length→
  Tot (λ k=>Fh k l l (l.length:Int) (i:Int)) (λ r=>r=bif chn (Awa l i) (l.drop i) then .inr l else .inl false):=by
 intro n
 induction n with
 |zero=>
  intro i hn hi;refine Tot.succ ?_;simp only[Fh];refine Jwb (by omega) (Jrb ?_);rw[Wk (by omega)]
  cases Awa l i<;>rfl
 |succ n ih=>
  intro i hn hi
  have hlt:i<l.length:=by omega
  refine Tot.succ ?_;simp only[Fh];refine Jvb (by omega) (Jvb (by omega) (Jvb (by omega) ?_));rw[show toNat (i:Int)=i from Vc i,w64 (n:=(i:Int)+1) (by omega) (by omega),Oxa l i hlt];have h1:=ih (i+1) (by omega) (by omega)
  have e:(((i+1:Nat)):Int)=(i:Int)+1:=by omega
  rw[e]at h1;have e0:l.getD i ((⟨#[]⟩:ByteArray),([]:List Int))=l.getD i Dy:=rfl;rw[e0];refine K3b (Sa (l.getD i Dy).1 (hs _ (A3 hlt))) ?_;cases hb:Bi (l.getD i Dy).1
  ·exact Jub rfl (Jrb (by rw[show nOk (l.getD i Dy)=false by unfold nOk;rw[hb];rfl];rfl))
  refine Jtb rfl ?_;refine Jyb (λ h4=>Jrb (by rw[show nOk (l.getD i Dy)=false by unfold nOk;rw[decide_eq_true h4,hb];rfl];rfl)) (λ h4=>?_)
  have hnk:nOk (l.getD i Dy)=true:=by unfold nOk;rw[hb,decide_eq_false h4];rfl
  rw[hnk,Vw];refine Jyb (λ h0=>?_) (λ h0=>?_)
  ·rw[w64 (n:=(i:Int)-1) (by omega) (by omega)];refine Jvb (by omega) (Jvb (by omega) ?_);rw[show toNat ((i:Int)-1)=i-1 by omega,decide_eq_true (show 0<i by omega),cond_true];refine Jxb (λ ht=>?_) (λ ht=>?_)
   ·have ht':(!(tlt (l.getD (i-1) Dy).1 (l.getD i Dy).1))=true:=ht;rw[Vx]at ht';exact Jrb (by rw[ht'];rfl)
   ·have ht':(!(tlt (l.getD (i-1) Dy).1 (l.getD i Dy).1))=false:=ht;rw[Wl]at ht';rw[ht',Vw];exact h1
  ·rw[decide_eq_false (show ¬ 0<i by omega),cond_false,Vw];exact h1
def Jga (l:List Nmd) (hf:l.length≤1000000000000) (hs:Rl l):∀ (n i:Nat),l.length-i=n→i≤l.length→
  Tot (λ k=>Ha k l (i:Int)) (λ r=>r=bif chn (Awa l i) (l.drop i) then .inr l else .inl false):=by
 intro n
 induction n with
 |zero=>
  intro i hn hi;refine Tot.succ ?_;simp only[Ha];refine Jwb (by omega) (Jrb ?_);rw[Wk (by omega)]
  cases Awa l i<;>rfl
 |succ n ih=>
  intro i hn hi
  have hlt:i<l.length:=by omega
  refine Tot.succ ?_;simp only[Ha];refine Jvb (by omega) (Jvb (by omega) (Jvb (by omega) ?_));rw[show toNat (i:Int)=i from Vc i,w64 (n:=(i:Int)+1) (by omega) (by omega),Oxa l i hlt];have h1:=ih (i+1) (by omega) (by omega)
  have e:(((i+1:Nat)):Int)=(i:Int)+1:=by omega
  rw[e]at h1;have e0:l.getD i ((⟨#[]⟩:ByteArray),([]:List Int))=l.getD i Dy:=rfl;rw[e0];refine K3b (Xd (l.getD i Dy).1 (hs _ (A3 hlt))) ?_;cases hb:Bi (l.getD i Dy).1
  ·exact Jub rfl (Jrb (by rw[show nOk (l.getD i Dy)=false by unfold nOk;rw[hb];rfl];rfl))
  refine Jtb rfl (Jvb (by omega) (Jvb (by omega) ?_));refine Jyb (λ h4=>Jrb (by rw[show nOk (l.getD i Dy)=false by unfold nOk;rw[decide_eq_true h4,hb];rfl];rfl)) (λ h4=>?_)
  have hnk:nOk (l.getD i Dy)=true:=by unfold nOk;rw[hb,decide_eq_false h4];rfl
  rw[hnk,Vw];refine Jyb (λ h0=>?_) (λ h0=>?_)
  ·rw[w64 (n:=(i:Int)-1) (by omega) (by omega)];refine Jvb (by omega) (Jvb (by omega) (Jvb (by omega) (Jvb (by omega) ?_)));rw[show toNat ((i:Int)-1)=i-1 by omega,decide_eq_true (show 0<i by omega),cond_true];refine Jxb (λ ht=>?_) (λ ht=>?_)
   ·have ht':(!(tlt (l.getD (i-1) Dy).1 (l.getD i Dy).1))=true:=ht;rw[Vx]at ht';exact Jrb (by rw[ht'];rfl)
   ·have ht':(!(tlt (l.getD (i-1) Dy).1 (l.getD i Dy).1))=false:=ht;rw[Wl]at ht';rw[ht',Vw];exact h1
  ·rw[decide_eq_false (show ¬ 0<i by omega),cond_false,Vw];exact h1
def Jha (l:List Nmd) (hf:l.length≤1000000000000) (hs:Rl l):Tot (λ k=>F7 k l) (λ r=>r=Kq l):=by
 unfold F7 Kq;refine K3b (Jfa l hf hs _ 0 rfl (Vq _)) ?_;rw[Yb];show Tot _ (λ r=>r=(chn none l&&_))
 cases hc:chn none l with
 |true=>rw[show chn (Awa l 0) l=true from hc];exact Jrb (by rw[Vw])
 |false=>rw[show chn (Awa l 0) l=false from hc];exact Jrb rfl
def Jia (l:List Nmd) (hf:l.length≤1000000000000) (hs:Rl l):Tot (λ k=>Gt k l) (λ r=>r=Kq l):=by
 unfold Gt Kq;refine K3b (Jga l hf hs _ 0 rfl (Vq _)) ?_;rw[Yb];show Tot _ (λ r=>r=(chn none l&&_))
 cases hc:chn none l with
 |true=>rw[show chn (Awa l 0) l=true from hc];exact Jrb (by rw[Vw])
 |false=>rw[show chn (Awa l 0) l=false from hc];exact Jrb rfl
def U8 (d:Dsk) (hf:Zoa d) (hs:Cxa d):Tot (λ k=>Ay k d) (λ r=>r=B7 d):=by
 unfold Ay B7;refine K3b (Jha d.1 hf.1.1 hs.1) ?_;cases h:Kq d.1
 ·exact Jtb rfl (Jrb rfl)
 refine Jub rfl (K3b (Jha d.2 hf.2.1 hs.2) ?_);exact Jrb (by rw[Vw])
def plc (l:List Nmd) (s:ByteArray):Nat:=(l.takeWhile (λ y=>tlt y.1 s)).length
def ins (l:List Nmd) (x:Nmd):List Nmd:=l.take (plc l x.1)++[x]++l.drop (plc l x.1)
def C3b (l:List Nmd) (s:ByteArray):plc l s≤l.length:=(N3b _).length_le
def Mca (l:List Nmd) (s:ByteArray) (b:List Int) (hf:l.length≤1000000000000):∀ (n i:Nat),l.length-i=n→i≤l.length→
  Tot (λ k=>Ly k l (i:Int) s b) (λ r=>r=(l,((i+plc (l.drop i) s:Nat):Int),s,b)):=by
 intro n
 induction n with
 |zero=>
  intro i hd hi;refine Tot.succ ?_;simp only[Ly];refine Jwb (by omega) (Jrb ?_);rw[Wk (by omega)];rfl
 |succ n ih=>
  intro i hd hi
  have hlt:i<l.length:=by omega
  refine Tot.succ ?_;simp only[Ly];refine Jvb (by omega) (Jvb (by omega) (Jvb (by omega) ?_));rw[show toNat (i:Int)=i from Vc i,w64 (n:=(i:Int)+1) (by omega) (by omega),Aj (d:=Dy) hlt];have e0:l.getD i ((⟨#[]⟩:ByteArray),([]:List Int))=l.getD i Dy:=rfl;rw[e0]
  have e1:plc (l.getD i Dy::l.drop (i+1)) s=if tlt (l.getD i Dy).1 s then plc (l.drop (i+1)) s+1 else 0:=by
   unfold plc;rw[Zq]
   split<;>rfl
  rw[e1];refine Jxb (λ h=>?_) (λ h=>?_)
  ·have h':tlt (l.getD i Dy).1 s=true:=h;rw[if_pos h'];refine(ih (i+1) (by omega) (by omega)).mono ?_;rintro r rfl;rw[show i+1+plc (l.drop (i+1)) s=i+(plc (l.drop (i+1)) s+1) by omega]
  ·have h':¬ (tlt (l.getD i Dy).1 s=true):=by
    have:tlt (l.getD i Dy).1 s=false:=h;rw[this];simp
   rw[if_neg h'];exact Jrb rfl
def Oya (l:List Nmd) (x:Nmd) (hf:l.length≤1000000000000):Tot (λ k=>N8 k l x) (λ r=>r=ins l x):=by
 unfold N8 ins;refine Jsb (Mca l x.1 x.2 hf _ 0 rfl (Nat.zero_le _)) ?_;intro r hr;rw[List.drop_zero,Nat.zero_add]at hr;subst hr;have hp:=C3b l x.1;dsimp only;refine Jvb (by omega) (Jvb (by omega) ?_);rw[show toNat ((plc l x.1:Nat):Int)=plc l x.1 from Int.toNat_natCast _];refine Jzb (by simp only[List.length_nil,List.length_take];omega) ?_;refine Jzb (by simp only[List.length_append,List.length_nil,List.length_take,List.length_cons];omega) ?_;refine Jvb (by omega) (Jvb (by omega) (Jzb (by simp only[List.length_append,List.length_nil,List.length_take,List.length_drop,List.length_cons];omega) (Jrb ?_)));rw[List.nil_append]

def Mda (l:List Int) (h:l.length≤1000000000000):(length ([]:List Int)+l.length)*1≤140737488355328:=by
 simp only[Vk];omega
def Cya (l:List Nmd) (hf:Hoa l):∀ (n i:Nat) (acc:List Nmd),l.length-i=n→i≤l.length→acc.length≤i→
  Tot (λ k=>Cj k l acc (i:Int)) (λ r=>r=acc++l.drop i):=by
 obtain⟨h1,h2⟩:=hf;intro n
 induction n with
 |zero=>
  intro i acc hd hi ha;refine Tot.succ ?_;simp only[Cj];refine Jwb (by omega) (Jrb ?_);rw[Wk (by omega),Wq]
 |succ n ih=>
  intro i acc hd hi ha
  have hlt:i<l.length:=by omega
  refine Tot.succ ?_;simp only[Cj];refine Jvb (by omega) (Jvb (by omega) (Jvb (by omega) (Jvb (by omega) (Jvb (by omega) ?_))));rw[show toNat (i:Int)=i from Vc i,w64 (n:=(i:Int)+1) (by omega) (by omega),Aj (d:=Dy) hlt];have e0:l.getD i ((⟨#[]⟩:ByteArray),([]:List Int))=l.getD i Dy:=rfl;rw[e0];have hb:=h2 _ (A3 (d:=Dy) hlt);refine Jzb (Mda _ hb) (Jzb (by simp only[Vd,Vk];omega) ?_);refine(ih (i+1) (acc++[l.getD i Dy]) (by omega) (by omega) (by simp only[Ve,Vd,Vk];omega)).mono ?_;rintro r rfl;rw[Vn];rfl
def Qs (l:List Nmd) (hf:Hoa l):Tot (λ k=>Bt k l) (λ r=>r=l):=by
 unfold Bt;refine Jsb (Cya l hf _ 0 [] rfl (Vq _) (Vq _)) ?_;intro r hr;rw[Yb,Wa]at hr;exact Jrb hr
def Nn (d:Dsk) (hf:Zoa d):Tot (λ k=>A6 k d) (λ r=>r=d):=by
 unfold A6;refine K3b (Qs d.1 hf.1) ?_;refine K3b (Qs d.2 hf.2) ?_;exact Jrb rfl
def Vaa (l:List Nmd) (s:ByteArray) (hf:l.length≤1000000000000):∀ (n i:Nat),l.length-i=n→i≤l.length→
  Tot (λ k=>Kx k l s (i:Int)) (λ r=>r=match fnd (l.drop i) s with|some j => .inl ((i+j:Nat):Int)|none => .inr ()):=by
 intro n
 induction n with
 |zero=>
  intro i hd hi;refine Tot.succ ?_;simp only[Kx];refine Jwb (by omega) (Jrb ?_);rw[Wk (by omega)];rfl
 |succ n ih=>
  intro i hd hi
  have hlt:i<l.length:=by omega
  refine Tot.succ ?_;simp only[Kx];refine Jvb (by omega) (Jvb (by omega) (Jvb (by omega) ?_));rw[show toNat (i:Int)=i from Vc i,w64 (n:=(i:Int)+1) (by omega) (by omega),Aj (d:=Dy) hlt];have e0:l.getD i ((⟨#[]⟩:ByteArray),([]:List Int))=l.getD i Dy:=rfl;rw[e0]
  have e1:fnd (l.getD i Dy::l.drop (i+1)) s=if teq (l.getD i Dy).1 s then some 0 else (fnd (l.drop (i+1)) s).map (· + 1):=by
   unfold fnd;rw[Lvb]
  rw[e1];refine Jxb (λ h=>?_) (λ h=>?_)
  ·have h':teq (l.getD i Dy).1 s=true:=h;rw[if_pos h'];exact Jrb rfl
  ·have h':¬ (teq (l.getD i Dy).1 s=true):=by
    have:teq (l.getD i Dy).1 s=false:=h;rw[this];simp
   rw[if_neg h'];refine(ih (i+1) (by omega) (by omega)).mono ?_;rintro r rfl
   cases fnd (l.drop (i+1)) s with
   |none=>rfl
   |some j=>
    show Sum.inl _=Sum.inl _;rw[show i+1+j=i+(j+1) by omega]
def F6a (l:List Nmd) (s:ByteArray) (hf:l.length≤1000000000000):Tot (λ k=>E3 k l s) (λ r=>r=F5a l s):=by
 unfold E3 F5a;refine K3b (Vaa l s hf _ 0 rfl (Vq _)) ?_;rw[Yb]
 cases fnd l s with
 |none=>exact Jrb rfl
 |some j=>
  refine Jrb ?_;rw[Wm]
def cut (l:List Nmd) (s:ByteArray):List Nmd:=l.filter (λ x => !(teq x.1 s))
def R5a (l:List Nmd) (s:ByteArray) (hf:l.length≤1000000000000):∀ (n i:Nat) (acc:List Nmd),l.length-i=n→i≤l.length→acc.length≤i→
  Tot (λ k=>Iw k l s acc (i:Int)) (λ r=>r=acc++cut (l.drop i) s):=by
 intro n
 induction n with
 |zero=>
  intro i acc hd hi ha;refine Tot.succ ?_;simp only[Iw];refine Jwb (by omega) (Jrb ?_);rw[Wk (by omega)];simp[cut]
 |succ n ih=>
  intro i acc hd hi ha
  have hlt:i<l.length:=by omega
  refine Tot.succ ?_;simp only[Iw];refine Jvb (by omega) (Jvb (by omega) (Jvb (by omega) ?_));rw[show toNat (i:Int)=i from Vc i,w64 (n:=(i:Int)+1) (by omega) (by omega),Aj (d:=Dy) hlt];have e0:l.getD i ((⟨#[]⟩:ByteArray),([]:List Int))=l.getD i Dy:=rfl;rw[e0]
  have e1:cut (l.getD i Dy::l.drop (i+1)) s=if (!(teq (l.getD i Dy).1 s))=true then l.getD i Dy::cut (l.drop (i+1)) s else cut (l.drop (i+1)) s:=by
   unfold cut;rw[Zz]
  rw[e1];refine Jxb (λ h=>?_) (λ h=>?_)
  ·have h':(!(teq (l.getD i Dy).1 s))=true:=h;rw[if_pos h'];refine Jvb (by omega) (Jvb (by omega) (Jzb (by simp only[Vd,Vk];omega) ?_));refine(ih (i+1) (acc++[l.getD i Dy]) (by omega) (by omega) (by simp only[Ve,Vd,Vk];omega)).mono ?_;rintro r rfl;rw[Vn];rfl
  ·have h':¬ ((!(teq (l.getD i Dy).1 s))=true):=by
    have:(!(teq (l.getD i Dy).1 s))=false:=h;rw[this];simp
   rw[if_neg h'];exact ih (i+1) acc (by omega) (by omega) (by omega)
def Vba (l:List Nmd) (s:ByteArray) (hf:l.length≤1000000000000):Tot (λ k=>Kh k l s) (λ r=>r=cut l s):=by
 unfold Kh;refine Jsb (R5a l s hf _ 0 [] rfl (Vq _) (Vq _)) ?_;intro r hr;rw[Yb,Wa]at hr;exact Jrb hr
def Sd (d:Dsk) (hf:Zoa d) (hs:Cxa d):Tot (λ k=>Bw k d) (λ r=>r=B7 d):=by
 unfold Bw B7;refine K3b (Jia d.1 hf.1.1 hs.1) ?_;cases h:Kq d.1
 ·exact Jtb rfl (Jrb rfl)
 refine Jub rfl (K3b (Jia d.2 hf.2.1 hs.2) ?_);exact Jrb (by rw[Vw])

def rdN (l:List Nmd) (s:ByteArray):List Int×Bool:=match fnd l s with
 |some i=>((l.getD i Dy).2,true)
 |none=>([],false)
def Oza (d:Dsk) (s:ByteArray) (hf:Hoa d.1):Tot (λ k=>Gb k d s) (λ r=>r=rdN d.1 s):=by
 unfold Gb rdN;refine K3b (Jea d.1 s hf.1) ?_;unfold F5a;have hl1:=hf.1
 cases h:fnd d.1 s with
 |none=>exact Jvb (by decide) (Jrb rfl)
 |some i=>
  have hl:=(Pm h).1;dsimp only;refine Jwb (by omega) (Jvb (by omega) (Jvb (by omega) ?_));rw[show toNat (i:Int)=i from Int.toNat_natCast i];have hb:=hf.2 _ (A3 (d:=Dy) hl);refine K3b (K5b (Q:=λ r=>r=(d.1.getD i Dy).2) (Oy _ hb) rfl) ?_;exact Jrb rfl
def P0a (d:Dsk) (s:ByteArray) (hf:Hoa d.1):Tot (λ k=>Gc k d s) (λ r=>r=rdN d.1 s):=by
 unfold Gc rdN;refine K3b (F6a d.1 s hf.1) ?_;unfold F5a;have hl1:=hf.1
 cases h:fnd d.1 s with
 |none=>exact Jvb (by decide) (Jrb rfl)
 |some i=>
  have hl:=(Pm h).1;dsimp only;refine Jwb (by omega) (Jvb (by omega) (Jvb (by omega) ?_));rw[show toNat (i:Int)=i from Int.toNat_natCast i];have hb:=hf.2 _ (A3 (d:=Dy) hl);exact Jzb (Mda _ hb) (Jrb rfl)

def E4 (l:List Nmd):Prop:=l.Pairwise (λ a b=>tlt a.1 b.1=true)
def Mea:∀ (p:Option ByteArray) (l:List Nmd),chn p l=true↔E4 l∧(∀ r∈l,nOk r=true)∧(∀ q,p=some q→∀ r∈l,tlt q r.1=true)
 |p,[]=>by
  have:chn p []=true:=by cases p<;>rfl
  simp[this,E4]
 |none,r::l=>by
  simp only[chn,Va,Mea (some r.1) l,E4,Wh];constructor
  ·rintro⟨h1,h2,h3,h4⟩;exact⟨⟨λ a ha=>h4 _ rfl a ha,h2⟩,λ a ha=>by rcases Vl.1 ha with rfl|ha;exact h1;exact h3 a ha,λ q hq=>by cases hq⟩
  ·rintro⟨⟨h1,h2⟩,h3,_⟩;exact⟨h3 r (by simp),h2,λ a ha=>h3 a (Vh _ ha),λ q hq a ha=>by cases hq;exact h1 a ha⟩
 |some q,r::l=>by
  simp only[chn,Va,Mea (some r.1) l,E4,Wh];constructor
  ·rintro⟨h1,h0,h2,h3,h4⟩;refine⟨⟨λ a ha=>h4 _ rfl a ha,h2⟩,λ a ha=>by rcases Vl.1 ha with rfl|ha;exact h1;exact h3 a ha,λ q' hq a ha=>?_⟩;cases hq;rcases Vl.1 ha with rfl|ha
   ·exact h0
   ·exact Oe h0 (h4 _ rfl a ha)
  ·rintro⟨⟨h1,h2⟩,h3,h4⟩;exact⟨h3 r (by simp),h4 q rfl r (by simp),h2,λ a ha=>h3 a (Vh _ ha),λ q' hq a ha=>by cases hq;exact h1 a ha⟩
def Aq {l:List Nmd}:Kq l=true↔E4 l∧(∀ r∈l,nOk r=true)∧l.length≤60:=by
 unfold Kq;simp only[Va,Mea,decide_eq_true_eq];constructor
 ·rintro⟨⟨h1,h2,_⟩,h3⟩;exact⟨h1,h2,by omega⟩
 ·rintro⟨h1,h2,h3⟩;exact⟨⟨h1,h2,λ q hq=>by cases hq⟩,by omega⟩
def Se {x:Nmd}:nOk x=true↔Bi x.1=true∧x.2.length≤400:=by
 unfold nOk;simp only[Va,Vx,decide_eq_false_iff_not];constructor
 ·rintro⟨h1,h2⟩;exact⟨h1,by omega⟩
 ·rintro⟨h1,h2⟩;exact⟨h1,by omega⟩
def Aha {l:List Nmd} (h:Kq l=true):Hoa l∧Rl l:=by
 obtain⟨_,h2,h3⟩:=Aq.1 h;refine⟨⟨by omega,λ x hx=>by have:=(Se.1 (h2 x hx)).2;omega⟩,λ x hx=>?_⟩;have:=Cwa (Se.1 (h2 x hx)).1;unfold Ni;omega
def P1a (y:Nmd) (l:List Nmd) (s:ByteArray):fnd (y::l) s=if teq y.1 s then some 0 else (fnd l s).map (· + 1):=by
 unfold fnd;rw[Lvb]
def Zpa {l:List Nmd} {s:ByteArray}:fnd l s=none↔∀ x∈l,x.1≠s:=by
 unfold fnd;rw[Mvb];constructor
 ·intro h x hx e;have:=h x hx;rw[Db.2 e]at this;cases this
 ·intro h x hx
  cases ht:teq x.1 s with
  |false=>rfl
  |true=>exact absurd (Db.1 ht) (h x hx)
def Sf:∀ {l:List Nmd} {s:ByteArray},E4 l→del l s=cut l s
 |[],s,_=>rfl
 |y::l,s,h=>by
  have hc:=Wh.1 h;have ih:=Sf (l:=l) (s:=s) hc.2;unfold del cut at *;rw[P1a,Zz]
  cases ht:teq y.1 s with
  |true=>
   have hno:∀ x∈l,(!(teq x.1 s))=true:=λ x hx=>by
    cases hx2:teq x.1 s
    ·rfl
    have e1:=Db.1 ht;have e2:=Db.1 hx2;have:=hc.1 x hx;rw[e1,e2,Jc]at this;cases this
   rw[if_pos rfl,if_neg (by simp)];show []++l=_;rw[Wa,List.filter_eq_self.2 hno]
  |false=>
   rw[if_neg (by simp),if_pos (show (!false)=true from rfl),← ih]
   cases hf:fnd l s with
   |none=>rfl
   |some i=>rfl
def O4 {l:List Nmd} {s:ByteArray} (h:E4 l):E4 (cut l s):=h.sublist Mkb
def Qc {l:List Nmd} {s:ByteArray}:(cut l s).Sublist l:=Mkb
def Aia {l:List Nmd} {s:ByteArray} (h:Kq l=true):Kq (cut l s)=true:=by
 obtain⟨h1,h2,h3⟩:=Aq.1 h;exact Aq.2 ⟨O4 h1,λ x hx=>h2 x (Qc.subset hx),by have:=(Qc (l:=l) (s:=s)).length_le;omega⟩
def Eeb {l:List Nmd} {s:ByteArray} {i:Nat} (h:fnd l s=some i):(del l s).length+1=l.length:=by
 have hl:=(Pm h).1;unfold del;rw[h];simp only[Ve,Vt,We];omega
def Vca {l m:List Nmd} (h:m.Sublist l) (hf:Hoa l):Hoa m:=⟨by have:=h.length_le;have:=hf.1;omega,λ x hx=>hf.2 x (h.subset hx)⟩
def Jja {l m:List Nmd} (h:m.Sublist l) (hf:Rl l):Rl m:=λ x hx=>hf x (h.subset hx)

def Gqa (d out:Dsk) (s:ByteArray) (hd:Zoa d∧Cxa d) (ho:Zoa out∧Cxa out) (hs:Ni s):Tot (λ k=>Fe k d out s) (λ r=>r=bif B7 d&&(Bi s&&B7 out) then (out,true) else (d,false)):=by
 unfold Fe;refine K3b (Sd d hd.1 hd.2) ?_
 cases h1:B7 d with
 |false=>
  refine Jub rfl (K3b (Nn d hd.1) ?_);exact Jrb rfl
 |true=>
  refine Jtb rfl (K3b (Xd s hs) ?_)
  cases h2:Bi s with
  |false=>
   refine Jub rfl (K3b (Nn d hd.1) ?_);exact Jrb rfl
  |true=>
   refine Jtb rfl (K3b (Sd out ho.1 ho.2) ?_)
   cases h3:B7 out with
   |false=>
    refine Jub rfl (K3b (Nn d hd.1) ?_);exact Jrb rfl
   |true=>exact Jtb rfl (Jrb rfl)
def R6a (d:Dsk) (s:ByteArray) (hd:Zoa d∧Cxa d) (hs:Ni s):Tot (λ k=>Cl k d s) (λ r=>r=bif (fnd d.1 s).isSome&&(B7 d&&(Bi s&&B7 (cut d.1 s,d.2))) then ((cut d.1 s,d.2),true) else (d,false)):=by
 unfold Cl;refine Jsb (Nn d hd.1) ?_;rintro r rfl;refine Jsb (F6a r.1 s hd.1.1.1) ?_;rintro i rfl;unfold F5a
 cases h:fnd r.1 s with
 |none=>exact Jvb (by decide) (Jrb rfl)
 |some i=>
  dsimp only;refine Jwb (by omega) (Jsb (Vba r.1 s hd.1.1.1) ?_);rintro c rfl;refine Jsb (Gqa r (cut r.1 s,r.2) s hd ⟨⟨Vca Qc hd.1.1,hd.1.2⟩,Jja Qc hd.2.1,hd.2.2⟩ hs) ?_;rintro e rfl;exact Jrb rfl

def ptl (x:Nmd):Bool→List Nmd→List Nmd
 |p,[]=>bif p then [] else [x]
 |p,y::l=>(bif !p&&!(tlt y.1 x.1) then [x] else [])++((bif !(teq y.1 x.1) then [y] else [])++ptl x (p||!(tlt y.1 x.1)) l)
def Mfa (l:List Nmd) (s:ByteArray) (b:List Int) (hf:l.length≤1000000000000):∀ (n i:Nat) (acc:List Nmd) (p:Bool),l.length-i=n→i≤l.length→acc.length≤2*i→
  Tot (λ k=>Cr k l s acc p (i:Int) s b) (λ r=>r.1++(bif r.2.1 then [] else [(s,b)])=acc++ptl (s,b) p (l.drop i)∧r.2.2=(s,b)∧r.1.length≤2*l.length):=by
 intro n
 induction n with
 |zero=>
  intro i acc p hd hi ha;refine Tot.succ ?_;simp only[Cr];refine Jwb (by omega) (Jrb ?_);rw[List.drop_of_length_le (by omega)];exact⟨rfl,rfl,by dsimp only;omega⟩
 |succ n ih=>
  intro i acc p hd hi ha
  have hlt:i<l.length:=by omega
  refine Tot.succ ?_;simp only[Cr];refine Jvb (by omega) ?_;rw[show toNat (i:Int)=i from Vc i,w64 (n:=(i:Int)+1) (by omega) (by omega),Aj (d:=Dy) hlt];have e0:l.getD i ((⟨#[]⟩:ByteArray),([]:List Int))=l.getD i Dy:=rfl;rw[e0]
  have Ba:∀ (ac:List Nmd) (q:Bool),ac.length≤2*i+1→Tot (λ k=>cond (decide ((0:Int)≤i)) (cond (decide ((i:Int)<(length l:Int))) (cond (!((l.getD i Dy).1.toList==s.toList)) (cond (decide ((0:Int)≤i)) (cond (decide ((i:Int)<(length l:Int))) (cond (Nat.ble ((length ac+length [l.getD i Dy])*40) 140737488355328) (Cr k l s (ac++[l.getD i Dy]) q ((i:Int)+1) s b) none) none) none) (Cr k l s ac q ((i:Int)+1) s b)) none) none)
    (λ r=>r.1++(bif r.2.1 then [] else [(s,b)])=ac++((bif !(teq (l.getD i Dy).1 s) then [l.getD i Dy] else [])++ptl (s,b) q (l.drop (i+1)))∧r.2.2=(s,b)∧r.1.length≤2*l.length):=by
   intro ac q hac;refine Jvb (by omega) (Jvb (by omega) (Jxb (λ h=>?_) (λ h=>?_)))
   ·have h':(!(teq (l.getD i Dy).1 s))=true:=h;rw[h'];refine Jvb (by omega) (Jvb (by omega) (Jzb (by simp only[Vd,Vk];omega) ?_));refine(ih (i+1) (ac++[l.getD i Dy]) q (by omega) (by omega) (by simp only[Ve,Vd,Vk];omega)).mono ?_;rintro r ⟨h1,h2,h3⟩;refine⟨?_,h2,h3⟩;rw[h1,Vn];rfl
   ·have h':(!(teq (l.getD i Dy).1 s))=false:=h;rw[h'];exact ih (i+1) ac q (by omega) (by omega) (by omega)
  cases p with
  |true=>
   refine Jtb rfl ?_;refine(Ba acc true (by omega)).mono ?_;rintro r ⟨h1,h2,h3⟩;exact⟨h1,h2,h3⟩
  |false=>
   refine Jub rfl (Jvb (by omega) (Jvb (by omega) (Jxb (λ h=>?_) (λ h=>?_))))
   ·have h':(!(tlt (l.getD i Dy).1 s))=true:=h;refine Jzb (by simp only[Vd,Vk];omega) ?_;refine(Ba (acc++[(s,b)]) true (by simp only[Ve,Vd,Vk];omega)).mono ?_;rintro r ⟨h1,h2,h3⟩;refine⟨?_,h2,h3⟩;rw[h1];simp only[ptl,h',Zk,Bool.and_self,Zza,cond_true,Vn]
   ·have h':(!(tlt (l.getD i Dy).1 s))=false:=h;refine(Ba acc false (by omega)).mono ?_;rintro r ⟨h1,h2,h3⟩;refine⟨?_,h2,h3⟩;rw[h1];simp only[ptl,h',Zk,Yc,Zza,cond_false,Wa]
def Gra (l:List Nmd) (s:ByteArray) (b:List Int) (hf:l.length≤1000000000000) (hb:b.length≤1000000000000):Tot (λ k=>Gj k l s b) (λ r=>r=ptl (s,b) false l):=by
 unfold Gj;refine Jzb (Mda b hb) ?_;rw[List.nil_append];refine Jsb (Mfa l s b hf _ 0 [] false rfl (Nat.zero_le _) (Nat.zero_le _)) ?_;rintro⟨r,q,x,y⟩ ⟨h1,h2,h3⟩;rw[List.drop_zero,List.nil_append]at h1;dsimp only at h1 h2 h3;dsimp only
 cases q with
 |true=>
  refine Jtb rfl (Jrb ?_);rw[← h1];simp
 |false=>
  refine Jub rfl (Jzb (by simp only[Vd,Vk];omega) (Jrb ?_));rw[← h1];obtain⟨rfl,rfl⟩:=Prod.mk.inj h2;rfl
def Vda (x:Nmd):∀ (p:Bool) (l:List Nmd),∀ y∈ptl x p l,y∈l∨y=x:=by
 intro p l
 induction l generalizing p with
 |nil=>intro y hy;cases p<;>simp_all [ptl]
 |cons a l ih=>
  intro y hy;simp only[ptl,Vo]at hy;rcases hy with hy|hy|hy
  ·revert hy;cases (!p&&!(tlt a.1 x.1))<;>simp_all
  ·revert hy;cases (!(teq a.1 x.1))<;>simp_all
  ·rcases ih _ y hy with h|h
   ·exact Or.inl (Vh _ h)
   ·exact Or.inr h
def Efb (x:Nmd):∀ (p:Bool) (l:List Nmd),(ptl x p l).length≤l.length+(bif p then 0 else 1):=by
 intro p l
 induction l generalizing p with
 |nil=>cases p<;>simp[ptl]
 |cons a l ih=>
  simp only[ptl,Ve,Vd];have:=ih (p||!(tlt a.1 x.1))
  revert this
  cases p<;>cases tlt a.1 x.1<;>cases teq a.1 x.1<;>simp<;>omega
def Zqa (x:Nmd):∀ (l:List Nmd),ptl x true l=cut l x.1:=by
 intro l
 induction l with
 |nil=>rfl
 |cons a l ih=>
  simp only[ptl,Yw,Yt,cond_false,Wa,Lpb,ih,cut,Zz]
  cases teq a.1 x.1<;>simp
def A0a (x:Nmd):∀ {l:List Nmd},E4 l→ptl x false l=ins (cut l x.1) x:=by
 intro l
 induction l with
 |nil=>intro _;rfl
 |cons a l ih=>
  intro h;have hl:E4 l:=(Wh.1 h).2;have ha:=(Wh.1 h).1;simp only[ptl,Zk,Vw,Zza]
  cases ht:tlt a.1 x.1 with
  |true=>
   have he:teq a.1 x.1=false:=by
    cases hq:teq a.1 x.1 with
    |false=>rfl
    |true=>rw[(Db.1 hq),Jc]at ht;cases ht
   simp only[he,Yw,Zk,cond_false,cond_true,Wa,ih hl,cut,Zz,if_true];unfold ins plc;rw[Zq,if_pos ht];rfl
  |false=>
   have hc:plc (cut (a::l) x.1) x.1=0:=by
    unfold plc cut;rw[List.length_eq_zero_iff];rw[Zz];cases hq:teq a.1 x.1
    ·rw[Zk,if_pos rfl,Zq,if_neg (by rw[ht];simp)]
    have hx:=(Db.1 hq);simp only[Yw,Xs,if_false]
    cases hf:l.filter (λ y => !(teq y.1 x.1)) with
    |nil=>rfl
    |cons b m=>
     have hb:b∈l:=by
      have:b∈l.filter (λ y => !(teq y.1 x.1)):=by rw[hf];exact Ya
      exact(Lbb.1 this).1
     have hab:=ha b hb;rw[hx]at hab;rw[Zq,if_neg (by rw[X9 hab];simp)]
   simp only[Zk,cond_true,Zqa];unfold ins;rw[hc];simp only[Kib,Wa,Yb,cut,Zz]
   cases teq a.1 x.1<;>simp

def Vea {l:List Nmd} {x:Nmd} {p:Bool} (hl:Hoa l) (hl':l.length≤999999999999) (hx:x.2.length≤1000000000000):Hoa (ptl x p l):=by
 refine⟨?_,λ y hy=>?_⟩
 ·have:=Efb x p l
  revert this
  cases p<;>simp<;>omega
 ·rcases Vda x p l y hy with h|rfl
  ·exact hl.2 y h
  ·exact hx
def Jka {l:List Nmd} {x:Nmd} {p:Bool} (hl:Rl l) (hx:Ni x.1):Rl (ptl x p l):=by
 intro y hy;rcases Vda x p l y hy with h|rfl
 ·exact hl y h
 ·exact hx
def DIn (d:Dsk):Prop:=(Zoa d∧Cxa d)∧d.1.length≤2000000∧d.2.length≤2000000
def Pw {d:Dsk} (h:B7 d=true):DIn d:=by
 unfold B7 at h;rw[Va]at h;have h1:=Aha h.1;have h2:=Aha h.2;exact⟨⟨⟨h1.1,h2.1⟩,h1.2,h2.2⟩,by have:=(Aq.1 h.1).2.2;omega,by have:=(Aq.1 h.2).2.2;omega⟩
def Vfa (d:Dsk) (s:ByteArray) (b:List Int) (hd:DIn d) (hs:Ni s) (hb:b.length≤1000000000000):Tot (λ k=>F3 k d s b) (λ r=>r=bif B7 d&&(Bi s&&B7 (ptl (s,b) false d.1,d.2)) then ((ptl (s,b) false d.1,d.2),true) else (d,false)):=by
 unfold F3;refine Jsb (Nn d hd.1.1) ?_;rintro r rfl;refine Jsb (Gra r.1 s b hd.1.1.1.1 hb) ?_;rintro c rfl;refine Jsb (Gqa r (ptl (s,b) false r.1,r.2) s hd.1 ⟨⟨Vea hd.1.1.1 (by have:=hd.2.1;omega) hb,hd.1.1.2⟩,Jka hd.1.2.1 hs,hd.1.2.2⟩ hs) ?_;rintro e rfl;exact Jrb rfl
def syS (d:Dsk) (s:ByteArray):List Nmd:=match fnd d.1 s with
 |some i=>ptl (s,(d.1.getD i Dy).2) false (cut d.2 s)
 |none=>cut d.2 s
def H3b {d:Dsk} {s:ByteArray} (hd:DIn d) (hs:Ni s):Hoa (syS d s)∧Rl (syS d s):=by
 unfold syS;have h1:=Vca (Qc (l:=d.2) (s:=s)) hd.1.1.2;have h2:=Jja (Qc (l:=d.2) (s:=s)) hd.1.2.2
 cases h:fnd d.1 s with
 |none=>exact⟨h1,h2⟩
 |some i=>
  have hb:=hd.1.1.1.2 _ (A3 (d:=Dy) (Pm h).1);have hc:(cut d.2 s).length≤d.2.length:=(Qc (l:=d.2) (s:=s)).length_le;exact⟨Vea h1 (by have:=hd.2.2;omega) hb,Jka h2 hs⟩
def Zra (d:Dsk) (s:ByteArray) (hd:DIn d) (hs:Ni s):Tot (λ k=>Br k d s) (λ r=>r=bif B7 d&&(Bi s&&B7 (d.1,syS d s)) then ((d.1,syS d s),true) else (d,false)):=by
 unfold Br;have hin:=H3b hd hs;refine Jsb (Nn d hd.1.1) ?_;rintro r rfl;refine Jsb (P0a r s hd.1.1.1) ?_;rintro b rfl;refine Jsb (Vba r.2 s hd.1.1.2.1) ?_;rintro c rfl
 have e:∀ o,o=syS r s→Tot (λ k=>(Fe k r (r.1,o) s).bind λ r5=>some (r5.1,r5.2)) (λ q=>q=bif B7 r&&(Bi s&&B7 (r.1,syS r s)) then ((r.1,syS r s),true) else (r,false)):=by
  rintro o rfl;refine Jsb (Gqa r (r.1,syS r s) s hd.1 ⟨⟨hd.1.1.1,hin.1⟩,hd.1.2.1,hin.2⟩ hs) ?_;rintro e rfl;exact Jrb rfl
 have hc:(cut r.2 s).length≤r.2.length:=(Qc (l:=r.2) (s:=s)).length_le
 cases h:fnd r.1 s with
 |none=>
  have h':rdN r.1 s=([],false):=by unfold rdN;rw[h]
  rw[h'];refine Jtb rfl (e _ ?_);unfold syS;rw[h]
 |some i=>
  have h':rdN r.1 s=((r.1.getD i Dy).2,true):=by unfold rdN;rw[h]
  rw[h'];have hb:=hd.1.1.1.2 _ (A3 (d:=Dy) (Pm h).1);refine Jub rfl (Jsb (Gra (cut r.2 s) s _ (by have:=hd.2.2;omega) hb) ?_);rintro o rfl;refine e _ ?_;unfold syS;rw[h]
def R7a (d:Dsk) (s:ByteArray) (hd:Zoa d∧Cxa d):Tot (λ k=>Fk k d s) (λ r=>r=bif (fnd d.1 s).isSome&&B7 d then ((del d.1 s,d.2),true) else (d,false)):=by
 unfold Fk;refine Jsb (Lc d hd.1) ?_;rintro r rfl;refine Jsb (U8 r hd.1 hd.2) ?_;rintro b rfl;cases h1:B7 r
 ·refine Jub rfl (Jrb ?_);rw[Yc];rfl
 refine Jtb rfl (Jsb (Jea r.1 s hd.1.1.1) ?_);rintro i rfl;unfold F5a
 cases h:fnd r.1 s with
 |none=>exact Jvb (by decide) (Jrb rfl)
 |some i=>
  dsimp only;refine Jwb (by omega) (Jsb (Xi r.1 s hd.1.1.1) ?_);rintro c rfl;exact Jrb rfl
def syI (d:Dsk) (s:ByteArray):List Nmd:=match fnd d.1 s with
 |some i=>ins (del d.2 s) (s,(d.1.getD i Dy).2)
 |none=>del d.2 s
def F7a (l:List Nmd) (s:ByteArray):(del l s).length≤l.length:=by
 cases h:fnd l s with
 |none=>unfold del;rw[h];exact Vv _
 |some i=>have:=Eeb h;omega
def Egb (l:List Nmd) (x:Nmd):(ins l x).length=l.length+1:=by
 unfold ins;have:=C3b l x.1;simp only[Ve,Vt,We,Vd,Vk];omega
def Zsa (d:Dsk) (s:ByteArray) (hd:DIn d) (hs:Ni s):Tot (λ k=>Cd k d s) (λ r=>r=bif B7 d&&(Bi s&&decide ((syI d s).length≤60)) then ((d.1,syI d s),true) else (d,false)):=by
 unfold Cd;refine Jsb (Lc d hd.1.1) ?_;rintro r rfl;refine Jsb (U8 r hd.1.1 hd.1.2) ?_;rintro b rfl;cases h1:B7 r
 ·exact Jub rfl (Jrb rfl)
 refine Jtb rfl (Jsb (Sa s hs) ?_);rintro b rfl;cases h2:Bi s
 ·exact Jub rfl (Jrb rfl)
 refine Jtb rfl (Jsb (Xi r.2 s hd.1.1.2.1) ?_);rintro c rfl;refine Jsb (Jea r.1 s hd.1.1.1.1) ?_;rintro i rfl;have hdl:=F7a r.2 s;have hr2:=hd.2.2;have hr1:=hd.2.1
 have e:∀ o,o=syI r s→o.length≤4000000→Tot (λ k=>cond (decide ((length o:Int) > 60)) ((A4 k r).bind λ r9=>some (r9,false)) (some ((r.1,o),true))) (λ q=>q=bif true&&(true&&decide ((syI r s).length≤60)) then ((r.1,syI r s),true) else (r,false)):=by
  rintro o rfl _;refine Jyb (λ h=>?_) (λ h=>?_)
  ·refine Jsb (Lc r hd.1.1) ?_;rintro q rfl;refine Jrb ?_;rw[decide_eq_false (by omega)];rfl
  ·refine Jrb ?_;rw[decide_eq_true (by omega)];rfl
 unfold F5a
 cases h:fnd r.1 s with
 |none=>
  refine Jwb (by decide) (e _ ?_ (by omega));unfold syI;rw[h]
 |some i=>
  have hl:=(Pm h).1;dsimp only;refine Jvb (by omega) (Jvb (by omega) (Jvb (by omega) ?_));rw[show toNat (i:Int)=i from Int.toNat_natCast i];have hb:=hd.1.1.1.2 _ (A3 (d:=Dy) hl);refine Jsb (K5b (Q:=λ q=>q=(r.1.getD i Dy).2) (Oy _ hb) rfl) ?_;rintro q rfl;refine Jsb (Oya (del r.2 s) (s,(r.1.getD i Dy).2) (by omega)) ?_;rintro o rfl;refine e _ ?_ (by rw[Egb];omega);unfold syI;rw[h]

section
open Go
end

section
open Go
end

def Uo (p:Nmd→Bool):∀ l:List Nmd,l.take (l.takeWhile p).length=l.takeWhile p∧l.drop (l.takeWhile p).length=l.dropWhile p
 |[]=>⟨rfl,rfl⟩
 |y::l=>by
  obtain⟨h1,h2⟩:=Uo p l;simp only[Zq,Lkb]
  cases p y with
  |true=>simp[h1,h2]
  |false=>simp
def Jla {p:Nmd→Bool}:∀ {l:List Nmd} {y:Nmd},y∈l.takeWhile p→p y=true
 |[],y,h=>by simp at h
 |z::l,y,h=>by
  simp only[Zq]at h;cases hz:p z
  ·rw[hz]at h;simp at h
  rw[hz]at h;simp only[if_true]at h;rcases Vl.1 h with rfl|h
  ·exact hz
  ·exact Jla h
def C4b (l:List Nmd) (x:Nmd):ins l x=l.takeWhile (λ y=>tlt y.1 x.1)++([x]++l.dropWhile (λ y=>tlt y.1 x.1)):=by
 unfold ins plc;obtain⟨h1,h2⟩:=Uo (λ y=>tlt y.1 x.1) l;rw[h1,h2,Vn]
def F8a {x:Nmd}:∀ {l:List Nmd},E4 l→(∀ y∈l,y.1≠x.1)→∀ z∈l.dropWhile (λ y=>tlt y.1 x.1),tlt x.1 z.1=true
 |[],_,_,z,hz=>by simp at hz
 |y::l,hs,hn,z,hz=>by
  obtain⟨h1,h2⟩:=Wh.1 hs;simp only[Lkb]at hz
  cases hy:tlt y.1 x.1 with
  |true=>
   rw[hy]at hz;simp only[if_true]at hz;exact F8a h2 (λ w hw=>hn w (Vh _ hw)) z hz
  |false=>
   rw[hy]at hz;simp only[Xs,if_false]at hz
   have hxy:tlt x.1 y.1=true:=by
    cases hh:tlt x.1 y.1 with
    |true=>rfl
    |false=>exact absurd (Cla hy hh) (hn y (by simp))
   rcases Vl.1 hz with rfl|hz
   ·exact hxy
   ·exact Oe hxy (h1 z hz)
def Rm {l:List Nmd} {x:Nmd} (hs:E4 l) (hn:∀ y∈l,y.1≠x.1):E4 (ins l x):=by
 rw[C4b]
 have hs':E4 (l.takeWhile (λ y=>tlt y.1 x.1)++l.dropWhile (λ y=>tlt y.1 x.1)):=by rw[L2b];exact hs
 obtain⟨h1,h2,h3⟩:=Zh.1 hs';have h4:∀ y∈l.takeWhile (λ y=>tlt y.1 x.1),tlt y.1 x.1=true:=λ y hy=>Jla (p:=λ y=>tlt y.1 x.1) hy;refine Zh.2 ⟨h1,Wh.2 ⟨λ z hz=>F8a hs hn z hz,h2⟩,λ a ha b hb=>?_⟩;rcases Vl.1 hb with rfl|hb
 ·exact h4 a ha
 ·exact h3 a ha b hb
def A1a {l:List Nmd} {x y:Nmd}:y∈ins l x↔y=x∨y∈l:=by
 rw[C4b];have e:=L2b (p:=λ y:Nmd=>tlt y.1 x.1) (l:=l);constructor
 ·intro h;rcases Vo.1 h with h|h
  ·right;rw[← e];exact Wb _ h
  ·rcases Vl.1 h with h|h
   ·exact .inl h
   ·right;rw[← e];exact Vs _ h
 ·rintro (rfl|h)
  ·exact Vs _ (by simp)
  ·rw[← e]at h;rcases Vo.1 h with h|h
   ·exact Wb _ h
   ·exact Vs _ (Vh _ h)
def C5b {l:List Nmd} {x:Nmd} (hl:Kq l=true) (hn:∀ y∈l,y.1≠x.1) (hx:nOk x=true):Kq (ins l x)=decide ((ins l x).length≤60):=by
 obtain⟨h1,h2,h3⟩:=Aq.1 hl
 by_cases h:(ins l x).length≤60
 ·rw[decide_eq_true h];exact Aq.2 ⟨Rm h1 hn,λ y hy=>by rcases A1a.1 hy with rfl|hy;exact hx;exact h2 y hy,h⟩
 ·rw[decide_eq_false h]
  cases hc:Kq (ins l x) with
  |false=>rfl
  |true=>exact absurd (Aq.1 hc).2.2 h
def Aja {l:List Nmd} {s:ByteArray}:∀ y∈cut l s,y.1≠s:=λ y hy e=>by
 have:=(Lbb.1 hy).2;simp[e,Db.2 rfl]at this
def Ehb {l:List Nmd} {s:ByteArray}:cut (cut l s) s=cut l s:=by
 unfold cut;rw[List.filter_filter];congr 1;funext x;simp
def Eib {d:Dsk} {s:ByteArray} (hd:B7 d=true):syS d s=syI d s:=by
 unfold B7 at hd;rw[Va]at hd;have hs:=(Aq.1 hd.2).1;unfold syS syI;rw[Sf hs]
 cases fnd d.1 s with
 |none=>rfl
 |some i=>
  show ptl _ false (cut d.2 s)=ins (cut d.2 s) _;rw[A0a _ (O4 hs)];show ins (cut (cut d.2 s) s) _=_;rw[Ehb]
def Vga {d:Dsk} {s:ByteArray} (hd:B7 d=true) (hs:Bi s=true):B7 (d.1,syI d s)=decide ((syI d s).length≤60):=by
 have hd':=hd;unfold B7 at hd';rw[Va]at hd';have h2:=Aq.1 hd'.2;unfold B7;rw[hd'.1,Vw];unfold syI;rw[Sf h2.1]
 cases h:fnd d.1 s with
 |none=>show Kq (cut d.2 s)=decide ((cut d.2 s).length≤60);rw[Aia hd'.2,decide_eq_true (Aq.1 (Aia (s:=s) hd'.2)).2.2]
 |some i=>
  refine C5b (Aia hd'.2) Aja (Se.2 ⟨hs,?_⟩);have h1:=(Aq.1 hd'.1).2.1 _ (A3 (d:=Dy) (Pm h).1);exact(Se.1 h1).2
def Ejb {l:List Nmd} (hs:E4 l) {x y:Nmd} (hx:x∈l) (hy:y∈l) (e:x.1=y.1):x=y:=by
 induction l with
 |nil=>simp at hx
 |cons z l ih=>
  obtain⟨h1,h2⟩:=Wh.1 hs;rcases Vl.1 hx with hx'|hx'
  ·rcases Vl.1 hy with hy'|hy'
   ·rw[hx',hy']
   ·have:=h1 y hy';rw[← hx',e,Jc]at this;cases this
  ·rcases Vl.1 hy with hy'|hy'
   ·have:=h1 x hx';rw[← hy',e,Jc]at this;cases this
   ·exact ih h2 hx' hy'

def wrI (d:Dsk) (s:ByteArray) (b:List Int):List Nmd:=ins (del d.1 s) (s,b)
def Vha (d:Dsk) (s:ByteArray) (b:List Int) (hd:DIn d) (hs:Ni s) (hb:b.length≤1000000000000):Tot (λ k=>Ew k d s b) (λ r=>r=bif B7 d&&(Bi s&&(decide (b.length≤400)&&decide ((wrI d s b).length≤60))) then ((wrI d s b,d.2),true) else (d,false)):=by
 unfold Ew;refine Jsb (Lc d hd.1.1) ?_;rintro r rfl;refine Jsb (U8 r hd.1.1 hd.1.2) ?_;rintro b1 rfl;cases h1:B7 r
 ·exact Jub rfl (Jrb rfl)
 refine Jtb rfl (Jsb (Sa s hs) ?_);rintro b2 rfl;cases h2:Bi s
 ·exact Jub rfl (Jrb rfl)
 refine Jtb rfl (Jyb (λ h=>?_) (λ h=>?_))
 ·rw[decide_eq_false (show ¬ b.length≤400 by omega)];exact Jrb rfl
 ·rw[decide_eq_true (show b.length≤400 by omega)];refine Jsb (Xi r.1 s hd.1.1.1.1) ?_;rintro c rfl;refine Jsb (K5b (Q:=λ x=>x=b) (Oy b hb) rfl) ?_;rintro e rfl;have hdl:=F7a r.1 s;refine Jsb (Oya (del r.1 s) (s,e) (by have:=hd.2.1;omega)) ?_;rintro m rfl;refine Jyb (λ h=>?_) (λ h=>?_)
  ·rw[decide_eq_false (show ¬ (wrI r s e).length≤60 by unfold wrI;omega)];refine Jsb (Lc r hd.1.1) ?_;rintro x rfl;exact Jrb rfl
  ·rw[decide_eq_true (show (wrI r s e).length≤60 by unfold wrI;omega)];exact Jrb rfl
def P2a {d:Dsk} {s:ByteArray} {b:List Int} (hd:B7 d=true) (hs:Bi s=true):ptl (s,b) false d.1=wrI d s b∧B7 (wrI d s b,d.2)=(decide (b.length≤400)&&decide ((wrI d s b).length≤60)):=by
 have hd':=hd;unfold B7 at hd';rw[Va]at hd';have h1:=Aq.1 hd'.1
 have e1:wrI d s b=ins (cut d.1 s) (s,b):=by unfold wrI;rw[Sf h1.1]
 refine⟨by rw[e1];exact A0a _ h1.1,?_⟩;unfold B7;rw[hd'.2,Kfb,e1]
 by_cases hb:b.length≤400
 ·rw[decide_eq_true hb,Vw];exact C5b (Aia hd'.1) Aja (Se.2 ⟨hs,hb⟩)
 ·rw[decide_eq_false hb,Yt]
  cases hc:Kq (ins (cut d.1 s) (s,b)) with
  |false=>rfl
  |true=>exact absurd (Se.1 ((Aq.1 hc).2.1 (s,b) (A1a.2 (.inl rfl)))).2 hb

def TS (l:List ByteArray):Prop:=l.Pairwise (λ a b=>tlt a b=true)
def pk (l:List Nmd) (s:ByteArray):Option Nmd:=match fnd l s with
 |some i=>some (l.getD i Dy)
 |none=>none
def Oz:ByteArray:=⟨#[]⟩
def tpl (l:List ByteArray) (s:ByteArray):Nat:=(l.takeWhile (λ y=>tlt y s)).length
def wt (l:List ByteArray) (s:ByteArray):List ByteArray:=if tpl l s<l.length∧teq (l.getD (tpl l s) Oz) s=true then l else l.take (tpl l s)++[s]++l.drop (tpl l s)
def C6b (l:List ByteArray) (s:ByteArray):tpl l s≤l.length:=(N3b _).length_le
def Axa (l:List ByteArray) (s:ByteArray) (hf:l.length≤1000000000000):∀ (n i:Nat),l.length-i=n→i≤l.length→
  Tot (λ k=>Fj k l s (i:Int)) (λ r=>r=(l,s,((i+tpl (l.drop i) s:Nat):Int))):=by
 intro n
 induction n with
 |zero=>
  intro i hd hi;refine Tot.succ ?_;simp only[Fj];refine Jwb (by omega) (Jrb ?_);rw[Wk (by omega)];rfl
 |succ n ih=>
  intro i hd hi
  have hlt:i<l.length:=by omega
  refine Tot.succ ?_;simp only[Fj];refine Jvb (by omega) (Jvb (by omega) (Jvb (by omega) ?_));rw[show toNat (i:Int)=i from Vc i,w64 (n:=(i:Int)+1) (by omega) (by omega),Aj (d:=Oz) hlt];have e0:l.getD i (⟨#[]⟩:ByteArray)=l.getD i Oz:=rfl;rw[e0]
  have e1:tpl (l.getD i Oz::l.drop (i+1)) s=if tlt (l.getD i Oz) s then tpl (l.drop (i+1)) s+1 else 0:=by
   unfold tpl;rw[Zq]
   split<;>rfl
  rw[e1];refine Jxb (λ h=>?_) (λ h=>?_)
  ·have h':tlt (l.getD i Oz) s=true:=h;rw[if_pos h'];refine(ih (i+1) (by omega) (by omega)).mono ?_;rintro r rfl;rw[show i+1+tpl (l.drop (i+1)) s=i+(tpl (l.drop (i+1)) s+1) by omega]
  ·have h':¬ (tlt (l.getD i Oz) s=true):=by
    have:tlt (l.getD i Oz) s=false:=h;rw[this];simp
   rw[if_neg h'];exact Jrb rfl
def Gsa (l:List ByteArray) (s:ByteArray) (hf:l.length≤1000000000):Tot (λ k=>Cn k l s) (λ r=>r=wt l s):=by
 unfold Cn;refine Jsb (Axa l s (by omega) _ 0 rfl (Nat.zero_le _)) ?_;intro r hr;rw[List.drop_zero,Nat.zero_add]at hr;subst hr;have hj:=C6b l s;generalize hjj:tpl l s=j at *;dsimp only
 have hno:¬ (j<l.length∧teq (l.getD j Oz) s=true)→Tot (λ k=>cond (decide ((0:Int)≤(j:Int))) (cond (decide ((j:Int)≤(length l:Int))) (cond (Nat.ble ((length ([]:List ByteArray)+length (List.take (toNat (j:Int)) l))*16) 140737488355328) (let v3:List ByteArray:=([]:List ByteArray)++(List.take (toNat (j:Int)) l);cond (Nat.ble ((length v3+length [s])*16) 140737488355328) (cond (decide ((0:Int)≤(j:Int))) (cond (decide ((j:Int)≤(length l:Int))) (cond (Nat.ble ((length (v3++[s])+length (List.drop (toNat (j:Int)) l))*16) 140737488355328) (some ((v3++[s])++(List.drop (toNat (j:Int)) l))) none) none) none) none) none) none) none)
   (λ r=>r=wt l s):=by
  intro hn;refine Jvb (by omega) (Jvb (by omega) ?_);rw[show toNat (j:Int)=j from Vc j];refine Jzb (by simp only[Vk,Vt];omega) ?_;refine Jzb (by simp only[Ve,Vk,Vt,Vd];omega) ?_;refine Jvb (by omega) (Jvb (by omega) (Jzb (by simp only[Ve,Vk,Vt,We,Vd];omega) (Jrb ?_)));unfold wt;rw[hjj,if_neg hn,Wa]
 refine Jyb (λ h=>?_) (λ h=>hno (λ hh=>h (by omega)));refine Jvb (by omega) (Jvb h ?_);rw[show toNat (j:Int)=j from Vc j]at *;refine Jxb (λ he=>Jrb ?_) (λ he=>hno (λ hh=>?_))
 ·unfold wt;rw[hjj,if_pos ⟨by omega,he⟩]
 ·have h2:teq (l.getD j Oz) s=false:=he;rw[h2]at hh;cases hh.2
def Jma {l:List ByteArray} {s y:ByteArray}:y∈wt l s↔y=s∨y∈l:=by
 unfold wt
 by_cases h:tpl l s<l.length∧teq (l.getD (tpl l s) Oz) s=true
 ·rw[if_pos h];refine⟨.inr,λ h'=>?_⟩;rcases h' with rfl|h'
  ·have:=A3 (d:=Oz) h.1;rwa [Db.1 h.2]at this
  ·exact h'
 ·rw[if_neg h];have e:l.take (tpl l s)++l.drop (tpl l s)=l:=Wo _ _;constructor
  ·intro h';rw[Vn]at h';rcases Vo.1 h' with h'|h'
   ·right;rw[← e];exact Wb _ h'
   ·rcases Vo.1 h' with h'|h'
    ·left;simpa using h'
    ·right;rw[← e];exact Vs _ h'
  ·rintro (rfl|h')
   ·simp
   ·rw[← e]at h'
    rcases Vo.1 h' with h'|h'<;>simp[h']
def P3a (p:ByteArray→Bool):∀ l:List ByteArray,l.take (l.takeWhile p).length=l.takeWhile p∧l.drop (l.takeWhile p).length=l.dropWhile p
 |[]=>⟨rfl,rfl⟩
 |y::l=>by
  obtain⟨h1,h2⟩:=P3a p l;simp only[Zq,Lkb]
  cases p y with
  |true=>simp[h1,h2]
  |false=>simp
def F9a {p:ByteArray→Bool}:∀ {l:List ByteArray} {y:ByteArray},y∈l.takeWhile p→p y=true
 |[],y,h=>by simp at h
 |z::l,y,h=>by
  simp only[Zq]at h;cases hz:p z
  ·rw[hz]at h;simp at h
  rw[hz]at h;simp only[if_true]at h;rcases Vl.1 h with rfl|h
  ·exact hz
  ·exact F9a h
def Cza {s:ByteArray}:∀ {l:List ByteArray},TS l→(∀ y r,l.dropWhile (λ y=>tlt y s)=y::r→y≠s)→∀ z∈l.dropWhile (λ y=>tlt y s),tlt s z=true
 |[],_,_,z,hz=>by simp at hz
 |y::l,hs,hn,z,hz=>by
  obtain⟨h1,h2⟩:=Wh.1 hs;simp only[Lkb]at hz hn
  cases hy:tlt y s with
  |true=>
   rw[hy]at hz hn;simp only[if_true]at hz hn;exact Cza h2 hn z hz
  |false=>
   rw[hy]at hz hn;simp only[Xs,if_false]at hz hn
   have hxy:tlt s y=true:=by
    cases hh:tlt s y with
    |true=>rfl
    |false=>exact absurd (Cla hy hh) (hn y l rfl)
   rcases Vl.1 hz with rfl|hz
   ·exact hxy
   ·exact Oe hxy (h1 z hz)
def Tg {l:List ByteArray} {s:ByteArray} (hs:TS l):TS (wt l s):=by
 unfold wt
 by_cases h:tpl l s<l.length∧teq (l.getD (tpl l s) Oz) s=true
 ·rw[if_pos h];exact hs
 ·rw[if_neg h];obtain⟨e1,e2⟩:=P3a (λ y=>tlt y s) l
  have hd:∀ y r,l.dropWhile (λ y=>tlt y s)=y::r→y≠s:=by
   intro y r hr hy;rw[← e2]at hr
   have hlt:tpl l s<l.length:=by
    rcases Lmb (tpl l s) l.length with h'|h'
    ·exact h'
    ·have:l.drop (tpl l s)=[]:=Wk h';unfold tpl at this;rw[this]at hr;cases hr
   have:l.drop (tpl l s)=l.getD (tpl l s) Oz::l.drop (tpl l s+1):=Aj hlt;unfold tpl at this;rw[this]at hr;simp only[Yl]at hr;exact h ⟨hlt,Db.2 (hr.1.trans hy)⟩
  have e1':l.take (tpl l s)=l.takeWhile (λ y=>tlt y s):=e1;have e2':l.drop (tpl l s)=l.dropWhile (λ y=>tlt y s):=e2;rw[e1',e2',Vn]
  have hs':TS (l.takeWhile (λ y=>tlt y s)++l.dropWhile (λ y=>tlt y s)):=by rw[L2b];exact hs
  obtain⟨h1,h2,h3⟩:=Zh.1 hs';refine Zh.2 ⟨h1,Wh.2 ⟨λ z hz=>Cza hs hd z hz,h2⟩,λ a ha b hb=>?_⟩;rcases Vl.1 hb with rfl|hb
  ·exact F9a (p:=λ y=>tlt y b) ha
  ·exact h3 a ha b hb

def Jna {l:List ByteArray} {s:ByteArray}:(wt l s).length≤l.length+1:=by
 unfold wt;have:=C6b l s;split
 ·omega
 ·simp only[Ve,Vt,We,Vd,Vk];omega

section
variable {α σ R:Type} {a b:α} {p:Prop} [Decidable p]
def dT (h:p):cond (decide p) a b=a:=by rw[decide_eq_true h];rfl
def dF (h:¬ p):cond (decide p) a b=b:=by rw[decide_eq_false h];rfl
def bT {m n:Nat} (h:m≤n):cond (Nat.ble m n) a b=a:=by rw[Zp h];rfl
def K0b {L:Nat→Int→σ→Option R} {Q:R→Prop} (n:Nat) (I:Nat→σ→Prop) (hend:∀ s,I n s→Tot (λ k=>L (k+1) (n:Int) s) Q)
  (E4a:∀ i s,i<n→I i s→(∀ s',I (i+1) s'→Tot (λ k=>L k ((i:Int)+1) s') Q)→Tot (λ k=>L (k+1) (i:Int) s) Q):
  ∀ (i:Nat) (s:σ),i≤n→I i s→Tot (λ k=>L k (i:Int) s) Q:=by
 suffices h:∀ (m i:Nat) (s:σ),n-i=m→i≤n→I i s→Tot (λ k=>L k (i:Int) s) Q from λ i s hi hs=>h _ i s rfl hi hs
 intro m
 induction m with
 |zero=>
  intro i s hm hi hs
  obtain rfl:i=n:=by omega
  exact Tot.succ (hend s hs)
 |succ m ih=>
  intro i s hm hi hs;refine Tot.succ (E4a i s (by omega) hs λ s' hs'=>?_);have:=ih (i+1) s' (by omega) (by omega) hs';rwa [show (((i+1:Nat)):Int)=(i:Int)+1 by omega]at this
end
def cst (x:BitVec 32):BitVec 32:=if x.getLsbD 0 then (x >>> 1) ^^^ 2197175160#32 else x >>> 1
def E2a:Nat→BitVec 32→BitVec 32
 |0,x=>x
 |n+1,x=>E2a n (cst x)
def cby (x:BitVec 32) (b:Int):BitVec 32:=E2a 8 (x ^^^ ofInt 32 b)
def Fxb (l:List Int):BitVec 32 := ~~~ (l.foldl cby 4294967295#32)
def crc (l:List Int):Int:=((Fxb l).toNat:Int)
def Jhb (v:BitVec 32):v.getLsbD 0=decide (v.toNat % 2=1):=by
 rw[BitVec.getLsbD,Nat.testBit_zero]
def Mga (v:BitVec 32):ofInt (IntKind.bits .u32) (v.toNat:Int)=v:=by
 show ofInt 32 (v.toNat:Int)=v;rw[BitVec.ofInt_natCast,BitVec.ofNat_toNat,BitVec.setWidth_eq]
def Mha (n:Nat) (h:n<4294967296):(ofInt (IntKind.bits .i64) (n:Int)).toNat=n:=Tf n (by omega)
def Izb (v:BitVec 32):wrap .u32 (v.toNat:Int)=(v.toNat:Int):=Myb _ ⟨by omega,by have:=v.isLt;omega⟩
def sh1 (v:BitVec 32):Int.fdiv (v.toNat:Int) 2=((v >>> 1).toNat:Int):=by
 rw[Kdb _ (by omega),BitVec.toNat_ushiftRight,Nat.shiftRight_eq_div_pow];omega
def J0b (v:BitVec 32):((wrap .u32 ((ofInt (IntKind.bits .u32) (v.toNat:Int) &&& ofInt (IntKind.bits .u32) 1).toNat))==1)=v.getLsbD 0:=by
 show (wrap .u32 (((ofInt 32 (v.toNat:Int) &&& ofInt 32 1).toNat:Nat):Int)==1)=_;rw[show ofInt 32 (v.toNat:Int)=v from Mga v,Izb,Jhb,Lgb,show (ofInt 32 1).toNat=1 from by decide,Nat.and_one_is_mod,Lcb,beq_iff_eq,decide_eq_true_iff];omega
def J1b (v:BitVec 32):((wrap .i64 ((ofInt (IntKind.bits .i64) (v.toNat:Int) &&& ofInt (IntKind.bits .i64) 1).toNat))==1)=v.getLsbD 0:=by
 have:=v.isLt;rw[Jhb,Lgb,Mha _ v.isLt,show (ofInt (IntKind.bits .i64) 1).toNat=1 from by decide,Nat.and_one_is_mod,w64 (by omega) (by omega),Lcb,beq_iff_eq,decide_eq_true_iff];omega
def J2b (v w:BitVec 32) (x:Int) (h:ofInt 32 x=w):wrap .u32 ((ofInt (IntKind.bits .u32) (v.toNat:Int) ^^^ ofInt (IntKind.bits .u32) x).toNat)=((v ^^^ w).toNat:Int):=by
 show wrap .u32 (((ofInt 32 (v.toNat:Int) ^^^ ofInt 32 x).toNat:Nat):Int)=_;rw[show ofInt 32 (v.toNat:Int)=v from Mga v,h];exact Izb _
def Iib (v w:BitVec 32):wrap .i64 ((ofInt (IntKind.bits .i64) (v.toNat:Int) ^^^ ofInt (IntKind.bits .i64) (w.toNat:Int)).toNat)=((v ^^^ w).toNat:Int):=by
 have:=(v ^^^ w).isLt;rw[BitVec.toNat_xor,Mha _ v.isLt,Mha _ w.isLt,← BitVec.toNat_xor];exact w64 (by omega) (by omega)
def Jib (K:IntKind) (h:1≤IntKind.bits K):(2:Int) ^ (min (toNat 1) (IntKind.bits K))=2:=by
 rw[show toNat 1=1 from rfl,Zx h];rfl
def R8a (l:List Int) (x8 x9:Int):∀ (n:Nat) (v:BitVec 32) (i:Int),0≤i→8-i=n→Tot (λ k=>Lj k (v.toNat:Int) l x8 x9 i) (λ r=>r=(((E2a n v).toNat:Int),l,x8,x9)):=by
 intro n
 induction n with
 |zero=>
  intro v i h0 hn;refine Tot.succ ?_;simp only[Lj];exact Jwb (by omega) (Jrb rfl)
 |succ n ih=>
  intro v i h0 hn;refine Tot.succ ?_;simp only[Lj];refine Jvb (by omega) ?_;rw[w64 (n:=i+1) (by omega) (by omega),J0b,Jib _ (by decide),sh1,J2b _ 2197175160#32 _ (by decide)];have e:E2a (n+1) v=E2a n (cst v):=rfl;rw[e];refine Jxb (λ h=>?_) (λ h=>?_)
  ·have:=ih (v >>> 1 ^^^ 2197175160#32) (i+1) (by omega) (by omega);rwa [show v >>> 1 ^^^ 2197175160#32=cst v by unfold cst;rw[if_pos h]]at this ⊢
  ·have:=ih (v >>> 1) (i+1) (by omega) (by omega);rwa [show v >>> 1=cst v by unfold cst;rw[if_neg (by rw[h];simp)]]at this ⊢
def Mia (l:List Int) (x4:Int):∀ (n:Nat) (v:BitVec 32) (i:Int),0≤i→8-i=n→Tot (λ k=>Lk k l (v.toNat:Int) x4 i) (λ r=>r=(l,((E2a n v).toNat:Int),x4)):=by
 intro n
 induction n with
 |zero=>
  intro v i h0 hn;refine Tot.succ ?_;simp only[Lk];exact Jwb (by omega) (Jrb rfl)
 |succ n ih=>
  intro v i h0 hn;refine Tot.succ ?_;simp only[Lk]
  have hp:(2197175160:Int)=((2197175160#32:BitVec 32).toNat:Int):=by decide
  refine Jvb (by omega) ?_;rw[w64 (n:=i+1) (by omega) (by omega),J1b,Jib _ (by decide),sh1,hp,Iib];have e:E2a (n+1) v=E2a n (cst v):=rfl;rw[e];refine Jxb (λ h=>?_) (λ h=>?_)
  ·have:=ih (v >>> 1 ^^^ 2197175160#32) (i+1) (by omega) (by omega);rwa [show v >>> 1 ^^^ 2197175160#32=cst v by unfold cst;rw[if_pos h]]at this ⊢
  ·have:=ih (v >>> 1) (i+1) (by omega) (by omega);rwa [show v >>> 1=cst v by unfold cst;rw[if_neg (by rw[h];simp)]]at this ⊢
def P4a {b:Int} (h:0≤b∧b≤255):b=((ofInt 32 b).toNat:Int):=by
 rw[Ltb];omega
def Ekb (l:List Int) (hb:An l) (hl:l.length≤1000000000000):Tot (λ k=>Nv k l) (λ r=>r=crc l):=by
 unfold Nv;refine Jsb (Q:=λ r=>r=(((l.foldl cby 4294967295#32).toNat:Nat):Int)) ?_ ?_
 ·have:=K0b (L:=λ k i s=>Lx k s l (l.length:Int) i) (Q:=λ r=>r=(((l.foldl cby 4294967295#32).toNat:Nat):Int)) l.length (λ i s=>∃ v:BitVec 32,s=(v.toNat:Int)∧(l.drop i).foldl cby v=l.foldl cby 4294967295#32) ?_ ?_ 0 4294967295 (Vq _) ⟨4294967295#32,by decide,by rw[Yb]⟩
  ·exact this
  ·rintro s ⟨v,rfl,hv⟩;simp only[Lx];rw[Vz]at hv;exact Jwb (by omega) (Jrb (by rw[← hv];rfl))
  ·rintro i s hi ⟨v,rfl,hv⟩ next;simp only[Lx];have hx:=hb _ (A3 (d:=0) hi);refine Jvb (by omega) (Jvb (by omega) (Jvb (by omega) ?_));rw[Vc,Myb _ ⟨hx.1,by omega⟩,J2b v _ _ rfl];refine K3b (R8a l _ _ 8 _ 0 (by decide) (by decide)) ?_;simp only;rw[w64 (n:=(i:Int)+1) (by omega) (by omega)];refine next _ ⟨_,rfl,?_⟩;rw[Aj (d:=0) hi,Ye]at hv;exact hv
 ·rintro r rfl;refine Jrb ?_;unfold crc Fxb
  have hm:ofInt 32 (if IntKind.signed .u32 then -1 else IntKind.max .u32)=BitVec.allOnes 32:=by decide
  have e:BitVec.allOnes 32 ^^^ l.foldl cby 4294967295#32 = ~~~ (l.foldl cby 4294967295#32):=by rw[N7b];exact BitVec.xor_allOnes
  show wrap .i64 (wrap .u32 (((ofInt 32 (if IntKind.signed .u32 then -1 else IntKind.max .u32) ^^^ ofInt 32 ((l.foldl cby 4294967295#32).toNat:Int)).toNat:Nat):Int))=_;rw[show ofInt 32 ((l.foldl cby 4294967295#32).toNat:Int)=l.foldl cby 4294967295#32 from Mga _,hm,e];have:=(~~~ (l.foldl cby 4294967295#32)).isLt;rw[Izb,w64 (by omega) (by omega)]
def Elb (l:List Int) (hb:An l) (hl:l.length≤1000000000000):Tot (λ k=>Nw k l) (λ r=>r=crc l):=by
 unfold Nw;refine Jsb (Q:=λ r=>r=(((l.foldl cby 4294967295#32).toNat:Nat):Int)) ?_ ?_
 ·have:=K0b (L:=λ k i s=>M0 k l s i) (Q:=λ r=>r=(((l.foldl cby 4294967295#32).toNat:Nat):Int)) l.length (λ i s=>∃ v:BitVec 32,s=(v.toNat:Int)∧(l.drop i).foldl cby v=l.foldl cby 4294967295#32) ?_ ?_ 0 4294967295 (Vq _) ⟨4294967295#32,by decide,by rw[Yb]⟩
  ·exact this
  ·rintro s ⟨v,rfl,hv⟩;simp only[M0];rw[Vz]at hv;exact Jwb (by omega) (Jrb (by rw[← hv];rfl))
  ·rintro i s hi ⟨v,rfl,hv⟩ next;simp only[M0];have hx:=hb _ (A3 (d:=0) hi);refine Jvb (by omega) (Jvb (by omega) (Jvb (by omega) ?_));rw[Vc,w64 (n:=l.getD i 0) (by omega) (by omega),P4a hx,Iib];refine K3b (Mia l _ 8 _ 0 (by decide) (by decide)) ?_;simp only;rw[w64 (n:=(i:Int)+1) (by omega) (by omega)];refine next _ ⟨_,rfl,?_⟩;rw[Aj (d:=0) hi,Ye]at hv;exact hv
 ·rintro r rfl;refine Jrb ?_
  have hp:(4294967295:Int)=((BitVec.allOnes 32:BitVec 32).toNat:Int):=by decide
  rw[hp,Iib,BitVec.xor_allOnes];rfl

def Xua:Fil:=(((0:Int),((0:Int),(0:Int))),(false,([]:List Int)))
def Hf (f:Fil):Bool:=J3 f.1&&(decide ((f.2.2.length:Int)≤200)&&(!f.2.1||((f.2.2.length:Int)==0)))
def Gta (f:Fil):Ee f=some (Hf f):=by
 unfold Ee Hf;rw[Coa];simp only[Vp]
 cases J3 f.1<;>cases decide ((length f.2.2:Int)≤200)<;>cases f.2.1<;>rfl
def Gua (f:Fil):Gq f=some (Hf f):=by
 unfold Gq Hf;rw[Cpa];simp only[Vp]
 cases J3 f.1<;>cases decide ((length f.2.2:Int)≤200)<;>cases f.2.1<;>rfl
def Lu {f:Fil}:Hf f=true↔J3 f.1=true∧f.2.2.length≤200∧(f.2.1=true→f.2.2=[]):=by
 unfold Hf;rw[Va,Va,decide_eq_true_iff]
 have:(!f.2.1||((f.2.2.length:Int)==0))=true↔(f.2.1=true→f.2.2=[]):=by
  cases f.2.1 with
  |false=>simp
  |true=>simp
 rw[this];constructor
 ·rintro⟨h1,h2,h3⟩;exact⟨h1,by omega,h3⟩
 ·rintro⟨h1,h2,h3⟩;exact⟨h1,by omega,h3⟩
def Joa (a b:Fil):Li a b=some (sle b.1 a.1):=by unfold Li;rw[Xa];rfl
def Via (a b:Fil):Mt a b=some (sle b.1 a.1):=by unfold Mt;rw[Ooa];rfl
def hdF (s:Stp) (d:Bool):List Int:=S6a s++R3 (C0 (Gpa d))
def R4 (f:Fil):List Int:=hdF f.1 f.2.1++txt (Mn f.2.2)
def c4 (c:Int):List Int:=[wrap .u8 (Int.fdiv c (2 ^ (min (toNat 24) (IntKind.bits .i64)))),wrap .u8 (Int.fdiv c (2 ^ (min (toNat 16) (IntKind.bits .i64)))),wrap .u8 (Int.fdiv c (2 ^ (min (toNat 8) (IntKind.bits .i64)))),wrap .u8 c]
def Mq (f:Fil):List Int:=bif Hf f then R4 f++c4 (crc (R4 f)) else []
def Rn {a b:List Int} (ha:An a) (hb:An b):An (a++b):=λ x hx=>(Vo.1 hx).elim (ha x) (hb x)
def Th (n:Int):An (R3 (C0 n)):=R2a _ (Qb n)
def Vja (s:Stp) (d:Bool):An (hdF s d):=Rn (Rn (Th _) (Rn (Th _) (Th _))) (Th _)
def Sg (f:Fil):An (R4 f):=Rn (Vja _ _) (Rn (Th _) (F2a _))
def Zta (c:Int):An (c4 c):=by
 intro x hx;simp only[c4,Vl,Kab,or_false]at hx
 rcases hx with rfl|rfl|rfl|rfl<;>exact J4a _
def U9 (f:Fil):An (Mq f):=by
 unfold Mq
 cases Hf f with
 |false=>intro x hx;simp at hx
 |true=>exact Rn (Sg f) (Zta _)
def Mja (s:Stp) (d:Bool):(hdF s d).length≤20:=by
 have h1:=Ova s;have h2:=(Oj (C0 (Gpa d))).1;unfold hdF;rw[Ve];omega
def D0a (f:Fil):(R4 f).length≤25+f.2.2.length:=by
 have h1:=Mja f.1 f.2.1;have h2:=Ecb (Mn f.2.2);have h3:(Mn f.2.2).size=f.2.2.length:=Q2 _;unfold R4;rw[Ve];omega
def Bia (f:Fil):(Mq f).length≤229:=by
 unfold Mq;cases h:Hf f
 ·simp
 have h1:=D0a f;have h2:=(Lu.1 h).2.1;rw[cond_true,Ve];simp only[c4,Vd,Vk];omega
def Sh (f:Fil):Tot (λ k=>G0 k f) (λ r=>r=Mq f):=by
 unfold G0 Mq;refine K3b (K5b (Q:=λ b=>b=Hf f) (Gta f) rfl) ?_;cases h:Hf f
 ·exact Jub rfl (Jrb rfl)
 have h2:=(Lu.1 h).2.1;have h3:(Mn f.2.2).size=f.2.2.length:=Q2 _;have h4:=Mja f.1 f.2.1;have h5:=D0a f;refine Jtb rfl (K3b (R3a [] f.1 f.2.1 (by simp)) ?_);rw[Wa];refine K3b (Zka _ _ (by unfold hdF at h4;omega) (by omega)) ?_;have e:S6a f.1++R3 (C0 (Gpa f.2.1))++txt (Mn f.2.2)=R4 f:=rfl;rw[e];refine K3b (Ekb _ (Sg f) (by omega)) ?_;exact Jzb (by simp only[Vd,Vk];omega) (Jrb rfl)
def D1a (f:Fil):Tot (λ k=>G3 k f) (λ r=>r=Mq f):=by
 unfold G3 Mq;refine K3b (K5b (Q:=λ b=>b=Hf f) (Gua f) rfl) ?_;cases h:Hf f
 ·exact Jub rfl (Jrb rfl)
 have h2:=(Lu.1 h).2.1;have h3:(Mn f.2.2).size=f.2.2.length:=Q2 _;have h4:=Mja f.1 f.2.1;have h5:=D0a f;have h6:=Ova f.1;refine Jtb rfl (K3b (R4a [] f.1 (by simp)) ?_);rw[Wa];refine K3b (K5b (Q:=λ r=>r=Gpa f.2.1) (Zna _) rfl) ?_;refine K3b (Cva _ _ (by omega)) ?_;refine K3b (Zla _ _ (by unfold hdF at h4;omega) (by omega)) ?_;have e:S6a f.1++R3 (C0 (Gpa f.2.1))++txt (Mn f.2.2)=R4 f:=rfl;rw[e];refine K3b (Elb _ (Sg f) (by omega)) ?_;exact Jzb (by simp only[Vd,Vk];omega) (Jrb rfl)
def O6 (b:List Int):Option Fil:=(Su b 0).bind λ a=>(Ota b a.2).bind λ t=>bif Hf (a.1.1,a.1.2,bytesOf t.1)&&decide (Mq (a.1.1,a.1.2,bytesOf t.1)=b) then some (a.1.1,a.1.2,bytesOf t.1) else none
def Ti (b:List Int):Fil×Bool:=match O6 b with
 |some f=>(f,true)
 |none=>(Xua,false)
def Mka {b:List Int} {f:Fil} (h:O6 b=some f):Hf f=true∧An f.2.2∧Mq f=b:=by
 unfold O6 at h;simp only[Lsb]at h;obtain⟨a,_,t,_,h⟩:=h;cases hc:(Hf (a.1.1,a.1.2,bytesOf t.1)&&decide (Mq (a.1.1,a.1.2,bytesOf t.1)=b))
 ·rw[hc]at h;cases h
 rw[hc]at h;simp only[cond_true,Vg]at h;subst h;rw[Va,decide_eq_true_iff]at hc;exact⟨hc.1,F2a _,hc.2⟩
def Vka (s:Stp) (d:Bool) (rest:List Int) (h:J3 s=true):Su (hdF s d++rest) 0=some ((s,d),(hdF s d).length):=by
 obtain⟨t,c,n⟩:=s;unfold J3 at h;simp only[Va,Dt]at h;obtain⟨⟨t0,t1⟩,⟨c0,c1⟩,n0,n1⟩:=h;have ht:=Cta t0 t1;have hc:=Cta c0 (show c≤1000000000 by omega);have hn:=Cta n0 (show n≤1000000000 by omega)
 have hbit:(((C0 (Gpa d):Nat):Int)==1)=d:=by cases d<;>decide
 have hbit2:¬ (1<C0 (Gpa d)):=by cases d<;>decide
 have k:∀ (a:List Int) (n:Nat) (b:List Int),n≤1000000000→R7 (a++(R3 n++b)) a.length=some (n,(a++R3 n).length):=λ a n b hn=>by rw[Ora a n b hn,Ve]
 have e0:hdF (t,c,n) d++rest=R3 (C0 t)++(R3 (C0 c)++(R3 (C0 n)++(R3 (C0 (Gpa d))++rest))):=by
  unfold hdF S6a;simp only[Vn]
 have el:(hdF (t,c,n) d).length=(R3 (C0 t)).length+(R3 (C0 c)).length+(R3 (C0 n)).length+(R3 (C0 (Gpa d))).length:=by
  unfold hdF S6a;simp only[Ve];omega
 have g1:=k [] (C0 t) (R3 (C0 c)++(R3 (C0 n)++(R3 (C0 (Gpa d))++rest))) (Qb t);have g2:=k (R3 (C0 t)) (C0 c) (R3 (C0 n)++(R3 (C0 (Gpa d))++rest)) (Qb c);have g3:=k (R3 (C0 t)++R3 (C0 c)) (C0 n) (R3 (C0 (Gpa d))++rest) (Qb n);have g4:=k (R3 (C0 t)++R3 (C0 c)++R3 (C0 n)) (C0 (Gpa d)) rest (Qb _);simp only[Vn,Wa,Vk]at g1 g2 g3 g4;simp only[Ve]at g1 g2 g3 g4;unfold Su;rw[e0,el];simp only[Zl]at g1 g2 g3 g4 ⊢;simp only[g1,g2,g3,g4,Vp,decide_eq_false hbit2,cond_false];rw[ht,hc,hn,hbit]
def Zua {l:List Int} {q:Nat} {s:Stp} {d:Bool} (hb:An l) (h:Su l 0=some ((s,d),q)):l=hdF s d++l.drop q∧q≤l.length:=by
 unfold Su at h;simp only[Lsb]at h;obtain⟨⟨t,p2⟩,h2,⟨c,p3⟩,h3,⟨n,p4⟩,h4,⟨e,p5⟩,h5,h⟩:=h;obtain⟨b1,b2,b3,b4⟩:=V7 hb h2;obtain⟨c1,c2,c3,c4⟩:=V7 hb h3;obtain⟨d1,d2,d3,d4⟩:=V7 hb h4;obtain⟨e1,e2,e3,e4⟩:=V7 hb h5;cases hd:decide (1<e)
 case true=>simp only[hd,cond_true]at h;cases h
 simp only[hd,cond_false,Vg,Vy]at h;obtain⟨⟨⟨rfl,rfl,rfl⟩,rfl⟩,rfl⟩:=h
 have he:e≤1:=by
  have:=of_decide_eq_false hd;omega
 have hbit:C0 (Gpa ((e:Int)==1))=e:=by
  have:e=0∨e=1:=by omega
  rcases this with rfl|rfl<;>decide
 have k:∀ n:Nat,n≤1000000000→C0 (n:Int)=n:=λ n hn=>by unfold C0;omega
 simp only at b1 b2 c1 c2 d1 d2 e1 e2;refine⟨?_,e4⟩;rw[Yb]at b1;unfold hdF S6a;simp only;rw[k t b2,k c c2,k n d2,hbit,Vn,Vn,Vn,← e1,← d1,← c1,← b1]
def Xj {f:Fil} (h:Hf f=true) (hb:An f.2.2):O6 (Mq f)=some f:=by
 obtain⟨h1,h2,h3⟩:=Lu.1 h
 have e:Mq f=hdF f.1 f.2.1++(txt (Mn f.2.2)++c4 (crc (R4 f))):=by
  unfold Mq;rw[h,cond_true];unfold R4;rw[Vn]
 have g1:=Vka f.1 f.2.1 (txt (Mn f.2.2)++c4 (crc (R4 f))) h1;have g2:=Zma (hdF f.1 f.2.1) (Mn f.2.2) (c4 (crc (R4 f))) (by rw[Q2];omega);rw[← e]at g1 g2;unfold O6;simp only[g1,g2,Vp];rw[Pz hb];have e1:(f.1,f.2.1,f.2.2)=f:=rfl;rw[e1,h,decide_eq_true rfl];rfl
def Xk {a b:List Int} (ha:An a) (hb:An b):((Mn a).toList==(Mn b).toList)=decide (a=b):=by
 have:teq (Mn a) (Mn b)=decide (a=b):=by
  rw[Lcb,Db,decide_eq_true_iff];constructor
  ·intro h;have:=congrArg bytesOf h;rwa [Pz ha,Pz hb]at this
  ·rintro rfl;rfl
 exact this
def Zva (l:List Int) (hb:An l) (hl:l.length≤1000000000000) (p:Int) (hp:p≤1000000000000):
  Tot (λ k=>Df k (l,p,true)) (λ r=>r=((⟨#[]⟩:ByteArray),l,p,true)):=by
 unfold Df;refine K3b (Oua l hb hl p hp) ?_;exact Jub rfl (Jrb rfl)
def Zwa {f:Fil}:(((Mq f).length:Int)==0) = !(Hf f):=by
 unfold Mq;cases h:Hf f
 ·rfl
 rw[cond_true,Ve,Yw,beq_eq_false_iff_ne];simp only[c4,Vd,Vk];omega
def Pc (b:List Int) (hb:An b) (hl:b.length≤1000000000000):Tot (λ k=>C2 k b) (λ r=>r=Ti b):=by
 unfold C2;refine Jsb (Iyb b hb hl 0 (Vq _) false) ?_;rintro r (⟨_,⟨s,d⟩,q,h1,h2,rfl⟩|⟨h1,s,d,q,h2,rfl⟩)
 ·refine Jsb (Ixb b hb hl q h2) ?_;rintro r (⟨t,q2,h3,h4,rfl⟩|⟨h3,rfl⟩)
  ·have hsz:=(Maa hb h3).2.1;refine Jzb (by dsimp only;omega) (K3b (Sh _) ?_);refine Jtb rfl ?_
   have e:Ti b=bif Hf (s,d,bytesOf t)&&decide (Mq (s,d,bytesOf t)=b) then ((s,d,bytesOf t),true) else (Xua,false):=by
    unfold Ti O6;simp only[h1,h3,Vp]
    cases Hf (s,d,bytesOf t)&&decide (Mq (s,d,bytesOf t)=b)<;>rfl
   simp only;rw[e,Zwa];cases hf:Hf (s,d,bytesOf t)
   ·exact Jub rfl (Jrb rfl)
   refine Jtb rfl ?_;rw[Xk (U9 _) hb]
   cases decide (Mq (s,d,bytesOf t)=b) with
   |false=>exact Jub rfl (Jrb rfl)
   |true=>exact Jtb rfl (Jrb rfl)
  ·refine Jzb (Vq _) (K3b (Sh _) ?_);refine Jub rfl (Jrb ?_);unfold Ti O6;simp only[h1,h3,Vp,Ksb];rfl
 ·refine K3b (Zva b hb hl q (by omega)) ?_;refine Jzb (Vq _) (K3b (Sh _) ?_);refine Jub rfl (Jrb ?_);unfold Ti O6;simp only[h1.resolve_left (by simp),Ksb];rfl
def D2a (b:List Int) (hb:An b) (hl:b.length≤1000000000000):Tot (λ k=>Hv k b) (λ r=>r=Ti b):=by
 have none_of:O6 b=none→Ti b=(Xua,false):=λ h=>by unfold Ti;rw[h]
 unfold Hv;refine Jsb (Edb b hb hl 0) ?_;rintro r (⟨n1,p1,n2,p2,n3,p3,_,g1,g2,g3,rfl⟩|⟨h,hr⟩)
 ·refine K3b (Z9 b hb hl (p3:Int)) ?_;rw[Bha];have g1':R7 b 0=some (n1,p1):=g1
  cases g4:R7 b p3 with
  |none=>
   refine K3b (Goa b hb hl 0) ?_;refine Jtb rfl (Jub rfl (Jrb (none_of ?_).symm));unfold O6 Su;simp only[g1',g2,g3,g4,Vp,Ksb]
  |some x=>
   obtain⟨n4,p4⟩:=x;simp only
   have es:Su b 0=bif decide (1<n4) then none else some ((((n1:Int),(n2:Int),(n3:Int)),(n4:Int)==1),p4):=by
    unfold Su;simp only[g1',g2,g3,g4,Vp]
   refine K3b (Goa b hb hl (p4:Int)) ?_;rw[Owa];refine Jtb rfl (Jtb rfl ?_)
   cases g5:Ota b p4 with
   |none=>
    refine Jub rfl (Jrb (none_of ?_).symm);unfold O6;rw[es]
    cases decide (1<n4) with
    |true=>rfl
    |false=>simp only[cond_false,Vp,g5,Ksb]
   |some y=>
    obtain⟨t,q⟩:=y;refine Jtb rfl (Jyb (λ h=>Jrb (none_of ?_).symm) (λ h=>?_))
    ·unfold O6;rw[es,decide_eq_true (by omega)];rfl
    ·rw[decide_eq_false (by omega),cond_false]at es;have hq:=Maa hb g5;simp only;rw[w64 (n:=(q:Int)+4) (by omega) (by omega)]
     have ef:O6 b=bif Hf (((n1:Int),(n2:Int),(n3:Int)),(n4:Int)==1,bytesOf t)&&decide (Mq (((n1:Int),(n2:Int),(n3:Int)),(n4:Int)==1,bytesOf t)=b) then some (((n1:Int),(n2:Int),(n3:Int)),(n4:Int)==1,bytesOf t) else none:=by
      unfold O6;simp only[es,g5,Vp]
     refine Jxb (λ h4=>Jrb (none_of ?_).symm) (λ h4=>?_)
     ·rw[ef];cases hc:(Hf (((n1:Int),(n2:Int),(n3:Int)),(n4:Int)==1,bytesOf t)&&decide (Mq (((n1:Int),(n2:Int),(n3:Int)),(n4:Int)==1,bytesOf t)=b))
      ·rfl
      exfalso;rw[Va,decide_eq_true_iff]at hc;have a1:=(Zua hb es).1;rw[hq.1]at a1;have a2:=hc.2;unfold Mq at a2;rw[hc.1,cond_true]at a2;unfold R4 at a2;simp only at a2;rw[Xg,Vn]at a2;rw[← a2]at a1;have a3:=N0b (N0b a1);have a4:=congrArg length a3;rw[a2,We]at a4;simp only[c4,Vd,Vk]at a4
      have:(q:Int)+4=(b.length:Int):=by omega
      simp[this]at h4
     ·refine Jzb (by simp only[Vk];omega) ?_;rw[Wa];refine K3b (K5b (Q:=λ r=>r=Hf (((n1:Int),(n2:Int),(n3:Int)),(n4:Int)==1,bytesOf t)) (Gua _) rfl) ?_;unfold Ti;rw[ef];cases hf:Hf (((n1:Int),(n2:Int),(n3:Int)),(n4:Int)==1,bytesOf t)
      ·exact Jub rfl (Jrb rfl)
      refine Jtb rfl (K3b (D1a _) ?_);rw[Xk (U9 _) hb,Vw]
      cases decide (Mq (((n1:Int),(n2:Int),(n3:Int)),(n4:Int)==1,bytesOf t)=b) with
      |false=>exact Jub rfl (Jrb rfl)
      |true=>exact Jtb rfl (Jrb rfl)
 ·obtain⟨r1,r2,r3⟩:=r;simp only at hr;subst hr;refine K3b (Z9 b hb hl _) ?_;refine K3b (Goa b hb hl _) ?_;refine Jub rfl (Jrb (none_of ?_).symm);unfold O6;rw[V8a (p:=0) (h.resolve_right (by omega))];rfl

def gt (l:List Nmd) (s:ByteArray):Option (List Int):=match fnd l s with
 |some i=>some (l.getD i Dy).2
 |none=>none
def Mla (y:Nmd) (l:List Nmd) (s:ByteArray):gt (y::l) s=if y.1=s then some y.2 else gt l s:=by
 unfold gt;rw[P1a]
 by_cases h:y.1=s
 ·rw[if_pos (Db.2 h),if_pos h];rfl
 ·rw[if_neg (λ c=>h (Db.1 c)),if_neg h]
  cases fnd l s<;>rfl
def Qd {l:List Nmd} {s:ByteArray} {b:List Int} (h:gt l s=some b):(s,b)∈l:=by
 induction l with
 |nil=>cases h
 |cons y l ih=>
  rw[Mla]at h
  by_cases e:y.1=s
  ·rw[if_pos e]at h;cases h;subst e;exact Ya
  ·rw[if_neg e]at h;exact Vh _ (ih h)
def Pd {l:List Nmd} {s:ByteArray}:gt l s=none↔∀ x∈l,x.1≠s:=by
 rw[← Zpa];unfold gt
 cases fnd l s with
 |none=>simp
 |some i=>simp
def D3a {l:List Nmd} (hs:E4 l) {x:Nmd} (hx:x∈l):gt l x.1=some x.2:=by
 cases h:gt l x.1 with
 |none=>exact absurd rfl (Pd.1 h x hx)
 |some b=>rw[show x=(x.1,b) from Ejb hs hx (Qd h) rfl]
def Jpa {l:List Nmd} (hs:E4 l) {s:ByteArray} {b:List Int}:gt l s=some b↔(s,b)∈l:=⟨Qd,λ h=>D3a hs h⟩
def D4a {l:List Nmd} {s:ByteArray}:(gt l s).isSome=(fnd l s).isSome:=by
 unfold gt
 cases fnd l s<;>rfl
def Uq {l:List Nmd} (hs:E4 l) {s t:ByteArray}:gt (cut l s) t=if s=t then none else gt l t:=by
 by_cases h:s=t
 ·subst h;rw[if_pos rfl,Pd];exact Aja
 ·rw[if_neg h]
  cases hg:gt l t with
  |none=>exact Pd.2 λ x hx=>Pd.1 hg x (Qc.subset hx)
  |some b=>
   rw[Jpa (O4 hs)];refine Lbb.2 ⟨Qd hg,?_⟩
   cases ht:teq t s with
   |false=>simp[ht]
   |true=>exact absurd (Db.1 ht).symm h
def C7b {l:List Nmd} (hs:E4 l) {x:Nmd} (hn:∀ y∈l,y.1≠x.1) {t:ByteArray}:gt (ins l x) t=if x.1=t then some x.2 else gt l t:=by
 have hi:=Rm hs hn
 by_cases h:x.1=t
 ·subst h;rw[if_pos rfl,Jpa hi];exact A1a.2 (.inl rfl)
 ·rw[if_neg h]
  cases hg:gt l t with
  |none=>
   refine Pd.2 λ y hy=>?_;rcases A1a.1 hy with rfl|hy
   ·exact h
   ·exact Pd.1 hg y hy
  |some b=>
   rw[Jpa hi];exact A1a.2 (.inr (Qd hg))
def C8b:∀ {l m:List Nmd},E4 l→E4 m→(∀ s,gt l s=gt m s)→l=m:=by
 have key:∀ {l m:List Nmd},E4 l→E4 m→(∀ s,gt l s=gt m s)→∀ x∈l,x∈m:=λ hl hm h x hx=>by
  have:=h x.1;rw[D3a hl hx]at this;exact Qd this.symm
 intro l m hl hm h;have h1:∀ x,x∈l↔x∈m:=λ x=>⟨key hl hm h x,key hm hl (λ s=>(h s).symm) x⟩;clear h key
 induction l generalizing m with
 |nil=>
  cases m with
  |nil=>rfl
  |cons y m=>exact absurd ((h1 y).2 (by simp)) (by simp)
 |cons x l ih=>
  cases m with
  |nil=>exact absurd ((h1 x).1 (by simp)) (by simp)
  |cons y m=>
   obtain⟨a1,a2⟩:=Wh.1 hl;obtain⟨b1,b2⟩:=Wh.1 hm
   have e:x=y:=by
    rcases Vl.1 ((h1 x).1 (by simp)) with h|h
    ·exact h
    ·rcases Vl.1 ((h1 y).2 (by simp)) with h'|h'
     ·exact h'.symm
     ·have c1:=a1 y h';rw[X9 (b1 x h)]at c1;cases c1
   subst e;congr 1;refine ih a2 b2 λ z=>⟨λ hz=>?_,λ hz=>?_⟩
   ·rcases Vl.1 ((h1 z).1 (Vh _ hz)) with rfl|h
    ·have c:=a1 z hz;rw[Jc]at c;cases c
    ·exact h
   ·rcases Vl.1 ((h1 z).2 (Vh _ hz)) with rfl|h
    ·have c:=b1 z hz;rw[Jc]at c;cases c
    ·exact h
def Vla (l:List Nmd) (s:ByteArray):rdN l s=match gt l s with|some b=>(b,true)|none=>([],false):=by
 unfold rdN gt
 cases fnd l s<;>rfl
def K6 {s:ByteArray} (h:Bi s=true):Ni s:=by
 have:=(Cwa h).2;unfold Ni;omega
def F6 {d:Dsk}:B7 d=true↔Kq d.1=true∧Kq d.2=true:=by
 unfold B7;rw[Va]
def Ma {d:Dsk} (h:B7 d=true):E4 d.1:=(Aq.1 (F6.1 h).1).1
def Pt {d:Dsk} (h:B7 d=true):E4 d.2:=(Aq.1 (F6.1 h).2).1
def LB (l:List Nmd):Prop:=∀ x∈l,An x.2
def DB (d:Dsk):Prop:=LB d.1∧LB d.2
def LB.cut {l:List Nmd} (h:LB l) (s:ByteArray):LB (cut l s):=λ x hx=>h x (Qc.subset hx)
def LB.ins {l:List Nmd} (h:LB l) {x:Nmd} (hx:An x.2):LB (ins l x):=λ y hy=>by
 rcases A1a.1 hy with rfl|hy
 ·exact hx
 ·exact h y hy
def LB.gt {l:List Nmd} (h:LB l) {s:ByteArray} {b:List Int} (hg:gt l s=some b):An b:=h _ (Qd hg)
def Pn:An []:=λ x hx=>by cases hx
def wr (l:List Nmd) (s:ByteArray) (b:List Int):List Nmd:=ins (cut l s) (s,b)
def sy (d:Dsk) (s:ByteArray):List Nmd:=match gt d.1 s with
 |some b=>wr d.2 s b
 |none=>cut d.2 s
def wrD (d:Dsk) (s:ByteArray) (b:List Int):Dsk×Bool:=bif decide (b.length≤400)&&decide ((wr d.1 s b).length≤60) then ((wr d.1 s b,d.2),true) else (d,false)
def syD (d:Dsk) (s:ByteArray):Dsk×Bool:=bif decide ((sy d s).length≤60) then ((d.1,sy d s),true) else (d,false)
def rmD (d:Dsk) (s:ByteArray):Dsk×Bool:=bif (gt d.1 s).isSome then ((cut d.1 s,d.2),true) else (d,false)
section
variable {d:Dsk} {s:ByteArray} {b:List Int}
def Vma (hd:B7 d=true):wrI d s b=wr d.1 s b:=by
 unfold wrI wr;rw[Sf (Ma hd)]
def Vna (hd:B7 d=true):syI d s=sy d s:=by
 unfold syI sy gt wr;rw[Sf (Pt hd)]
 cases fnd d.1 s<;>rfl
def R9a (hd:B7 d=true) (hs:Bi s=true) (hb:b.length≤1000000000000):Tot (λ k=>Ew k d s b) (λ r=>r=wrD d s b):=by
 refine(Vha d s b (Pw hd) (K6 hs) hb).mono ?_;rintro r rfl;rw[hd,hs,Vma hd];rfl
def Raa (hd:B7 d=true) (hs:Bi s=true) (hb:b.length≤1000000000000):Tot (λ k=>F3 k d s b) (λ r=>r=wrD d s b):=by
 refine(Vfa d s b (Pw hd) (K6 hs) hb).mono ?_;rintro r rfl;obtain⟨h1,h2⟩:=P2a (b:=b) hd hs;rw[hd,hs,h1,h2,Vma hd];rfl
def Jqa (hd:B7 d=true) (hs:Bi s=true):Tot (λ k=>Cd k d s) (λ r=>r=syD d s):=by
 refine(Zsa d s (Pw hd) (K6 hs)).mono ?_;rintro r rfl;rw[hd,hs,Vna hd];rfl
def D5a (hd:B7 d=true) (hs:Bi s=true):Tot (λ k=>Br k d s) (λ r=>r=syD d s):=by
 refine(Zra d s (Pw hd) (K6 hs)).mono ?_;rintro r rfl;rw[hd,hs,Eib hd,Vga hd hs,Vna hd];rfl
def Emb (hd:B7 d=true) (hs:Bi s=true) (hb:b.length≤400) (hl:(wr d.1 s b).length≤60):B7 (wr d.1 s b,d.2)=true:=by
 have:=(P2a (b:=b) hd hs).2;rw[Vma hd,decide_eq_true hb,decide_eq_true hl]at this;exact this
def J3b (hd:B7 d=true) (hs:Bi s=true) (hl:(sy d s).length≤60):B7 (d.1,sy d s)=true:=by
 have:=Vga hd hs;rw[Vna hd,decide_eq_true hl]at this;exact this
def Voa (hd:B7 d=true) (hs:Bi s=true):B7 (wrD d s b).1=true:=by
 unfold wrD;cases hc:decide (b.length≤400)&&decide ((wr d.1 s b).length≤60)
 ·exact hd
 rw[Va,decide_eq_true_iff,decide_eq_true_iff]at hc;exact Emb hd hs hc.1 hc.2
def H4b (hd:B7 d=true) (hs:Bi s=true):B7 (syD d s).1=true:=by
 unfold syD
 cases hc:decide ((sy d s).length≤60) with
 |false=>exact hd
 |true=>exact J3b hd hs (of_decide_eq_true hc)
def C9b (hd:B7 d=true):B7 (rmD d s).1=true:=by
 unfold rmD
 cases (gt d.1 s).isSome with
 |false=>exact hd
 |true=>exact F6.2 ⟨Aia (F6.1 hd).1,(F6.1 hd).2⟩
def Rba (hd:B7 d=true) (h:(gt d.1 s).isSome=true):Bi s=true:=by
 cases hg:gt d.1 s with
 |none=>rw[hg]at h;cases h
 |some b=>exact(Se.1 ((Aq.1 (F6.1 hd).1).2.1 _ (Qd hg))).1
def Mma (hd:B7 d=true):Tot (λ k=>Fk k d s) (λ r=>r=rmD d s):=by
 refine(R7a d s (Pw hd).1).mono ?_;rintro r rfl;rw[hd,← D4a,Kfb,Sf (Ma hd)];rfl
def D6a (hd:B7 d=true) (hs:Ni s):Tot (λ k=>Cl k d s) (λ r=>r=rmD d s):=by
 refine(R6a d s (Pw hd).1 hs).mono ?_;rintro r rfl;unfold rmD;rw[hd,← D4a];cases h:(gt d.1 s).isSome
 ·rfl
 have h1:B7 (cut d.1 s,d.2)=true:=by
  have:=C9b (s:=s) hd;unfold rmD at this;rw[h]at this;exact this
 rw[Rba hd h,h1];rfl
end
def lkD (d:Dsk) (s:ByteArray):Fil×Int:=match gt d.1 s with
 |none=>(Xua,1)
 |some b=>match O6 b with
  |some f=>(f,0)
  |none=>(Xua,2)
def Vpa {l:List Nmd} {s:ByteArray} {b:List Int} (h:Hoa l) (hg:gt l s=some b):b.length≤1000000000000:=h.2 _ (Qd hg)
def Bja {d:Dsk} (hf:Hoa d.1) (hb:LB d.1) (s:ByteArray):Tot (λ k=>Gl k d s) (λ r=>r=lkD d s):=by
 unfold Gl lkD;refine K3b (Oza d s hf) ?_;rw[Vla]
 cases hg:gt d.1 s with
 |none=>exact Jub rfl (Jrb rfl)
 |some b=>
  refine Jtb rfl (K3b (Pc b (hb.gt hg) (Vpa hf hg)) ?_);unfold Ti;dsimp only
  cases O6 b with
  |none=>exact Jub rfl (Jrb rfl)
  |some f=>exact Jtb rfl (Jrb rfl)
def Bka {d:Dsk} (hf:Hoa d.1) (hb:LB d.1) (s:ByteArray):Tot (λ k=>J7 k d s) (λ r=>r=lkD d s):=by
 unfold J7 lkD;refine K3b (P0a d s hf) ?_;rw[Vla]
 cases hg:gt d.1 s with
 |none=>exact Jub rfl (Jrb rfl)
 |some b=>
  refine Jtb rfl (K3b (D2a b (hb.gt hg) (Vpa hf hg)) ?_);unfold Ti;dsimp only
  cases O6 b with
  |none=>exact Jub rfl (Jrb rfl)
  |some f=>exact Jtb rfl (Jrb rfl)
def Qe {d:Dsk} {s:ByteArray} {f:Fil}:lkD d s=(f,0)↔∃ b,gt d.1 s=some b∧O6 b=some f:=by
 unfold lkD
 cases gt d.1 s with
 |none=>simp
 |some b=>cases h:O6 b<;>simp[h]
def old (d:Dsk) (s:ByteArray):Option Fil:=(gt d.1 s).bind O6
def kp1 (d:Dsk) (s:ByteArray) (f:Fil):Option (Dsk×Int):=
 let w:=bif (wrD d s (Mq f)).2 then some ((wrD d s (Mq f)).1,(0:Int)) else none
 match old d s with
 |some o=>bif sle o.1 f.1 then w else some (d,1)
 |none=>w
def kp2 (d:Dsk) (s:ByteArray) (sure:Bool) (x:Dsk×Int):Dsk×Int:=bif sure then (bif (syD x.1 s).2 then ((syD x.1 s).1,x.2) else (d,3)) else x
def O9 (d:Dsk) (s:ByteArray) (f:Fil) (sure:Bool):Dsk×Int:=match kp1 d s f with
 |some x=>kp2 d s sure x
 |none=>(d,3)
def keep (d:Dsk) (s:ByteArray) (f:Fil) (sure:Bool):Dsk×Int:=bif B7 d&&(Bi s&&Hf f) then O9 d s f sure else (d,2)
def Zxa:O6 []=none:=by
 cases h:O6 [] with
 |none=>rfl
 |some f=>
  obtain⟨h1,_,h3⟩:=Mka h;unfold Mq at h3;rw[h1]at h3;simp[c4]at h3
def H5b {d:Dsk} {s:ByteArray} {f:Fil} (hd:B7 d=true) (hs:Bi s=true) {x:Dsk×Int} (h:kp1 d s f=some x):B7 x.1=true:=by
 have hw:∀ x,(bif (wrD d s (Mq f)).2 then some ((wrD d s (Mq f)).1,(0:Int)) else none)=some x→B7 x.1=true:=by
  intro x h
  cases hc:(wrD d s (Mq f)).2 with
  |false=>rw[hc]at h;cases h
  |true=>rw[hc]at h;cases h;exact Voa hd hs
 unfold kp1 at h;simp only at h;split at h
 ·rename_i o _
  cases hc:sle o.1 f.1 with
  |false=>rw[hc]at h;cases h;exact hd
  |true=>rw[hc]at h;exact hw _ h
 ·exact hw _ h
def H6b {d:Dsk} {s:ByteArray} (hd:B7 d=true) (hs:Bi s=true) {x:Dsk} {c:Int} (hx:B7 x=true) (sure:Bool):
  Tot (λ k=>cond sure ((Cd k x s).bind λ r=>cond (!r.2) ((A4 k d).bind λ q=>some (q,3)) (some (r.1,c))) (some (x,c))) (λ r=>r=kp2 d s sure (x,c)):=by
 unfold kp2;cases sure
 ·exact Jrb rfl
 refine Jub rfl (K3b (Jqa hx hs) ?_);cases h:(syD x s).2
 case true=>exact Jtb rfl (Jrb rfl)
 refine Jub rfl (K3b (Lc d (Pw hd).1.1) ?_);exact Jrb rfl
def Zya (d:Dsk) (s:ByteArray) (f:Fil) (sure:Bool) (hd:DIn d) (hb:LB d.1) (hs:Ni s):Tot (λ k=>Md k d s f sure) (λ r=>r=keep d s f sure):=by
 have bad:Tot (λ k=>(A4 k d).bind λ r2=>some (r2,(2:Int))) (λ r=>r=(d,2)):=by
  refine K3b (Lc d hd.1.1) ?_;exact Jrb rfl
 unfold Md keep;refine K3b (U8 d hd.1.1 hd.1.2) ?_;cases h1:B7 d
 ·exact Jub rfl bad
 refine Jtb rfl (K3b (Sa s hs) ?_);cases h2:Bi s
 ·exact Jub rfl bad
 refine Jtb rfl (K3b (K5b (Q:=λ b=>b=Hf f) (Gta f) rfl) ?_);cases h3:Hf f
 ·exact Jub rfl bad
 refine Jtb rfl (K3b (Lc d hd.1.1) ?_);refine K3b (Oza d s hd.1.1.1) ?_;have hlen:=Bia f
 have w:∀ {o:Option Fil},(kp1 d s f=bif (wrD d s (Mq f)).2 then some ((wrD d s (Mq f)).1,(0:Int)) else none)→Tot (λ k=>(G0 k f).bind λ r13=>(Ew k d s r13).bind λ r14=>cond (!r14.2) ((A4 k d).bind λ r15=>some (r15,(3:Int))) (cond sure ((Cd k r14.1 s).bind λ r16=>cond (!r16.2) ((A4 k d).bind λ r17=>some (r17,3)) (some (r16.1,0))) (some (r14.1,0)))) (λ r=>r=O9 d s f sure):=by
  intro _ e;refine K3b (Sh f) ?_;refine K3b (R9a h1 h2 (by omega)) ?_;unfold O9;rw[e]
  cases h4:(wrD d s (Mq f)).2 with
  |false=>
   refine Jub rfl (K3b (Lc d hd.1.1) ?_);exact Jrb rfl
  |true=>exact Jtb rfl (H6b h1 h2 (Voa h1 h2) sure)
 rw[Vla];have eo:old d s=(gt d.1 s).bind O6:=rfl
 cases hg:gt d.1 s with
 |none=>
  rw[hg]at eo;refine K3b (Pc [] Pn (by simp)) ?_;unfold Ti;rw[Zxa];refine Jtb rfl (w (o:=none) ?_);unfold kp1;rw[eo];rfl
 |some b=>
  rw[hg]at eo;have eo:old d s=O6 b:=eo;refine K3b (Pc b (hb.gt hg) (Vpa hd.1.1.1 hg)) ?_;unfold Ti
  cases ho:O6 b with
  |none=>
   refine Jtb rfl (w (o:=none) ?_);unfold kp1;rw[eo,ho]
  |some o=>
   rw[ho]at eo;refine Jub rfl (K3b (K5b (Q:=λ b=>b=sle o.1 f.1) (Joa f o) rfl) ?_)
   cases hl:sle o.1 f.1 with
   |true=>
    refine Jtb rfl (w (o:=none) ?_);unfold kp1;simp only[eo,hl,cond_true]
   |false=>
    have e1:O9 d s f sure=kp2 d s sure (d,1):=by
     unfold O9 kp1;simp only[eo,hl,cond_false]
    refine Jub rfl ?_;show Tot _ (λ r=>r=O9 d s f sure);rw[e1];exact H6b h1 h2 h1 sure
def H7b {d:Dsk} {s:ByteArray} (hd:B7 d=true) (hs:Bi s=true) {x:Dsk} {c:Int} (hx:B7 x=true):
  Tot (λ k=>(Br k x s).bind λ r=>cond (!r.2) ((A6 k d).bind λ q=>some (q,3)) (some (r.1,c))) (λ r=>r=kp2 d s true (x,c)):=by
 unfold kp2;refine K3b (D5a hx hs) ?_;cases h:(syD x s).2
 case true=>exact Jtb rfl (Jrb rfl)
 refine Jub rfl (K3b (Nn d (Pw hd).1.1) ?_);exact Jrb rfl
def P5a (d:Dsk) (s:ByteArray) (f:Fil) (sure:Bool) (hd:DIn d) (hb:LB d.1) (hs:Ni s):Tot (λ k=>Me k d s f sure) (λ r=>r=keep d s f sure):=by
 have bad:Tot (λ k=>(A6 k d).bind λ r2=>some (r2,(2:Int))) (λ r=>r=(d,2)):=by
  refine K3b (Nn d hd.1.1) ?_;exact Jrb rfl
 unfold Me keep;refine K3b (Sd d hd.1.1 hd.1.2) ?_;cases h1:B7 d
 ·exact Jub rfl bad
 refine Jtb rfl (K3b (Xd s hs) ?_);cases h2:Bi s
 ·exact Jub rfl bad
 refine Jtb rfl (K3b (K5b (Q:=λ b=>b=Hf f) (Gua f) rfl) ?_);cases h3:Hf f
 ·exact Jub rfl bad
 refine Jtb rfl (K3b (Bka hd.1.1.1 hb s) ?_);have hlen:=Bia f
 have w:(kp1 d s f=bif (wrD d s (Mq f)).2 then some ((wrD d s (Mq f)).1,(0:Int)) else none)→Tot (λ k=>(G3 k f).bind λ r12=>(F3 k d s r12).bind λ r13=>cond r13.2 (cond sure ((Br k r13.1 s).bind λ r14=>cond (!r14.2) ((A6 k d).bind λ r15=>some (r15,(3:Int))) (some (r14.1,0))) (cond (!r13.2) ((A6 k d).bind λ r16=>some (r16,3)) (some (r13.1,0)))) (cond (!r13.2) ((A6 k d).bind λ r17=>some (r17,3)) (some (r13.1,0)))) (λ r=>r=O9 d s f sure):=by
  intro e;refine K3b (D1a f) ?_;refine K3b (Raa h1 h2 (by omega)) ?_;unfold O9;rw[e]
  cases h4:(wrD d s (Mq f)).2 with
  |false=>
   refine Jtb rfl (Jub rfl (K3b (Nn d hd.1.1) ?_));exact Jrb rfl
  |true=>
   refine Jub rfl ?_
   cases sure with
   |true=>exact Jub rfl (H7b h1 h2 (Voa h1 h2))
   |false=>exact Jtb rfl (Jtb rfl (Jrb rfl))
 have eo:old d s=(gt d.1 s).bind O6:=rfl;unfold lkD
 cases hg:gt d.1 s with
 |none=>
  rw[hg]at eo;refine Jtb rfl (w ?_);unfold kp1;rw[eo];rfl
 |some b=>
  rw[hg]at eo;have eo:old d s=O6 b:=eo;simp only
  cases ho:O6 b with
  |none=>
   refine Jtb rfl (w ?_);unfold kp1;rw[eo,ho]
  |some o=>
   rw[ho]at eo;refine Jub rfl (K3b (K5b (Q:=λ b=>b=sle o.1 f.1) (Via f o) rfl) ?_)
   cases hl:sle o.1 f.1 with
   |true=>
    refine Jtb rfl (w ?_);unfold kp1;simp only[eo,hl,cond_true]
   |false=>
    have e1:O9 d s f sure=kp2 d s sure (d,1):=by
     unfold O9 kp1;simp only[eo,hl,cond_false]
    refine Jub rfl ?_;show Tot _ (λ r=>r=O9 d s f sure);rw[e1];refine K3b (Nn d hd.1.1) ?_
    cases sure with
    |true=>exact Jub rfl (H7b h1 h2 h1)
    |false=>exact Jtb rfl (Jrb rfl)

def DG (d:Dsk):Prop:=B7 d=true∧DB d
def Cab {d:Dsk} {s:ByteArray} {b:List Int} (hd:B7 d=true) (h:gt d.1 s=some b):b.length≤400:=(Se.1 ((Aq.1 (F6.1 hd).1).2.1 _ (Qd h))).2
def H8b {d:Dsk} {s:ByteArray} {b:List Int} (h:DB d) (hb:An b):DB (wrD d s b).1:=by
 unfold wrD
 cases decide (b.length≤400)&&decide ((wr d.1 s b).length≤60) with
 |false=>exact h
 |true=>exact⟨(h.1.cut s).ins hb,h.2⟩
def J4b {d:Dsk} {s:ByteArray} (h:DB d):LB (sy d s):=by
 unfold sy
 cases hg:gt d.1 s with
 |none=>exact h.2.cut s
 |some b=>exact(h.2.cut s).ins (h.1.gt hg)
def H9b {d:Dsk} {s:ByteArray} (h:DB d):DB (syD d s).1:=by
 unfold syD
 cases decide ((sy d s).length≤60) with
 |false=>exact h
 |true=>exact⟨h.1,J4b h⟩
def Hab {d:Dsk} {s:ByteArray} (h:DB d):DB (rmD d s).1:=by
 unfold rmD
 cases (gt d.1 s).isSome with
 |false=>exact h
 |true=>exact⟨h.1.cut s,h.2⟩
def Hbb {d:Dsk} {s:ByteArray} (h:DG d) (hs:Bi s=true):DG (syD d s).1:=⟨H4b h.1 hs,H9b h.2⟩
def A0b {d:Dsk} {s:ByteArray} (h:DG d):DG (rmD d s).1:=⟨C9b h.1,Hab h.2⟩
def Hcb {d:Dsk} {s:ByteArray} {f:Fil} (hd:DG d) (hs:Bi s=true) {x:Dsk×Int} (h:kp1 d s f=some x):DG x.1:=by
 refine⟨H5b hd.1 hs h,?_⟩
 have hw:∀ x,(bif (wrD d s (Mq f)).2 then some ((wrD d s (Mq f)).1,(0:Int)) else none)=some x→DB x.1:=by
  intro x h
  cases hc:(wrD d s (Mq f)).2 with
  |false=>rw[hc]at h;cases h
  |true=>rw[hc]at h;cases h;exact H8b hd.2 (U9 f)
 unfold kp1 at h;simp only at h;split at h
 ·rename_i o _
  cases hc:sle o.1 f.1 with
  |false=>rw[hc]at h;cases h;exact hd.2
  |true=>rw[hc]at h;exact hw _ h
 ·exact hw _ h
def J5b {d:Dsk} {s:ByteArray} {sure:Bool} (hd:DG d) (hs:Bi s=true) {x:Dsk×Int} (hx:DG x.1):DG (kp2 d s sure x).1:=by
 unfold kp2;cases sure
 ·exact hx
 rw[cond_true]
 cases (syD x.1 s).2 with
 |false=>exact hd
 |true=>exact Hbb hx hs
def Vqa {d:Dsk} {s:ByteArray} {f:Fil} {sure:Bool} (hd:DG d) (hs:Bi s=true):DG (O9 d s f sure).1:=by
 unfold O9
 cases h:kp1 d s f with
 |none=>exact hd
 |some x=>exact J5b hd hs (Hcb hd hs h)
def Cbb {d:Dsk} {s:ByteArray} {f:Fil} {sure:Bool} (hd:DG d):DG (keep d s f sure).1:=by
 unfold keep;cases h:Bi s
 ·rw[hd.1];exact hd
 cases Hf f with
 |false=>rw[hd.1];exact hd
 |true=>rw[hd.1];exact Vqa hd h
def E3a (b:Int) (j:Nat):Int:=((ofInt 8 b ^^^ BitVec.twoPow 8 j).toNat:Int)
def P6a (b:Int) (j:Nat):0≤E3a b j∧E3a b j≤255:=by
 unfold E3a;have:=(ofInt 8 b ^^^ BitVec.twoPow 8 j).isLt;omega
def Enb (b:Int):∀ j,j<8→wrap .u8 ((ofInt (IntKind.bits .u8) b ^^^ ofInt (IntKind.bits .u8) (wrap .u8 ((1:Int)*2 ^ (min j (IntKind.bits .u8))))).toNat)=E3a b j:=by
 intro j hj
 have h1:∀ j,j<8→ofInt 8 (wrap .u8 ((1:Int)*2 ^ (min j 8)))=BitVec.twoPow 8 j:=by decide
 show wrap .u8 (((ofInt 8 b ^^^ ofInt 8 (wrap .u8 ((1:Int)*2 ^ (min j 8)))).toNat:Nat):Int)=_;rw[h1 j hj];have:=(ofInt 8 b ^^^ BitVec.twoPow 8 j).isLt;rw[Jda _ (by omega)];rfl
def A1b {b:Int} (hb:0≤b∧b≤255) {j:Nat} (hj:j<8):E3a b j≠b:=by
 intro h;unfold E3a at h
 have h1:b=((ofInt 8 b).toNat:Int):=by rw[Ltb];omega
 have h2:(ofInt 8 b ^^^ BitVec.twoPow 8 j).toNat=(ofInt 8 b).toNat:=by omega
 have h3:=N8b h2
 have h4:BitVec.twoPow 8 j=0#8:=by
  have:=congrArg (λ x=>ofInt 8 b ^^^ x) h3
  simpa[← BitVec.xor_assoc] using this
 have h5:∀ j,j<8→BitVec.twoPow 8 j≠0#8:=by decide
 exact h5 j hj h4
def Pe (l:List Int) (n:Nat):List Int:=l.set (n/8) (E3a (l.getD (n/8) 0) (n % 8))
def Jra (l:List Int) (n:Nat):(Pe l n).length=l.length:=by unfold Pe;rw[Wc]
def Mna {l:List Int} (h:An l) (n:Nat):An (Pe l n):=λ x hx=>by
 rcases Ys hx with h'|rfl
 ·exact h x h'
 ·exact P6a _ _
def Kua (d:Dsk) (s:ByteArray) (n:Int):Dsk×Bool:=match gt d.1 s with
 |none=>(d,false)
 |some b=>bif inR n 0 (8*(b.length:Int)-1) then ((wr d.1 s (Pe b n.toNat),bif decide (gt d.2 s=some b) then wr d.2 s (Pe b n.toNat) else d.2),true) else (d,false)
def Vra {l:List Nmd} (hs:E4 l) {s:ByteArray} {i:Nat} (h:fnd l s=some i) (b:List Int):l.set i (s,b)=wr l s b:=by
 obtain⟨hi,hn⟩:=Pm h
 have hm:(l.set i (s,b)).map Prod.fst=l.map Prod.fst:=by
  rw[List.map_set];apply Ldb;intro j
  by_cases hj:i=j
  ·subst hj;rw[Lzb (by rw[Wd];exact hi),K7b,Vj hi];rw[Vb,Vj hi]at hn;exact congrArg some hn.symm
  ·rw[Leb hj]
 have h1:E4 (l.set i (s,b)):=by
  have e:∀ m:List Nmd,E4 m↔(m.map Prod.fst).Pairwise (λ a b=>tlt a b=true):=λ m=>by
   unfold E4;rw[Zn]
  rw[e,hm,← e];exact hs
 refine C8b h1 (Rm (O4 hs) Aja) λ t=>?_;have h2:=C7b (x:=(s,b)) (t:=t) (O4 hs (s:=s)) Aja;unfold wr;rw[h2]
 by_cases ht:s=t
 ·subst ht;rw[if_pos rfl,Jpa h1];exact List.mem_set hi _
 ·rw[if_neg ht,Uq hs,if_neg ht]
  cases hg:gt l t with
  |none=>
   refine Pd.2 λ x hx=>?_;rcases Ys hx with h'|rfl
   ·exact Pd.1 hg x h'
   ·exact ht
  |some c=>
   rw[Jpa h1];obtain⟨j,hj,e⟩:=Zf.1 (Qd hg)
   have hij:i≠j:=by
    rintro rfl;rw[Vb,Vj hi,Yo,e]at hn;exact ht hn.symm
   refine Zf.2 ⟨j,by rw[Wc];exact hj,?_⟩;rw[List.getElem_set_ne hij];exact e
def Jsa {l:List Nmd} {s:ByteArray} {b:List Int} (hs:E4 l) (h:(gt l s).isSome=true):(wr l s b).length=l.length:=by
 rw[D4a]at h;obtain⟨i,hi⟩:=Zm.1 h;rw[← Vra hs hi,Wc]
def Hdb {d:Dsk} {s:ByteArray} {n:Int} (h:DG d):DG (Kua d s n).1:=by
 unfold Kua
 cases hg:gt d.1 s with
 |none=>exact h
 |some b=>
  simp only;cases inR n 0 (8*(b.length:Int)-1)
  ·exact h
  have hn:=Rba h.1 (s:=s) (by rw[hg];rfl);have hb:=Cab h.1 hg;have hbb:=Mna (h.2.1.gt hg) n.toNat;have l1:=Jsa (b:=Pe b n.toNat) (Ma h.1) (s:=s) (by rw[hg];rfl);have q1:=Emb h.1 hn (b:=Pe b n.toNat) (by rw[Jra];exact hb) (by rw[l1];exact(Aq.1 (F6.1 h.1).1).2.2);rw[cond_true];cases hc:decide (gt d.2 s=some b)
  ·exact⟨q1,(h.2.1.cut s).ins hbb,h.2.2⟩
  have hg2:=of_decide_eq_true hc;have l2:=Jsa (b:=Pe b n.toNat) (Pt h.1) (s:=s) (by rw[hg2];rfl);have h':B7 (d.2,d.1)=true:=F6.2 ⟨(F6.1 h.1).2,(F6.1 h.1).1⟩;have q2:=Emb h' hn (b:=Pe b n.toNat) (by rw[Jra];exact hb) (by show (wr d.2 s _).length≤60;rw[l2];exact(Aq.1 (F6.1 h.1).2).2.2);exact⟨F6.2 ⟨(F6.1 q1).1,(F6.1 q2).1⟩,(h.2.1.cut s).ins hbb,(h.2.2.cut s).ins hbb⟩
def Eob {d:Dsk} {s:ByteArray} {n:Int} (h:DG d) (hn:n≤9223372036854775807) (hn0 : -9223372036854775808≤n):Tot (λ k=>M3 k d s n) (λ r=>r=Kua d s n):=by
 have hin:=Pw h.1;unfold M3;refine K3b (Nn d hin.1.1) ?_;refine K3b (F6a d.1 s hin.1.1.1.1) ?_;refine K3b (Sd d hin.1.1 hin.1.2) ?_;rw[h.1];refine Jtb rfl ?_;unfold Kua;unfold F5a
 cases hf:fnd d.1 s with
 |none=>
  have hg:gt d.1 s=none:=by unfold gt;rw[hf]
  rw[hg];exact Jvb (by decide) (Jrb rfl)
 |some i=>
  have hg:gt d.1 s=some (d.1.getD i Dy).2:=by unfold gt;rw[hf]
  have hi:=(Pm hf).1;have hnm:=(Pm hf).2;have hb:=Cab h.1 hg;rw[hg];have e0:d.1.getD i ((⟨#[]⟩:ByteArray),([]:List Int))=d.1.getD i Dy:=rfl;simp only[Vc,e0];refine Jwb (by omega) (Jvb (by omega) (Jvb (by omega) ?_));rw[w64 (n:=8*((d.1.getD i Dy).2.length:Int)) (by omega) (by omega),w64 (n:=8*((d.1.getD i Dy).2.length:Int)-1) (by omega) (by omega)];refine K3b (K5b (Q:=λ b=>b=inR n 0 (8*((d.1.getD i Dy).2.length:Int)-1)) (Q9 _ _ _) rfl) ?_;cases hr:inR n 0 (8*((d.1.getD i Dy).2.length:Int)-1)
  ·exact Jub rfl (Jrb rfl)
  obtain⟨n0,n1⟩:=Dt.1 hr;obtain⟨m,rfl⟩:∃ m:Nat,n=(m:Int):=⟨n.toNat,by omega⟩
  have hm8:m/8<(d.1.getD i Dy).2.length:=by omega
  have et:wrap .i64 (Int.tdiv (m:Int) 8)=((m/8:Nat):Int):=by
   rw[Kpb (by omega),w64 (by omega) (by omega)];omega
  have eu:wrap .u64 (Int.tmod (m:Int) 8)=((m % 8:Nat):Int):=by
   have h8:∀ j:Nat,j<8→wrap .u64 (j:Int)=(j:Int):=by decide
   rw[Kcb (by omega),← h8 (m % 8) (by omega)];congr 1
  refine Jtb rfl (K3b (F6a d.2 s hin.1.1.2.1) ?_);simp only[et,eu,Vc,Enb _ _ (Ndb m (show 0<8 by omega))]
  have ew:d.1.set i ((d.1.getD i Dy).1,Pe (d.1.getD i Dy).2 m)=wr d.1 s (Pe (d.1.getD i Dy).2 m):=by rw[hnm];exact Vra (Ma h.1) hf _
  have ew':d.1.set i ((d.1.getD i Dy).1,(d.1.getD i Dy).2.set (m/8) (E3a ((d.1.getD i Dy).2.getD (m/8) 0) (m % 8)))=wr d.1 s (Pe (d.1.getD i Dy).2 m):=ew;unfold F5a
  cases hf2:fnd d.2 s with
  |none=>
   have hg2:gt d.2 s=none:=by unfold gt;rw[hf2]
   rw[hg2];refine Jwb (by decide) (Jvb (by omega) (Jvb (by omega) (Jvb (by omega) (Jvb (by omega) (Jwb (by omega) (Jvb (by omega) (Jvb (by omega) (Jrb ?_))))))));rw[ew'];rfl
  |some j=>
   have hg2:gt d.2 s=some (d.2.getD j Dy).2:=by unfold gt;rw[hf2]
   have hj:=(Pm hf2).1;have hjn:=(Pm hf2).2;have e1:d.2.getD j ((⟨#[]⟩:ByteArray),([]:List Int))=d.2.getD j Dy:=rfl;rw[hg2];simp only[Vc,e1];refine Jvb (by omega) (Jvb (by omega) (Jvb (by omega) (Jvb (by omega) (Jvb (by omega) (Jvb (by omega) (Jvb (by omega) (Jvb (by omega) (Jvb (by omega) (Jwb (by omega) (Jvb (by omega) (Jvb (by omega) ?_)))))))))));rw[Xk (h.2.2.gt hg2) (h.2.1.gt hg)];refine Jyb (λ he=>?_) (λ he=>?_)
   ·have hl2:(d.2.getD j Dy).2.length=(d.1.getD i Dy).2.length:=by rw[he]
    refine Jvb (by omega) (Jvb (by omega) (Jvb (by omega) (Jvb (by omega) (Jwb (by omega) (Jvb (by omega) (Jvb (by omega) (Jrb ?_)))))))
    have ew2:d.2.set j ((d.2.getD j Dy).1,(d.2.getD j Dy).2.set (m/8) (E3a ((d.2.getD j Dy).2.getD (m/8) 0) (m % 8)))=wr d.2 s (Pe (d.1.getD i Dy).2 m):=by
     rw[hjn,he];exact Vra (Pt h.1) hf2 _
    rw[ew',ew2,he,decide_eq_true rfl];rfl
   ·refine Jrb ?_;rw[ew',decide_eq_false (λ c=>he (L9b c))];rfl
def lb0:LB []:=λ x hx=>by cases hx
def dg0:DG ([],[]):=⟨by decide,⟨lb0,lb0⟩⟩

section
variable {d:Dsk} {s:ByteArray} {f:Fil} {sure:Bool}
def A2b (a:Stp):sle a a=false:=N0 a
def D7a (h1:B7 d=true) (h2:Bi s=true) (h3:Hf f=true):keep d s f sure=O9 d s f sure:=by unfold keep;rw[h1,h2,h3];rfl
def Jta {x:Dsk} {c:Int}:(kp2 d s sure (x,c)=(d,3))∨(sure=false∧kp2 d s sure (x,c)=(x,c))∨(sure=true∧(sy x s).length≤60∧kp2 d s sure (x,c)=((x.1,sy x s),c)):=by
 unfold kp2 syD;cases sure
 ·exact .inr (.inl ⟨rfl,rfl⟩)
 rw[cond_true]
 by_cases h:(sy x s).length≤60
 ·rw[decide_eq_true h];exact .inr (.inr ⟨rfl,h,rfl⟩)
 ·rw[decide_eq_false h];exact .inl rfl
def Vsa (hd:DG d) (hs:Bi s=true):kp1 d s f=none∨(∃ o,old d s=some o∧sle o.1 f.1=false∧kp1 d s f=some (d,1))∨((∀ o,old d s=some o→sle o.1 f.1=true)∧(wr d.1 s (Mq f)).length≤60∧kp1 d s f=some ((wr d.1 s (Mq f),d.2),0)):=by
 have hl:(Mq f).length≤400:=by have:=Bia f;omega
 have w:(bif (wrD d s (Mq f)).2 then some ((wrD d s (Mq f)).1,(0:Int)) else none)=none∨((wr d.1 s (Mq f)).length≤60∧(bif (wrD d s (Mq f)).2 then some ((wrD d s (Mq f)).1,(0:Int)) else none)=some ((wr d.1 s (Mq f),d.2),0)):=by
  unfold wrD;rw[decide_eq_true hl,Vw]
  by_cases h:(wr d.1 s (Mq f)).length≤60
  ·rw[decide_eq_true h];exact .inr ⟨h,rfl⟩
  ·rw[decide_eq_false h];exact .inl rfl
 unfold kp1
 cases ho:old d s with
 |none=>
  rcases w with h|⟨h1,h2⟩
  ·exact .inl h
  ·exact .inr (.inr ⟨λ o h=>(by cases h),h1,h2⟩)
 |some o=>
  simp only;cases hc:sle o.1 f.1
  ·exact .inr (.inl ⟨o,rfl,hc,rfl⟩)
  rcases w with h|⟨h1,h2⟩
  ·exact .inl h
  ·exact .inr (.inr ⟨λ o' h=>(by cases h;exact hc),h1,h2⟩)
def A2a (hd:DG d) (hs:Bi s=true):O9 d s f sure=(d,3)∨
  (∃ o,old d s=some o∧sle o.1 f.1=false∧(O9 d s f sure).2=1∧DG (O9 d s f sure).1∧((sure=false∧(O9 d s f sure).1=d)∨(sure=true∧(O9 d s f sure).1=(d.1,sy d s))))∨
  ((∀ o,old d s=some o→sle o.1 f.1=true)∧DG (wr d.1 s (Mq f),d.2)∧(O9 d s f sure).2=0∧DG (O9 d s f sure).1∧((sure=false∧(O9 d s f sure).1=(wr d.1 s (Mq f),d.2))∨(sure=true∧(O9 d s f sure).1=(wr d.1 s (Mq f),sy (wr d.1 s (Mq f),d.2) s)))):=by
 have hg:=Vqa (f:=f) (sure:=sure) hd hs;rcases Vsa (f:=f) hd hs with h|⟨o,h1,h2,h⟩|⟨h1,h2,h⟩
 ·exact .inl (by unfold O9;rw[h])
 ·have e:O9 d s f sure=kp2 d s sure (d,1):=by unfold O9;rw[h]
  rcases Jta (d:=d) (s:=s) (sure:=sure) (x:=d) (c:=1) with k|⟨k0,k⟩|⟨k0,k1,k⟩
  ·exact .inl (e.trans k)
  ·rw[← e]at k;exact .inr (.inl ⟨o,h1,h2,by rw[k],hg,.inl ⟨k0,by rw[k]⟩⟩)
  ·rw[← e]at k;exact .inr (.inl ⟨o,h1,h2,by rw[k],hg,.inr ⟨k0,by rw[k]⟩⟩)
 ·have e:O9 d s f sure=kp2 d s sure ((wr d.1 s (Mq f),d.2),0):=by unfold O9;rw[h]
  have hw:=Hcb hd hs h;rcases Jta (d:=d) (s:=s) (sure:=sure) (x:=(wr d.1 s (Mq f),d.2)) (c:=0) with k|⟨k0,k⟩|⟨k0,k1,k⟩
  ·exact .inl (e.trans k)
  ·rw[← e]at k;exact .inr (.inr ⟨h1,hw,by rw[k],hg,.inl ⟨k0,by rw[k]⟩⟩)
  ·rw[← e]at k;exact .inr (.inr ⟨h1,hw,by rw[k],hg,.inr ⟨k0,by rw[k]⟩⟩)
def Gva {l:List Nmd} (hs:E4 l) {s t:ByteArray} {b:List Int}:gt (wr l s b) t=if s=t then some b else gt l t:=by
 unfold wr;rw[C7b (x:=(s,b)) (O4 hs) Aja]
 by_cases h:s=t
 ·rw[if_pos h,if_pos h]
 ·rw[if_neg h,if_neg h,Uq hs,if_neg h]
def Moa (hd:B7 d=true) {t:ByteArray}:gt (sy d s) t=if s=t then gt d.1 s else gt d.2 t:=by
 unfold sy
 cases h:gt d.1 s with
 |none=>rw[Uq (Pt hd)]
 |some b=>rw[Gva (Pt hd)]
def Vta (hd:DG d) (hs:Bi s=true) (hf:Hf f=true) (hb:An f.2.2) (h:(O9 d s f true).2=0∨(O9 d s f true).2=1):
  ∃ o g b,DG o∧DG (O9 d s f true).1∧(O9 d s f true).1=(o.1,sy o s)∧gt o.1 s=some b∧O6 b=some g∧sle g.1 f.1=false:=by
 rcases A2a (f:=f) (sure:=true) hd hs with k|⟨o,h1,h2,k,hg,h3⟩|⟨h1,h2,k,hg,h3⟩
 ·rw[k]at h;rcases h with h|h<;>cases h
 ·rcases h3 with⟨h3,_⟩|⟨_,h3⟩
  ·cases h3
  ·have ho:(gt d.1 s).bind O6=some o:=h1
   cases hg1:gt d.1 s with
   |none=>rw[hg1]at ho;cases ho
   |some b=>
    rw[hg1]at ho;exact⟨d,o,b,hd,hg,h3,hg1,ho,h2⟩
 ·rcases h3 with⟨h3,_⟩|⟨_,h3⟩
  ·cases h3
  ·exact⟨(wr d.1 s (Mq f),d.2),f,Mq f,h2,hg,h3,by show gt (wr d.1 s (Mq f)) s=_;rw[Gva (Ma hd.1),if_pos rfl],Xj hf hb,A2b _⟩
end

end Go.Proofs.YtiiekghlhfbmmaaGreat.Vf
