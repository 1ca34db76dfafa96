import Derived.Test.YtmhhjceoinoekaaGreatMal
set_option linter.all false
namespace Go.Proofs.YtmhhjceoinoekaaGreat.Vf
open Go
open List (length getD)
open Int (toNat)
open Go.IntKind (wrap)
open BitVec (ofInt)
def Ya:=@Bool.and_false
def Yx:=@Bool.not_true
def Zh:=@Bool.not_false
def Zq:=@List.takeWhile_cons
def Zz:=@List.filter_cons
def Zza:=@Bool.false_or
def Jbb:=@List.takeWhile_append_dropWhile
def Jjb:=@List.mem_filter
def Jkb:=@Bool.eq_iff_iff
def Jrb:=@List.dropWhile_cons
def Jwb:=@Bool.true_or
def Kqb:=@List.filter_sublist
def L1b:=@List.findIdx?_eq_none_iff
def L4b:=@Go.IntWalk.u32_in
def L6b:=@List.append_cancel_left
def L9b:=@List.takeWhile_sublist
def Leb:=@BitVec.xor_comm
def Lfb:=@BitVec.eq_of_toNat_eq
def Llb:=@Nat.mod_lt

def nOk (x:Nmd):Bool:=B5 x.1&&!(decide ((x.2.length:Int) > 400))
def chn:Option ByteArray→List Nmd→Bool
 |_,[]=>true
 |none,r::l=>nOk r&&chn (some r.1) l
 |some q,r::l=>nOk r&&(tlt q r.1&&chn (some r.1) l)
def J8 (l:List Nmd):Bool:=chn none l&&decide ((l.length:Int)≤60)
def Ay (d:Dsk):Bool:=J8 d.1&&J8 d.2
def Q6 (l:List Nmd):Prop:=∀ x∈l,M1 x.1
def Bba (d:Dsk):Prop:=Q6 d.1∧Q6 d.2
def Xy (l:List Nmd):Nat→Option ByteArray
 |0=>none
 |i+1=>some (l.getD i D8).1
def Nea (l:List Nmd) (i:Nat) (h:i<l.length):chn (Xy l i) (l.drop i)=(nOk (l.getD i D8)&&(bif decide (0<i) then tlt (l.getD (i-1) D8).1 (l.getD i D8).1 else true)&&chn (Xy l (i+1)) (l.drop (i+1))):=by
 rw[Ai (d:=D8) h]
 cases i with
 |zero=>simp[Xy,chn]
 |succ i=>simp[Xy,chn,Lnb]
def Hqa (l:List Nmd) (hf:l.length≤1000000000000) (hs:Q6 l):∀ (n i:Nat),l.length-i=n→i≤l.length→
  Tot (λ k=>Ef k l l (l.length:Int) (i:Int)) (λ r=>r=bif chn (Xy l i) (l.drop i) then .inr l else .inl false):=by
 intro n
 induction n with
 |zero=>
  intro i hn hi
  refine Tot.succ ?_
  simp only[Ef]
  refine I5b (by omega) (I0b ?_)
  rw[Wj (by omega)]
  cases Xy l i<;>rfl
 |succ n ih=>
  intro i hn hi
  have hlt:i<l.length:=by omega
  refine Tot.succ ?_
  simp only[Ef]
  refine I4b (by omega) (I4b (by omega) (I4b (by omega) ?_))
  rw[show toNat (i:Int)=i from Vb i,w64 (n:=(i:Int)+1) (by omega) (by omega),Nea l i hlt]
  have h1:=ih (i+1) (by omega) (by omega)
  have e:(((i+1:Nat)):Int)=(i:Int)+1:=by omega
  rw[e]at h1
  have e0:l.getD i ((⟨#[]⟩:ByteArray),([]:List Int))=l.getD i D8:=rfl
  rw[e0]
  refine Icb (Qs (l.getD i D8).1 (hs _ (A3 hlt))) ?_
  cases hb:B5 (l.getD i D8).1
  ·exact I3b rfl (I0b (by rw[show nOk (l.getD i D8)=false by unfold nOk;rw[hb];rfl];rfl))
  refine I2b rfl ?_
  refine I7b (λ h4=>I0b (by rw[show nOk (l.getD i D8)=false by unfold nOk;rw[decide_eq_true h4,hb];rfl];rfl)) (λ h4=>?_)
  have hnk:nOk (l.getD i D8)=true:=by unfold nOk;rw[hb,decide_eq_false h4];rfl
  rw[hnk,Vx]
  refine I7b (λ h0=>?_) (λ h0=>?_)
  ·rw[w64 (n:=(i:Int)-1) (by omega) (by omega)]
   refine I4b (by omega) (I4b (by omega) ?_)
   rw[show toNat ((i:Int)-1)=i-1 by omega,decide_eq_true (show 0<i by omega),cond_true]
   refine I6b (λ ht=>?_) (λ ht=>?_)
   ·have ht':(!(tlt (l.getD (i-1) D8).1 (l.getD i D8).1))=true:=ht
    rw[Vw]at ht'
    exact I0b (by rw[ht'];rfl)
   ·have ht':(!(tlt (l.getD (i-1) D8).1 (l.getD i D8).1))=false:=ht
    rw[Wm]at ht'
    rw[ht',Vx]
    exact h1
  ·rw[decide_eq_false (show ¬ 0<i by omega),cond_false,Vx]
   exact h1
def Hra (l:List Nmd) (hf:l.length≤1000000000000) (hs:Q6 l):∀ (n i:Nat),l.length-i=n→i≤l.length→
  Tot (λ k=>G8 k l (i:Int)) (λ r=>r=bif chn (Xy l i) (l.drop i) then .inr l else .inl false):=by
 intro n
 induction n with
 |zero=>
  intro i hn hi
  refine Tot.succ ?_
  simp only[G8]
  refine I5b (by omega) (I0b ?_)
  rw[Wj (by omega)]
  cases Xy l i<;>rfl
 |succ n ih=>
  intro i hn hi
  have hlt:i<l.length:=by omega
  refine Tot.succ ?_
  simp only[G8]
  refine I4b (by omega) (I4b (by omega) (I4b (by omega) ?_))
  rw[show toNat (i:Int)=i from Vb i,w64 (n:=(i:Int)+1) (by omega) (by omega),Nea l i hlt]
  have h1:=ih (i+1) (by omega) (by omega)
  have e:(((i+1:Nat)):Int)=(i:Int)+1:=by omega
  rw[e]at h1
  have e0:l.getD i ((⟨#[]⟩:ByteArray),([]:List Int))=l.getD i D8:=rfl
  rw[e0]
  refine Icb (Uo (l.getD i D8).1 (hs _ (A3 hlt))) ?_
  cases hb:B5 (l.getD i D8).1
  ·exact I3b rfl (I0b (by rw[show nOk (l.getD i D8)=false by unfold nOk;rw[hb];rfl];rfl))
  refine I2b rfl (I4b (by omega) (I4b (by omega) ?_))
  refine I7b (λ h4=>I0b (by rw[show nOk (l.getD i D8)=false by unfold nOk;rw[decide_eq_true h4,hb];rfl];rfl)) (λ h4=>?_)
  have hnk:nOk (l.getD i D8)=true:=by unfold nOk;rw[hb,decide_eq_false h4];rfl
  rw[hnk,Vx]
  refine I7b (λ h0=>?_) (λ h0=>?_)
  ·rw[w64 (n:=(i:Int)-1) (by omega) (by omega)]
   refine I4b (by omega) (I4b (by omega) (I4b (by omega) (I4b (by omega) ?_)))
   rw[show toNat ((i:Int)-1)=i-1 by omega,decide_eq_true (show 0<i by omega),cond_true]
   refine I6b (λ ht=>?_) (λ ht=>?_)
   ·have ht':(!(tlt (l.getD (i-1) D8).1 (l.getD i D8).1))=true:=ht
    rw[Vw]at ht'
    exact I0b (by rw[ht'];rfl)
   ·have ht':(!(tlt (l.getD (i-1) D8).1 (l.getD i D8).1))=false:=ht
    rw[Wm]at ht'
    rw[ht',Vx]
    exact h1
  ·rw[decide_eq_false (show ¬ 0<i by omega),cond_false,Vx]
   exact h1
def Hsa (l:List Nmd) (hf:l.length≤1000000000000) (hs:Q6 l):Tot (λ k=>E7 k l) (λ r=>r=J8 l):=by
 unfold E7 J8
 refine Icb (Hqa l hf hs _ 0 rfl (Vs _)) ?_
 rw[Wq]
 show Tot _ (λ r=>r=(chn none l&&_))
 cases hc:chn none l with
 |true=>rw[show chn (Xy l 0) l=true from hc];exact I0b (by rw[Vx])
 |false=>rw[show chn (Xy l 0) l=false from hc];exact I0b rfl
def Hta (l:List Nmd) (hf:l.length≤1000000000000) (hs:Q6 l):Tot (λ k=>Fy k l) (λ r=>r=J8 l):=by
 unfold Fy J8
 refine Icb (Hra l hf hs _ 0 rfl (Vs _)) ?_
 rw[Wq]
 show Tot _ (λ r=>r=(chn none l&&_))
 cases hc:chn none l with
 |true=>rw[show chn (Xy l 0) l=true from hc];exact I0b (by rw[Vx])
 |false=>rw[show chn (Xy l 0) l=false from hc];exact I0b rfl
def Sp (d:Dsk) (hf:Y0a d) (hs:Bba d):Tot (λ k=>Bn k d) (λ r=>r=Ay d):=by
 unfold Bn Ay
 refine Icb (Hsa d.1 hf.1.1 hs.1) ?_
 cases h:J8 d.1
 ·exact I2b rfl (I0b rfl)
 refine I3b rfl (Icb (Hsa d.2 hf.2.1 hs.2) ?_)
 exact I0b (by rw[Vx])
def plc (l:List Nmd) (s:ByteArray):Nat:=(l.takeWhile (λ y=>tlt y.1 s)).length
def ins (l:List Nmd) (x:Nmd):List Nmd:=l.take (plc l x.1)++[x]++l.drop (plc l x.1)
def Aeb (l:List Nmd) (s:ByteArray):plc l s≤l.length:=(L9b _).length_le
def Kqa (l:List Nmd) (s:ByteArray) (b:List Int) (hf:l.length≤1000000000000):∀ (n i:Nat),l.length-i=n→i≤l.length→
  Tot (λ k=>Kk k l (i:Int) s b) (λ r=>r=(l,((i+plc (l.drop i) s:Nat):Int),s,b)):=by
 intro n
 induction n with
 |zero=>
  intro i hd hi
  refine Tot.succ ?_
  simp only[Kk]
  refine I5b (by omega) (I0b ?_)
  rw[Wj (by omega)]
  rfl
 |succ n ih=>
  intro i hd hi
  have hlt:i<l.length:=by omega
  refine Tot.succ ?_
  simp only[Kk]
  refine I4b (by omega) (I4b (by omega) (I4b (by omega) ?_))
  rw[show toNat (i:Int)=i from Vb i,w64 (n:=(i:Int)+1) (by omega) (by omega),Ai (d:=D8) hlt]
  have e0:l.getD i ((⟨#[]⟩:ByteArray),([]:List Int))=l.getD i D8:=rfl
  rw[e0]
  have e1:plc (l.getD i D8::l.drop (i+1)) s=if tlt (l.getD i D8).1 s then plc (l.drop (i+1)) s+1 else 0:=by
   unfold plc
   rw[Zq]
   split<;>rfl
  rw[e1]
  refine I6b (λ h=>?_) (λ h=>?_)
  ·have h':tlt (l.getD i D8).1 s=true:=h
   rw[if_pos h']
   refine(ih (i+1) (by omega) (by omega)).mono ?_
   rintro r rfl
   rw[show i+1+plc (l.drop (i+1)) s=i+(plc (l.drop (i+1)) s+1) by omega]
  ·have h':¬ (tlt (l.getD i D8).1 s=true):=by
    have:tlt (l.getD i D8).1 s=false:=h
    rw[this];simp
   rw[if_neg h']
   exact I0b rfl
def Nfa (l:List Nmd) (x:Nmd) (hf:l.length≤1000000000000):Tot (λ k=>Lv k l x) (λ r=>r=ins l x):=by
 unfold Lv ins
 refine I1b (Kqa l x.1 x.2 hf _ 0 rfl (Vs _)) ?_
 intro r hr
 rw[Wq,Wk]at hr
 subst hr
 have hp:=Aeb l x.1
 dsimp only
 refine I4b (by omega) (I4b (by omega) ?_)
 rw[show toNat ((plc l x.1:Nat):Int)=plc l x.1 from Vb _]
 refine I8b (by simp only[Vk,Vq];omega) ?_
 refine I8b (by simp only[Ve,Vk,Vq,Vd];omega) ?_
 refine I4b (by omega) (I4b (by omega) (I8b (by simp only[Ve,Vk,Vq,Wc,Vd];omega) (I0b ?_)))
 rw[Vy]

def Kra (l:List Int) (h:l.length≤1000000000000):(length ([]:List Int)+l.length)*1≤140737488355328:=by
 simp only[Vk]
 omega
def Bca (l:List Nmd) (hf:Fza l):∀ (n i:Nat) (acc:List Nmd),l.length-i=n→i≤l.length→acc.length≤i→
  Tot (λ k=>C6 k l acc (i:Int)) (λ r=>r=acc++l.drop i):=by
 obtain⟨h1,h2⟩:=hf
 intro n
 induction n with
 |zero=>
  intro i acc hd hi ha
  refine Tot.succ ?_
  simp only[C6]
  refine I5b (by omega) (I0b ?_)
  rw[Wj (by omega),Xs]
 |succ n ih=>
  intro i acc hd hi ha
  have hlt:i<l.length:=by omega
  refine Tot.succ ?_
  simp only[C6]
  refine I4b (by omega) (I4b (by omega) (I4b (by omega) (I4b (by omega) (I4b (by omega) ?_))))
  rw[show toNat (i:Int)=i from Vb i,w64 (n:=(i:Int)+1) (by omega) (by omega),Ai (d:=D8) hlt]
  have e0:l.getD i ((⟨#[]⟩:ByteArray),([]:List Int))=l.getD i D8:=rfl
  rw[e0]
  have hb:=h2 _ (A3 (d:=D8) hlt)
  refine I8b (Kra _ hb) (I8b (by simp only[Vd,Vk];omega) ?_)
  refine(ih (i+1) (acc++[l.getD i D8]) (by omega) (by omega) (by simp only[Ve,Vd,Vk];omega)).mono ?_
  rintro r rfl
  rw[Vn]
  rfl
def Pg (l:List Nmd) (hf:Fza l):Tot (λ k=>Bd k l) (λ r=>r=l):=by
 unfold Bd
 refine I1b (Bca l hf _ 0 [] rfl (Vs _) (Vs _)) ?_
 intro r hr
 rw[Wq,Vy]at hr
 exact I0b hr
def M7 (d:Dsk) (hf:Y0a d):Tot (λ k=>A6 k d) (λ r=>r=d):=by
 unfold A6
 refine Icb (Pg d.1 hf.1) ?_
 refine Icb (Pg d.2 hf.2) ?_
 exact I0b rfl
def Tpa (l:List Nmd) (s:ByteArray) (hf:l.length≤1000000000000):∀ (n i:Nat),l.length-i=n→i≤l.length→
  Tot (λ k=>Je k l s (i:Int)) (λ r=>r=match fnd (l.drop i) s with|some j => .inl ((i+j:Nat):Int)|none => .inr ()):=by
 intro n
 induction n with
 |zero=>
  intro i hd hi
  refine Tot.succ ?_
  simp only[Je]
  refine I5b (by omega) (I0b ?_)
  rw[Wj (by omega)]
  rfl
 |succ n ih=>
  intro i hd hi
  have hlt:i<l.length:=by omega
  refine Tot.succ ?_
  simp only[Je]
  refine I4b (by omega) (I4b (by omega) (I4b (by omega) ?_))
  rw[show toNat (i:Int)=i from Vb i,w64 (n:=(i:Int)+1) (by omega) (by omega),Ai (d:=D8) hlt]
  have e0:l.getD i ((⟨#[]⟩:ByteArray),([]:List Int))=l.getD i D8:=rfl
  rw[e0]
  have e1:fnd (l.getD i D8::l.drop (i+1)) s=if teq (l.getD i D8).1 s then some 0 else (fnd (l.drop (i+1)) s).map (· + 1):=by
   unfold fnd
   rw[K2b]
  rw[e1]
  refine I6b (λ h=>?_) (λ h=>?_)
  ·have h':teq (l.getD i D8).1 s=true:=h
   rw[if_pos h']
   exact I0b rfl
  ·have h':¬ (teq (l.getD i D8).1 s=true):=by
    have:teq (l.getD i D8).1 s=false:=h
    rw[this];simp
   rw[if_neg h']
   refine(ih (i+1) (by omega) (by omega)).mono ?_
   rintro r rfl
   cases fnd (l.drop (i+1)) s with
   |none=>rfl
   |some j=>
    show Sum.inl _=Sum.inl _
    rw[show i+1+j=i+(j+1) by omega]
def Dka (l:List Nmd) (s:ByteArray) (hf:l.length≤1000000000000):Tot (λ k=>D9 k l s) (λ r=>r=Dja l s):=by
 unfold D9 Dja
 refine Icb (Tpa l s hf _ 0 rfl (Vs _)) ?_
 rw[Wq]
 cases fnd l s with
 |none=>exact I0b rfl
 |some j=>
  refine I0b ?_
  rw[Wk]
def cut (l:List Nmd) (s:ByteArray):List Nmd:=l.filter (λ x => !(teq x.1 s))
def Pla (l:List Nmd) (s:ByteArray) (hf:l.length≤1000000000000):∀ (n i:Nat) (acc:List Nmd),l.length-i=n→i≤l.length→acc.length≤i→
  Tot (λ k=>Hp k l s acc (i:Int)) (λ r=>r=acc++cut (l.drop i) s):=by
 intro n
 induction n with
 |zero=>
  intro i acc hd hi ha
  refine Tot.succ ?_
  simp only[Hp]
  refine I5b (by omega) (I0b ?_)
  rw[Wj (by omega)]
  simp[cut]
 |succ n ih=>
  intro i acc hd hi ha
  have hlt:i<l.length:=by omega
  refine Tot.succ ?_
  simp only[Hp]
  refine I4b (by omega) (I4b (by omega) (I4b (by omega) ?_))
  rw[show toNat (i:Int)=i from Vb i,w64 (n:=(i:Int)+1) (by omega) (by omega),Ai (d:=D8) hlt]
  have e0:l.getD i ((⟨#[]⟩:ByteArray),([]:List Int))=l.getD i D8:=rfl
  rw[e0]
  have e1:cut (l.getD i D8::l.drop (i+1)) s=if (!(teq (l.getD i D8).1 s))=true then l.getD i D8::cut (l.drop (i+1)) s else cut (l.drop (i+1)) s:=by
   unfold cut
   rw[Zz]
  rw[e1]
  refine I6b (λ h=>?_) (λ h=>?_)
  ·have h':(!(teq (l.getD i D8).1 s))=true:=h
   rw[if_pos h']
   refine I4b (by omega) (I4b (by omega) (I8b (by simp only[Vd,Vk];omega) ?_))
   refine(ih (i+1) (acc++[l.getD i D8]) (by omega) (by omega) (by simp only[Ve,Vd,Vk];omega)).mono ?_
   rintro r rfl
   rw[Vn]
   rfl
  ·have h':¬ ((!(teq (l.getD i D8).1 s))=true):=by
    have:(!(teq (l.getD i D8).1 s))=false:=h
    rw[this];simp
   rw[if_neg h']
   exact ih (i+1) acc (by omega) (by omega) (by omega)
def Tqa (l:List Nmd) (s:ByteArray) (hf:l.length≤1000000000000):Tot (λ k=>J4 k l s) (λ r=>r=cut l s):=by
 unfold J4
 refine I1b (Pla l s hf _ 0 [] rfl (Vs _) (Vs _)) ?_
 intro r hr
 rw[Wq,Vy]at hr
 exact I0b hr
def Qu (d:Dsk) (hf:Y0a d) (hs:Bba d):Tot (λ k=>Bh k d) (λ r=>r=Ay d):=by
 unfold Bh Ay
 refine Icb (Hta d.1 hf.1.1 hs.1) ?_
 cases h:J8 d.1
 ·exact I2b rfl (I0b rfl)
 refine I3b rfl (Icb (Hta d.2 hf.2.1 hs.2) ?_)
 exact I0b (by rw[Vx])

def rdN (l:List Nmd) (s:ByteArray):List Int×Bool:=match fnd l s with
 |some i=>((l.getD i D8).2,true)
 |none=>([],false)
def Nga (d:Dsk) (s:ByteArray) (hf:Fza d.1):Tot (λ k=>Fg k d s) (λ r=>r=rdN d.1 s):=by
 unfold Fg rdN
 refine Icb (Hpa d.1 s hf.1) ?_
 unfold Dja
 have hl1:=hf.1
 cases h:fnd d.1 s with
 |none=>exact I4b (by decide) (I0b rfl)
 |some i=>
  have hl:=(O7 h).1
  dsimp only
  refine I5b (by omega) (I4b (by omega) (I4b (by omega) ?_))
  rw[show toNat (i:Int)=i from Vb i]
  have hb:=hf.2 _ (A3 (d:=D8) hl)
  refine Icb (Ieb (Q:=λ r=>r=(d.1.getD i D8).2) (Nh _ hb) rfl) ?_
  exact I0b rfl
def Nha (d:Dsk) (s:ByteArray) (hf:Fza d.1):Tot (λ k=>Fe k d s) (λ r=>r=rdN d.1 s):=by
 unfold Fe rdN
 refine Icb (Dka d.1 s hf.1) ?_
 unfold Dja
 have hl1:=hf.1
 cases h:fnd d.1 s with
 |none=>exact I4b (by decide) (I0b rfl)
 |some i=>
  have hl:=(O7 h).1
  dsimp only
  refine I5b (by omega) (I4b (by omega) (I4b (by omega) ?_))
  rw[show toNat (i:Int)=i from Vb i]
  have hb:=hf.2 _ (A3 (d:=D8) hl)
  exact I8b (Kra _ hb) (I0b rfl)

def Da (l:List Nmd):Prop:=l.Pairwise (λ a b=>tlt a.1 b.1=true)
def Ksa:∀ (p:Option ByteArray) (l:List Nmd),chn p l=true↔Da l∧(∀ r∈l,nOk r=true)∧(∀ q,p=some q→∀ r∈l,tlt q r.1=true)
 |p,[]=>by
  have:chn p []=true:=by cases p<;>rfl
  simp[this,Da]
 |none,r::l=>by
  simp only[chn,Va,Ksa (some r.1) l,Da,Wh]
  constructor
  ·rintro⟨h1,h2,h3,h4⟩
   exact⟨⟨λ a ha=>h4 _ rfl a ha,h2⟩,λ a ha=>by rcases Vl.1 ha with rfl|ha;exact h1;exact h3 a ha,λ q hq=>by cases hq⟩
  ·rintro⟨⟨h1,h2⟩,h3,_⟩
   exact⟨h3 r (by simp),h2,λ a ha=>h3 a (Vh _ ha),λ q hq a ha=>by cases hq;exact h1 a ha⟩
 |some q,r::l=>by
  simp only[chn,Va,Ksa (some r.1) l,Da,Wh]
  constructor
  ·rintro⟨h1,h0,h2,h3,h4⟩
   refine⟨⟨λ a ha=>h4 _ rfl a ha,h2⟩,λ a ha=>by rcases Vl.1 ha with rfl|ha;exact h1;exact h3 a ha,λ q' hq a ha=>?_⟩
   cases hq
   rcases Vl.1 ha with rfl|ha
   ·exact h0
   ·exact N0 h0 (h4 _ rfl a ha)
  ·rintro⟨⟨h1,h2⟩,h3,h4⟩
   exact⟨h3 r (by simp),h4 q rfl r (by simp),h2,λ a ha=>h3 a (Vh _ ha),λ q' hq a ha=>by cases hq;exact h1 a ha⟩
def Al {l:List Nmd}:J8 l=true↔Da l∧(∀ r∈l,nOk r=true)∧l.length≤60:=by
 unfold J8
 simp only[Va,Ksa,decide_eq_true_eq]
 constructor
 ·rintro⟨⟨h1,h2,_⟩,h3⟩
  exact⟨h1,h2,by omega⟩
 ·rintro⟨h1,h2,h3⟩
  exact⟨⟨h1,h2,λ q hq=>by cases hq⟩,by omega⟩
def Qv {x:Nmd}:nOk x=true↔B5 x.1=true∧x.2.length≤400:=by
 unfold nOk
 simp only[Va,Vw,decide_eq_false_iff_not]
 constructor
 ·rintro⟨h1,h2⟩;exact⟨h1,by omega⟩
 ·rintro⟨h1,h2⟩;exact⟨h1,by omega⟩
def Xj {l:List Nmd} (h:J8 l=true):Fza l∧Q6 l:=by
 obtain⟨_,h2,h3⟩:=Al.1 h
 refine⟨⟨by omega,λ x hx=>by have:=(Qv.1 (h2 x hx)).2;omega⟩,λ x hx=>?_⟩
 have:=Baa (Qv.1 (h2 x hx)).1
 unfold M1
 omega
def Nia (y:Nmd) (l:List Nmd) (s:ByteArray):fnd (y::l) s=if teq y.1 s then some 0 else (fnd l s).map (· + 1):=by
 unfold fnd
 rw[K2b]
def Y1a {l:List Nmd} {s:ByteArray}:fnd l s=none↔∀ x∈l,x.1≠s:=by
 unfold fnd
 rw[L1b]
 constructor
 ·intro h x hx e
  have:=h x hx
  rw[Cr.2 e]at this
  cases this
 ·intro h x hx
  cases ht:teq x.1 s with
  |false=>rfl
  |true=>exact absurd (Cr.1 ht) (h x hx)
def Qw:∀ {l:List Nmd} {s:ByteArray},Da l→del l s=cut l s
 |[],s,_=>rfl
 |y::l,s,h=>by
  have hc:=Wh.1 h
  have ih:=Qw (l:=l) (s:=s) hc.2
  unfold del cut at *
  rw[Nia,Zz]
  cases ht:teq y.1 s with
  |true=>
   have hno:∀ x∈l,(!(teq x.1 s))=true:=λ x hx=>by
    cases hx2:teq x.1 s
    ·rfl
    have e1:=Cr.1 ht
    have e2:=Cr.1 hx2
    have:=hc.1 x hx
    rw[e1,e2,I9]at this
    cases this
   rw[if_pos rfl,if_neg (by simp)]
   show []++l=_
   rw[Vy,List.filter_eq_self.2 hno]
  |false=>
   rw[if_neg (by simp),if_pos (show (!false)=true from rfl),← ih]
   cases hf:fnd l s with
   |none=>rfl
   |some i=>rfl
def Mo {l:List Nmd} {s:ByteArray} (h:Da l):Da (cut l s):=h.sublist Kqb
def Oy {l:List Nmd} {s:ByteArray}:(cut l s).Sublist l:=Kqb
def Xk {l:List Nmd} {s:ByteArray} (h:J8 l=true):J8 (cut l s)=true:=by
 obtain⟨h1,h2,h3⟩:=Al.1 h
 exact Al.2 ⟨Mo h1,λ x hx=>h2 x (Oy.subset hx),by have:=(Oy (l:=l) (s:=s)).length_le;omega⟩
def Cpb {l:List Nmd} {s:ByteArray} {i:Nat} (h:fnd l s=some i):(del l s).length+1=l.length:=by
 have hl:=(O7 h).1
 unfold del
 rw[h]
 simp only[Ve,Vq,Wc]
 omega
def Tra {l m:List Nmd} (h:m.Sublist l) (hf:Fza l):Fza m:=⟨by have:=h.length_le;have:=hf.1;omega,λ x hx=>hf.2 x (h.subset hx)⟩
def Hua {l m:List Nmd} (h:m.Sublist l) (hf:Q6 l):Q6 m:=λ x hx=>hf x (h.subset hx)

def F2a (d out:Dsk) (s:ByteArray) (hd:Y0a d∧Bba d) (ho:Y0a out∧Bba out) (hs:M1 s):Tot (λ k=>Ec k d out s) (λ r=>r=bif Ay d&&(B5 s&&Ay out) then (out,true) else (d,false)):=by
 unfold Ec
 refine Icb (Qu d hd.1 hd.2) ?_
 cases h1:Ay d with
 |false=>
  refine I3b rfl (Icb (M7 d hd.1) ?_)
  exact I0b rfl
 |true=>
  refine I2b rfl (Icb (Uo s hs) ?_)
  cases h2:B5 s with
  |false=>
   refine I3b rfl (Icb (M7 d hd.1) ?_)
   exact I0b rfl
  |true=>
   refine I2b rfl (Icb (Qu out ho.1 ho.2) ?_)
   cases h3:Ay out with
   |false=>
    refine I3b rfl (Icb (M7 d hd.1) ?_)
    exact I0b rfl
   |true=>exact I2b rfl (I0b rfl)
def Pma (d:Dsk) (s:ByteArray) (hd:Y0a d∧Bba d) (hs:M1 s):Tot (λ k=>C8 k d s) (λ r=>r=bif (fnd d.1 s).isSome&&(Ay d&&(B5 s&&Ay (cut d.1 s,d.2))) then ((cut d.1 s,d.2),true) else (d,false)):=by
 unfold C8
 refine I1b (M7 d hd.1) ?_
 rintro r rfl
 refine I1b (Dka r.1 s hd.1.1.1) ?_
 rintro i rfl
 unfold Dja
 cases h:fnd r.1 s with
 |none=>exact I4b (by decide) (I0b rfl)
 |some i=>
  dsimp only
  refine I5b (by omega) (I1b (Tqa r.1 s hd.1.1.1) ?_)
  rintro c rfl
  refine I1b (F2a r (cut r.1 s,r.2) s hd ⟨⟨Tra Oy hd.1.1,hd.1.2⟩,Hua Oy hd.2.1,hd.2.2⟩ hs) ?_
  rintro e rfl
  exact I0b rfl

def ptl (x:Nmd):Bool→List Nmd→List Nmd
 |p,[]=>bif p then [] else [x]
 |p,y::l=>(bif !p&&!(tlt y.1 x.1) then [x] else [])++((bif !(teq y.1 x.1) then [y] else [])++ptl x (p||!(tlt y.1 x.1)) l)
def Kta (l:List Nmd) (s:ByteArray) (b:List Int) (hf:l.length≤1000000000000):∀ (n i:Nat) (acc:List Nmd) (p:Bool),l.length-i=n→i≤l.length→acc.length≤2*i→
  Tot (λ k=>Cb k l s acc p (i:Int) s b) (λ r=>r.1++(bif r.2.1 then [] else [(s,b)])=acc++ptl (s,b) p (l.drop i)∧r.2.2=(s,b)∧r.1.length≤2*l.length):=by
 intro n
 induction n with
 |zero=>
  intro i acc p hd hi ha
  refine Tot.succ ?_
  simp only[Cb]
  refine I5b (by omega) (I0b ?_)
  rw[Wj (by omega)]
  exact⟨rfl,rfl,by dsimp only;omega⟩
 |succ n ih=>
  intro i acc p hd hi ha
  have hlt:i<l.length:=by omega
  refine Tot.succ ?_
  simp only[Cb]
  refine I4b (by omega) ?_
  rw[show toNat (i:Int)=i from Vb i,w64 (n:=(i:Int)+1) (by omega) (by omega),Ai (d:=D8) hlt]
  have e0:l.getD i ((⟨#[]⟩:ByteArray),([]:List Int))=l.getD i D8:=rfl
  rw[e0]
  have step:∀ (ac:List Nmd) (q:Bool),ac.length≤2*i+1→Tot (λ k=>cond (decide ((0:Int)≤i)) (cond (decide ((i:Int)<(length l:Int))) (cond (!((l.getD i D8).1.toList==s.toList)) (cond (decide ((0:Int)≤i)) (cond (decide ((i:Int)<(length l:Int))) (cond (Nat.ble ((length ac+length [l.getD i D8])*40) 140737488355328) (Cb k l s (ac++[l.getD i D8]) q ((i:Int)+1) s b) none) none) none) (Cb k l s ac q ((i:Int)+1) s b)) none) none)
    (λ r=>r.1++(bif r.2.1 then [] else [(s,b)])=ac++((bif !(teq (l.getD i D8).1 s) then [l.getD i D8] else [])++ptl (s,b) q (l.drop (i+1)))∧r.2.2=(s,b)∧r.1.length≤2*l.length):=by
   intro ac q hac
   refine I4b (by omega) (I4b (by omega) (I6b (λ h=>?_) (λ h=>?_)))
   ·have h':(!(teq (l.getD i D8).1 s))=true:=h
    rw[h']
    refine I4b (by omega) (I4b (by omega) (I8b (by simp only[Vd,Vk];omega) ?_))
    refine(ih (i+1) (ac++[l.getD i D8]) q (by omega) (by omega) (by simp only[Ve,Vd,Vk];omega)).mono ?_
    rintro r ⟨h1,h2,h3⟩
    refine⟨?_,h2,h3⟩
    rw[h1,Vn]
    rfl
   ·have h':(!(teq (l.getD i D8).1 s))=false:=h
    rw[h']
    exact ih (i+1) ac q (by omega) (by omega) (by omega)
  cases p with
  |true=>
   refine I2b rfl ?_
   refine(step acc true (by omega)).mono ?_
   rintro r ⟨h1,h2,h3⟩
   exact⟨h1,h2,h3⟩
  |false=>
   refine I3b rfl (I4b (by omega) (I4b (by omega) (I6b (λ h=>?_) (λ h=>?_))))
   ·have h':(!(tlt (l.getD i D8).1 s))=true:=h
    refine I8b (by simp only[Vd,Vk];omega) ?_
    refine(step (acc++[(s,b)]) true (by simp only[Ve,Vd,Vk];omega)).mono ?_
    rintro r ⟨h1,h2,h3⟩
    refine⟨?_,h2,h3⟩
    rw[h1]
    simp only[ptl,h',Zh,Bool.and_self,Zza,cond_true,Vn]
   ·have h':(!(tlt (l.getD i D8).1 s))=false:=h
    refine(step acc false (by omega)).mono ?_
    rintro r ⟨h1,h2,h3⟩
    refine⟨?_,h2,h3⟩
    rw[h1]
    simp only[ptl,h',Zh,Ya,Zza,cond_false,Vy]
def F3a (l:List Nmd) (s:ByteArray) (b:List Int) (hf:l.length≤1000000000000) (hb:b.length≤1000000000000):Tot (λ k=>Fk k l s b) (λ r=>r=ptl (s,b) false l):=by
 unfold Fk
 refine I8b (Kra b hb) ?_
 rw[Vy]
 refine I1b (Kta l s b hf _ 0 [] false rfl (Vs _) (Vs _)) ?_
 rintro⟨r,q,x,y⟩ ⟨h1,h2,h3⟩
 rw[Wq,Vy]at h1
 dsimp only at h1 h2 h3
 dsimp only
 cases q with
 |true=>
  refine I2b rfl (I0b ?_)
  rw[← h1];simp
 |false=>
  refine I3b rfl (I8b (by simp only[Vd,Vk];omega) (I0b ?_))
  rw[← h1]
  obtain⟨rfl,rfl⟩:=Prod.mk.inj h2
  rfl
def Tsa (x:Nmd):∀ (p:Bool) (l:List Nmd),∀ y∈ptl x p l,y∈l∨y=x:=by
 intro p l
 induction l generalizing p with
 |nil=>intro y hy;cases p<;>simp_all [ptl]
 |cons a l ih=>
  intro y hy
  simp only[ptl,Vo]at hy
  rcases hy with hy|hy|hy
  ·revert hy;cases (!p&&!(tlt a.1 x.1))<;>simp_all
  ·revert hy;cases (!(teq a.1 x.1))<;>simp_all
  ·rcases ih _ y hy with h|h
   ·exact Or.inl (Vh _ h)
   ·exact Or.inr h
def Cqb (x:Nmd):∀ (p:Bool) (l:List Nmd),(ptl x p l).length≤l.length+(bif p then 0 else 1):=by
 intro p l
 induction l generalizing p with
 |nil=>cases p<;>simp[ptl]
 |cons a l ih=>
  simp only[ptl,Ve,Vd]
  have:=ih (p||!(tlt a.1 x.1))
  revert this
  cases p<;>cases tlt a.1 x.1<;>cases teq a.1 x.1<;>simp<;>omega
def Y2a (x:Nmd):∀ (l:List Nmd),ptl x true l=cut l x.1:=by
 intro l
 induction l with
 |nil=>rfl
 |cons a l ih=>
  simp only[ptl,Yx,Ys,cond_false,Vy,Jwb,ih,cut,Zz]
  cases teq a.1 x.1<;>simp
def X3 (x:Nmd):∀ {l:List Nmd},Da l→ptl x false l=ins (cut l x.1) x:=by
 intro l
 induction l with
 |nil=>intro _;rfl
 |cons a l ih=>
  intro h
  have hl:Da l:=(Wh.1 h).2
  have ha:=(Wh.1 h).1
  simp only[ptl,Zh,Vx,Zza]
  cases ht:tlt a.1 x.1 with
  |true=>
   have he:teq a.1 x.1=false:=by
    cases hq:teq a.1 x.1 with
    |false=>rfl
    |true=>rw[(Cr.1 hq),I9]at ht;cases ht
   simp only[he,Yx,Zh,cond_false,cond_true,Vy,ih hl,cut,Zz,if_true]
   unfold ins plc
   rw[Zq,if_pos ht]
   rfl
  |false=>
   have hc:plc (cut (a::l) x.1) x.1=0:=by
    unfold plc cut
    rw[List.length_eq_zero_iff]
    rw[Zz]
    cases hq:teq a.1 x.1
    ·rw[Zh,if_pos rfl,Zq,if_neg (by rw[ht];simp)]
    have hx:=(Cr.1 hq)
    simp only[Yx,Yb,if_false]
    cases hf:l.filter (λ y => !(teq y.1 x.1)) with
    |nil=>rfl
    |cons b m=>
     have hb:b∈l:=by
      have:b∈l.filter (λ y => !(teq y.1 x.1)):=by rw[hf];exact Yc
      exact(Jjb.1 this).1
     have hab:=ha b hb
     rw[hx]at hab
     rw[Zq,if_neg (by rw[Uj hab];simp)]
   simp only[Zh,cond_true,Y2a]
   unfold ins
   rw[hc]
   simp only[Irb,Vy,Wq,cut,Zz]
   cases teq a.1 x.1<;>simp

def Tta {l:List Nmd} {x:Nmd} {p:Bool} (hl:Fza l) (hl':l.length≤999999999999) (hx:x.2.length≤1000000000000):Fza (ptl x p l):=by
 refine⟨?_,λ y hy=>?_⟩
 ·have:=Cqb x p l
  revert this
  cases p<;>simp<;>omega
 ·rcases Tsa x p l y hy with h|rfl
  ·exact hl.2 y h
  ·exact hx
def Hva {l:List Nmd} {x:Nmd} {p:Bool} (hl:Q6 l) (hx:M1 x.1):Q6 (ptl x p l):=by
 intro y hy
 rcases Tsa x p l y hy with h|rfl
 ·exact hl y h
 ·exact hx
def DIn (d:Dsk):Prop:=(Y0a d∧Bba d)∧d.1.length≤2000000∧d.2.length≤2000000
def Og {d:Dsk} (h:Ay d=true):DIn d:=by
 unfold Ay at h
 rw[Va]at h
 have h1:=Xj h.1
 have h2:=Xj h.2
 exact⟨⟨⟨h1.1,h2.1⟩,h1.2,h2.2⟩,by have:=(Al.1 h.1).2.2;omega,by have:=(Al.1 h.2).2.2;omega⟩
def Tua (d:Dsk) (s:ByteArray) (b:List Int) (hd:DIn d) (hs:M1 s) (hb:b.length≤1000000000000):Tot (λ k=>E3 k d s b) (λ r=>r=bif Ay d&&(B5 s&&Ay (ptl (s,b) false d.1,d.2)) then ((ptl (s,b) false d.1,d.2),true) else (d,false)):=by
 unfold E3
 refine I1b (M7 d hd.1.1) ?_
 rintro r rfl
 refine I1b (F3a r.1 s b hd.1.1.1.1 hb) ?_
 rintro c rfl
 refine I1b (F2a r (ptl (s,b) false r.1,r.2) s hd.1 ⟨⟨Tta hd.1.1.1 (by have:=hd.2.1;omega) hb,hd.1.1.2⟩,Hva hd.1.2.1 hs,hd.1.2.2⟩ hs) ?_
 rintro e rfl
 exact I0b rfl
def syS (d:Dsk) (s:ByteArray):List Nmd:=match fnd d.1 s with
 |some i=>ptl (s,(d.1.getD i D8).2) false (cut d.2 s)
 |none=>cut d.2 s
def Feb {d:Dsk} {s:ByteArray} (hd:DIn d) (hs:M1 s):Fza (syS d s)∧Q6 (syS d s):=by
 unfold syS
 have h1:=Tra (Oy (l:=d.2) (s:=s)) hd.1.1.2
 have h2:=Hua (Oy (l:=d.2) (s:=s)) hd.1.2.2
 cases h:fnd d.1 s with
 |none=>exact⟨h1,h2⟩
 |some i=>
  have hb:=hd.1.1.1.2 _ (A3 (d:=D8) (O7 h).1)
  have hc:(cut d.2 s).length≤d.2.length:=(Oy (l:=d.2) (s:=s)).length_le
  exact⟨Tta h1 (by have:=hd.2.2;omega) hb,Hva h2 hs⟩
def Y3a (d:Dsk) (s:ByteArray) (hd:DIn d) (hs:M1 s):Tot (λ k=>Bc k d s) (λ r=>r=bif Ay d&&(B5 s&&Ay (d.1,syS d s)) then ((d.1,syS d s),true) else (d,false)):=by
 unfold Bc
 have hin:=Feb hd hs
 refine I1b (M7 d hd.1.1) ?_
 rintro r rfl
 refine I1b (Nha r s hd.1.1.1) ?_
 rintro b rfl
 refine I1b (Tqa r.2 s hd.1.1.2.1) ?_
 rintro c rfl
 have e:∀ o,o=syS r s→Tot (λ k=>(Ec k r (r.1,o) s).bind λ r5=>some (r5.1,r5.2)) (λ q=>q=bif Ay r&&(B5 s&&Ay (r.1,syS r s)) then ((r.1,syS r s),true) else (r,false)):=by
  rintro o rfl
  refine I1b (F2a r (r.1,syS r s) s hd.1 ⟨⟨hd.1.1.1,hin.1⟩,hd.1.2.1,hin.2⟩ hs) ?_
  rintro e rfl
  exact I0b rfl
 have hc:(cut r.2 s).length≤r.2.length:=(Oy (l:=r.2) (s:=s)).length_le
 cases h:fnd r.1 s with
 |none=>
  have h':rdN r.1 s=([],false):=by unfold rdN;rw[h]
  rw[h']
  refine I2b rfl (e _ ?_)
  unfold syS;rw[h]
 |some i=>
  have h':rdN r.1 s=((r.1.getD i D8).2,true):=by unfold rdN;rw[h]
  rw[h']
  have hb:=hd.1.1.1.2 _ (A3 (d:=D8) (O7 h).1)
  refine I3b rfl (I1b (F3a (cut r.2 s) s _ (by have:=hd.2.2;omega) hb) ?_)
  rintro o rfl
  refine e _ ?_
  unfold syS;rw[h]
def Pna (d:Dsk) (s:ByteArray) (hd:Y0a d∧Bba d):Tot (λ k=>Ew k d s) (λ r=>r=bif (fnd d.1 s).isSome&&Ay d then ((del d.1 s,d.2),true) else (d,false)):=by
 unfold Ew
 refine I1b (Jn d hd.1) ?_
 rintro r rfl
 refine I1b (Sp r hd.1 hd.2) ?_
 rintro b rfl
 cases h1:Ay r
 ·refine I3b rfl (I0b ?_);rw[Ya];rfl
 refine I2b rfl (I1b (Hpa r.1 s hd.1.1.1) ?_)
 rintro i rfl
 unfold Dja
 cases h:fnd r.1 s with
 |none=>exact I4b (by decide) (I0b rfl)
 |some i=>
  dsimp only
  refine I5b (by omega) (I1b (Uu r.1 s hd.1.1.1) ?_)
  rintro c rfl
  exact I0b rfl
def syI (d:Dsk) (s:ByteArray):List Nmd:=match fnd d.1 s with
 |some i=>ins (del d.2 s) (s,(d.1.getD i D8).2)
 |none=>del d.2 s
def Dla (l:List Nmd) (s:ByteArray):(del l s).length≤l.length:=by
 cases h:fnd l s with
 |none=>unfold del;rw[h];exact Vv _
 |some i=>have:=Cpb h;omega
def Crb (l:List Nmd) (x:Nmd):(ins l x).length=l.length+1:=by
 unfold ins
 have:=Aeb l x.1
 simp only[Ve,Vq,Wc,Vd,Vk]
 omega
def Y4a (d:Dsk) (s:ByteArray) (hd:DIn d) (hs:M1 s):Tot (λ k=>Bz k d s) (λ r=>r=bif Ay d&&(B5 s&&decide ((syI d s).length≤60)) then ((d.1,syI d s),true) else (d,false)):=by
 unfold Bz
 refine I1b (Jn d hd.1.1) ?_
 rintro r rfl
 refine I1b (Sp r hd.1.1 hd.1.2) ?_
 rintro b rfl
 cases h1:Ay r
 ·exact I3b rfl (I0b rfl)
 refine I2b rfl (I1b (Qs s hs) ?_)
 rintro b rfl
 cases h2:B5 s
 ·exact I3b rfl (I0b rfl)
 refine I2b rfl (I1b (Uu r.2 s hd.1.1.2.1) ?_)
 rintro c rfl
 refine I1b (Hpa r.1 s hd.1.1.1.1) ?_
 rintro i rfl
 have hdl:=Dla r.2 s
 have hr2:=hd.2.2
 have hr1:=hd.2.1
 have e:∀ o,o=syI r s→o.length≤4000000→Tot (λ k=>cond (decide ((length o:Int) > 60)) ((A5 k r).bind λ r9=>some (r9,false)) (some ((r.1,o),true))) (λ q=>q=bif true&&(true&&decide ((syI r s).length≤60)) then ((r.1,syI r s),true) else (r,false)):=by
  rintro o rfl _
  refine I7b (λ h=>?_) (λ h=>?_)
  ·refine I1b (Jn r hd.1.1) ?_
   rintro q rfl
   refine I0b ?_
   rw[decide_eq_false (by omega)]
   rfl
  ·refine I0b ?_
   rw[decide_eq_true (by omega)]
   rfl
 unfold Dja
 cases h:fnd r.1 s with
 |none=>
  refine I5b (by decide) (e _ ?_ (by omega))
  unfold syI;rw[h]
 |some i=>
  have hl:=(O7 h).1
  dsimp only
  refine I4b (by omega) (I4b (by omega) (I4b (by omega) ?_))
  rw[show toNat (i:Int)=i from Vb i]
  have hb:=hd.1.1.1.2 _ (A3 (d:=D8) hl)
  refine I1b (Ieb (Q:=λ q=>q=(r.1.getD i D8).2) (Nh _ hb) rfl) ?_
  rintro q rfl
  refine I1b (Nfa (del r.2 s) (s,(r.1.getD i D8).2) (by omega)) ?_
  rintro o rfl
  refine e _ ?_ (by rw[Crb];omega)
  unfold syI;rw[h]

section
open Go
end

section
open Go
end

def T4 (p:Nmd→Bool):∀ l:List Nmd,l.take (l.takeWhile p).length=l.takeWhile p∧l.drop (l.takeWhile p).length=l.dropWhile p
 |[]=>⟨rfl,rfl⟩
 |y::l=>by
  obtain⟨h1,h2⟩:=T4 p l
  simp only[Zq,Jrb]
  cases p y with
  |true=>simp[h1,h2]
  |false=>simp
def Hwa {p:Nmd→Bool}:∀ {l:List Nmd} {y:Nmd},y∈l.takeWhile p→p y=true
 |[],y,h=>by simp at h
 |z::l,y,h=>by
  simp only[Zq]at h
  cases hz:p z
  ·rw[hz]at h;simp at h
  rw[hz]at h
  simp only[if_true]at h
  rcases Vl.1 h with rfl|h
  ·exact hz
  ·exact Hwa h
def Afb (l:List Nmd) (x:Nmd):ins l x=l.takeWhile (λ y=>tlt y.1 x.1)++([x]++l.dropWhile (λ y=>tlt y.1 x.1)):=by
 unfold ins plc
 obtain⟨h1,h2⟩:=T4 (λ y=>tlt y.1 x.1) l
 rw[h1,h2,Vn]
def Dma {x:Nmd}:∀ {l:List Nmd},Da l→(∀ y∈l,y.1≠x.1)→∀ z∈l.dropWhile (λ y=>tlt y.1 x.1),tlt x.1 z.1=true
 |[],_,_,z,hz=>by simp at hz
 |y::l,hs,hn,z,hz=>by
  obtain⟨h1,h2⟩:=Wh.1 hs
  simp only[Jrb]at hz
  cases hy:tlt y.1 x.1 with
  |true=>
   rw[hy]at hz
   simp only[if_true]at hz
   exact Dma h2 (λ w hw=>hn w (Vh _ hw)) z hz
  |false=>
   rw[hy]at hz
   simp only[Yb,if_false]at hz
   have hxy:tlt x.1 y.1=true:=by
    cases hh:tlt x.1 y.1 with
    |true=>rfl
    |false=>exact absurd (Aza hy hh) (hn y (by simp))
   rcases Vl.1 hz with rfl|hz
   ·exact hxy
   ·exact N0 hxy (h1 z hz)
def Q7 {l:List Nmd} {x:Nmd} (hs:Da l) (hn:∀ y∈l,y.1≠x.1):Da (ins l x):=by
 rw[Afb]
 have hs':Da (l.takeWhile (λ y=>tlt y.1 x.1)++l.dropWhile (λ y=>tlt y.1 x.1)):=by rw[Jbb];exact hs
 obtain⟨h1,h2,h3⟩:=Zi.1 hs'
 have h4:∀ y∈l.takeWhile (λ y=>tlt y.1 x.1),tlt y.1 x.1=true:=λ y hy=>Hwa (p:=λ y=>tlt y.1 x.1) hy
 refine Zi.2 ⟨h1,Wh.2 ⟨λ z hz=>Dma hs hn z hz,h2⟩,λ a ha b hb=>?_⟩
 rcases Vl.1 hb with rfl|hb
 ·exact h4 a ha
 ·exact h3 a ha b hb
def X4 {l:List Nmd} {x y:Nmd}:y∈ins l x↔y=x∨y∈l:=by
 rw[Afb]
 have e:=Jbb (p:=λ y:Nmd=>tlt y.1 x.1) (l:=l)
 constructor
 ·intro h
  rcases Vo.1 h with h|h
  ·right;rw[← e];exact Wa _ h
  ·rcases Vl.1 h with h|h
   ·exact .inl h
   ·right;rw[← e];exact Vt _ h
 ·rintro (rfl|h)
  ·exact Vt _ (by simp)
  ·rw[← e]at h
   rcases Vo.1 h with h|h
   ·exact Wa _ h
   ·exact Vt _ (Vh _ h)
def Agb {l:List Nmd} {x:Nmd} (hl:J8 l=true) (hn:∀ y∈l,y.1≠x.1) (hx:nOk x=true):J8 (ins l x)=decide ((ins l x).length≤60):=by
 obtain⟨h1,h2,h3⟩:=Al.1 hl
 by_cases h:(ins l x).length≤60
 ·rw[decide_eq_true h]
  exact Al.2 ⟨Q7 h1 hn,λ y hy=>by rcases X4.1 hy with rfl|hy;exact hx;exact h2 y hy,h⟩
 ·rw[decide_eq_false h]
  cases hc:J8 (ins l x) with
  |false=>rfl
  |true=>exact absurd (Al.1 hc).2.2 h
def Xl {l:List Nmd} {s:ByteArray}:∀ y∈cut l s,y.1≠s:=λ y hy e=>by
 have:=(Jjb.1 hy).2
 simp[e,Cr.2 rfl]at this
def Csb {l:List Nmd} {s:ByteArray}:cut (cut l s) s=cut l s:=by
 unfold cut
 rw[List.filter_filter]
 congr 1
 funext x
 simp
def Ctb {d:Dsk} {s:ByteArray} (hd:Ay d=true):syS d s=syI d s:=by
 unfold Ay at hd
 rw[Va]at hd
 have hs:=(Al.1 hd.2).1
 unfold syS syI
 rw[Qw hs]
 cases fnd d.1 s with
 |none=>rfl
 |some i=>
  show ptl _ false (cut d.2 s)=ins (cut d.2 s) _
  rw[X3 _ (Mo hs)]
  show ins (cut (cut d.2 s) s) _=_
  rw[Csb]
def Tva {d:Dsk} {s:ByteArray} (hd:Ay d=true) (hs:B5 s=true):Ay (d.1,syI d s)=decide ((syI d s).length≤60):=by
 have hd':=hd
 unfold Ay at hd'
 rw[Va]at hd'
 have h2:=Al.1 hd'.2
 unfold Ay
 rw[hd'.1,Vx]
 unfold syI
 rw[Qw h2.1]
 cases h:fnd d.1 s with
 |none=>show J8 (cut d.2 s)=decide ((cut d.2 s).length≤60);rw[Xk hd'.2,decide_eq_true (Al.1 (Xk (s:=s) hd'.2)).2.2]
 |some i=>
  refine Agb (Xk hd'.2) Xl (Qv.2 ⟨hs,?_⟩)
  have h1:=(Al.1 hd'.1).2.1 _ (A3 (d:=D8) (O7 h).1)
  exact(Qv.1 h1).2
def Cub {l:List Nmd} (hs:Da l) {x y:Nmd} (hx:x∈l) (hy:y∈l) (e:x.1=y.1):x=y:=by
 induction l with
 |nil=>simp at hx
 |cons z l ih=>
  obtain⟨h1,h2⟩:=Wh.1 hs
  rcases Vl.1 hx with hx'|hx'
  ·rcases Vl.1 hy with hy'|hy'
   ·rw[hx',hy']
   ·have:=h1 y hy';rw[← hx',e,I9]at this;cases this
  ·rcases Vl.1 hy with hy'|hy'
   ·have:=h1 x hx';rw[← hy',e,I9]at this;cases this
   ·exact ih h2 hx' hy'

def wrI (d:Dsk) (s:ByteArray) (b:List Int):List Nmd:=ins (del d.1 s) (s,b)
def Twa (d:Dsk) (s:ByteArray) (b:List Int) (hd:DIn d) (hs:M1 s) (hb:b.length≤1000000000000):Tot (λ k=>E4 k d s b) (λ r=>r=bif Ay d&&(B5 s&&(decide (b.length≤400)&&decide ((wrI d s b).length≤60))) then ((wrI d s b,d.2),true) else (d,false)):=by
 unfold E4
 refine I1b (Jn d hd.1.1) ?_
 rintro r rfl
 refine I1b (Sp r hd.1.1 hd.1.2) ?_
 rintro b1 rfl
 cases h1:Ay r
 ·exact I3b rfl (I0b rfl)
 refine I2b rfl (I1b (Qs s hs) ?_)
 rintro b2 rfl
 cases h2:B5 s
 ·exact I3b rfl (I0b rfl)
 refine I2b rfl (I7b (λ h=>?_) (λ h=>?_))
 ·rw[decide_eq_false (show ¬ b.length≤400 by omega)]
  exact I0b rfl
 ·rw[decide_eq_true (show b.length≤400 by omega)]
  refine I1b (Uu r.1 s hd.1.1.1.1) ?_
  rintro c rfl
  refine I1b (Ieb (Q:=λ x=>x=b) (Nh b hb) rfl) ?_
  rintro e rfl
  have hdl:=Dla r.1 s
  refine I1b (Nfa (del r.1 s) (s,e) (by have:=hd.2.1;omega)) ?_
  rintro m rfl
  refine I7b (λ h=>?_) (λ h=>?_)
  ·rw[decide_eq_false (show ¬ (wrI r s e).length≤60 by unfold wrI;omega)]
   refine I1b (Jn r hd.1.1) ?_
   rintro x rfl
   exact I0b rfl
  ·rw[decide_eq_true (show (wrI r s e).length≤60 by unfold wrI;omega)]
   exact I0b rfl
def Nja {d:Dsk} {s:ByteArray} {b:List Int} (hd:Ay d=true) (hs:B5 s=true):ptl (s,b) false d.1=wrI d s b∧Ay (wrI d s b,d.2)=(decide (b.length≤400)&&decide ((wrI d s b).length≤60)):=by
 have hd':=hd
 unfold Ay at hd'
 rw[Va]at hd'
 have h1:=Al.1 hd'.1
 have e1:wrI d s b=ins (cut d.1 s) (s,b):=by unfold wrI;rw[Qw h1.1]
 refine⟨by rw[e1];exact X3 _ h1.1,?_⟩
 unfold Ay
 rw[hd'.2,Iib,e1]
 by_cases hb:b.length≤400
 ·rw[decide_eq_true hb,Vx]
  exact Agb (Xk hd'.1) Xl (Qv.2 ⟨hs,hb⟩)
 ·rw[decide_eq_false hb,Ys]
  cases hc:J8 (ins (cut d.1 s) (s,b)) with
  |false=>rfl
  |true=>exact absurd (Qv.1 ((Al.1 hc).2.1 (s,b) (X4.2 (.inl rfl)))).2 hb

def TS (l:List ByteArray):Prop:=l.Pairwise (λ a b=>tlt a b=true)
def pk (l:List Nmd) (s:ByteArray):Option Nmd:=match fnd l s with
 |some i=>some (l.getD i D8)
 |none=>none
def Ni:ByteArray:=⟨#[]⟩
def tpl (l:List ByteArray) (s:ByteArray):Nat:=(l.takeWhile (λ y=>tlt y s)).length
def wt (l:List ByteArray) (s:ByteArray):List ByteArray:=if tpl l s<l.length∧teq (l.getD (tpl l s) Ni) s=true then l else l.take (tpl l s)++[s]++l.drop (tpl l s)
def Ahb (l:List ByteArray) (s:ByteArray):tpl l s≤l.length:=(L9b _).length_le
def Xz (l:List ByteArray) (s:ByteArray) (hf:l.length≤1000000000000):∀ (n i:Nat),l.length-i=n→i≤l.length→
  Tot (λ k=>Eu k l s (i:Int)) (λ r=>r=(l,s,((i+tpl (l.drop i) s:Nat):Int))):=by
 intro n
 induction n with
 |zero=>
  intro i hd hi
  refine Tot.succ ?_
  simp only[Eu]
  refine I5b (by omega) (I0b ?_)
  rw[Wj (by omega)]
  rfl
 |succ n ih=>
  intro i hd hi
  have hlt:i<l.length:=by omega
  refine Tot.succ ?_
  simp only[Eu]
  refine I4b (by omega) (I4b (by omega) (I4b (by omega) ?_))
  rw[show toNat (i:Int)=i from Vb i,w64 (n:=(i:Int)+1) (by omega) (by omega),Ai (d:=Ni) hlt]
  have e0:l.getD i (⟨#[]⟩:ByteArray)=l.getD i Ni:=rfl
  rw[e0]
  have e1:tpl (l.getD i Ni::l.drop (i+1)) s=if tlt (l.getD i Ni) s then tpl (l.drop (i+1)) s+1 else 0:=by
   unfold tpl
   rw[Zq]
   split<;>rfl
  rw[e1]
  refine I6b (λ h=>?_) (λ h=>?_)
  ·have h':tlt (l.getD i Ni) s=true:=h
   rw[if_pos h']
   refine(ih (i+1) (by omega) (by omega)).mono ?_
   rintro r rfl
   rw[show i+1+tpl (l.drop (i+1)) s=i+(tpl (l.drop (i+1)) s+1) by omega]
  ·have h':¬ (tlt (l.getD i Ni) s=true):=by
    have:tlt (l.getD i Ni) s=false:=h
    rw[this];simp
   rw[if_neg h']
   exact I0b rfl
def F4a (l:List ByteArray) (s:ByteArray) (hf:l.length≤1000000000):Tot (λ k=>Hs k l s) (λ r=>r=wt l s):=by
 unfold Hs
 refine I1b (Xz l s (by omega) _ 0 rfl (Vs _)) ?_
 intro r hr
 rw[Wq,Wk]at hr
 subst hr
 have hj:=Ahb l s
 generalize hjj:tpl l s=j at *
 dsimp only
 have hno:¬ (j<l.length∧teq (l.getD j Ni) s=true)→Tot (λ k=>cond (decide ((0:Int)≤(j:Int))) (cond (decide ((j:Int)≤(length l:Int))) (cond (Nat.ble ((length ([]:List ByteArray)+length (List.take (toNat (j:Int)) l))*16) 140737488355328) (let v3:List ByteArray:=([]:List ByteArray)++(List.take (toNat (j:Int)) l);cond (Nat.ble ((length v3+length [s])*16) 140737488355328) (cond (decide ((0:Int)≤(j:Int))) (cond (decide ((j:Int)≤(length l:Int))) (cond (Nat.ble ((length (v3++[s])+length (List.drop (toNat (j:Int)) l))*16) 140737488355328) (some ((v3++[s])++(List.drop (toNat (j:Int)) l))) none) none) none) none) none) none) none)
   (λ r=>r=wt l s):=by
  intro hn
  refine I4b (by omega) (I4b (by omega) ?_)
  rw[show toNat (j:Int)=j from Vb j]
  refine I8b (by simp only[Vk,Vq];omega) ?_
  refine I8b (by simp only[Ve,Vk,Vq,Vd];omega) ?_
  refine I4b (by omega) (I4b (by omega) (I8b (by simp only[Ve,Vk,Vq,Wc,Vd];omega) (I0b ?_)))
  unfold wt
  rw[hjj,if_neg hn,Vy]
 refine I7b (λ h=>?_) (λ h=>hno (λ hh=>h (by omega)))
 refine I4b (by omega) (I4b h ?_)
 rw[show toNat (j:Int)=j from Vb j]at *
 refine I6b (λ he=>I0b ?_) (λ he=>hno (λ hh=>?_))
 ·unfold wt
  rw[hjj,if_pos ⟨by omega,he⟩]
 ·have h2:teq (l.getD j Ni) s=false:=he
  rw[h2]at hh
  cases hh.2
def Hxa {l:List ByteArray} {s y:ByteArray}:y∈wt l s↔y=s∨y∈l:=by
 unfold wt
 by_cases h:tpl l s<l.length∧teq (l.getD (tpl l s) Ni) s=true
 ·rw[if_pos h]
  refine⟨.inr,λ h'=>?_⟩
  rcases h' with rfl|h'
  ·have:=A3 (d:=Ni) h.1
   rwa [Cr.1 h.2]at this
  ·exact h'
 ·rw[if_neg h]
  have e:l.take (tpl l s)++l.drop (tpl l s)=l:=Wo _ _
  constructor
  ·intro h'
   rw[Vn]at h'
   rcases Vo.1 h' with h'|h'
   ·right;rw[← e];exact Wa _ h'
   ·rcases Vo.1 h' with h'|h'
    ·left;simpa using h'
    ·right;rw[← e];exact Vt _ h'
  ·rintro (rfl|h')
   ·simp
   ·rw[← e]at h'
    rcases Vo.1 h' with h'|h'<;>simp[h']
def Nka (p:ByteArray→Bool):∀ l:List ByteArray,l.take (l.takeWhile p).length=l.takeWhile p∧l.drop (l.takeWhile p).length=l.dropWhile p
 |[]=>⟨rfl,rfl⟩
 |y::l=>by
  obtain⟨h1,h2⟩:=Nka p l
  simp only[Zq,Jrb]
  cases p y with
  |true=>simp[h1,h2]
  |false=>simp
def Dna {p:ByteArray→Bool}:∀ {l:List ByteArray} {y:ByteArray},y∈l.takeWhile p→p y=true
 |[],y,h=>by simp at h
 |z::l,y,h=>by
  simp only[Zq]at h
  cases hz:p z
  ·rw[hz]at h;simp at h
  rw[hz]at h
  simp only[if_true]at h
  rcases Vl.1 h with rfl|h
  ·exact hz
  ·exact Dna h
def Bda {s:ByteArray}:∀ {l:List ByteArray},TS l→(∀ y r,l.dropWhile (λ y=>tlt y s)=y::r→y≠s)→∀ z∈l.dropWhile (λ y=>tlt y s),tlt s z=true
 |[],_,_,z,hz=>by simp at hz
 |y::l,hs,hn,z,hz=>by
  obtain⟨h1,h2⟩:=Wh.1 hs
  simp only[Jrb]at hz hn
  cases hy:tlt y s with
  |true=>
   rw[hy]at hz hn
   simp only[if_true]at hz hn
   exact Bda h2 hn z hz
  |false=>
   rw[hy]at hz hn
   simp only[Yb,if_false]at hz hn
   have hxy:tlt s y=true:=by
    cases hh:tlt s y with
    |true=>rfl
    |false=>exact absurd (Aza hy hh) (hn y l rfl)
   rcases Vl.1 hz with rfl|hz
   ·exact hxy
   ·exact N0 hxy (h1 z hz)
def Rx {l:List ByteArray} {s:ByteArray} (hs:TS l):TS (wt l s):=by
 unfold wt
 by_cases h:tpl l s<l.length∧teq (l.getD (tpl l s) Ni) s=true
 ·rw[if_pos h];exact hs
 ·rw[if_neg h]
  obtain⟨e1,e2⟩:=Nka (λ y=>tlt y s) l
  have hd:∀ y r,l.dropWhile (λ y=>tlt y s)=y::r→y≠s:=by
   intro y r hr hy
   rw[← e2]at hr
   have hlt:tpl l s<l.length:=by
    rcases Jtb (tpl l s) l.length with h'|h'
    ·exact h'
    ·have:l.drop (tpl l s)=[]:=Wj h'
     unfold tpl at this
     rw[this]at hr
     cases hr
   have:l.drop (tpl l s)=l.getD (tpl l s) Ni::l.drop (tpl l s+1):=Ai hlt
   unfold tpl at this
   rw[this]at hr
   simp only[Yk]at hr
   exact h ⟨hlt,Cr.2 (hr.1.trans hy)⟩
  have e1':l.take (tpl l s)=l.takeWhile (λ y=>tlt y s):=e1
  have e2':l.drop (tpl l s)=l.dropWhile (λ y=>tlt y s):=e2
  rw[e1',e2',Vn]
  have hs':TS (l.takeWhile (λ y=>tlt y s)++l.dropWhile (λ y=>tlt y s)):=by rw[Jbb];exact hs
  obtain⟨h1,h2,h3⟩:=Zi.1 hs'
  refine Zi.2 ⟨h1,Wh.2 ⟨λ z hz=>Bda hs hd z hz,h2⟩,λ a ha b hb=>?_⟩
  rcases Vl.1 hb with rfl|hb
  ·exact Dna (p:=λ y=>tlt y b) ha
  ·exact h3 a ha b hb

def Hya {l:List ByteArray} {s:ByteArray}:(wt l s).length≤l.length+1:=by
 unfold wt
 have:=Ahb l s
 split
 ·omega
 ·simp only[Ve,Vq,Wc,Vd,Vk];omega

section
variable {α σ R:Type} {a b:α} {p:Prop} [Decidable p]
def dT (h:p):cond (decide p) a b=a:=by rw[decide_eq_true h];rfl
def dF (h:¬ p):cond (decide p) a b=b:=by rw[decide_eq_false h];rfl
def bT {m n:Nat} (h:m≤n):cond (Nat.ble m n) a b=a:=by rw[Zp h];rfl
def I9b {L:Nat→Int→σ→Option R} {Q:R→Prop} (n:Nat) (I:Nat→σ→Prop) (hend:∀ s,I n s→Tot (λ k=>L (k+1) (n:Int) s) Q)
  (Cja:∀ i s,i<n→I i s→(∀ s',I (i+1) s'→Tot (λ k=>L k ((i:Int)+1) s') Q)→Tot (λ k=>L (k+1) (i:Int) s) Q):
  ∀ (i:Nat) (s:σ),i≤n→I i s→Tot (λ k=>L k (i:Int) s) Q:=by
 suffices h:∀ (m i:Nat) (s:σ),n-i=m→i≤n→I i s→Tot (λ k=>L k (i:Int) s) Q from λ i s hi hs=>h _ i s rfl hi hs
 intro m
 induction m with
 |zero=>
  intro i s hm hi hs
  obtain rfl:i=n:=by omega
  exact Tot.succ (hend s hs)
 |succ m ih=>
  intro i s hm hi hs
  refine Tot.succ (Cja i s (by omega) hs λ s' hs'=>?_)
  have:=ih (i+1) s' (by omega) (by omega) hs'
  rwa [show (((i+1:Nat)):Int)=(i:Int)+1 by omega]at this
end
def cst (x:BitVec 32):BitVec 32:=if x.getLsbD 0 then (x >>> 1) ^^^ 2197175160#32 else x >>> 1
def Cga:Nat→BitVec 32→BitVec 32
 |0,x=>x
 |n+1,x=>Cga n (cst x)
def cby (x:BitVec 32) (b:Int):BitVec 32:=Cga 8 (x ^^^ ofInt 32 b)
def E8b (l:List Int):BitVec 32 := ~~~ (l.foldl cby 4294967295#32)
def crc (l:List Int):Int:=((E8b l).toNat:Int)
def Hob (v:BitVec 32):v.getLsbD 0=decide (v.toNat % 2=1):=by
 rw[BitVec.getLsbD,Nat.testBit_zero]
def Kua (v:BitVec 32):ofInt (IntKind.bits .u32) (v.toNat:Int)=v:=by
 show ofInt 32 (v.toNat:Int)=v
 rw[BitVec.ofInt_natCast,BitVec.ofNat_toNat,BitVec.setWidth_eq]
def Kva (n:Nat) (h:n<4294967296):(ofInt (IntKind.bits .i64) (n:Int)).toNat=n:=Rw n (by omega)
def H6b (v:BitVec 32):wrap .u32 (v.toNat:Int)=(v.toNat:Int):=L4b _ ⟨by omega,by have:=v.isLt;omega⟩
def sh1 (v:BitVec 32):Int.fdiv (v.toNat:Int) 2=((v >>> 1).toNat:Int):=by
 rw[Inb _ (by omega),BitVec.toNat_ushiftRight,Nat.shiftRight_eq_div_pow]
 omega
def H7b (v:BitVec 32):((wrap .u32 ((ofInt (IntKind.bits .u32) (v.toNat:Int) &&& ofInt (IntKind.bits .u32) 1).toNat))==1)=v.getLsbD 0:=by
 show (wrap .u32 (((ofInt 32 (v.toNat:Int) &&& ofInt 32 1).toNat:Nat):Int)==1)=_
 rw[show ofInt 32 (v.toNat:Int)=v from Kua v,H6b,Hob,Job,show (ofInt 32 1).toNat=1 from by decide,Nat.and_one_is_mod,Jkb,beq_iff_eq,decide_eq_true_iff]
 omega
def H8b (v:BitVec 32):((wrap .i64 ((ofInt (IntKind.bits .i64) (v.toNat:Int) &&& ofInt (IntKind.bits .i64) 1).toNat))==1)=v.getLsbD 0:=by
 have:=v.isLt
 rw[Hob,Job,Kva _ v.isLt,show (ofInt (IntKind.bits .i64) 1).toNat=1 from by decide,Nat.and_one_is_mod,w64 (by omega) (by omega),Jkb,beq_iff_eq,decide_eq_true_iff]
 omega
def H9b (v w:BitVec 32) (x:Int) (h:ofInt 32 x=w):wrap .u32 ((ofInt (IntKind.bits .u32) (v.toNat:Int) ^^^ ofInt (IntKind.bits .u32) x).toNat)=((v ^^^ w).toNat:Int):=by
 show wrap .u32 (((ofInt 32 (v.toNat:Int) ^^^ ofInt 32 x).toNat:Nat):Int)=_
 rw[show ofInt 32 (v.toNat:Int)=v from Kua v,h]
 exact H6b _
def Gpb (v w:BitVec 32):wrap .i64 ((ofInt (IntKind.bits .i64) (v.toNat:Int) ^^^ ofInt (IntKind.bits .i64) (w.toNat:Int)).toNat)=((v ^^^ w).toNat:Int):=by
 have:=(v ^^^ w).isLt
 rw[BitVec.toNat_xor,Kva _ v.isLt,Kva _ w.isLt,← BitVec.toNat_xor]
 exact w64 (by omega) (by omega)
def Hpb (K:IntKind) (h:1≤IntKind.bits K):(2:Int) ^ (min (toNat 1) (IntKind.bits K))=2:=by
 rw[show toNat 1=1 from rfl,Zx h];rfl
def Poa (l:List Int) (x8 x9:Int):∀ (n:Nat) (v:BitVec 32) (i:Int),0≤i→8-i=n→Tot (λ k=>Jr k (v.toNat:Int) l x8 x9 i) (λ r=>r=(((Cga n v).toNat:Int),l,x8,x9)):=by
 intro n
 induction n with
 |zero=>
  intro v i h0 hn
  refine Tot.succ ?_
  simp only[Jr]
  exact I5b (by omega) (I0b rfl)
 |succ n ih=>
  intro v i h0 hn
  refine Tot.succ ?_
  simp only[Jr]
  refine I4b (by omega) ?_
  rw[w64 (n:=i+1) (by omega) (by omega),H7b,Hpb _ (by decide),sh1,H9b _ 2197175160#32 _ (by decide)]
  have e:Cga (n+1) v=Cga n (cst v):=rfl
  rw[e]
  refine I6b (λ h=>?_) (λ h=>?_)
  ·have:=ih (v >>> 1 ^^^ 2197175160#32) (i+1) (by omega) (by omega)
   rwa [show v >>> 1 ^^^ 2197175160#32=cst v by unfold cst;rw[if_pos h]]at this ⊢
  ·have:=ih (v >>> 1) (i+1) (by omega) (by omega)
   rwa [show v >>> 1=cst v by unfold cst;rw[if_neg (by rw[h];simp)]]at this ⊢
def Kwa (l:List Int) (x4:Int):∀ (n:Nat) (v:BitVec 32) (i:Int),0≤i→8-i=n→Tot (λ k=>Js k l (v.toNat:Int) x4 i) (λ r=>r=(l,((Cga n v).toNat:Int),x4)):=by
 intro n
 induction n with
 |zero=>
  intro v i h0 hn
  refine Tot.succ ?_
  simp only[Js]
  exact I5b (by omega) (I0b rfl)
 |succ n ih=>
  intro v i h0 hn
  refine Tot.succ ?_
  simp only[Js]
  have hp:(2197175160:Int)=((2197175160#32:BitVec 32).toNat:Int):=by decide
  refine I4b (by omega) ?_
  rw[w64 (n:=i+1) (by omega) (by omega),H8b,Hpb _ (by decide),sh1,hp,Gpb]
  have e:Cga (n+1) v=Cga n (cst v):=rfl
  rw[e]
  refine I6b (λ h=>?_) (λ h=>?_)
  ·have:=ih (v >>> 1 ^^^ 2197175160#32) (i+1) (by omega) (by omega)
   rwa [show v >>> 1 ^^^ 2197175160#32=cst v by unfold cst;rw[if_pos h]]at this ⊢
  ·have:=ih (v >>> 1) (i+1) (by omega) (by omega)
   rwa [show v >>> 1=cst v by unfold cst;rw[if_neg (by rw[h];simp)]]at this ⊢
def Nla {b:Int} (h:0≤b∧b≤255):b=((ofInt 32 b).toNat:Int):=by
 rw[K0b]
 omega
def Cvb (l:List Int) (hb:Ap l) (hl:l.length≤1000000000000):Tot (λ k=>Mi k l) (λ r=>r=crc l):=by
 unfold Mi
 refine I1b (Q:=λ r=>r=(((l.foldl cby 4294967295#32).toNat:Nat):Int)) ?_ ?_
 ·have:=I9b (L:=λ k i s=>Ka k s l (l.length:Int) i) (Q:=λ r=>r=(((l.foldl cby 4294967295#32).toNat:Nat):Int)) l.length (λ i s=>∃ v:BitVec 32,s=(v.toNat:Int)∧(l.drop i).foldl cby v=l.foldl cby 4294967295#32) ?_ ?_ 0 4294967295 (Vs _) ⟨4294967295#32,by decide,by rw[Wq]⟩
  ·exact this
  ·rintro s ⟨v,rfl,hv⟩
   simp only[Ka]
   rw[We]at hv
   exact I5b (by omega) (I0b (by rw[← hv];rfl))
  ·rintro i s hi ⟨v,rfl,hv⟩ next
   simp only[Ka]
   have hx:=hb _ (A3 (d:=0) hi)
   refine I4b (by omega) (I4b (by omega) (I4b (by omega) ?_))
   rw[Vb,L4b _ ⟨hx.1,by omega⟩,H9b v _ _ rfl]
   refine Icb (Poa l _ _ 8 _ 0 (by decide) (by decide)) ?_
   simp only
   rw[w64 (n:=(i:Int)+1) (by omega) (by omega)]
   refine next _ ⟨_,rfl,?_⟩
   rw[Ai (d:=0) hi,Yq]at hv
   exact hv
 ·rintro r rfl
  refine I0b ?_
  unfold crc E8b
  have hm:ofInt 32 (if IntKind.signed .u32 then -1 else IntKind.max .u32)=BitVec.allOnes 32:=by decide
  have e:BitVec.allOnes 32 ^^^ l.foldl cby 4294967295#32 = ~~~ (l.foldl cby 4294967295#32):=by rw[Leb];exact BitVec.xor_allOnes
  show wrap .i64 (wrap .u32 (((ofInt 32 (if IntKind.signed .u32 then -1 else IntKind.max .u32) ^^^ ofInt 32 ((l.foldl cby 4294967295#32).toNat:Int)).toNat:Nat):Int))=_
  rw[show ofInt 32 ((l.foldl cby 4294967295#32).toNat:Int)=l.foldl cby 4294967295#32 from Kua _,hm,e]
  have:=(~~~ (l.foldl cby 4294967295#32)).isLt
  rw[H6b,w64 (by omega) (by omega)]
def Cwb (l:List Int) (hb:Ap l) (hl:l.length≤1000000000000):Tot (λ k=>Mj k l) (λ r=>r=crc l):=by
 unfold Mj
 refine I1b (Q:=λ r=>r=(((l.foldl cby 4294967295#32).toNat:Nat):Int)) ?_ ?_
 ·have:=I9b (L:=λ k i s=>Kf k l s i) (Q:=λ r=>r=(((l.foldl cby 4294967295#32).toNat:Nat):Int)) l.length (λ i s=>∃ v:BitVec 32,s=(v.toNat:Int)∧(l.drop i).foldl cby v=l.foldl cby 4294967295#32) ?_ ?_ 0 4294967295 (Vs _) ⟨4294967295#32,by decide,by rw[Wq]⟩
  ·exact this
  ·rintro s ⟨v,rfl,hv⟩
   simp only[Kf]
   rw[We]at hv
   exact I5b (by omega) (I0b (by rw[← hv];rfl))
  ·rintro i s hi ⟨v,rfl,hv⟩ next
   simp only[Kf]
   have hx:=hb _ (A3 (d:=0) hi)
   refine I4b (by omega) (I4b (by omega) (I4b (by omega) ?_))
   rw[Vb,w64 (n:=l.getD i 0) (by omega) (by omega),Nla hx,Gpb]
   refine Icb (Kwa l _ 8 _ 0 (by decide) (by decide)) ?_
   simp only
   rw[w64 (n:=(i:Int)+1) (by omega) (by omega)]
   refine next _ ⟨_,rfl,?_⟩
   rw[Ai (d:=0) hi,Yq]at hv
   exact hv
 ·rintro r rfl
  refine I0b ?_
  have hp:(4294967295:Int)=((BitVec.allOnes 32:BitVec 32).toNat:Int):=by decide
  rw[hp,Gpb,BitVec.xor_allOnes]
  rfl

def W6a:Fil:=(((0:Int),((0:Int),(0:Int))),(false,([]:List Int)))
def Gc (f:Fil):Bool:=Hz f.1&&(decide ((f.2.2.length:Int)≤200)&&(!f.2.1||((f.2.2.length:Int)==0)))
def F5a (f:Fil):Fn f=some (Gc f):=by
 unfold Fn Gc
 rw[B2a]
 simp only[Vp]
 cases Hz f.1<;>cases decide ((length f.2.2:Int)≤200)<;>cases f.2.1<;>rfl
def F6a (f:Fil):Fw f=some (Gc f):=by
 unfold Fw Gc
 rw[B3a]
 simp only[Vp]
 cases Hz f.1<;>cases decide ((length f.2.2:Int)≤200)<;>cases f.2.1<;>rfl
def K7 {f:Fil}:Gc f=true↔Hz f.1=true∧f.2.2.length≤200∧(f.2.1=true→f.2.2=[]):=by
 unfold Gc
 rw[Va,Va,decide_eq_true_iff]
 have:(!f.2.1||((f.2.2.length:Int)==0))=true↔(f.2.1=true→f.2.2=[]):=by
  cases f.2.1 with
  |false=>simp
  |true=>simp
 rw[this]
 constructor
 ·rintro⟨h1,h2,h3⟩;exact⟨h1,by omega,h3⟩
 ·rintro⟨h1,h2,h3⟩;exact⟨h1,by omega,h3⟩
def Hza (a b:Fil):Jq a b=some (sle b.1 a.1):=by unfold Jq;rw[Uk];rfl
def Txa (a b:Fil):Li a b=some (sle b.1 a.1):=by unfold Li;rw[N5a];rfl
def hdF (s:Stp) (d:Bool):List Int:=Qla s++Po (Bl (F1a d))
def Pp (f:Fil):List Int:=hdF f.1 f.2.1++txt (Lq f.2.2)
def c4 (c:Int):List Int:=[wrap .u8 (Int.fdiv c (2 ^ (min (toNat 24) (IntKind.bits .i64)))),wrap .u8 (Int.fdiv c (2 ^ (min (toNat 16) (IntKind.bits .i64)))),wrap .u8 (Int.fdiv c (2 ^ (min (toNat 8) (IntKind.bits .i64)))),wrap .u8 c]
def Lc (f:Fil):List Int:=bif Gc f then Pp f++c4 (crc (Pp f)) else []
def Q8 {a b:List Int} (ha:Ap a) (hb:Ap b):Ap (a++b):=λ x hx=>(Vo.1 hx).elim (ha x) (hb x)
def Ry (n:Int):Ap (Po (Bl n)):=Pia _ (Ox n)
def Tya (s:Stp) (d:Bool):Ap (hdF s d):=Q8 (Q8 (Ry _) (Q8 (Ry _) (Ry _))) (Ry _)
def Qx (f:Fil):Ap (Pp f):=Q8 (Tya _ _) (Q8 (Ry _) (Dga _))
def Y5a (c:Int):Ap (c4 c):=by
 intro x hx
 simp only[c4,Vl,Ikb,or_false]at hx
 rcases hx with rfl|rfl|rfl|rfl<;>exact Hfa _
def Sq (f:Fil):Ap (Lc f):=by
 unfold Lc
 cases Gc f with
 |false=>intro x hx;simp at hx
 |true=>exact Q8 (Qx f) (Y5a _)
def Kxa (s:Stp) (d:Bool):(hdF s d).length≤20:=by
 have h1:=Nca s
 have h2:=(N4 (Bl (F1a d))).1
 unfold hdF
 rw[Ve]
 omega
def Bea (f:Fil):(Pp f).length≤25+f.2.2.length:=by
 have h1:=Kxa f.1 f.2.1
 have h2:=Cnb (Lq f.2.2)
 have h3:(Lq f.2.2).size=f.2.2.length:=Om _
 unfold Pp
 rw[Ve]
 omega
def Z7 (f:Fil):(Lc f).length≤229:=by
 unfold Lc
 cases h:Gc f
 ·simp
 have h1:=Bea f
 have h2:=(K7.1 h).2.1
 rw[cond_true,Ve]
 simp only[c4,Vd,Vk]
 omega
def Qy (f:Fil):Tot (λ k=>F4 k f) (λ r=>r=Lc f):=by
 unfold F4 Lc
 refine Icb (Ieb (Q:=λ b=>b=Gc f) (F5a f) rfl) ?_
 cases h:Gc f
 ·exact I3b rfl (I0b rfl)
 have h2:=(K7.1 h).2.1
 have h3:(Lq f.2.2).size=f.2.2.length:=Om _
 have h4:=Kxa f.1 f.2.1
 have h5:=Bea f
 refine I2b rfl (Icb (Pja [] f.1 f.2.1 (by simp)) ?_)
 rw[Vy]
 refine Icb (Xwa _ _ (by unfold hdF at h4;omega) (by omega)) ?_
 have e:Qla f.1++Po (Bl (F1a f.2.1))++txt (Lq f.2.2)=Pp f:=rfl
 rw[e]
 refine Icb (Cvb _ (Qx f) (by omega)) ?_
 exact I8b (by simp only[Vd,Vk];omega) (I0b rfl)
def Bfa (f:Fil):Tot (λ k=>F6 k f) (λ r=>r=Lc f):=by
 unfold F6 Lc
 refine Icb (Ieb (Q:=λ b=>b=Gc f) (F6a f) rfl) ?_
 cases h:Gc f
 ·exact I3b rfl (I0b rfl)
 have h2:=(K7.1 h).2.1
 have h3:(Lq f.2.2).size=f.2.2.length:=Om _
 have h4:=Kxa f.1 f.2.1
 have h5:=Bea f
 have h6:=Nca f.1
 refine I2b rfl (Icb (Pka [] f.1 (by simp)) ?_)
 rw[Vy]
 refine Icb (Ieb (Q:=λ r=>r=F1a f.2.1) (Xza _) rfl) ?_
 refine Icb (B9a _ _ (by omega)) ?_
 refine Icb (Xxa _ _ (by unfold hdF at h4;omega) (by omega)) ?_
 have e:Qla f.1++Po (Bl (F1a f.2.1))++txt (Lq f.2.2)=Pp f:=rfl
 rw[e]
 refine Icb (Cwb _ (Qx f) (by omega)) ?_
 exact I8b (by simp only[Vd,Vk];omega) (I0b rfl)
def Mq (b:List Int):Option Fil:=(Rc b 0).bind λ a=>(Naa b a.2).bind λ t=>bif Gc (a.1.1,a.1.2,bytesOf t.1)&&decide (Lc (a.1.1,a.1.2,bytesOf t.1)=b) then some (a.1.1,a.1.2,bytesOf t.1) else none
def Rz (b:List Int):Fil×Bool:=match Mq b with
 |some f=>(f,true)
 |none=>(W6a,false)
def Kya {b:List Int} {f:Fil} (h:Mq b=some f):Gc f=true∧Ap f.2.2∧Lc f=b:=by
 unfold Mq at h
 simp only[Jzb]at h
 obtain⟨a,_,t,_,h⟩:=h
 cases hc:(Gc (a.1.1,a.1.2,bytesOf t.1)&&decide (Lc (a.1.1,a.1.2,bytesOf t.1)=b))
 ·rw[hc]at h;cases h
 rw[hc]at h
 simp only[cond_true,Vg]at h
 subst h
 rw[Va,decide_eq_true_iff]at hc
 exact⟨hc.1,Dga _,hc.2⟩
def Tza (s:Stp) (d:Bool) (rest:List Int) (h:Hz s=true):Rc (hdF s d++rest) 0=some ((s,d),(hdF s d).length):=by
 obtain⟨t,c,n⟩:=s
 unfold Hz at h
 simp only[Va,Fi]at h
 obtain⟨⟨t0,t1⟩,⟨c0,c1⟩,n0,n1⟩:=h
 have ht:=B7a t0 t1
 have hc:=B7a c0 (show c≤1000000000 by omega)
 have hn:=B7a n0 (show n≤1000000000 by omega)
 have hbit:(((Bl (F1a d):Nat):Int)==1)=d:=by cases d<;>decide
 have hbit2:¬ (1<Bl (F1a d)):=by cases d<;>decide
 have k:∀ (a:List Int) (n:Nat) (b:List Int),n≤1000000000→Ps (a++(Po n++b)) a.length=some (n,(a++Po n).length):=λ a n b hn=>by rw[N8a a n b hn,Ve]
 have e0:hdF (t,c,n) d++rest=Po (Bl t)++(Po (Bl c)++(Po (Bl n)++(Po (Bl (F1a d))++rest))):=by
  unfold hdF Qla
  simp only[Vn]
 have el:(hdF (t,c,n) d).length=(Po (Bl t)).length+(Po (Bl c)).length+(Po (Bl n)).length+(Po (Bl (F1a d))).length:=by
  unfold hdF Qla
  simp only[Ve]
  omega
 have g1:=k [] (Bl t) (Po (Bl c)++(Po (Bl n)++(Po (Bl (F1a d))++rest))) (Ox t)
 have g2:=k (Po (Bl t)) (Bl c) (Po (Bl n)++(Po (Bl (F1a d))++rest)) (Ox c)
 have g3:=k (Po (Bl t)++Po (Bl c)) (Bl n) (Po (Bl (F1a d))++rest) (Ox n)
 have g4:=k (Po (Bl t)++Po (Bl c)++Po (Bl n)) (Bl (F1a d)) rest (Ox _)
 simp only[Vn,Vy,Vk]at g1 g2 g3 g4
 simp only[Ve]at g1 g2 g3 g4
 unfold Rc
 rw[e0,el]
 simp only[Zl]at g1 g2 g3 g4 ⊢
 simp only[g1,g2,g3,g4,Vp,decide_eq_false hbit2,cond_false]
 rw[ht,hc,hn,hbit]
def Y6a {l:List Int} {q:Nat} {s:Stp} {d:Bool} (hb:Ap l) (h:Rc l 0=some ((s,d),q)):l=hdF s d++l.drop q∧q≤l.length:=by
 unfold Rc at h
 simp only[Jzb]at h
 obtain⟨⟨t,p2⟩,h2,⟨c,p3⟩,h3,⟨n,p4⟩,h4,⟨e,p5⟩,h5,h⟩:=h
 obtain⟨b1,b2,b3,b4⟩:=Tl hb h2
 obtain⟨c1,c2,c3,c4⟩:=Tl hb h3
 obtain⟨d1,d2,d3,d4⟩:=Tl hb h4
 obtain⟨e1,e2,e3,e4⟩:=Tl hb h5
 cases hd:decide (1<e)
 case true=>simp only[hd,cond_true]at h;cases h
 simp only[hd,cond_false,Vg,Vz]at h
 obtain⟨⟨⟨rfl,rfl,rfl⟩,rfl⟩,rfl⟩:=h
 have he:e≤1:=by
  have:=of_decide_eq_false hd
  omega
 have hbit:Bl (F1a ((e:Int)==1))=e:=by
  have:e=0∨e=1:=by omega
  rcases this with rfl|rfl<;>decide
 have k:∀ n:Nat,n≤1000000000→Bl (n:Int)=n:=λ n hn=>by unfold Bl;omega
 simp only at b1 b2 c1 c2 d1 d2 e1 e2
 refine⟨?_,e4⟩
 rw[Wq]at b1
 unfold hdF Qla
 simp only
 rw[k t b2,k c c2,k n d2,hbit,Vn,Vn,Vn,← e1,← d1,← c1,← b1]
def Uv {f:Fil} (h:Gc f=true) (hb:Ap f.2.2):Mq (Lc f)=some f:=by
 obtain⟨h1,h2,h3⟩:=K7.1 h
 have e:Lc f=hdF f.1 f.2.1++(txt (Lq f.2.2)++c4 (crc (Pp f))):=by
  unfold Lc
  rw[h,cond_true]
  unfold Pp
  rw[Vn]
 have g1:=Tza f.1 f.2.1 (txt (Lq f.2.2)++c4 (crc (Pp f))) h1
 have g2:=Xya (hdF f.1 f.2.1) (Lq f.2.2) (c4 (crc (Pp f))) (by rw[Om];omega)
 rw[← e]at g1 g2
 unfold Mq
 simp only[g1,g2,Vp]
 rw[Oj hb]
 have e1:(f.1,f.2.1,f.2.2)=f:=rfl
 rw[e1,h,decide_eq_true rfl]
 rfl
def Uw {a b:List Int} (ha:Ap a) (hb:Ap b):((Lq a).toList==(Lq b).toList)=decide (a=b):=by
 have:teq (Lq a) (Lq b)=decide (a=b):=by
  rw[Jkb,Cr,decide_eq_true_iff]
  constructor
  ·intro h
   have:=congrArg bytesOf h
   rwa [Oj ha,Oj hb]at this
  ·rintro rfl;rfl
 exact this
def Y7a (l:List Int) (hb:Ap l) (hl:l.length≤1000000000000) (p:Int) (hp:p≤1000000000000):
  Tot (λ k=>Ct k (l,p,true)) (λ r=>r=((⟨#[]⟩:ByteArray),l,p,true)):=by
 unfold Ct
 refine Icb (Nba l hb hl p hp) ?_
 exact I3b rfl (I0b rfl)
def Y8a {f:Fil}:(((Lc f).length:Int)==0) = !(Gc f):=by
 unfold Lc
 cases h:Gc f
 ·rfl
 rw[cond_true,Ve,Yx,beq_eq_false_iff_ne]
 simp only[c4,Vd,Vk]
 omega
def Ns (b:List Int) (hb:Ap b) (hl:b.length≤1000000000000):Tot (λ k=>Bo k b) (λ r=>r=Rz b):=by
 unfold Bo
 refine I1b (H5b b hb hl 0 (Vs _) false) ?_
 rintro r (⟨_,⟨s,d⟩,q,h1,h2,rfl⟩|⟨h1,s,d,q,h2,rfl⟩)
 ·refine I1b (H4b b hb hl q h2) ?_
  rintro r (⟨t,q2,h3,h4,rfl⟩|⟨h3,rfl⟩)
  ·have hsz:=(Koa hb h3).2.1
   refine I8b (by dsimp only;omega) (Icb (Qy _) ?_)
   refine I2b rfl ?_
   have e:Rz b=bif Gc (s,d,bytesOf t)&&decide (Lc (s,d,bytesOf t)=b) then ((s,d,bytesOf t),true) else (W6a,false):=by
    unfold Rz Mq
    simp only[h1,h3,Vp]
    cases Gc (s,d,bytesOf t)&&decide (Lc (s,d,bytesOf t)=b)<;>rfl
   simp only
   rw[e,Y8a]
   cases hf:Gc (s,d,bytesOf t)
   ·exact I3b rfl (I0b rfl)
   refine I2b rfl ?_
   rw[Uw (Sq _) hb]
   cases decide (Lc (s,d,bytesOf t)=b) with
   |false=>exact I3b rfl (I0b rfl)
   |true=>exact I2b rfl (I0b rfl)
  ·refine I8b (Vs _) (Icb (Qy _) ?_)
   refine I3b rfl (I0b ?_)
   unfold Rz Mq
   simp only[h1,h3,Vp,J1b]
   rfl
 ·refine Icb (Y7a b hb hl q (by omega)) ?_
  refine I8b (Vs _) (Icb (Qy _) ?_)
  refine I3b rfl (I0b ?_)
  unfold Rz Mq
  simp only[h1.resolve_left (by simp),J1b]
  rfl
def Bga (b:List Int) (hb:Ap b) (hl:b.length≤1000000000000):Tot (λ k=>Gu k b) (λ r=>r=Rz b):=by
 have none_of:Mq b=none→Rz b=(W6a,false):=λ h=>by unfold Rz;rw[h]
 unfold Gu
 refine I1b (Cob b hb hl 0) ?_
 rintro r (⟨n1,p1,n2,p2,n3,p3,_,g1,g2,g3,rfl⟩|⟨h,hr⟩)
 ·refine Icb (X2 b hb hl (p3:Int)) ?_
  rw[Z6]
  have g1':Ps b 0=some (n1,p1):=g1
  cases g4:Ps b p3 with
  |none=>
   refine Icb (F0a b hb hl 0) ?_
   refine I2b rfl (I3b rfl (I0b (none_of ?_).symm))
   unfold Mq Rc
   simp only[g1',g2,g3,g4,Vp,J1b]
  |some x=>
   obtain⟨n4,p4⟩:=x
   simp only
   have es:Rc b 0=bif decide (1<n4) then none else some ((((n1:Int),(n2:Int),(n3:Int)),(n4:Int)==1),p4):=by
    unfold Rc
    simp only[g1',g2,g3,g4,Vp]
   refine Icb (F0a b hb hl (p4:Int)) ?_
   rw[Nda]
   refine I2b rfl (I2b rfl ?_)
   cases g5:Naa b p4 with
   |none=>
    refine I3b rfl (I0b (none_of ?_).symm)
    unfold Mq
    rw[es]
    cases decide (1<n4) with
    |true=>rfl
    |false=>simp only[cond_false,Vp,g5,J1b]
   |some y=>
    obtain⟨t,q⟩:=y
    refine I2b rfl (I7b (λ h=>I0b (none_of ?_).symm) (λ h=>?_))
    ·unfold Mq
     rw[es,decide_eq_true (by omega)]
     rfl
    ·rw[decide_eq_false (by omega),cond_false]at es
     have hq:=Koa hb g5
     simp only
     rw[w64 (n:=(q:Int)+4) (by omega) (by omega)]
     have ef:Mq b=bif Gc (((n1:Int),(n2:Int),(n3:Int)),(n4:Int)==1,bytesOf t)&&decide (Lc (((n1:Int),(n2:Int),(n3:Int)),(n4:Int)==1,bytesOf t)=b) then some (((n1:Int),(n2:Int),(n3:Int)),(n4:Int)==1,bytesOf t) else none:=by
      unfold Mq
      simp only[es,g5,Vp]
     refine I6b (λ h4=>I0b (none_of ?_).symm) (λ h4=>?_)
     ·rw[ef]
      cases hc:(Gc (((n1:Int),(n2:Int),(n3:Int)),(n4:Int)==1,bytesOf t)&&decide (Lc (((n1:Int),(n2:Int),(n3:Int)),(n4:Int)==1,bytesOf t)=b))
      ·rfl
      exfalso
      rw[Va,decide_eq_true_iff]at hc
      have a1:=(Y6a hb es).1
      rw[hq.1]at a1
      have a2:=hc.2
      unfold Lc at a2
      rw[hc.1,cond_true]at a2
      unfold Pp at a2
      simp only at a2
      rw[Us,Vn]at a2
      rw[← a2]at a1
      have a3:=L6b (L6b a1)
      have a4:=congrArg length a3
      rw[a2,Wc]at a4
      simp only[c4,Vd,Vk]at a4
      have:(q:Int)+4=(b.length:Int):=by omega
      simp[this]at h4
     ·refine I8b (by simp only[Vk];omega) ?_
      rw[Vy]
      refine Icb (Ieb (Q:=λ r=>r=Gc (((n1:Int),(n2:Int),(n3:Int)),(n4:Int)==1,bytesOf t)) (F6a _) rfl) ?_
      unfold Rz
      rw[ef]
      cases hf:Gc (((n1:Int),(n2:Int),(n3:Int)),(n4:Int)==1,bytesOf t)
      ·exact I3b rfl (I0b rfl)
      refine I2b rfl (Icb (Bfa _) ?_)
      rw[Uw (Sq _) hb,Vx]
      cases decide (Lc (((n1:Int),(n2:Int),(n3:Int)),(n4:Int)==1,bytesOf t)=b) with
      |false=>exact I3b rfl (I0b rfl)
      |true=>exact I2b rfl (I0b rfl)
 ·obtain⟨r1,r2,r3⟩:=r
  simp only at hr
  subst hr
  refine Icb (X2 b hb hl _) ?_
  refine Icb (F0a b hb hl _) ?_
  refine I3b rfl (I0b (none_of ?_).symm)
  unfold Mq
  rw[Tna (p:=0) (h.resolve_right (by omega))]
  rfl

def gt (l:List Nmd) (s:ByteArray):Option (List Int):=match fnd l s with
 |some i=>some (l.getD i D8).2
 |none=>none
def Kza (y:Nmd) (l:List Nmd) (s:ByteArray):gt (y::l) s=if y.1=s then some y.2 else gt l s:=by
 unfold gt
 rw[Nia]
 by_cases h:y.1=s
 ·rw[if_pos (Cr.2 h),if_pos h];rfl
 ·rw[if_neg (λ c=>h (Cr.1 c)),if_neg h]
  cases fnd l s<;>rfl
def Oz {l:List Nmd} {s:ByteArray} {b:List Int} (h:gt l s=some b):(s,b)∈l:=by
 induction l with
 |nil=>cases h
 |cons y l ih=>
  rw[Kza]at h
  by_cases e:y.1=s
  ·rw[if_pos e]at h
   cases h
   subst e
   exact Yc
  ·rw[if_neg e]at h
   exact Vh _ (ih h)
def Nt {l:List Nmd} {s:ByteArray}:gt l s=none↔∀ x∈l,x.1≠s:=by
 rw[← Y1a]
 unfold gt
 cases fnd l s with
 |none=>simp
 |some i=>simp
def Bha {l:List Nmd} (hs:Da l) {x:Nmd} (hx:x∈l):gt l x.1=some x.2:=by
 cases h:gt l x.1 with
 |none=>exact absurd rfl (Nt.1 h x hx)
 |some b=>rw[show x=(x.1,b) from Cub hs hx (Oz h) rfl]
def I0a {l:List Nmd} (hs:Da l) {s:ByteArray} {b:List Int}:gt l s=some b↔(s,b)∈l:=⟨Oz,λ h=>Bha hs h⟩
def Bia {l:List Nmd} {s:ByteArray}:(gt l s).isSome=(fnd l s).isSome:=by
 unfold gt
 cases fnd l s<;>rfl
def T5 {l:List Nmd} (hs:Da l) {s t:ByteArray}:gt (cut l s) t=if s=t then none else gt l t:=by
 by_cases h:s=t
 ·subst h
  rw[if_pos rfl,Nt]
  exact Xl
 ·rw[if_neg h]
  cases hg:gt l t with
  |none=>exact Nt.2 λ x hx=>Nt.1 hg x (Oy.subset hx)
  |some b=>
   rw[I0a (Mo hs)]
   refine Jjb.2 ⟨Oz hg,?_⟩
   cases ht:teq t s with
   |false=>simp[ht]
   |true=>exact absurd (Cr.1 ht).symm h
def Aib {l:List Nmd} (hs:Da l) {x:Nmd} (hn:∀ y∈l,y.1≠x.1) {t:ByteArray}:gt (ins l x) t=if x.1=t then some x.2 else gt l t:=by
 have hi:=Q7 hs hn
 by_cases h:x.1=t
 ·subst h
  rw[if_pos rfl,I0a hi]
  exact X4.2 (.inl rfl)
 ·rw[if_neg h]
  cases hg:gt l t with
  |none=>
   refine Nt.2 λ y hy=>?_
   rcases X4.1 hy with rfl|hy
   ·exact h
   ·exact Nt.1 hg y hy
  |some b=>
   rw[I0a hi]
   exact X4.2 (.inr (Oz hg))
def Ajb:∀ {l m:List Nmd},Da l→Da m→(∀ s,gt l s=gt m s)→l=m:=by
 have key:∀ {l m:List Nmd},Da l→Da m→(∀ s,gt l s=gt m s)→∀ x∈l,x∈m:=λ hl hm h x hx=>by
  have:=h x.1
  rw[Bha hl hx]at this
  exact Oz this.symm
 intro l m hl hm h
 have h1:∀ x,x∈l↔x∈m:=λ x=>⟨key hl hm h x,key hm hl (λ s=>(h s).symm) x⟩
 clear h key
 induction l generalizing m with
 |nil=>
  cases m with
  |nil=>rfl
  |cons y m=>exact absurd ((h1 y).2 (by simp)) (by simp)
 |cons x l ih=>
  cases m with
  |nil=>exact absurd ((h1 x).1 (by simp)) (by simp)
  |cons y m=>
   obtain⟨a1,a2⟩:=Wh.1 hl
   obtain⟨b1,b2⟩:=Wh.1 hm
   have e:x=y:=by
    rcases Vl.1 ((h1 x).1 (by simp)) with h|h
    ·exact h
    ·rcases Vl.1 ((h1 y).2 (by simp)) with h'|h'
     ·exact h'.symm
     ·have c1:=a1 y h'
      rw[Uj (b1 x h)]at c1
      cases c1
   subst e
   congr 1
   refine ih a2 b2 λ z=>⟨λ hz=>?_,λ hz=>?_⟩
   ·rcases Vl.1 ((h1 z).1 (Vh _ hz)) with rfl|h
    ·have c:=a1 z hz
     rw[I9]at c
     cases c
    ·exact h
   ·rcases Vl.1 ((h1 z).2 (Vh _ hz)) with rfl|h
    ·have c:=b1 z hz
     rw[I9]at c
     cases c
    ·exact h
def U0a (l:List Nmd) (s:ByteArray):rdN l s=match gt l s with|some b=>(b,true)|none=>([],false):=by
 unfold rdN gt
 cases fnd l s<;>rfl
def Iy {s:ByteArray} (h:B5 s=true):M1 s:=by
 have:=(Baa h).2
 unfold M1
 omega
def E5 {d:Dsk}:Ay d=true↔J8 d.1=true∧J8 d.2=true:=by
 unfold Ay
 rw[Va]
def Kr {d:Dsk} (h:Ay d=true):Da d.1:=(Al.1 (E5.1 h).1).1
def Od {d:Dsk} (h:Ay d=true):Da d.2:=(Al.1 (E5.1 h).2).1
def LB (l:List Nmd):Prop:=∀ x∈l,Ap x.2
def DB (d:Dsk):Prop:=LB d.1∧LB d.2
def LB.cut {l:List Nmd} (h:LB l) (s:ByteArray):LB (cut l s):=λ x hx=>h x (Oy.subset hx)
def LB.ins {l:List Nmd} (h:LB l) {x:Nmd} (hx:Ap x.2):LB (ins l x):=λ y hy=>by
 rcases X4.1 hy with rfl|hy
 ·exact hx
 ·exact h y hy
def LB.gt {l:List Nmd} (h:LB l) {s:ByteArray} {b:List Int} (hg:gt l s=some b):Ap b:=h _ (Oz hg)
def O8:Ap []:=λ x hx=>by cases hx
def wr (l:List Nmd) (s:ByteArray) (b:List Int):List Nmd:=ins (cut l s) (s,b)
def sy (d:Dsk) (s:ByteArray):List Nmd:=match gt d.1 s with
 |some b=>wr d.2 s b
 |none=>cut d.2 s
def wrD (d:Dsk) (s:ByteArray) (b:List Int):Dsk×Bool:=bif decide (b.length≤400)&&decide ((wr d.1 s b).length≤60) then ((wr d.1 s b,d.2),true) else (d,false)
def syD (d:Dsk) (s:ByteArray):Dsk×Bool:=bif decide ((sy d s).length≤60) then ((d.1,sy d s),true) else (d,false)
def rmD (d:Dsk) (s:ByteArray):Dsk×Bool:=bif (gt d.1 s).isSome then ((cut d.1 s,d.2),true) else (d,false)
section
variable {d:Dsk} {s:ByteArray} {b:List Int}
def U1a (hd:Ay d=true):wrI d s b=wr d.1 s b:=by
 unfold wrI wr
 rw[Qw (Kr hd)]
def U2a (hd:Ay d=true):syI d s=sy d s:=by
 unfold syI sy gt wr
 rw[Qw (Od hd)]
 cases fnd d.1 s<;>rfl
def Ppa (hd:Ay d=true) (hs:B5 s=true) (hb:b.length≤1000000000000):Tot (λ k=>E4 k d s b) (λ r=>r=wrD d s b):=by
 refine(Twa d s b (Og hd) (Iy hs) hb).mono ?_
 rintro r rfl
 rw[hd,hs,U1a hd]
 rfl
def Pqa (hd:Ay d=true) (hs:B5 s=true) (hb:b.length≤1000000000000):Tot (λ k=>E3 k d s b) (λ r=>r=wrD d s b):=by
 refine(Tua d s b (Og hd) (Iy hs) hb).mono ?_
 rintro r rfl
 obtain⟨h1,h2⟩:=Nja (b:=b) hd hs
 rw[hd,hs,h1,h2,U1a hd]
 rfl
def I1a (hd:Ay d=true) (hs:B5 s=true):Tot (λ k=>Bz k d s) (λ r=>r=syD d s):=by
 refine(Y4a d s (Og hd) (Iy hs)).mono ?_
 rintro r rfl
 rw[hd,hs,U2a hd]
 rfl
def Bja (hd:Ay d=true) (hs:B5 s=true):Tot (λ k=>Bc k d s) (λ r=>r=syD d s):=by
 refine(Y3a d s (Og hd) (Iy hs)).mono ?_
 rintro r rfl
 rw[hd,hs,Ctb hd,Tva hd hs,U2a hd]
 rfl
def Cxb (hd:Ay d=true) (hs:B5 s=true) (hb:b.length≤400) (hl:(wr d.1 s b).length≤60):Ay (wr d.1 s b,d.2)=true:=by
 have:=(Nja (b:=b) hd hs).2
 rw[U1a hd,decide_eq_true hb,decide_eq_true hl]at this
 exact this
def Hab (hd:Ay d=true) (hs:B5 s=true) (hl:(sy d s).length≤60):Ay (d.1,sy d s)=true:=by
 have:=Tva hd hs
 rw[U2a hd,decide_eq_true hl]at this
 exact this
def U3a (hd:Ay d=true) (hs:B5 s=true):Ay (wrD d s b).1=true:=by
 unfold wrD
 cases hc:decide (b.length≤400)&&decide ((wr d.1 s b).length≤60)
 ·exact hd
 rw[Va,decide_eq_true_iff,decide_eq_true_iff]at hc
 exact Cxb hd hs hc.1 hc.2
def Ffb (hd:Ay d=true) (hs:B5 s=true):Ay (syD d s).1=true:=by
 unfold syD
 cases hc:decide ((sy d s).length≤60) with
 |false=>exact hd
 |true=>exact Hab hd hs (of_decide_eq_true hc)
def Akb (hd:Ay d=true):Ay (rmD d s).1=true:=by
 unfold rmD
 cases (gt d.1 s).isSome with
 |false=>exact hd
 |true=>exact E5.2 ⟨Xk (E5.1 hd).1,(E5.1 hd).2⟩
def Pra (hd:Ay d=true) (h:(gt d.1 s).isSome=true):B5 s=true:=by
 cases hg:gt d.1 s with
 |none=>rw[hg]at h;cases h
 |some b=>exact(Qv.1 ((Al.1 (E5.1 hd).1).2.1 _ (Oz hg))).1
def L0a (hd:Ay d=true):Tot (λ k=>Ew k d s) (λ r=>r=rmD d s):=by
 refine(Pna d s (Og hd).1).mono ?_
 rintro r rfl
 rw[hd,← Bia,Iib,Qw (Kr hd)]
 rfl
def Bka (hd:Ay d=true) (hs:M1 s):Tot (λ k=>C8 k d s) (λ r=>r=rmD d s):=by
 refine(Pma d s (Og hd).1 hs).mono ?_
 rintro r rfl
 unfold rmD
 rw[hd,← Bia]
 cases h:(gt d.1 s).isSome
 ·rfl
 have h1:Ay (cut d.1 s,d.2)=true:=by
  have:=Akb (s:=s) hd
  unfold rmD at this
  rw[h]at this
  exact this
 rw[Pra hd h,h1]
 rfl
end
def lkD (d:Dsk) (s:ByteArray):Fil×Int:=match gt d.1 s with
 |none=>(W6a,1)
 |some b=>match Mq b with
  |some f=>(f,0)
  |none=>(W6a,2)
def U4a {l:List Nmd} {s:ByteArray} {b:List Int} (h:Fza l) (hg:gt l s=some b):b.length≤1000000000000:=h.2 _ (Oz hg)
def Z8 {d:Dsk} (hf:Fza d.1) (hb:LB d.1) (s:ByteArray):Tot (λ k=>I5 k d s) (λ r=>r=lkD d s):=by
 unfold I5 lkD
 refine Icb (Nga d s hf) ?_
 rw[U0a]
 cases hg:gt d.1 s with
 |none=>exact I3b rfl (I0b rfl)
 |some b=>
  refine I2b rfl (Icb (Ns b (hb.gt hg) (U4a hf hg)) ?_)
  unfold Rz
  dsimp only
  cases Mq b with
  |none=>exact I3b rfl (I0b rfl)
  |some f=>exact I2b rfl (I0b rfl)
def Z9 {d:Dsk} (hf:Fza d.1) (hb:LB d.1) (s:ByteArray):Tot (λ k=>I2 k d s) (λ r=>r=lkD d s):=by
 unfold I2 lkD
 refine Icb (Nha d s hf) ?_
 rw[U0a]
 cases hg:gt d.1 s with
 |none=>exact I3b rfl (I0b rfl)
 |some b=>
  refine I2b rfl (Icb (Bga b (hb.gt hg) (U4a hf hg)) ?_)
  unfold Rz
  dsimp only
  cases Mq b with
  |none=>exact I3b rfl (I0b rfl)
  |some f=>exact I2b rfl (I0b rfl)
def P0 {d:Dsk} {s:ByteArray} {f:Fil}:lkD d s=(f,0)↔∃ b,gt d.1 s=some b∧Mq b=some f:=by
 unfold lkD
 cases gt d.1 s with
 |none=>simp
 |some b=>cases h:Mq b<;>simp[h]
def old (d:Dsk) (s:ByteArray):Option Fil:=(gt d.1 s).bind Mq
def kp1 (d:Dsk) (s:ByteArray) (f:Fil):Option (Dsk×Int):=
 let w:=bif (wrD d s (Lc f)).2 then some ((wrD d s (Lc f)).1,(0:Int)) else none
 match old d s with
 |some o=>bif sle o.1 f.1 then w else some (d,1)
 |none=>w
def kp2 (d:Dsk) (s:ByteArray) (sure:Bool) (x:Dsk×Int):Dsk×Int:=bif sure then (bif (syD x.1 s).2 then ((syD x.1 s).1,x.2) else (d,3)) else x
def Mu (d:Dsk) (s:ByteArray) (f:Fil) (sure:Bool):Dsk×Int:=match kp1 d s f with
 |some x=>kp2 d s sure x
 |none=>(d,3)
def keep (d:Dsk) (s:ByteArray) (f:Fil) (sure:Bool):Dsk×Int:=bif Ay d&&(B5 s&&Gc f) then Mu d s f sure else (d,2)
def Y9a:Mq []=none:=by
 cases h:Mq [] with
 |none=>rfl
 |some f=>
  obtain⟨h1,_,h3⟩:=Kya h
  unfold Lc at h3
  rw[h1]at h3
  simp[c4]at h3
def Fgb {d:Dsk} {s:ByteArray} {f:Fil} (hd:Ay d=true) (hs:B5 s=true) {x:Dsk×Int} (h:kp1 d s f=some x):Ay x.1=true:=by
 have hw:∀ x,(bif (wrD d s (Lc f)).2 then some ((wrD d s (Lc f)).1,(0:Int)) else none)=some x→Ay x.1=true:=by
  intro x h
  cases hc:(wrD d s (Lc f)).2 with
  |false=>rw[hc]at h;cases h
  |true=>rw[hc]at h;cases h;exact U3a hd hs
 unfold kp1 at h
 simp only at h
 split at h
 ·rename_i o _
  cases hc:sle o.1 f.1 with
  |false=>rw[hc]at h;cases h;exact hd
  |true=>rw[hc]at h;exact hw _ h
 ·exact hw _ h
def Fhb {d:Dsk} {s:ByteArray} (hd:Ay d=true) (hs:B5 s=true) {x:Dsk} {c:Int} (hx:Ay x=true) (sure:Bool):
  Tot (λ k=>cond sure ((Bz k x s).bind λ r=>cond (!r.2) ((A5 k d).bind λ q=>some (q,3)) (some (r.1,c))) (some (x,c))) (λ r=>r=kp2 d s sure (x,c)):=by
 unfold kp2
 cases sure
 ·exact I0b rfl
 refine I3b rfl (Icb (I1a hx hs) ?_)
 cases h:(syD x s).2
 case true=>exact I2b rfl (I0b rfl)
 refine I3b rfl (Icb (Jn d (Og hd).1.1) ?_)
 exact I0b rfl
def Yaa (d:Dsk) (s:ByteArray) (f:Fil) (sure:Bool) (hd:DIn d) (hb:LB d.1) (hs:M1 s):Tot (λ k=>Md k d s f sure) (λ r=>r=keep d s f sure):=by
 have bad:Tot (λ k=>(A5 k d).bind λ r2=>some (r2,(2:Int))) (λ r=>r=(d,2)):=by
  refine Icb (Jn d hd.1.1) ?_
  exact I0b rfl
 unfold Md keep
 refine Icb (Sp d hd.1.1 hd.1.2) ?_
 cases h1:Ay d
 ·exact I3b rfl bad
 refine I2b rfl (Icb (Qs s hs) ?_)
 cases h2:B5 s
 ·exact I3b rfl bad
 refine I2b rfl (Icb (Ieb (Q:=λ b=>b=Gc f) (F5a f) rfl) ?_)
 cases h3:Gc f
 ·exact I3b rfl bad
 refine I2b rfl (Icb (Jn d hd.1.1) ?_)
 refine Icb (Nga d s hd.1.1.1) ?_
 have hlen:=Z7 f
 have w:∀ {o:Option Fil},(kp1 d s f=bif (wrD d s (Lc f)).2 then some ((wrD d s (Lc f)).1,(0:Int)) else none)→Tot (λ k=>(F4 k f).bind λ r13=>(E4 k d s r13).bind λ r14=>cond (!r14.2) ((A5 k d).bind λ r15=>some (r15,(3:Int))) (cond sure ((Bz k r14.1 s).bind λ r16=>cond (!r16.2) ((A5 k d).bind λ r17=>some (r17,3)) (some (r16.1,0))) (some (r14.1,0)))) (λ r=>r=Mu d s f sure):=by
  intro _ e
  refine Icb (Qy f) ?_
  refine Icb (Ppa h1 h2 (by omega)) ?_
  unfold Mu
  rw[e]
  cases h4:(wrD d s (Lc f)).2 with
  |false=>
   refine I3b rfl (Icb (Jn d hd.1.1) ?_)
   exact I0b rfl
  |true=>exact I2b rfl (Fhb h1 h2 (U3a h1 h2) sure)
 rw[U0a]
 have eo:old d s=(gt d.1 s).bind Mq:=rfl
 cases hg:gt d.1 s with
 |none=>
  rw[hg]at eo
  refine Icb (Ns [] O8 (by simp)) ?_
  unfold Rz
  rw[Y9a]
  refine I2b rfl (w (o:=none) ?_)
  unfold kp1
  rw[eo]
  rfl
 |some b=>
  rw[hg]at eo
  have eo:old d s=Mq b:=eo
  refine Icb (Ns b (hb.gt hg) (U4a hd.1.1.1 hg)) ?_
  unfold Rz
  cases ho:Mq b with
  |none=>
   refine I2b rfl (w (o:=none) ?_)
   unfold kp1
   rw[eo,ho]
  |some o=>
   rw[ho]at eo
   refine I3b rfl (Icb (Ieb (Q:=λ b=>b=sle o.1 f.1) (Hza f o) rfl) ?_)
   cases hl:sle o.1 f.1 with
   |true=>
    refine I2b rfl (w (o:=none) ?_)
    unfold kp1
    simp only[eo,hl,cond_true]
   |false=>
    have e1:Mu d s f sure=kp2 d s sure (d,1):=by
     unfold Mu kp1
     simp only[eo,hl,cond_false]
    refine I3b rfl ?_
    show Tot _ (λ r=>r=Mu d s f sure)
    rw[e1]
    exact Fhb h1 h2 h1 sure
def Fib {d:Dsk} {s:ByteArray} (hd:Ay d=true) (hs:B5 s=true) {x:Dsk} {c:Int} (hx:Ay x=true):
  Tot (λ k=>(Bc k x s).bind λ r=>cond (!r.2) ((A6 k d).bind λ q=>some (q,3)) (some (r.1,c))) (λ r=>r=kp2 d s true (x,c)):=by
 unfold kp2
 refine Icb (Bja hx hs) ?_
 cases h:(syD x s).2
 case true=>exact I2b rfl (I0b rfl)
 refine I3b rfl (Icb (M7 d (Og hd).1.1) ?_)
 exact I0b rfl
def Nma (d:Dsk) (s:ByteArray) (f:Fil) (sure:Bool) (hd:DIn d) (hb:LB d.1) (hs:M1 s):Tot (λ k=>Ky k d s f sure) (λ r=>r=keep d s f sure):=by
 have bad:Tot (λ k=>(A6 k d).bind λ r2=>some (r2,(2:Int))) (λ r=>r=(d,2)):=by
  refine Icb (M7 d hd.1.1) ?_
  exact I0b rfl
 unfold Ky keep
 refine Icb (Qu d hd.1.1 hd.1.2) ?_
 cases h1:Ay d
 ·exact I3b rfl bad
 refine I2b rfl (Icb (Uo s hs) ?_)
 cases h2:B5 s
 ·exact I3b rfl bad
 refine I2b rfl (Icb (Ieb (Q:=λ b=>b=Gc f) (F6a f) rfl) ?_)
 cases h3:Gc f
 ·exact I3b rfl bad
 refine I2b rfl (Icb (Z9 hd.1.1.1 hb s) ?_)
 have hlen:=Z7 f
 have w:(kp1 d s f=bif (wrD d s (Lc f)).2 then some ((wrD d s (Lc f)).1,(0:Int)) else none)→Tot (λ k=>(F6 k f).bind λ r12=>(E3 k d s r12).bind λ r13=>cond r13.2 (cond sure ((Bc k r13.1 s).bind λ r14=>cond (!r14.2) ((A6 k d).bind λ r15=>some (r15,(3:Int))) (some (r14.1,0))) (cond (!r13.2) ((A6 k d).bind λ r16=>some (r16,3)) (some (r13.1,0)))) (cond (!r13.2) ((A6 k d).bind λ r17=>some (r17,3)) (some (r13.1,0)))) (λ r=>r=Mu d s f sure):=by
  intro e
  refine Icb (Bfa f) ?_
  refine Icb (Pqa h1 h2 (by omega)) ?_
  unfold Mu
  rw[e]
  cases h4:(wrD d s (Lc f)).2 with
  |false=>
   refine I2b rfl (I3b rfl (Icb (M7 d hd.1.1) ?_))
   exact I0b rfl
  |true=>
   refine I3b rfl ?_
   cases sure with
   |true=>exact I3b rfl (Fib h1 h2 (U3a h1 h2))
   |false=>exact I2b rfl (I2b rfl (I0b rfl))
 have eo:old d s=(gt d.1 s).bind Mq:=rfl
 unfold lkD
 cases hg:gt d.1 s with
 |none=>
  rw[hg]at eo
  refine I2b rfl (w ?_)
  unfold kp1
  rw[eo]
  rfl
 |some b=>
  rw[hg]at eo
  have eo:old d s=Mq b:=eo
  simp only
  cases ho:Mq b with
  |none=>
   refine I2b rfl (w ?_)
   unfold kp1
   rw[eo,ho]
  |some o=>
   rw[ho]at eo
   refine I3b rfl (Icb (Ieb (Q:=λ b=>b=sle o.1 f.1) (Txa f o) rfl) ?_)
   cases hl:sle o.1 f.1 with
   |true=>
    refine I2b rfl (w ?_)
    unfold kp1
    simp only[eo,hl,cond_true]
   |false=>
    have e1:Mu d s f sure=kp2 d s sure (d,1):=by
     unfold Mu kp1
     simp only[eo,hl,cond_false]
    refine I3b rfl ?_
    show Tot _ (λ r=>r=Mu d s f sure)
    rw[e1]
    refine Icb (M7 d hd.1.1) ?_
    cases sure with
    |true=>exact I3b rfl (Fib h1 h2 h1)
    |false=>exact I2b rfl (I0b rfl)

def DG (d:Dsk):Prop:=Ay d=true∧DB d
def Alb {d:Dsk} {s:ByteArray} {b:List Int} (hd:Ay d=true) (h:gt d.1 s=some b):b.length≤400:=(Qv.1 ((Al.1 (E5.1 hd).1).2.1 _ (Oz h))).2
def Fjb {d:Dsk} {s:ByteArray} {b:List Int} (h:DB d) (hb:Ap b):DB (wrD d s b).1:=by
 unfold wrD
 cases decide (b.length≤400)&&decide ((wr d.1 s b).length≤60) with
 |false=>exact h
 |true=>exact⟨(h.1.cut s).ins hb,h.2⟩
def Hbb {d:Dsk} {s:ByteArray} (h:DB d):LB (sy d s):=by
 unfold sy
 cases hg:gt d.1 s with
 |none=>exact h.2.cut s
 |some b=>exact(h.2.cut s).ins (h.1.gt hg)
def Fkb {d:Dsk} {s:ByteArray} (h:DB d):DB (syD d s).1:=by
 unfold syD
 cases decide ((sy d s).length≤60) with
 |false=>exact h
 |true=>exact⟨h.1,Hbb h⟩
def Flb {d:Dsk} {s:ByteArray} (h:DB d):DB (rmD d s).1:=by
 unfold rmD
 cases (gt d.1 s).isSome with
 |false=>exact h
 |true=>exact⟨h.1.cut s,h.2⟩
def Fmb {d:Dsk} {s:ByteArray} (h:DG d) (hs:B5 s=true):DG (syD d s).1:=⟨Ffb h.1 hs,Fkb h.2⟩
def Yba {d:Dsk} {s:ByteArray} (h:DG d):DG (rmD d s).1:=⟨Akb h.1,Flb h.2⟩
def Fnb {d:Dsk} {s:ByteArray} {f:Fil} (hd:DG d) (hs:B5 s=true) {x:Dsk×Int} (h:kp1 d s f=some x):DG x.1:=by
 refine⟨Fgb hd.1 hs h,?_⟩
 have hw:∀ x,(bif (wrD d s (Lc f)).2 then some ((wrD d s (Lc f)).1,(0:Int)) else none)=some x→DB x.1:=by
  intro x h
  cases hc:(wrD d s (Lc f)).2 with
  |false=>rw[hc]at h;cases h
  |true=>rw[hc]at h;cases h;exact Fjb hd.2 (Sq f)
 unfold kp1 at h
 simp only at h
 split at h
 ·rename_i o _
  cases hc:sle o.1 f.1 with
  |false=>rw[hc]at h;cases h;exact hd.2
  |true=>rw[hc]at h;exact hw _ h
 ·exact hw _ h
def Hcb {d:Dsk} {s:ByteArray} {sure:Bool} (hd:DG d) (hs:B5 s=true) {x:Dsk×Int} (hx:DG x.1):DG (kp2 d s sure x).1:=by
 unfold kp2
 cases sure
 ·exact hx
 rw[cond_true]
 cases (syD x.1 s).2 with
 |false=>exact hd
 |true=>exact Fmb hx hs
def U5a {d:Dsk} {s:ByteArray} {f:Fil} {sure:Bool} (hd:DG d) (hs:B5 s=true):DG (Mu d s f sure).1:=by
 unfold Mu
 cases h:kp1 d s f with
 |none=>exact hd
 |some x=>exact Hcb hd hs (Fnb hd hs h)
def Amb {d:Dsk} {s:ByteArray} {f:Fil} {sure:Bool} (hd:DG d):DG (keep d s f sure).1:=by
 unfold keep
 cases h:B5 s
 ·rw[hd.1];exact hd
 cases Gc f with
 |false=>rw[hd.1];exact hd
 |true=>rw[hd.1];exact U5a hd h
def Cha (b:Int) (j:Nat):Int:=((ofInt 8 b ^^^ BitVec.twoPow 8 j).toNat:Int)
def Nna (b:Int) (j:Nat):0≤Cha b j∧Cha b j≤255:=by
 unfold Cha
 have:=(ofInt 8 b ^^^ BitVec.twoPow 8 j).isLt
 omega
def Cyb (b:Int):∀ j,j<8→wrap .u8 ((ofInt (IntKind.bits .u8) b ^^^ ofInt (IntKind.bits .u8) (wrap .u8 ((1:Int)*2 ^ (min j (IntKind.bits .u8))))).toNat)=Cha b j:=by
 intro j hj
 have h1:∀ j,j<8→ofInt 8 (wrap .u8 ((1:Int)*2 ^ (min j 8)))=BitVec.twoPow 8 j:=by decide
 show wrap .u8 (((ofInt 8 b ^^^ ofInt 8 (wrap .u8 ((1:Int)*2 ^ (min j 8)))).toNat:Nat):Int)=_
 rw[h1 j hj]
 have:=(ofInt 8 b ^^^ BitVec.twoPow 8 j).isLt
 rw[Hoa _ (by omega)]
 rfl
def Yca {b:Int} (hb:0≤b∧b≤255) {j:Nat} (hj:j<8):Cha b j≠b:=by
 intro h
 unfold Cha at h
 have h1:b=((ofInt 8 b).toNat:Int):=by rw[K0b];omega
 have h2:(ofInt 8 b ^^^ BitVec.twoPow 8 j).toNat=(ofInt 8 b).toNat:=by omega
 have h3:=Lfb h2
 have h4:BitVec.twoPow 8 j=0#8:=by
  have:=congrArg (λ x=>ofInt 8 b ^^^ x) h3
  simpa[← BitVec.xor_assoc] using this
 have h5:∀ j,j<8→BitVec.twoPow 8 j≠0#8:=by decide
 exact h5 j hj h4
def Nu (l:List Int) (n:Nat):List Int:=l.set (n/8) (Cha (l.getD (n/8) 0) (n % 8))
def I2a (l:List Int) (n:Nat):(Nu l n).length=l.length:=by unfold Nu;rw[Wb]
def L1a {l:List Int} (h:Ap l) (n:Nat):Ap (Nu l n):=λ x hx=>by
 rcases Yn hx with h'|rfl
 ·exact h x h'
 ·exact Nna _ _
def J8a (d:Dsk) (s:ByteArray) (n:Int):Dsk×Bool:=match gt d.1 s with
 |none=>(d,false)
 |some b=>bif inR n 0 (8*(b.length:Int)-1) then ((wr d.1 s (Nu b n.toNat),bif decide (gt d.2 s=some b) then wr d.2 s (Nu b n.toNat) else d.2),true) else (d,false)
def U6a {l:List Nmd} (hs:Da l) {s:ByteArray} {i:Nat} (h:fnd l s=some i) (b:List Int):l.set i (s,b)=wr l s b:=by
 obtain⟨hi,hn⟩:=O7 h
 have hm:(l.set i (s,b)).map Prod.fst=l.map Prod.fst:=by
  rw[List.map_set]
  apply Jlb
  intro j
  by_cases hj:i=j
  ·subst hj
   rw[K6b (by rw[Wd];exact hi),Igb,Vj hi]
   rw[Vc,Vj hi]at hn
   exact congrArg some hn.symm
  ·rw[Jmb hj]
 have h1:Da (l.set i (s,b)):=by
  have e:∀ m:List Nmd,Da m↔(m.map Prod.fst).Pairwise (λ a b=>tlt a b=true):=λ m=>by
   unfold Da
   rw[Zn]
  rw[e,hm,← e]
  exact hs
 refine Ajb h1 (Q7 (Mo hs) Xl) λ t=>?_
 have h2:=Aib (x:=(s,b)) (t:=t) (Mo hs (s:=s)) Xl
 unfold wr
 rw[h2]
 by_cases ht:s=t
 ·subst ht
  rw[if_pos rfl,I0a h1]
  exact List.mem_set hi _
 ·rw[if_neg ht,T5 hs,if_neg ht]
  cases hg:gt l t with
  |none=>
   refine Nt.2 λ x hx=>?_
   rcases Yn hx with h'|rfl
   ·exact Nt.1 hg x h'
   ·exact ht
  |some c=>
   rw[I0a h1]
   obtain⟨j,hj,e⟩:=Zf.1 (Oz hg)
   have hij:i≠j:=by
    rintro rfl
    rw[Vc,Vj hi,Yv,e]at hn
    exact ht hn.symm
   refine Zf.2 ⟨j,by rw[Wb];exact hj,?_⟩
   rw[List.getElem_set_ne hij]
   exact e
def I3a {l:List Nmd} {s:ByteArray} {b:List Int} (hs:Da l) (h:(gt l s).isSome=true):(wr l s b).length=l.length:=by
 rw[Bia]at h
 obtain⟨i,hi⟩:=Zm.1 h
 rw[← U6a hs hi,Wb]
def Fob {d:Dsk} {s:ByteArray} {n:Int} (h:DG d):DG (J8a d s n).1:=by
 unfold J8a
 cases hg:gt d.1 s with
 |none=>exact h
 |some b=>
  simp only
  cases inR n 0 (8*(b.length:Int)-1)
  ·exact h
  have hn:=Pra h.1 (s:=s) (by rw[hg];rfl)
  have hb:=Alb h.1 hg
  have hbb:=L1a (h.2.1.gt hg) n.toNat
  have l1:=I3a (b:=Nu b n.toNat) (Kr h.1) (s:=s) (by rw[hg];rfl)
  have q1:=Cxb h.1 hn (b:=Nu b n.toNat) (by rw[I2a];exact hb) (by rw[l1];exact(Al.1 (E5.1 h.1).1).2.2)
  rw[cond_true]
  cases hc:decide (gt d.2 s=some b)
  ·exact⟨q1,(h.2.1.cut s).ins hbb,h.2.2⟩
  have hg2:=of_decide_eq_true hc
  have l2:=I3a (b:=Nu b n.toNat) (Od h.1) (s:=s) (by rw[hg2];rfl)
  have h':Ay (d.2,d.1)=true:=E5.2 ⟨(E5.1 h.1).2,(E5.1 h.1).1⟩
  have q2:=Cxb h' hn (b:=Nu b n.toNat) (by rw[I2a];exact hb) (by show (wr d.2 s _).length≤60;rw[l2];exact(Al.1 (E5.1 h.1).2).2.2)
  exact⟨E5.2 ⟨(E5.1 q1).1,(E5.1 q2).1⟩,(h.2.1.cut s).ins hbb,(h.2.2.cut s).ins hbb⟩
def Czb {d:Dsk} {s:ByteArray} {n:Int} (h:DG d) (hn:n≤9223372036854775807) (hn0 : -9223372036854775808≤n):Tot (λ k=>Ki k d s n) (λ r=>r=J8a d s n):=by
 have hin:=Og h.1
 unfold Ki
 refine Icb (M7 d hin.1.1) ?_
 refine Icb (Dka d.1 s hin.1.1.1.1) ?_
 refine Icb (Qu d hin.1.1 hin.1.2) ?_
 rw[h.1]
 refine I2b rfl ?_
 unfold J8a
 unfold Dja
 cases hf:fnd d.1 s with
 |none=>
  have hg:gt d.1 s=none:=by unfold gt;rw[hf]
  rw[hg]
  exact I4b (by decide) (I0b rfl)
 |some i=>
  have hg:gt d.1 s=some (d.1.getD i D8).2:=by unfold gt;rw[hf]
  have hi:=(O7 hf).1
  have hnm:=(O7 hf).2
  have hb:=Alb h.1 hg
  rw[hg]
  have e0:d.1.getD i ((⟨#[]⟩:ByteArray),([]:List Int))=d.1.getD i D8:=rfl
  simp only[Vb,e0]
  refine I5b (by omega) (I4b (by omega) (I4b (by omega) ?_))
  rw[w64 (n:=8*((d.1.getD i D8).2.length:Int)) (by omega) (by omega),w64 (n:=8*((d.1.getD i D8).2.length:Int)-1) (by omega) (by omega)]
  refine Icb (Ieb (Q:=λ b=>b=inR n 0 (8*((d.1.getD i D8).2.length:Int)-1)) (Ov _ _ _) rfl) ?_
  cases hr:inR n 0 (8*((d.1.getD i D8).2.length:Int)-1)
  ·exact I3b rfl (I0b rfl)
  obtain⟨n0,n1⟩:=Fi.1 hr
  obtain⟨m,rfl⟩:∃ m:Nat,n=(m:Int):=⟨n.toNat,by omega⟩
  have hm8:m/8<(d.1.getD i D8).2.length:=by omega
  have et:wrap .i64 (Int.tdiv (m:Int) 8)=((m/8:Nat):Int):=by
   rw[Iyb (by omega),w64 (by omega) (by omega)]
   omega
  have eu:wrap .u64 (Int.tmod (m:Int) 8)=((m % 8:Nat):Int):=by
   have h8:∀ j:Nat,j<8→wrap .u64 (j:Int)=(j:Int):=by decide
   rw[Imb (by omega),← h8 (m % 8) (by omega)]
   congr 1
  refine I2b rfl (Icb (Dka d.2 s hin.1.1.2.1) ?_)
  simp only[et,eu,Vb,Cyb _ _ (Llb m (show 0<8 by omega))]
  have ew:d.1.set i ((d.1.getD i D8).1,Nu (d.1.getD i D8).2 m)=wr d.1 s (Nu (d.1.getD i D8).2 m):=by rw[hnm];exact U6a (Kr h.1) hf _
  have ew':d.1.set i ((d.1.getD i D8).1,(d.1.getD i D8).2.set (m/8) (Cha ((d.1.getD i D8).2.getD (m/8) 0) (m % 8)))=wr d.1 s (Nu (d.1.getD i D8).2 m):=ew
  unfold Dja
  cases hf2:fnd d.2 s with
  |none=>
   have hg2:gt d.2 s=none:=by unfold gt;rw[hf2]
   rw[hg2]
   refine I5b (by decide) (I4b (by omega) (I4b (by omega) (I4b (by omega) (I4b (by omega) (I5b (by omega) (I4b (by omega) (I4b (by omega) (I0b ?_))))))))
   rw[ew']
   rfl
  |some j=>
   have hg2:gt d.2 s=some (d.2.getD j D8).2:=by unfold gt;rw[hf2]
   have hj:=(O7 hf2).1
   have hjn:=(O7 hf2).2
   have e1:d.2.getD j ((⟨#[]⟩:ByteArray),([]:List Int))=d.2.getD j D8:=rfl
   rw[hg2]
   simp only[Vb,e1]
   refine I4b (by omega) (I4b (by omega) (I4b (by omega) (I4b (by omega) (I4b (by omega) (I4b (by omega) (I4b (by omega) (I4b (by omega) (I4b (by omega) (I5b (by omega) (I4b (by omega) (I4b (by omega) ?_)))))))))))
   rw[Uw (h.2.2.gt hg2) (h.2.1.gt hg)]
   refine I7b (λ he=>?_) (λ he=>?_)
   ·have hl2:(d.2.getD j D8).2.length=(d.1.getD i D8).2.length:=by rw[he]
    refine I4b (by omega) (I4b (by omega) (I4b (by omega) (I4b (by omega) (I5b (by omega) (I4b (by omega) (I4b (by omega) (I0b ?_)))))))
    have ew2:d.2.set j ((d.2.getD j D8).1,(d.2.getD j D8).2.set (m/8) (Cha ((d.2.getD j D8).2.getD (m/8) 0) (m % 8)))=wr d.2 s (Nu (d.1.getD i D8).2 m):=by
     rw[hjn,he]
     exact U6a (Od h.1) hf2 _
    rw[ew',ew2,he,decide_eq_true rfl]
    rfl
   ·refine I0b ?_
    rw[ew',decide_eq_false (λ c=>he (Jib c))]
    rfl
def lb0:LB []:=λ x hx=>by cases hx
def dg0:DG ([],[]):=⟨by decide,⟨lb0,lb0⟩⟩

section
variable {d:Dsk} {s:ByteArray} {f:Fil} {sure:Bool}
def Yda (a:Stp):sle a a=false:=Kx a
def Bla (h1:Ay d=true) (h2:B5 s=true) (h3:Gc f=true):keep d s f sure=Mu d s f sure:=by unfold keep;rw[h1,h2,h3];rfl
def I4a {x:Dsk} {c:Int}:(kp2 d s sure (x,c)=(d,3))∨(sure=false∧kp2 d s sure (x,c)=(x,c))∨(sure=true∧(sy x s).length≤60∧kp2 d s sure (x,c)=((x.1,sy x s),c)):=by
 unfold kp2 syD
 cases sure
 ·exact .inr (.inl ⟨rfl,rfl⟩)
 rw[cond_true]
 by_cases h:(sy x s).length≤60
 ·rw[decide_eq_true h]
  exact .inr (.inr ⟨rfl,h,rfl⟩)
 ·rw[decide_eq_false h]
  exact .inl rfl
def U7a (hd:DG d) (hs:B5 s=true):kp1 d s f=none∨(∃ o,old d s=some o∧sle o.1 f.1=false∧kp1 d s f=some (d,1))∨((∀ o,old d s=some o→sle o.1 f.1=true)∧(wr d.1 s (Lc f)).length≤60∧kp1 d s f=some ((wr d.1 s (Lc f),d.2),0)):=by
 have hl:(Lc f).length≤400:=by have:=Z7 f;omega
 have w:(bif (wrD d s (Lc f)).2 then some ((wrD d s (Lc f)).1,(0:Int)) else none)=none∨((wr d.1 s (Lc f)).length≤60∧(bif (wrD d s (Lc f)).2 then some ((wrD d s (Lc f)).1,(0:Int)) else none)=some ((wr d.1 s (Lc f),d.2),0)):=by
  unfold wrD
  rw[decide_eq_true hl,Vx]
  by_cases h:(wr d.1 s (Lc f)).length≤60
  ·rw[decide_eq_true h];exact .inr ⟨h,rfl⟩
  ·rw[decide_eq_false h];exact .inl rfl
 unfold kp1
 cases ho:old d s with
 |none=>
  rcases w with h|⟨h1,h2⟩
  ·exact .inl h
  ·exact .inr (.inr ⟨λ o h=>(by cases h),h1,h2⟩)
 |some o=>
  simp only
  cases hc:sle o.1 f.1
  ·exact .inr (.inl ⟨o,rfl,hc,rfl⟩)
  rcases w with h|⟨h1,h2⟩
  ·exact .inl h
  ·exact .inr (.inr ⟨λ o' h=>(by cases h;exact hc),h1,h2⟩)
def X5 (hd:DG d) (hs:B5 s=true):Mu d s f sure=(d,3)∨
  (∃ o,old d s=some o∧sle o.1 f.1=false∧(Mu d s f sure).2=1∧DG (Mu d s f sure).1∧((sure=false∧(Mu d s f sure).1=d)∨(sure=true∧(Mu d s f sure).1=(d.1,sy d s))))∨
  ((∀ o,old d s=some o→sle o.1 f.1=true)∧DG (wr d.1 s (Lc f),d.2)∧(Mu d s f sure).2=0∧DG (Mu d s f sure).1∧((sure=false∧(Mu d s f sure).1=(wr d.1 s (Lc f),d.2))∨(sure=true∧(Mu d s f sure).1=(wr d.1 s (Lc f),sy (wr d.1 s (Lc f),d.2) s)))):=by
 have hg:=U5a (f:=f) (sure:=sure) hd hs
 rcases U7a (f:=f) hd hs with h|⟨o,h1,h2,h⟩|⟨h1,h2,h⟩
 ·exact .inl (by unfold Mu;rw[h])
 ·have e:Mu d s f sure=kp2 d s sure (d,1):=by unfold Mu;rw[h]
  rcases I4a (d:=d) (s:=s) (sure:=sure) (x:=d) (c:=1) with k|⟨k0,k⟩|⟨k0,k1,k⟩
  ·exact .inl (e.trans k)
  ·rw[← e]at k
   exact .inr (.inl ⟨o,h1,h2,by rw[k],hg,.inl ⟨k0,by rw[k]⟩⟩)
  ·rw[← e]at k
   exact .inr (.inl ⟨o,h1,h2,by rw[k],hg,.inr ⟨k0,by rw[k]⟩⟩)
 ·have e:Mu d s f sure=kp2 d s sure ((wr d.1 s (Lc f),d.2),0):=by unfold Mu;rw[h]
  have hw:=Fnb hd hs h
  rcases I4a (d:=d) (s:=s) (sure:=sure) (x:=(wr d.1 s (Lc f),d.2)) (c:=0) with k|⟨k0,k⟩|⟨k0,k1,k⟩
  ·exact .inl (e.trans k)
  ·rw[← e]at k
   exact .inr (.inr ⟨h1,hw,by rw[k],hg,.inl ⟨k0,by rw[k]⟩⟩)
  ·rw[← e]at k
   exact .inr (.inr ⟨h1,hw,by rw[k],hg,.inr ⟨k0,by rw[k]⟩⟩)
def F7a {l:List Nmd} (hs:Da l) {s t:ByteArray} {b:List Int}:gt (wr l s b) t=if s=t then some b else gt l t:=by
 unfold wr
 rw[Aib (x:=(s,b)) (Mo hs) Xl]
 by_cases h:s=t
 ·rw[if_pos h,if_pos h]
 ·rw[if_neg h,if_neg h,T5 hs,if_neg h]
def L2a (hd:Ay d=true) {t:ByteArray}:gt (sy d s) t=if s=t then gt d.1 s else gt d.2 t:=by
 unfold sy
 cases h:gt d.1 s with
 |none=>rw[T5 (Od hd)]
 |some b=>rw[F7a (Od hd)]
def U8a (hd:DG d) (hs:B5 s=true) (hf:Gc f=true) (hb:Ap f.2.2) (h:(Mu d s f true).2=0∨(Mu d s f true).2=1):
  ∃ o g b,DG o∧DG (Mu d s f true).1∧(Mu d s f true).1=(o.1,sy o s)∧gt o.1 s=some b∧Mq b=some g∧sle g.1 f.1=false:=by
 rcases X5 (f:=f) (sure:=true) hd hs with k|⟨o,h1,h2,k,hg,h3⟩|⟨h1,h2,k,hg,h3⟩
 ·rw[k]at h;rcases h with h|h<;>cases h
 ·rcases h3 with⟨h3,_⟩|⟨_,h3⟩
  ·cases h3
  ·have ho:(gt d.1 s).bind Mq=some o:=h1
   cases hg1:gt d.1 s with
   |none=>rw[hg1]at ho;cases ho
   |some b=>
    rw[hg1]at ho
    exact⟨d,o,b,hd,hg,h3,hg1,ho,h2⟩
 ·rcases h3 with⟨h3,_⟩|⟨_,h3⟩
  ·cases h3
  ·exact⟨(wr d.1 s (Lc f),d.2),f,Lc f,h2,hg,h3,by show gt (wr d.1 s (Lc f)) s=_;rw[F7a (Kr hd.1),if_pos rfl],Uv hf hb,Yda _⟩
end

end Go.Proofs.YtmhhjceoinoekaaGreat.Vf
