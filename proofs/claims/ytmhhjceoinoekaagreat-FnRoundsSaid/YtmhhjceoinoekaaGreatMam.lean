import Derived.Test.YtmhhjceoinoekaaGreatMal
set_option linter.all false
namespace Go.Proofs.YtmhhjceoinoekaaGreat.Vf
open Go
open List (length getD)
open Int (toNat)
open Go.IntKind (wrap)
open BitVec (ofInt)
def Yj:=@Bool.and_false
def Zf:=@Bool.not_true
def Zo:=@List.takeWhile_cons
def Zy:=@List.filter_cons
def Hcb:=@Bool.false_or
def Hjb:=@List.takeWhile_append_dropWhile
def Hqb:=@Bool.not_false
def Hxb:=@List.dropWhile_cons
def I9b:=@List.mem_filter
def Izb:=@Bool.eq_iff_iff
def J9b:=@List.findIdx?_eq_none_iff
def Jcb:=@Go.IntWalk.u32_in
def Jfb:=@List.append_cancel_left
def Jib:=@List.takeWhile_sublist
def Jlb:=@Bool.true_or
def Jmb:=@BitVec.xor_comm

def nOk (x:Nmd):Bool:=B1 x.1&&!(decide ((x.2.length:Int) > 400))
def chn:Option ByteArray→List Nmd→Bool
 |_,[]=>true
 |none,r::l=>nOk r&&chn (some r.1) l
 |some q,r::l=>nOk r&&(tlt q r.1&&chn (some r.1) l)
def Jo (l:List Nmd):Bool:=chn none l&&decide ((l.length:Int)≤60)
def Aj (d:Dsk):Bool:=Jo d.1&&Jo d.2
def P7 (l:List Nmd):Prop:=∀ x∈l,L9 x.1
def B1a (d:Dsk):Prop:=P7 d.1∧P7 d.2
def Xn (l:List Nmd):Nat→Option ByteArray
 |0=>none
 |i+1=>some (l.getD i D6).1
def N9a (l:List Nmd) (i:Nat) (h:i<l.length):chn (Xn l i) (l.drop i)=(nOk (l.getD i D6)&&(bif decide (0<i) then tlt (l.getD (i-1) D6).1 (l.getD i D6).1 else true)&&chn (Xn l (i+1)) (l.drop (i+1))):=by
 rw[Af (d:=D6) h]
 cases i with
 |zero=>simp[Xn,chn]
 |succ i=>simp[Xn,chn,Jtb]
def Hja (l:List Nmd) (hf:l.length≤1000000000000) (hs:P7 l):∀ (n i:Nat),l.length-i=n→i≤l.length→
  Tot (λ k=>Es k l l (l.length:Int) (i:Int)) (λ r=>r=bif chn (Xn l i) (l.drop i) then .inr l else .inl false):=by
 intro n
 induction n with
 |zero=>
  intro i hn hi
  refine Tot.succ ?_
  simp only[Es]
  refine Gnb (by omega) (Gib ?_)
  rw[Wa (by omega)]
  cases Xn l i<;>rfl
 |succ n ih=>
  intro i hn hi
  have hlt:i<l.length:=by omega
  refine Tot.succ ?_
  simp only[Es]
  refine Gmb (by omega) (Gmb (by omega) (Gmb (by omega) ?_))
  rw[show toNat (i:Int)=i from Vb i,w64 (n:=(i:Int)+1) (by omega) (by omega),N9a l i hlt]
  have h1:=ih (i+1) (by omega) (by omega)
  have e:(((i+1:Nat)):Int)=(i:Int)+1:=by omega
  rw[e]at h1
  have e0:l.getD i ((⟨#[]⟩:ByteArray),([]:List Int))=l.getD i D6:=rfl
  rw[e0]
  refine Gtb (Qo (l.getD i D6).1 (hs _ (A4 hlt))) ?_
  cases hb:B1 (l.getD i D6).1
  ·exact Glb rfl (Gib (by rw[show nOk (l.getD i D6)=false by unfold nOk;rw[hb];rfl];rfl))
  refine Gkb rfl ?_
  refine Gpb (λ h4=>Gib (by rw[show nOk (l.getD i D6)=false by unfold nOk;rw[decide_eq_true h4,hb];rfl];rfl)) (λ h4=>?_)
  have hnk:nOk (l.getD i D6)=true:=by unfold nOk;rw[hb,decide_eq_false h4];rfl
  rw[hnk,Wc]
  refine Gpb (λ h0=>?_) (λ h0=>?_)
  ·rw[w64 (n:=(i:Int)-1) (by omega) (by omega)]
   refine Gmb (by omega) (Gmb (by omega) ?_)
   rw[show toNat ((i:Int)-1)=i-1 by omega,decide_eq_true (show 0<i by omega),cond_true]
   refine Gob (λ ht=>?_) (λ ht=>?_)
   ·have ht':(!(tlt (l.getD (i-1) D6).1 (l.getD i D6).1))=true:=ht
    rw[Vv]at ht'
    exact Gib (by rw[ht'];rfl)
   ·have ht':(!(tlt (l.getD (i-1) D6).1 (l.getD i D6).1))=false:=ht
    rw[Wj]at ht'
    rw[ht',Wc]
    exact h1
  ·rw[decide_eq_false (show ¬ 0<i by omega),cond_false,Wc]
   exact h1
def Hka (l:List Nmd) (hf:l.length≤1000000000000) (hs:P7 l):∀ (n i:Nat),l.length-i=n→i≤l.length→
  Tot (λ k=>Gn k l (i:Int)) (λ r=>r=bif chn (Xn l i) (l.drop i) then .inr l else .inl false):=by
 intro n
 induction n with
 |zero=>
  intro i hn hi
  refine Tot.succ ?_
  simp only[Gn]
  refine Gnb (by omega) (Gib ?_)
  rw[Wa (by omega)]
  cases Xn l i<;>rfl
 |succ n ih=>
  intro i hn hi
  have hlt:i<l.length:=by omega
  refine Tot.succ ?_
  simp only[Gn]
  refine Gmb (by omega) (Gmb (by omega) (Gmb (by omega) ?_))
  rw[show toNat (i:Int)=i from Vb i,w64 (n:=(i:Int)+1) (by omega) (by omega),N9a l i hlt]
  have h1:=ih (i+1) (by omega) (by omega)
  have e:(((i+1:Nat)):Int)=(i:Int)+1:=by omega
  rw[e]at h1
  have e0:l.getD i ((⟨#[]⟩:ByteArray),([]:List Int))=l.getD i D6:=rfl
  rw[e0]
  refine Gtb (Ph (l.getD i D6).1 (hs _ (A4 hlt))) ?_
  cases hb:B1 (l.getD i D6).1
  ·exact Glb rfl (Gib (by rw[show nOk (l.getD i D6)=false by unfold nOk;rw[hb];rfl];rfl))
  refine Gkb rfl (Gmb (by omega) (Gmb (by omega) ?_))
  refine Gpb (λ h4=>Gib (by rw[show nOk (l.getD i D6)=false by unfold nOk;rw[decide_eq_true h4,hb];rfl];rfl)) (λ h4=>?_)
  have hnk:nOk (l.getD i D6)=true:=by unfold nOk;rw[hb,decide_eq_false h4];rfl
  rw[hnk,Wc]
  refine Gpb (λ h0=>?_) (λ h0=>?_)
  ·rw[w64 (n:=(i:Int)-1) (by omega) (by omega)]
   refine Gmb (by omega) (Gmb (by omega) (Gmb (by omega) (Gmb (by omega) ?_)))
   rw[show toNat ((i:Int)-1)=i-1 by omega,decide_eq_true (show 0<i by omega),cond_true]
   refine Gob (λ ht=>?_) (λ ht=>?_)
   ·have ht':(!(tlt (l.getD (i-1) D6).1 (l.getD i D6).1))=true:=ht
    rw[Vv]at ht'
    exact Gib (by rw[ht'];rfl)
   ·have ht':(!(tlt (l.getD (i-1) D6).1 (l.getD i D6).1))=false:=ht
    rw[Wj]at ht'
    rw[ht',Wc]
    exact h1
  ·rw[decide_eq_false (show ¬ 0<i by omega),cond_false,Wc]
   exact h1
def Hla (l:List Nmd) (hf:l.length≤1000000000000) (hs:P7 l):Tot (λ k=>Ed k l) (λ r=>r=Jo l):=by
 unfold Ed Jo
 refine Gtb (Hja l hf hs _ 0 rfl (Vs _)) ?_
 rw[Wf]
 show Tot _ (λ r=>r=(chn none l&&_))
 cases hc:chn none l with
 |true=>rw[show chn (Xn l 0) l=true from hc];exact Gib (by rw[Wc])
 |false=>rw[show chn (Xn l 0) l=false from hc];exact Gib rfl
def Hma (l:List Nmd) (hf:l.length≤1000000000000) (hs:P7 l):Tot (λ k=>G4 k l) (λ r=>r=Jo l):=by
 unfold G4 Jo
 refine Gtb (Hka l hf hs _ 0 rfl (Vs _)) ?_
 rw[Wf]
 show Tot _ (λ r=>r=(chn none l&&_))
 cases hc:chn none l with
 |true=>rw[show chn (Xn l 0) l=true from hc];exact Gib (by rw[Wc])
 |false=>rw[show chn (Xn l 0) l=false from hc];exact Gib rfl
def Sp (d:Dsk) (hf:X6a d) (hs:B1a d):Tot (λ k=>Bw k d) (λ r=>r=Aj d):=by
 unfold Bw Aj
 refine Gtb (Hla d.1 hf.1.1 hs.1) ?_
 cases h:Jo d.1
 ·exact Gkb rfl (Gib rfl)
 refine Glb rfl (Gtb (Hla d.2 hf.2.1 hs.2) ?_)
 exact Gib (by rw[Wc])
def plc (l:List Nmd) (s:ByteArray):Nat:=(l.takeWhile (λ y=>tlt y.1 s)).length
def ins (l:List Nmd) (x:Nmd):List Nmd:=l.take (plc l x.1)++[x]++l.drop (plc l x.1)
def Zda (l:List Nmd) (s:ByteArray):plc l s≤l.length:=(Jib _).length_le
def Kla (l:List Nmd) (s:ByteArray) (b:List Int) (hf:l.length≤1000000000000):∀ (n i:Nat),l.length-i=n→i≤l.length→
  Tot (λ k=>L5 k l (i:Int) s b) (λ r=>r=(l,((i+plc (l.drop i) s:Nat):Int),s,b)):=by
 intro n
 induction n with
 |zero=>
  intro i hd hi
  refine Tot.succ ?_
  simp only[L5]
  refine Gnb (by omega) (Gib ?_)
  rw[Wa (by omega)]
  rfl
 |succ n ih=>
  intro i hd hi
  have hlt:i<l.length:=by omega
  refine Tot.succ ?_
  simp only[L5]
  refine Gmb (by omega) (Gmb (by omega) (Gmb (by omega) ?_))
  rw[show toNat (i:Int)=i from Vb i,w64 (n:=(i:Int)+1) (by omega) (by omega),Af (d:=D6) hlt]
  have e0:l.getD i ((⟨#[]⟩:ByteArray),([]:List Int))=l.getD i D6:=rfl
  rw[e0]
  have e1:plc (l.getD i D6::l.drop (i+1)) s=if tlt (l.getD i D6).1 s then plc (l.drop (i+1)) s+1 else 0:=by
   unfold plc
   rw[Zo]
   split<;>rfl
  rw[e1]
  refine Gob (λ h=>?_) (λ h=>?_)
  ·have h':tlt (l.getD i D6).1 s=true:=h
   rw[if_pos h']
   refine(ih (i+1) (by omega) (by omega)).mono ?_
   rintro r rfl
   rw[show i+1+plc (l.drop (i+1)) s=i+(plc (l.drop (i+1)) s+1) by omega]
  ·have h':¬ (tlt (l.getD i D6).1 s=true):=by
    have:tlt (l.getD i D6).1 s=false:=h
    rw[this];simp
   rw[if_neg h']
   exact Gib rfl
def Naa (l:List Nmd) (x:Nmd) (hf:l.length≤1000000000000):Tot (λ k=>M6 k l x) (λ r=>r=ins l x):=by
 unfold M6 ins
 refine Gjb (Kla l x.1 x.2 hf _ 0 rfl (Vs _)) ?_
 intro r hr
 rw[Wf,Wl]at hr
 subst hr
 have hp:=Zda l x.1
 dsimp only
 refine Gmb (by omega) (Gmb (by omega) ?_)
 rw[show toNat ((plc l x.1:Nat):Int)=plc l x.1 from Vb _]
 refine Gqb (by simp only[Vh,Vq];omega) ?_
 refine Gqb (by simp only[Vd,Vh,Vq,Vc];omega) ?_
 refine Gmb (by omega) (Gmb (by omega) (Gqb (by simp only[Vd,Vh,Vq,Wd,Vc];omega) (Gib ?_)))
 rw[Vx]

def Kma (l:List Int) (h:l.length≤1000000000000):(length ([]:List Int)+l.length)*1≤140737488355328:=by
 simp only[Vh]
 omega
def B2a (l:List Nmd) (hf:C5a l):∀ (n i:Nat) (acc:List Nmd),l.length-i=n→i≤l.length→acc.length≤i→
  Tot (λ k=>Ch k l acc (i:Int)) (λ r=>r=acc++l.drop i):=by
 obtain⟨h1,h2⟩:=hf
 intro n
 induction n with
 |zero=>
  intro i acc hd hi ha
  refine Tot.succ ?_
  simp only[Ch]
  refine Gnb (by omega) (Gib ?_)
  rw[Wa (by omega),Wp]
 |succ n ih=>
  intro i acc hd hi ha
  have hlt:i<l.length:=by omega
  refine Tot.succ ?_
  simp only[Ch]
  refine Gmb (by omega) (Gmb (by omega) (Gmb (by omega) (Gmb (by omega) (Gmb (by omega) ?_))))
  rw[show toNat (i:Int)=i from Vb i,w64 (n:=(i:Int)+1) (by omega) (by omega),Af (d:=D6) hlt]
  have e0:l.getD i ((⟨#[]⟩:ByteArray),([]:List Int))=l.getD i D6:=rfl
  rw[e0]
  have hb:=h2 _ (A4 (d:=D6) hlt)
  refine Gqb (Kma _ hb) (Gqb (by simp only[Vc,Vh];omega) ?_)
  refine(ih (i+1) (acc++[l.getD i D6]) (by omega) (by omega) (by simp only[Vd,Vc,Vh];omega)).mono ?_
  rintro r rfl
  rw[Vp]
  rfl
def Pi (l:List Nmd) (hf:C5a l):Tot (λ k=>Bg k l) (λ r=>r=l):=by
 unfold Bg
 refine Gjb (B2a l hf _ 0 [] rfl (Vs _) (Vs _)) ?_
 intro r hr
 rw[Wf,Vx]at hr
 exact Gib hr
def Mf (d:Dsk) (hf:X6a d):Tot (λ k=>A7 k d) (λ r=>r=d):=by
 unfold A7
 refine Gtb (Pi d.1 hf.1) ?_
 refine Gtb (Pi d.2 hf.2) ?_
 exact Gib rfl
def T8a (l:List Nmd) (s:ByteArray) (hf:l.length≤1000000000000):∀ (n i:Nat),l.length-i=n→i≤l.length→
  Tot (λ k=>Js k l s (i:Int)) (λ r=>r=match fnd (l.drop i) s with|some j => .inl ((i+j:Nat):Int)|none => .inr ()):=by
 intro n
 induction n with
 |zero=>
  intro i hd hi
  refine Tot.succ ?_
  simp only[Js]
  refine Gnb (by omega) (Gib ?_)
  rw[Wa (by omega)]
  rfl
 |succ n ih=>
  intro i hd hi
  have hlt:i<l.length:=by omega
  refine Tot.succ ?_
  simp only[Js]
  refine Gmb (by omega) (Gmb (by omega) (Gmb (by omega) ?_))
  rw[show toNat (i:Int)=i from Vb i,w64 (n:=(i:Int)+1) (by omega) (by omega),Af (d:=D6) hlt]
  have e0:l.getD i ((⟨#[]⟩:ByteArray),([]:List Int))=l.getD i D6:=rfl
  rw[e0]
  have e1:fnd (l.getD i D6::l.drop (i+1)) s=if teq (l.getD i D6).1 s then some 0 else (fnd (l.drop (i+1)) s).map (· + 1):=by
   unfold fnd
   rw[I7b]
  rw[e1]
  refine Gob (λ h=>?_) (λ h=>?_)
  ·have h':teq (l.getD i D6).1 s=true:=h
   rw[if_pos h']
   exact Gib rfl
  ·have h':¬ (teq (l.getD i D6).1 s=true):=by
    have:teq (l.getD i D6).1 s=false:=h
    rw[this];simp
   rw[if_neg h']
   refine(ih (i+1) (by omega) (by omega)).mono ?_
   rintro r rfl
   cases fnd (l.drop (i+1)) s with
   |none=>rfl
   |some j=>
    show Sum.inl _=Sum.inl _
    rw[show i+1+j=i+(j+1) by omega]
def Dca (l:List Nmd) (s:ByteArray) (hf:l.length≤1000000000000):Tot (λ k=>De k l s) (λ r=>r=Hia l s):=by
 unfold De Hia
 refine Gtb (T8a l s hf _ 0 rfl (Vs _)) ?_
 rw[Wf]
 cases fnd l s with
 |none=>exact Gib rfl
 |some j=>
  refine Gib ?_
  rw[Wl]
def cut (l:List Nmd) (s:ByteArray):List Nmd:=l.filter (λ x => !(teq x.1 s))
def Pea (l:List Nmd) (s:ByteArray) (hf:l.length≤1000000000000):∀ (n i:Nat) (acc:List Nmd),l.length-i=n→i≤l.length→acc.length≤i→
  Tot (λ k=>I2 k l s acc (i:Int)) (λ r=>r=acc++cut (l.drop i) s):=by
 intro n
 induction n with
 |zero=>
  intro i acc hd hi ha
  refine Tot.succ ?_
  simp only[I2]
  refine Gnb (by omega) (Gib ?_)
  rw[Wa (by omega)]
  simp[cut]
 |succ n ih=>
  intro i acc hd hi ha
  have hlt:i<l.length:=by omega
  refine Tot.succ ?_
  simp only[I2]
  refine Gmb (by omega) (Gmb (by omega) (Gmb (by omega) ?_))
  rw[show toNat (i:Int)=i from Vb i,w64 (n:=(i:Int)+1) (by omega) (by omega),Af (d:=D6) hlt]
  have e0:l.getD i ((⟨#[]⟩:ByteArray),([]:List Int))=l.getD i D6:=rfl
  rw[e0]
  have e1:cut (l.getD i D6::l.drop (i+1)) s=if (!(teq (l.getD i D6).1 s))=true then l.getD i D6::cut (l.drop (i+1)) s else cut (l.drop (i+1)) s:=by
   unfold cut
   rw[Zy]
  rw[e1]
  refine Gob (λ h=>?_) (λ h=>?_)
  ·have h':(!(teq (l.getD i D6).1 s))=true:=h
   rw[if_pos h']
   refine Gmb (by omega) (Gmb (by omega) (Gqb (by simp only[Vc,Vh];omega) ?_))
   refine(ih (i+1) (acc++[l.getD i D6]) (by omega) (by omega) (by simp only[Vd,Vc,Vh];omega)).mono ?_
   rintro r rfl
   rw[Vp]
   rfl
  ·have h':¬ ((!(teq (l.getD i D6).1 s))=true):=by
    have:(!(teq (l.getD i D6).1 s))=false:=h
    rw[this];simp
   rw[if_neg h']
   exact ih (i+1) acc (by omega) (by omega) (by omega)
def T9a (l:List Nmd) (s:ByteArray) (hf:l.length≤1000000000000):Tot (λ k=>Jh k l s) (λ r=>r=cut l s):=by
 unfold Jh
 refine Gjb (Pea l s hf _ 0 [] rfl (Vs _) (Vs _)) ?_
 intro r hr
 rw[Wf,Vx]at hr
 exact Gib hr
def Qr (d:Dsk) (hf:X6a d) (hs:B1a d):Tot (λ k=>Bp k d) (λ r=>r=Aj d):=by
 unfold Bp Aj
 refine Gtb (Hma d.1 hf.1.1 hs.1) ?_
 cases h:Jo d.1
 ·exact Gkb rfl (Gib rfl)
 refine Glb rfl (Gtb (Hma d.2 hf.2.1 hs.2) ?_)
 exact Gib (by rw[Wc])

def rdN (l:List Nmd) (s:ByteArray):List Int×Bool:=match fnd l s with
 |some i=>((l.getD i D6).2,true)
 |none=>([],false)
def Nba (d:Dsk) (s:ByteArray) (hf:C5a d.1):Tot (λ k=>Fs k d s) (λ r=>r=rdN d.1 s):=by
 unfold Fs rdN
 refine Gtb (N8a d.1 s hf.1) ?_
 unfold Hia
 have hl1:=hf.1
 cases h:fnd d.1 s with
 |none=>exact Gmb (by decide) (Gib rfl)
 |some i=>
  have hl:=(P6 h).1
  dsimp only
  refine Gnb (by omega) (Gmb (by omega) (Gmb (by omega) ?_))
  rw[show toNat (i:Int)=i from Vb i]
  have hb:=hf.2 _ (A4 (d:=D6) hl)
  refine Gtb (Gub (Q:=λ r=>r=(d.1.getD i D6).2) (Np _ hb) rfl) ?_
  exact Gib rfl
def Nca (d:Dsk) (s:ByteArray) (hf:C5a d.1):Tot (λ k=>Fp k d s) (λ r=>r=rdN d.1 s):=by
 unfold Fp rdN
 refine Gtb (Dca d.1 s hf.1) ?_
 unfold Hia
 have hl1:=hf.1
 cases h:fnd d.1 s with
 |none=>exact Gmb (by decide) (Gib rfl)
 |some i=>
  have hl:=(P6 h).1
  dsimp only
  refine Gnb (by omega) (Gmb (by omega) (Gmb (by omega) ?_))
  rw[show toNat (i:Int)=i from Vb i]
  have hb:=hf.2 _ (A4 (d:=D6) hl)
  exact Gqb (Kma _ hb) (Gib rfl)
def Hna (a b:List Nmd) (hf:C5a a) (hl:a.length=b.length):∀ (n i:Nat),a.length-i=n→i≤a.length→
  Tot (λ k=>Dq k a b (i:Int)) (λ r=>(r = .inr ()∧a.drop i=b.drop i)∨(r = .inl false∧a.drop i≠b.drop i)):=by
 obtain⟨hf1,hf2⟩:=hf
 intro n
 induction n with
 |zero=>
  intro i hd hi
  refine Tot.succ ?_
  simp only[Dq]
  refine Gnb (by omega) (Gib (.inl ⟨rfl,?_⟩))
  rw[Wa (by omega),Wa (by omega)]
 |succ n ih=>
  intro i hd hi
  have h1:i<a.length:=by omega
  refine Tot.succ ?_
  simp only[Dq]
  refine Gmb (by omega) (Gmb (by omega) (Gmb (by omega) (Gmb (by omega) (Gmb (by omega) ?_))))
  rw[show toNat (i:Int)=i from Vb i,w64 (n:=(i:Int)+1) (by omega) (by omega),Af (d:=D6) h1,Af (d:=D6) (l:=b) (i:=i) (by omega)]
  have ea:a.getD i ((⟨#[]⟩:ByteArray),([]:List Int))=a.getD i D6:=rfl
  have eb:b.getD i ((⟨#[]⟩:ByteArray),([]:List Int))=b.getD i D6:=rfl
  rw[ea,eb]
  refine Gob (λ h=>Gib (.inr ⟨rfl,?_⟩)) (λ h=>?_)
  ·have h':(!(teq (a.getD i D6).1 (b.getD i D6).1))=true:=h
   rw[Vv]at h'
   intro e
   injection e with e _
   rw[e,Jl.2 rfl]at h'
   cases h'
  ·have h':(!(teq (a.getD i D6).1 (b.getD i D6).1))=false:=h
   rw[Wj,Jl]at h'
   refine Gmb (by omega) (Gmb (by omega) (Gmb (by omega) (Gmb (by omega) ?_)))
   refine Gtb (Exa (a.getD i D6).2 (b.getD i D6).2 (hf2 _ (A4 (d:=D6) h1))) ?_
   by_cases hs:(a.getD i D6).2=(b.getD i D6).2
   ·refine Gkb (by rw[decide_eq_true hs];rfl) ?_
    have e:a.getD i D6=b.getD i D6:=Prod.ext h' hs
    refine(ih (i+1) (by omega) (by omega)).mono ?_
    rintro r (⟨rfl,h⟩|⟨rfl,h⟩)
    ·exact .inl ⟨rfl,by rw[e,h]⟩
    ·refine .inr ⟨rfl,λ q=>h ?_⟩
     injection q
   ·refine Glb (by rw[decide_eq_false hs];rfl) (Gib (.inr ⟨rfl,λ e=>hs ?_⟩))
    injection e with e _
    rw[e]
def Eya (a b:List Nmd) (hf:C5a a):Tot (λ k=>Cs k a b) (λ r=>r=decide (a=b)):=by
 unfold Cs
 refine Gob (λ h=>Gib ?_) (λ h=>?_)
 ·have:a≠b:=λ e=>by subst e;simp at h
  rw[decide_eq_false this]
 ·have hl:a.length=b.length:=by
   have:(a.length:Int)=b.length:=by simpa using h
   omega
  refine Gjb (Hna a b hf hl _ 0 rfl (Vs _)) ?_
  rintro r (⟨rfl,h⟩|⟨rfl,h⟩)
  ·rw[Wf,Wf]at h
   rw[decide_eq_true h]
   exact Gib rfl
  ·rw[Wf,Wf]at h
   rw[decide_eq_false h]
   exact Gib rfl

def Gx (l:List Nmd):Prop:=l.Pairwise (λ a b=>tlt a.1 b.1=true)
def Kna:∀ (p:Option ByteArray) (l:List Nmd),chn p l=true↔Gx l∧(∀ r∈l,nOk r=true)∧(∀ q,p=some q→∀ r∈l,tlt q r.1=true)
 |p,[]=>by
  have:chn p []=true:=by cases p<;>rfl
  simp[this,Gx]
 |none,r::l=>by
  simp only[chn,Va,Kna (some r.1) l,Gx,Wk]
  constructor
  ·rintro⟨h1,h2,h3,h4⟩
   exact⟨⟨λ a ha=>h4 _ rfl a ha,h2⟩,λ a ha=>by rcases Vm.1 ha with rfl|ha;exact h1;exact h3 a ha,λ q hq=>by cases hq⟩
  ·rintro⟨⟨h1,h2⟩,h3,_⟩
   exact⟨h3 r (by simp),h2,λ a ha=>h3 a (Vj _ ha),λ q hq a ha=>by cases hq;exact h1 a ha⟩
 |some q,r::l=>by
  simp only[chn,Va,Kna (some r.1) l,Gx,Wk]
  constructor
  ·rintro⟨h1,h0,h2,h3,h4⟩
   refine⟨⟨λ a ha=>h4 _ rfl a ha,h2⟩,λ a ha=>by rcases Vm.1 ha with rfl|ha;exact h1;exact h3 a ha,λ q' hq a ha=>?_⟩
   cases hq
   rcases Vm.1 ha with rfl|ha
   ·exact h0
   ·exact N6 h0 (h4 _ rfl a ha)
  ·rintro⟨⟨h1,h2⟩,h3,h4⟩
   exact⟨h3 r (by simp),h4 q rfl r (by simp),h2,λ a ha=>h3 a (Vj _ ha),λ q' hq a ha=>by cases hq;exact h1 a ha⟩
def Ah {l:List Nmd}:Jo l=true↔Gx l∧(∀ r∈l,nOk r=true)∧l.length≤60:=by
 unfold Jo
 simp only[Va,Kna,decide_eq_true_eq]
 constructor
 ·rintro⟨⟨h1,h2,_⟩,h3⟩
  exact⟨h1,h2,by omega⟩
 ·rintro⟨h1,h2,h3⟩
  exact⟨⟨h1,h2,λ q hq=>by cases hq⟩,by omega⟩
def Qs {x:Nmd}:nOk x=true↔B1 x.1=true∧x.2.length≤400:=by
 unfold nOk
 simp only[Va,Vv,decide_eq_false_iff_not]
 constructor
 ·rintro⟨h1,h2⟩;exact⟨h1,by omega⟩
 ·rintro⟨h1,h2⟩;exact⟨h1,by omega⟩
def X9 {l:List Nmd} (h:Jo l=true):C5a l∧P7 l:=by
 obtain⟨_,h2,h3⟩:=Ah.1 h
 refine⟨⟨by omega,λ x hx=>by have:=(Qs.1 (h2 x hx)).2;omega⟩,λ x hx=>?_⟩
 have:=B0a (Qs.1 (h2 x hx)).1
 unfold L9
 omega
def Nda (y:Nmd) (l:List Nmd) (s:ByteArray):fnd (y::l) s=if teq y.1 s then some 0 else (fnd l s).map (· + 1):=by
 unfold fnd
 rw[I7b]
def X7a {l:List Nmd} {s:ByteArray}:fnd l s=none↔∀ x∈l,x.1≠s:=by
 unfold fnd
 rw[J9b]
 constructor
 ·intro h x hx e
  have:=h x hx
  rw[Jl.2 e]at this
  cases this
 ·intro h x hx
  cases ht:teq x.1 s with
  |false=>rfl
  |true=>exact absurd (Jl.1 ht) (h x hx)
def Qt:∀ {l:List Nmd} {s:ByteArray},Gx l→del l s=cut l s
 |[],s,_=>rfl
 |y::l,s,h=>by
  have hc:=Wk.1 h
  have ih:=Qt (l:=l) (s:=s) hc.2
  unfold del cut at *
  rw[Nda,Zy]
  cases ht:teq y.1 s with
  |true=>
   have hno:∀ x∈l,(!(teq x.1 s))=true:=λ x hx=>by
    cases hx2:teq x.1 s
    ·rfl
    have e1:=Jl.1 ht
    have e2:=Jl.1 hx2
    have:=hc.1 x hx
    rw[e1,e2,M1]at this
    cases this
   rw[if_pos rfl,if_neg (by simp)]
   show []++l=_
   rw[Vx,List.filter_eq_self.2 hno]
  |false=>
   rw[if_neg (by simp),if_pos (show (!false)=true from rfl),← ih]
   cases hf:fnd l s with
   |none=>rfl
   |some i=>rfl
def O5 {l:List Nmd} {s:ByteArray} (h:Gx l):Gx (cut l s):=h.sublist List.filter_sublist
def P8 {l:List Nmd} {s:ByteArray}:(cut l s).Sublist l:=List.filter_sublist
def Xa {l:List Nmd} {s:ByteArray} (h:Jo l=true):Jo (cut l s)=true:=by
 obtain⟨h1,h2,h3⟩:=Ah.1 h
 exact Ah.2 ⟨O5 h1,λ x hx=>h2 x (P8.subset hx),by have:=(P8 (l:=l) (s:=s)).length_le;omega⟩
def Blb {l:List Nmd} {s:ByteArray} {i:Nat} (h:fnd l s=some i):(del l s).length+1=l.length:=by
 have hl:=(P6 h).1
 unfold del
 rw[h]
 simp only[Vd,Vq,Wd]
 omega
def Taa {l m:List Nmd} (h:m.Sublist l) (hf:C5a l):C5a m:=⟨by have:=h.length_le;have:=hf.1;omega,λ x hx=>hf.2 x (h.subset hx)⟩
def Hoa {l m:List Nmd} (h:m.Sublist l) (hf:P7 l):P7 m:=λ x hx=>hf x (h.subset hx)

def Pfa (l:List Int) (x4:Int):∀ (n:Nat) (x3 i:Int),0≤i→8-i=n→Tot (λ k=>Ia k l x3 x4 i) (λ r=>r.1=l∧r.2.2=x4):=by
 intro n
 induction n with
 |zero=>
  intro x3 i h0 hn
  refine Tot.succ ?_
  simp only[Ia]
  exact Gnb (by omega) (Gib ⟨rfl,rfl⟩)
 |succ n ih=>
  intro x3 i h0 hn
  refine Tot.succ ?_
  simp only[Ia]
  refine Gmb (by omega) ?_
  rw[w64 (n:=i+1) (by omega) (by omega)]
  exact Gob (λ _=>ih _ (i+1) (by omega) (by omega)) (λ _=>ih _ (i+1) (by omega) (by omega))
def Pga (l:List Int) (hl:l.length≤1000000000000):∀ (n i:Nat) (x3:Int),l.length-i=n→i≤l.length→Tot (λ k=>Io k l x3 (i:Int)) (λ _=>True):=by
 intro n
 induction n with
 |zero=>
  intro i x3 hd hi
  refine Tot.succ ?_
  simp only[Io]
  exact Gnb (by omega) (Gib trivial)
 |succ n ih=>
  intro i x3 hd hi
  refine Tot.succ ?_
  simp only[Io]
  refine Gmb (by omega) (Gmb (by omega) (Gmb (by omega) ?_))
  refine Gjb (Pfa l (i:Int) 8 _ 0 (by decide) (by decide)) ?_
  rintro⟨a,b,c⟩ ⟨h1,h2⟩
  simp only at h1 h2
  subst h1 h2
  dsimp only
  rw[w64 (n:=(i:Int)+1) (by omega) (by omega)]
  exact ih (i+1) b (by omega) (by omega)
def Koa (l:List Int) (hl:l.length≤1000000000000):Tot (λ k=>M5 k l) (λ _=>True):=by
 unfold M5
 refine Gjb (Pga l hl _ 0 _ rfl (Vs _)) (λ r _=>Gib trivial)
def B3a (f:Fil) (hf:Zaa f):Tot (λ k=>Bm k f) (λ r=>r.length≤2000000):=by
 unfold Bm
 have hfo:∃ b,C3 f=some b:=by
  unfold C3
  rw[Rv]
  simp only[Vn]
  cases Gw f.1<;>cases decide ((length f.2.2:Int)≤200)<;>cases f.2.1<;>exact⟨_,rfl⟩
 obtain⟨b,hb⟩:=hfo
 have hl:f.2.2.length≤9:=by have:=hf.2.2.1;omega
 refine Gtb (Gub (Q:=λ r=>r=b) hb rfl) ?_
 refine Gob (λ _=>Gib (by simp)) (λ _=>?_)
 refine Gtb (Daa [] f.1 (by simp)) ?_
 refine Gtb (Gub (Q:=λ r=>r=C3a f.2.1) (N6a _) rfl) ?_
 have h1:=Ewa f.1
 refine Gtb (W9 _ _ (by simp only[Vd,Vh];omega)) ?_
 have h2:=(Mv (Br (C3a f.2.1))).1
 have h3:(M9 f.2.2).size=f.2.2.length:=O4 _
 refine Gtb (N3a _ _ (by simp only[Vd,Vh];omega) (by omega)) ?_
 have h4:=T5a (M9 f.2.2)
 refine Gjb (Koa _ (by simp only[Vd,Vh];omega)) (λ q _=>?_)
 refine Gqb (by simp only[Vd,Vc,Vh];omega) (Gib ?_)
 simp only[Vd,Vc,Vh]
 omega
def Eza (d out:Dsk) (s:ByteArray) (hd:X6a d∧B1a d) (ho:X6a out∧B1a out) (hs:L9 s):Tot (λ k=>Ek k d out s) (λ r=>r=bif Aj d&&(B1 s&&Aj out) then (out,true) else (d,false)):=by
 unfold Ek
 refine Gtb (Qr d hd.1 hd.2) ?_
 cases h1:Aj d with
 |false=>
  refine Glb rfl (Gtb (Mf d hd.1) ?_)
  exact Gib rfl
 |true=>
  refine Gkb rfl (Gtb (Ph s hs) ?_)
  cases h2:B1 s with
  |false=>
   refine Glb rfl (Gtb (Mf d hd.1) ?_)
   exact Gib rfl
  |true=>
   refine Gkb rfl (Gtb (Qr out ho.1 ho.2) ?_)
   cases h3:Aj out with
   |false=>
    refine Glb rfl (Gtb (Mf d hd.1) ?_)
    exact Gib rfl
   |true=>exact Gkb rfl (Gib rfl)
def Dda (d:Dsk) (s:ByteArray) (hd:X6a d∧B1a d) (hs:L9 s):Tot (λ k=>Bh k d s) (λ r=>r=bif (fnd d.1 s).isSome&&(Aj d&&(B1 s&&Aj (cut d.1 s,d.2))) then ((cut d.1 s,d.2),true) else (d,false)):=by
 unfold Bh
 refine Gjb (Mf d hd.1) ?_
 rintro r rfl
 refine Gjb (Dca r.1 s hd.1.1.1) ?_
 rintro i rfl
 unfold Hia
 cases h:fnd r.1 s with
 |none=>exact Gmb (by decide) (Gib rfl)
 |some i=>
  dsimp only
  refine Gnb (by omega) (Gjb (T9a r.1 s hd.1.1.1) ?_)
  rintro c rfl
  refine Gjb (Eza r (cut r.1 s,r.2) s hd ⟨⟨Taa P8 hd.1.1,hd.1.2⟩,Hoa P8 hd.2.1,hd.2.2⟩ hs) ?_
  rintro e rfl
  exact Gib rfl

def ptl (x:Nmd):Bool→List Nmd→List Nmd
 |p,[]=>bif p then [] else [x]
 |p,y::l=>(bif !p&&!(tlt y.1 x.1) then [x] else [])++((bif !(teq y.1 x.1) then [y] else [])++ptl x (p||!(tlt y.1 x.1)) l)
def Kpa (l:List Nmd) (s:ByteArray) (b:List Int) (hf:l.length≤1000000000000):∀ (n i:Nat) (acc:List Nmd) (p:Bool),l.length-i=n→i≤l.length→acc.length≤2*i→
  Tot (λ k=>Cm k l s acc p (i:Int) s b) (λ r=>r.1++(bif r.2.1 then [] else [(s,b)])=acc++ptl (s,b) p (l.drop i)∧r.2.2=(s,b)∧r.1.length≤2*l.length):=by
 intro n
 induction n with
 |zero=>
  intro i acc p hd hi ha
  refine Tot.succ ?_
  simp only[Cm]
  refine Gnb (by omega) (Gib ?_)
  rw[Wa (by omega)]
  exact⟨rfl,rfl,by dsimp only;omega⟩
 |succ n ih=>
  intro i acc p hd hi ha
  have hlt:i<l.length:=by omega
  refine Tot.succ ?_
  simp only[Cm]
  refine Gmb (by omega) ?_
  rw[show toNat (i:Int)=i from Vb i,w64 (n:=(i:Int)+1) (by omega) (by omega),Af (d:=D6) hlt]
  have e0:l.getD i ((⟨#[]⟩:ByteArray),([]:List Int))=l.getD i D6:=rfl
  rw[e0]
  have B4:∀ (ac:List Nmd) (q:Bool),ac.length≤2*i+1→Tot (λ k=>cond (decide ((0:Int)≤i)) (cond (decide ((i:Int)<(length l:Int))) (cond (!((l.getD i D6).1.toList==s.toList)) (cond (decide ((0:Int)≤i)) (cond (decide ((i:Int)<(length l:Int))) (cond (Nat.ble ((length ac+length [l.getD i D6])*40) 140737488355328) (Cm k l s (ac++[l.getD i D6]) q ((i:Int)+1) s b) none) none) none) (Cm k l s ac q ((i:Int)+1) s b)) none) none)
    (λ r=>r.1++(bif r.2.1 then [] else [(s,b)])=ac++((bif !(teq (l.getD i D6).1 s) then [l.getD i D6] else [])++ptl (s,b) q (l.drop (i+1)))∧r.2.2=(s,b)∧r.1.length≤2*l.length):=by
   intro ac q hac
   refine Gmb (by omega) (Gmb (by omega) (Gob (λ h=>?_) (λ h=>?_)))
   ·have h':(!(teq (l.getD i D6).1 s))=true:=h
    rw[h']
    refine Gmb (by omega) (Gmb (by omega) (Gqb (by simp only[Vc,Vh];omega) ?_))
    refine(ih (i+1) (ac++[l.getD i D6]) q (by omega) (by omega) (by simp only[Vd,Vc,Vh];omega)).mono ?_
    rintro r ⟨h1,h2,h3⟩
    refine⟨?_,h2,h3⟩
    rw[h1,Vp]
    rfl
   ·have h':(!(teq (l.getD i D6).1 s))=false:=h
    rw[h']
    exact ih (i+1) ac q (by omega) (by omega) (by omega)
  cases p with
  |true=>
   refine Gkb rfl ?_
   refine(B4 acc true (by omega)).mono ?_
   rintro r ⟨h1,h2,h3⟩
   exact⟨h1,h2,h3⟩
  |false=>
   refine Glb rfl (Gmb (by omega) (Gmb (by omega) (Gob (λ h=>?_) (λ h=>?_))))
   ·have h':(!(tlt (l.getD i D6).1 s))=true:=h
    refine Gqb (by simp only[Vc,Vh];omega) ?_
    refine(B4 (acc++[(s,b)]) true (by simp only[Vd,Vc,Vh];omega)).mono ?_
    rintro r ⟨h1,h2,h3⟩
    refine⟨?_,h2,h3⟩
    rw[h1]
    simp only[ptl,h',Hqb,Bool.and_self,Hcb,cond_true,Vp]
   ·have h':(!(tlt (l.getD i D6).1 s))=false:=h
    refine(B4 acc false (by omega)).mono ?_
    rintro r ⟨h1,h2,h3⟩
    refine⟨?_,h2,h3⟩
    rw[h1]
    simp only[ptl,h',Hqb,Yj,Hcb,cond_false,Vx]
def F0a (l:List Nmd) (s:ByteArray) (b:List Int) (hf:l.length≤1000000000000) (hb:b.length≤1000000000000):Tot (λ k=>Fu k l s b) (λ r=>r=ptl (s,b) false l):=by
 unfold Fu
 refine Gqb (Kma b hb) ?_
 rw[Vx]
 refine Gjb (Kpa l s b hf _ 0 [] false rfl (Vs _) (Vs _)) ?_
 rintro⟨r,q,x,y⟩ ⟨h1,h2,h3⟩
 rw[Wf,Vx]at h1
 dsimp only at h1 h2 h3
 dsimp only
 cases q with
 |true=>
  refine Gkb rfl (Gib ?_)
  rw[← h1];simp
 |false=>
  refine Glb rfl (Gqb (by simp only[Vc,Vh];omega) (Gib ?_))
  rw[← h1]
  obtain⟨rfl,rfl⟩:=Prod.mk.inj h2
  rfl
def Tba (x:Nmd):∀ (p:Bool) (l:List Nmd),∀ y∈ptl x p l,y∈l∨y=x:=by
 intro p l
 induction l generalizing p with
 |nil=>intro y hy;cases p<;>simp_all [ptl]
 |cons a l ih=>
  intro y hy
  simp only[ptl,Vo]at hy
  rcases hy with hy|hy|hy
  ·revert hy;cases (!p&&!(tlt a.1 x.1))<;>simp_all
  ·revert hy;cases (!(teq a.1 x.1))<;>simp_all
  ·rcases ih _ y hy with h|h
   ·exact Or.inl (Vj _ h)
   ·exact Or.inr h
def Bmb (x:Nmd):∀ (p:Bool) (l:List Nmd),(ptl x p l).length≤l.length+(bif p then 0 else 1):=by
 intro p l
 induction l generalizing p with
 |nil=>cases p<;>simp[ptl]
 |cons a l ih=>
  simp only[ptl,Vd,Vc]
  have:=ih (p||!(tlt a.1 x.1))
  revert this
  cases p<;>cases tlt a.1 x.1<;>cases teq a.1 x.1<;>simp<;>omega
def X8a (x:Nmd):∀ (l:List Nmd),ptl x true l=cut l x.1:=by
 intro l
 induction l with
 |nil=>rfl
 |cons a l ih=>
  simp only[ptl,Zf,Zq,cond_false,Vx,Jlb,ih,cut,Zy]
  cases teq a.1 x.1<;>simp
def Wr (x:Nmd):∀ {l:List Nmd},Gx l→ptl x false l=ins (cut l x.1) x:=by
 intro l
 induction l with
 |nil=>intro _;rfl
 |cons a l ih=>
  intro h
  have hl:Gx l:=(Wk.1 h).2
  have ha:=(Wk.1 h).1
  simp only[ptl,Hqb,Wc,Hcb]
  cases ht:tlt a.1 x.1 with
  |true=>
   have he:teq a.1 x.1=false:=by
    cases hq:teq a.1 x.1 with
    |false=>rfl
    |true=>rw[(Jl.1 hq),M1]at ht;cases ht
   simp only[he,Zf,Hqb,cond_false,cond_true,Vx,ih hl,cut,Zy,if_true]
   unfold ins plc
   rw[Zo,if_pos ht]
   rfl
  |false=>
   have hc:plc (cut (a::l) x.1) x.1=0:=by
    unfold plc cut
    rw[List.length_eq_zero_iff]
    rw[Zy]
    cases hq:teq a.1 x.1
    ·rw[Hqb,if_pos rfl,Zo,if_neg (by rw[ht];simp)]
    have hx:=(Jl.1 hq)
    simp only[Zf,Ya,if_false]
    cases hf:l.filter (λ y => !(teq y.1 x.1)) with
    |nil=>rfl
    |cons b m=>
     have hb:b∈l:=by
      have:b∈l.filter (λ y => !(teq y.1 x.1)):=by rw[hf];exact Za
      exact(I9b.1 this).1
     have hab:=ha b hb
     rw[hx]at hab
     rw[Zo,if_neg (by rw[Asa hab];simp)]
   simp only[Hqb,cond_true,X8a]
   unfold ins
   rw[hc]
   simp only[H1b,Vx,Wf,cut,Zy]
   cases teq a.1 x.1<;>simp

def Tca {l:List Nmd} {x:Nmd} {p:Bool} (hl:C5a l) (hl':l.length≤999999999999) (hx:x.2.length≤1000000000000):C5a (ptl x p l):=by
 refine⟨?_,λ y hy=>?_⟩
 ·have:=Bmb x p l
  revert this
  cases p<;>simp<;>omega
 ·rcases Tba x p l y hy with h|rfl
  ·exact hl.2 y h
  ·exact hx
def Hpa {l:List Nmd} {x:Nmd} {p:Bool} (hl:P7 l) (hx:L9 x.1):P7 (ptl x p l):=by
 intro y hy
 rcases Tba x p l y hy with h|rfl
 ·exact hl y h
 ·exact hx
def DIn (d:Dsk):Prop:=(X6a d∧B1a d)∧d.1.length≤2000000∧d.2.length≤2000000
def Ni {d:Dsk} (h:Aj d=true):DIn d:=by
 unfold Aj at h
 rw[Va]at h
 have h1:=X9 h.1
 have h2:=X9 h.2
 exact⟨⟨⟨h1.1,h2.1⟩,h1.2,h2.2⟩,by have:=(Ah.1 h.1).2.2;omega,by have:=(Ah.1 h.2).2.2;omega⟩
def Hqa (d:Dsk) (s:ByteArray) (b:List Int) (hd:DIn d) (hs:L9 s) (hb:b.length≤1000000000000):Tot (λ k=>Bf k d s b) (λ r=>r=bif Aj d&&(B1 s&&Aj (ptl (s,b) false d.1,d.2)) then ((ptl (s,b) false d.1,d.2),true) else (d,false)):=by
 unfold Bf
 refine Gjb (Mf d hd.1.1) ?_
 rintro r rfl
 refine Gjb (F0a r.1 s b hd.1.1.1.1 hb) ?_
 rintro c rfl
 refine Gjb (Eza r (ptl (s,b) false r.1,r.2) s hd.1 ⟨⟨Tca hd.1.1.1 (by have:=hd.2.1;omega) hb,hd.1.1.2⟩,Hpa hd.1.2.1 hs,hd.1.2.2⟩ hs) ?_
 rintro e rfl
 exact Gib rfl
def syS (d:Dsk) (s:ByteArray):List Nmd:=match fnd d.1 s with
 |some i=>ptl (s,(d.1.getD i D6).2) false (cut d.2 s)
 |none=>cut d.2 s
def E4b {d:Dsk} {s:ByteArray} (hd:DIn d) (hs:L9 s):C5a (syS d s)∧P7 (syS d s):=by
 unfold syS
 have h1:=Taa (P8 (l:=d.2) (s:=s)) hd.1.1.2
 have h2:=Hoa (P8 (l:=d.2) (s:=s)) hd.1.2.2
 cases h:fnd d.1 s with
 |none=>exact⟨h1,h2⟩
 |some i=>
  have hb:=hd.1.1.1.2 _ (A4 (d:=D6) (P6 h).1)
  have hc:(cut d.2 s).length≤d.2.length:=(P8 (l:=d.2) (s:=s)).length_le
  exact⟨Tca h1 (by have:=hd.2.2;omega) hb,Hpa h2 hs⟩
def Nea (d:Dsk) (s:ByteArray) (hd:DIn d) (hs:L9 s):Tot (λ k=>Am k d s) (λ r=>r=bif Aj d&&(B1 s&&Aj (d.1,syS d s)) then ((d.1,syS d s),true) else (d,false)):=by
 unfold Am
 have hin:=E4b hd hs
 refine Gjb (Mf d hd.1.1) ?_
 rintro r rfl
 refine Gjb (Nca r s hd.1.1.1) ?_
 rintro b rfl
 refine Gjb (T9a r.2 s hd.1.1.2.1) ?_
 rintro c rfl
 have e:∀ o,o=syS r s→Tot (λ k=>(Ek k r (r.1,o) s).bind λ r5=>some (r5.1,r5.2)) (λ q=>q=bif Aj r&&(B1 s&&Aj (r.1,syS r s)) then ((r.1,syS r s),true) else (r,false)):=by
  rintro o rfl
  refine Gjb (Eza r (r.1,syS r s) s hd.1 ⟨⟨hd.1.1.1,hin.1⟩,hd.1.2.1,hin.2⟩ hs) ?_
  rintro e rfl
  exact Gib rfl
 have hc:(cut r.2 s).length≤r.2.length:=(P8 (l:=r.2) (s:=s)).length_le
 cases h:fnd r.1 s with
 |none=>
  have h':rdN r.1 s=([],false):=by unfold rdN;rw[h]
  rw[h']
  refine Gkb rfl (e _ ?_)
  unfold syS;rw[h]
 |some i=>
  have h':rdN r.1 s=((r.1.getD i D6).2,true):=by unfold rdN;rw[h]
  rw[h']
  have hb:=hd.1.1.1.2 _ (A4 (d:=D6) (P6 h).1)
  refine Glb rfl (Gjb (F0a (cut r.2 s) s _ (by have:=hd.2.2;omega) hb) ?_)
  rintro o rfl
  refine e _ ?_
  unfold syS;rw[h]
def Pha (d:Dsk) (s:ByteArray) (hd:X6a d∧B1a d):Tot (λ k=>F9 k d s) (λ r=>r=bif (fnd d.1 s).isSome&&Aj d then ((del d.1 s,d.2),true) else (d,false)):=by
 unfold F9
 refine Gjb (K7 d hd.1) ?_
 rintro r rfl
 refine Gjb (Sp r hd.1 hd.2) ?_
 rintro b rfl
 cases h1:Aj r
 ·refine Glb rfl (Gib ?_);rw[Yj];rfl
 refine Gkb rfl (Gjb (N8a r.1 s hd.1.1.1) ?_)
 rintro i rfl
 unfold Hia
 cases h:fnd r.1 s with
 |none=>exact Gmb (by decide) (Gib rfl)
 |some i=>
  dsimp only
  refine Gnb (by omega) (Gjb (Ur r.1 s hd.1.1.1) ?_)
  rintro c rfl
  exact Gib rfl
def syI (d:Dsk) (s:ByteArray):List Nmd:=match fnd d.1 s with
 |some i=>ins (del d.2 s) (s,(d.1.getD i D6).2)
 |none=>del d.2 s
def Dea (l:List Nmd) (s:ByteArray):(del l s).length≤l.length:=by
 cases h:fnd l s with
 |none=>unfold del;rw[h];exact Vw _
 |some i=>have:=Blb h;omega
def Bnb (l:List Nmd) (x:Nmd):(ins l x).length=l.length+1:=by
 unfold ins
 have:=Zda l x.1
 simp only[Vd,Vq,Wd,Vc,Vh]
 omega
def X9a (d:Dsk) (s:ByteArray) (hd:DIn d) (hs:L9 s):Tot (λ k=>Ca k d s) (λ r=>r=bif Aj d&&(B1 s&&decide ((syI d s).length≤60)) then ((d.1,syI d s),true) else (d,false)):=by
 unfold Ca
 refine Gjb (K7 d hd.1.1) ?_
 rintro r rfl
 refine Gjb (Sp r hd.1.1 hd.1.2) ?_
 rintro b rfl
 cases h1:Aj r
 ·exact Glb rfl (Gib rfl)
 refine Gkb rfl (Gjb (Qo s hs) ?_)
 rintro b rfl
 cases h2:B1 s
 ·exact Glb rfl (Gib rfl)
 refine Gkb rfl (Gjb (Ur r.2 s hd.1.1.2.1) ?_)
 rintro c rfl
 refine Gjb (N8a r.1 s hd.1.1.1.1) ?_
 rintro i rfl
 have hdl:=Dea r.2 s
 have hr2:=hd.2.2
 have hr1:=hd.2.1
 have e:∀ o,o=syI r s→o.length≤4000000→Tot (λ k=>cond (decide ((length o:Int) > 60)) ((A6 k r).bind λ r9=>some (r9,false)) (some ((r.1,o),true))) (λ q=>q=bif true&&(true&&decide ((syI r s).length≤60)) then ((r.1,syI r s),true) else (r,false)):=by
  rintro o rfl _
  refine Gpb (λ h=>?_) (λ h=>?_)
  ·refine Gjb (K7 r hd.1.1) ?_
   rintro q rfl
   refine Gib ?_
   rw[decide_eq_false (by omega)]
   rfl
  ·refine Gib ?_
   rw[decide_eq_true (by omega)]
   rfl
 unfold Hia
 cases h:fnd r.1 s with
 |none=>
  refine Gnb (by decide) (e _ ?_ (by omega))
  unfold syI;rw[h]
 |some i=>
  have hl:=(P6 h).1
  dsimp only
  refine Gmb (by omega) (Gmb (by omega) (Gmb (by omega) ?_))
  rw[show toNat (i:Int)=i from Vb i]
  have hb:=hd.1.1.1.2 _ (A4 (d:=D6) hl)
  refine Gjb (Gub (Q:=λ q=>q=(r.1.getD i D6).2) (Np _ hb) rfl) ?_
  rintro q rfl
  refine Gjb (Naa (del r.2 s) (s,(r.1.getD i D6).2) (by omega)) ?_
  rintro o rfl
  refine e _ ?_ (by rw[Bnb];omega)
  unfold syI;rw[h]

def Tda {d o:Dsk} {b:Bool} (hd:Aj d=true):Aj (bif Aj d&&(b&&Aj o) then (o,true) else (d,false)).1=true:=by
 cases b<;>cases h:Aj o<;>simp[hd,h]
def Xaa {d o:Dsk} {a b:Bool} (hd:Aj d=true):Aj (bif a&&(Aj d&&(b&&Aj o)) then (o,true) else (d,false)).1=true:=by
 cases a<;>cases b<;>cases h:Aj o<;>simp[hd,h]
def Tea:∀ (n:Nat) (i:Int) (c:Cur) (a0 a1:List Nmd) (d:Dsk),i=n→n≤6→Db c→Aj d=true→
  Tot (λ k=>B3 k i c.1 c.2.1 c.2.2 a0 a1 d.1 d.2) (λ r=>Aj (r.2.2.1,r.2.2.2.1)=true∧Db r.2.2.2.2):=by
 intro n
 induction n with
 |zero=>
  intro i c a0 a1 d hi h6 hc hd
  refine Tot.succ ?_
  simp only[B3]
  exact Gnb (by omega) (Gib ⟨hd,hc⟩)
 |succ n ih=>
  intro i c a0 a1 d hi h6 hc hd
  refine Tot.succ ?_
  simp only[B3]
  refine Gmb (by omega) ?_
  rw[w64 (n:=i-1) (by omega) (by omega)]
  obtain⟨s,c1,e1,hs,k1⟩:=P4 c hc
  refine Gtb (Gub (Q:=λ r=>r=(s,c1)) e1 rfl) ?_
  obtain⟨x,c2,e2,_,_,_,k2⟩:=Az c1 k1 6 (by decide)
  refine Gtb (Gub (Q:=λ r=>r=(x,c2)) e2 rfl) ?_
  dsimp only
  have hin:=Ni hd
  have hsh:=(Mm s hs).1
  have wr:Tot (λ k=>(Ck k c2).bind λ r5=>(Bm k r5.1).bind λ r6=>(Bf k (d.1,d.2) s r6).bind λ r7=>B3 k (i-1) r5.2.1 r5.2.2.1 r5.2.2.2 a0 a1 r7.1.1 r7.1.2) (λ r=>Aj (r.2.2.1,r.2.2.2.1)=true∧Db r.2.2.2.2):=by
   refine Gjb (Q4 c2 k2) (λ f hf=>?_)
   refine Gjb (B3a f.1 hf.1) (λ b hb=>?_)
   refine Gjb (Hqa d s b hin hsh (by omega)) (λ q hq=>?_)
   have hq':=Tda (d:=d) (o:=(ptl (s,b) false d.1,d.2)) (b:=B1 s) hd
   rw[← hq]at hq'
   exact ih (i-1) f.2 a0 a1 q.1 (by omega) (by omega) hf.2 hq'
  have sy:Tot (λ k=>(Am k (d.1,d.2) s).bind λ r4=>B3 k (i-1) c2.1 c2.2.1 c2.2.2 a0 a1 r4.1.1 r4.1.2) (λ r=>Aj (r.2.2.1,r.2.2.2.1)=true∧Db r.2.2.2.2):=by
   refine Gjb (Nea d s hin hsh) (λ q hq=>?_)
   have hq':=Tda (d:=d) (o:=(d.1,syS d s)) (b:=B1 s) hd
   rw[← hq]at hq'
   exact ih (i-1) c2 a0 a1 q.1 (by omega) (by omega) k2 hq'
  refine Gob (λ _=>?_) (λ _=>Gob (λ h=>Gob (λ _=>sy) (λ _=>wr)) (λ _=>Gob (λ _=>sy) (λ _=>wr)))
  refine Gjb (Dda d s hin.1 hsh) (λ q hq=>?_)
  have hq':=Xaa (d:=d) (o:=(cut d.1 s,d.2)) (a:=(fnd d.1 s).isSome) (b:=B1 s) hd
  rw[← hq]at hq'
  exact ih (i-1) c2 a0 a1 q.1 (by omega) (by omega) k2 hq'
def Tfa (c:Cur) (hc:Db c):Tot (λ k=>Fm k c) (λ r=>Aj r.1=true∧Db r.2):=by
 unfold Fm
 obtain⟨x,c2,e2,h0,h1,_,k2⟩:=Az c hc 7 (by decide)
 have h1:=h1 (by decide)
 refine Gtb (Gub (Q:=λ r=>r=(x,c2)) e2 rfl) ?_
 refine Gjb (Tea x.toNat x c2 [] [] ([],[]) (by omega) (by omega) k2 (by decide)) (λ r hr=>?_)
 exact Gib hr
def Qu (c:Cur) (hc:Db c):∃ x c',Fe c=some (x,c')∧L9 x∧Db c':=by
 obtain⟨b,c1,e1,k1⟩:=P3 c hc 5 (by decide)
 unfold Fe
 cases b with
 |true=>
  obtain⟨x,c',e,hx,k⟩:=Mta c1 k1 [(⟨#[]⟩:ByteArray),(⟨#[65]⟩:ByteArray),(⟨#[97,32,98]⟩:ByteArray),(⟨#[116,119,101,110,116,121,111,110,101,98,121,116,101,115,116,119,101,110,116,121,111]⟩:ByteArray),(⟨#[116,119,101,110,116,121,98,121,116,101,115,116,119,101,110,116,121,98,121,116]⟩:ByteArray),(⟨#[47]⟩:ByteArray)] (by decide) (by decide)
  refine⟨x,c',by simp only[e1,e,Vn,cond_true],?_,k⟩
  simp only[Vm,Zp,or_false]at hx
  unfold L9
  rcases hx with rfl|rfl|rfl|rfl|rfl|rfl<;>decide
 |false=>
  obtain⟨x,c',e,hx,k⟩:=P4 c1 k1
  exact⟨x,c',by simp only[e1,e,Vn,cond_false],(Mm x hx).1,k⟩
def Tga {l:List Nmd} {x:Nmd} (h:C5a l) (hl:l.length≤999) (hx:x.2.length≤1000000000000):C5a (l++[x]):=by
 refine⟨by simp only[Vd,Vc,Vh];omega,λ y hy=>?_⟩
 rcases Vo.1 hy with hy|hy
 ·exact h.2 y hy
 ·rw[Vu.1 hy];exact hx
def Hra {l:List Nmd} {x:Nmd} (h:P7 l) (hx:L9 x.1):P7 (l++[x]):=by
 intro y hy
 rcases Vo.1 hy with hy|hy
 ·exact h y hy
 ·rw[Vu.1 hy];exact hx
def Xba (c:Cur) (hc:Db c):Tot (λ k=>Kd k c) (λ r=>DIn r.1∧Db r.2):=by
 unfold Kd
 refine Gjb (Tfa c hc) (λ d hd=>?_)
 obtain⟨hd,k0⟩:=hd
 have hin:=Ni hd
 have hd':=hd
 unfold Aj at hd'
 rw[Va]at hd'
 have g1:=(Ah.1 hd'.1).2.2
 have g2:=(Ah.1 hd'.2).2.2
 obtain⟨x,c2,e2,_,_,_,k2⟩:=Az d.2 k0 12 (by decide)
 refine Gtb (Gub (Q:=λ r=>r=(x,c2)) e2 rfl) ?_
 refine Gob (λ _=>?_) (λ _=>Gob (λ _=>?_) (λ _=>Gib ⟨hin,k2⟩))
 ·obtain⟨s,c3,e3,hs,k3⟩:=Qu c2 k2
  refine Gtb (Gub (Q:=λ r=>r=(s,c3)) e3 rfl) ?_
  refine Gqb (by simp only[Vc,Vh];omega) (Gib ⟨⟨⟨⟨Tga hin.1.1.1 (by omega) (Vs _),hin.1.1.2⟩,Hra hin.1.2.1 hs,hin.1.2.2⟩,?_,hin.2.2⟩,k3⟩)
  simp only[Vd,Vc,Vh];omega
 ·obtain⟨s,c3,e3,hs,k3⟩:=Qu c2 k2
  refine Gtb (Gub (Q:=λ r=>r=(s,c3)) e3 rfl) ?_
  obtain⟨y,c4,e4,y0,y1,_,k4⟩:=Az c3 k3 2 (by decide)
  have y1:=y1 (by decide)
  refine Gtb (Gub (Q:=λ r=>r=(y,c4)) e4 rfl) ?_
  dsimp only
  rw[w64 (n:=400+y) (by omega) (by omega)]
  refine Gmb rfl (Gmb (by omega) (Gmb (by omega) (Gqb (by simp only[Vc,Vh];omega) (Gib ⟨⟨⟨⟨hin.1.1.1,Tga hin.1.1.2 (by omega) ?_⟩,hin.1.2.1,Hra hin.1.2.2 hs⟩,hin.2.1,?_⟩,k4⟩))))
  ·simp only[Iib];omega
  ·simp only[Vd,Vc,Vh];omega

section
open Go
end

def T4 (p:Nmd→Bool):∀ l:List Nmd,l.take (l.takeWhile p).length=l.takeWhile p∧l.drop (l.takeWhile p).length=l.dropWhile p
 |[]=>⟨rfl,rfl⟩
 |y::l=>by
  obtain⟨h1,h2⟩:=T4 p l
  simp only[Zo,Hxb]
  cases p y with
  |true=>simp[h1,h2]
  |false=>simp
def Hsa {p:Nmd→Bool}:∀ {l:List Nmd} {y:Nmd},y∈l.takeWhile p→p y=true
 |[],y,h=>by simp at h
 |z::l,y,h=>by
  simp only[Zo]at h
  cases hz:p z
  ·rw[hz]at h;simp at h
  rw[hz]at h
  simp only[if_true]at h
  rcases Vm.1 h with rfl|h
  ·exact hz
  ·exact Hsa h
def Zea (l:List Nmd) (x:Nmd):ins l x=l.takeWhile (λ y=>tlt y.1 x.1)++([x]++l.dropWhile (λ y=>tlt y.1 x.1)):=by
 unfold ins plc
 obtain⟨h1,h2⟩:=T4 (λ y=>tlt y.1 x.1) l
 rw[h1,h2,Vp]
def Dfa {x:Nmd}:∀ {l:List Nmd},Gx l→(∀ y∈l,y.1≠x.1)→∀ z∈l.dropWhile (λ y=>tlt y.1 x.1),tlt x.1 z.1=true
 |[],_,_,z,hz=>by simp at hz
 |y::l,hs,hn,z,hz=>by
  obtain⟨h1,h2⟩:=Wk.1 hs
  simp only[Hxb]at hz
  cases hy:tlt y.1 x.1 with
  |true=>
   rw[hy]at hz
   simp only[if_true]at hz
   exact Dfa h2 (λ w hw=>hn w (Vj _ hw)) z hz
  |false=>
   rw[hy]at hz
   simp only[Ya,if_false]at hz
   have hxy:tlt x.1 y.1=true:=by
    cases hh:tlt x.1 y.1 with
    |true=>rfl
    |false=>exact absurd (Ara hy hh) (hn y (by simp))
   rcases Vm.1 hz with rfl|hz
   ·exact hxy
   ·exact N6 hxy (h1 z hz)
def Sq {l:List Nmd} {x:Nmd} (hs:Gx l) (hn:∀ y∈l,y.1≠x.1):Gx (ins l x):=by
 rw[Zea]
 have hs':Gx (l.takeWhile (λ y=>tlt y.1 x.1)++l.dropWhile (λ y=>tlt y.1 x.1)):=by rw[Hjb];exact hs
 obtain⟨h1,h2,h3⟩:=Zc.1 hs'
 have h4:∀ y∈l.takeWhile (λ y=>tlt y.1 x.1),tlt y.1 x.1=true:=λ y hy=>Hsa (p:=λ y=>tlt y.1 x.1) hy
 refine Zc.2 ⟨h1,Wk.2 ⟨λ z hz=>Dfa hs hn z hz,h2⟩,λ a ha b hb=>?_⟩
 rcases Vm.1 hb with rfl|hb
 ·exact h4 a ha
 ·exact h3 a ha b hb
def Ws {l:List Nmd} {x y:Nmd}:y∈ins l x↔y=x∨y∈l:=by
 rw[Zea]
 have e:=Hjb (p:=λ y:Nmd=>tlt y.1 x.1) (l:=l)
 constructor
 ·intro h
  rcases Vo.1 h with h|h
  ·right;rw[← e];exact Wb _ h
  ·rcases Vm.1 h with h|h
   ·exact .inl h
   ·right;rw[← e];exact Vt _ h
 ·rintro (rfl|h)
  ·exact Vt _ (by simp)
  ·rw[← e]at h
   rcases Vo.1 h with h|h
   ·exact Wb _ h
   ·exact Vt _ (Vj _ h)
def Zfa {l:List Nmd} {x:Nmd} (hl:Jo l=true) (hn:∀ y∈l,y.1≠x.1) (hx:nOk x=true):Jo (ins l x)=decide ((ins l x).length≤60):=by
 obtain⟨h1,h2,h3⟩:=Ah.1 hl
 by_cases h:(ins l x).length≤60
 ·rw[decide_eq_true h]
  exact Ah.2 ⟨Sq h1 hn,λ y hy=>by rcases Ws.1 hy with rfl|hy;exact hx;exact h2 y hy,h⟩
 ·rw[decide_eq_false h]
  cases hc:Jo (ins l x) with
  |false=>rfl
  |true=>exact absurd (Ah.1 hc).2.2 h
def B4a {l:List Nmd} {s:ByteArray}:∀ y∈cut l s,y.1≠s:=λ y hy e=>by
 have:=(I9b.1 hy).2
 simp[e,Jl.2 rfl]at this
def Bob {l:List Nmd} {s:ByteArray}:cut (cut l s) s=cut l s:=by
 unfold cut
 rw[List.filter_filter]
 congr 1
 funext x
 simp
def Bpb {d:Dsk} {s:ByteArray} (hd:Aj d=true):syS d s=syI d s:=by
 unfold Aj at hd
 rw[Va]at hd
 have hs:=(Ah.1 hd.2).1
 unfold syS syI
 rw[Qt hs]
 cases fnd d.1 s with
 |none=>rfl
 |some i=>
  show ptl _ false (cut d.2 s)=ins (cut d.2 s) _
  rw[Wr _ (O5 hs)]
  show ins (cut (cut d.2 s) s) _=_
  rw[Bob]
def Tha {d:Dsk} {s:ByteArray} (hd:Aj d=true) (hs:B1 s=true):Aj (d.1,syI d s)=decide ((syI d s).length≤60):=by
 have hd':=hd
 unfold Aj at hd'
 rw[Va]at hd'
 have h2:=Ah.1 hd'.2
 unfold Aj
 rw[hd'.1,Wc]
 unfold syI
 rw[Qt h2.1]
 cases h:fnd d.1 s with
 |none=>show Jo (cut d.2 s)=decide ((cut d.2 s).length≤60);rw[Xa hd'.2,decide_eq_true (Ah.1 (Xa (s:=s) hd'.2)).2.2]
 |some i=>
  refine Zfa (Xa hd'.2) B4a (Qs.2 ⟨hs,?_⟩)
  have h1:=(Ah.1 hd'.1).2.1 _ (A4 (d:=D6) (P6 h).1)
  exact(Qs.1 h1).2
def Bqb {l:List Nmd} (hs:Gx l) {x y:Nmd} (hx:x∈l) (hy:y∈l) (e:x.1=y.1):x=y:=by
 induction l with
 |nil=>simp at hx
 |cons z l ih=>
  obtain⟨h1,h2⟩:=Wk.1 hs
  rcases Vm.1 hx with hx'|hx'
  ·rcases Vm.1 hy with hy'|hy'
   ·rw[hx',hy']
   ·have:=h1 y hy';rw[← hx',e,M1]at this;cases this
  ·rcases Vm.1 hy with hy'|hy'
   ·have:=h1 x hx';rw[← hy',e,M1]at this;cases this
   ·exact ih h2 hx' hy'

def wrI (d:Dsk) (s:ByteArray) (b:List Int):List Nmd:=ins (del d.1 s) (s,b)
def Tia (d:Dsk) (s:ByteArray) (b:List Int) (hd:DIn d) (hs:L9 s) (hb:b.length≤1000000000000):Tot (λ k=>Ea k d s b) (λ r=>r=bif Aj d&&(B1 s&&(decide (b.length≤400)&&decide ((wrI d s b).length≤60))) then ((wrI d s b,d.2),true) else (d,false)):=by
 unfold Ea
 refine Gjb (K7 d hd.1.1) ?_
 rintro r rfl
 refine Gjb (Sp r hd.1.1 hd.1.2) ?_
 rintro b1 rfl
 cases h1:Aj r
 ·exact Glb rfl (Gib rfl)
 refine Gkb rfl (Gjb (Qo s hs) ?_)
 rintro b2 rfl
 cases h2:B1 s
 ·exact Glb rfl (Gib rfl)
 refine Gkb rfl (Gpb (λ h=>?_) (λ h=>?_))
 ·rw[decide_eq_false (show ¬ b.length≤400 by omega)]
  exact Gib rfl
 ·rw[decide_eq_true (show b.length≤400 by omega)]
  refine Gjb (Ur r.1 s hd.1.1.1.1) ?_
  rintro c rfl
  refine Gjb (Gub (Q:=λ x=>x=b) (Np b hb) rfl) ?_
  rintro e rfl
  have hdl:=Dea r.1 s
  refine Gjb (Naa (del r.1 s) (s,e) (by have:=hd.2.1;omega)) ?_
  rintro m rfl
  refine Gpb (λ h=>?_) (λ h=>?_)
  ·rw[decide_eq_false (show ¬ (wrI r s e).length≤60 by unfold wrI;omega)]
   refine Gjb (K7 r hd.1.1) ?_
   rintro x rfl
   exact Gib rfl
  ·rw[decide_eq_true (show (wrI r s e).length≤60 by unfold wrI;omega)]
   exact Gib rfl
def Nfa {d:Dsk} {s:ByteArray} {b:List Int} (hd:Aj d=true) (hs:B1 s=true):ptl (s,b) false d.1=wrI d s b∧Aj (wrI d s b,d.2)=(decide (b.length≤400)&&decide ((wrI d s b).length≤60)):=by
 have hd':=hd
 unfold Aj at hd'
 rw[Va]at hd'
 have h1:=Ah.1 hd'.1
 have e1:wrI d s b=ins (cut d.1 s) (s,b):=by unfold wrI;rw[Qt h1.1]
 refine⟨by rw[e1];exact Wr _ h1.1,?_⟩
 unfold Aj
 rw[hd'.2,Hnb,e1]
 by_cases hb:b.length≤400
 ·rw[decide_eq_true hb,Wc]
  exact Zfa (Xa hd'.1) B4a (Qs.2 ⟨hs,hb⟩)
 ·rw[decide_eq_false hb,Zq]
  cases hc:Jo (ins (cut d.1 s) (s,b)) with
  |false=>rfl
  |true=>exact absurd (Qs.1 ((Ah.1 hc).2.1 (s,b) (Ws.2 (.inl rfl)))).2 hb

def TS (l:List ByteArray):Prop:=l.Pairwise (λ a b=>tlt a b=true)
def pk (l:List Nmd) (s:ByteArray):Option Nmd:=match fnd l s with
 |some i=>some (l.getD i D6)
 |none=>none
def Nw:ByteArray:=⟨#[]⟩
def tpl (l:List ByteArray) (s:ByteArray):Nat:=(l.takeWhile (λ y=>tlt y s)).length
def wt (l:List ByteArray) (s:ByteArray):List ByteArray:=if tpl l s<l.length∧teq (l.getD (tpl l s) Nw) s=true then l else l.take (tpl l s)++[s]++l.drop (tpl l s)
def Zga (l:List ByteArray) (s:ByteArray):tpl l s≤l.length:=(Jib _).length_le
def Xo (l:List ByteArray) (s:ByteArray) (hf:l.length≤1000000000000):∀ (n i:Nat),l.length-i=n→i≤l.length→
  Tot (λ k=>F7 k l s (i:Int)) (λ r=>r=(l,s,((i+tpl (l.drop i) s:Nat):Int))):=by
 intro n
 induction n with
 |zero=>
  intro i hd hi
  refine Tot.succ ?_
  simp only[F7]
  refine Gnb (by omega) (Gib ?_)
  rw[Wa (by omega)]
  rfl
 |succ n ih=>
  intro i hd hi
  have hlt:i<l.length:=by omega
  refine Tot.succ ?_
  simp only[F7]
  refine Gmb (by omega) (Gmb (by omega) (Gmb (by omega) ?_))
  rw[show toNat (i:Int)=i from Vb i,w64 (n:=(i:Int)+1) (by omega) (by omega),Af (d:=Nw) hlt]
  have e0:l.getD i (⟨#[]⟩:ByteArray)=l.getD i Nw:=rfl
  rw[e0]
  have e1:tpl (l.getD i Nw::l.drop (i+1)) s=if tlt (l.getD i Nw) s then tpl (l.drop (i+1)) s+1 else 0:=by
   unfold tpl
   rw[Zo]
   split<;>rfl
  rw[e1]
  refine Gob (λ h=>?_) (λ h=>?_)
  ·have h':tlt (l.getD i Nw) s=true:=h
   rw[if_pos h']
   refine(ih (i+1) (by omega) (by omega)).mono ?_
   rintro r rfl
   rw[show i+1+tpl (l.drop (i+1)) s=i+(tpl (l.drop (i+1)) s+1) by omega]
  ·have h':¬ (tlt (l.getD i Nw) s=true):=by
    have:tlt (l.getD i Nw) s=false:=h
    rw[this];simp
   rw[if_neg h']
   exact Gib rfl
def F1a (l:List ByteArray) (s:ByteArray) (hf:l.length≤1000000000):Tot (λ k=>I5 k l s) (λ r=>r=wt l s):=by
 unfold I5
 refine Gjb (Xo l s (by omega) _ 0 rfl (Vs _)) ?_
 intro r hr
 rw[Wf,Wl]at hr
 subst hr
 have hj:=Zga l s
 generalize hjj:tpl l s=j at *
 dsimp only
 have hno:¬ (j<l.length∧teq (l.getD j Nw) s=true)→Tot (λ k=>cond (decide ((0:Int)≤(j:Int))) (cond (decide ((j:Int)≤(length l:Int))) (cond (Nat.ble ((length ([]:List ByteArray)+length (List.take (toNat (j:Int)) l))*16) 140737488355328) (let v3:List ByteArray:=([]:List ByteArray)++(List.take (toNat (j:Int)) l);cond (Nat.ble ((length v3+length [s])*16) 140737488355328) (cond (decide ((0:Int)≤(j:Int))) (cond (decide ((j:Int)≤(length l:Int))) (cond (Nat.ble ((length (v3++[s])+length (List.drop (toNat (j:Int)) l))*16) 140737488355328) (some ((v3++[s])++(List.drop (toNat (j:Int)) l))) none) none) none) none) none) none) none)
   (λ r=>r=wt l s):=by
  intro hn
  refine Gmb (by omega) (Gmb (by omega) ?_)
  rw[show toNat (j:Int)=j from Vb j]
  refine Gqb (by simp only[Vh,Vq];omega) ?_
  refine Gqb (by simp only[Vd,Vh,Vq,Vc];omega) ?_
  refine Gmb (by omega) (Gmb (by omega) (Gqb (by simp only[Vd,Vh,Vq,Wd,Vc];omega) (Gib ?_)))
  unfold wt
  rw[hjj,if_neg hn,Vx]
 refine Gpb (λ h=>?_) (λ h=>hno (λ hh=>h (by omega)))
 refine Gmb (by omega) (Gmb h ?_)
 rw[show toNat (j:Int)=j from Vb j]at *
 refine Gob (λ he=>Gib ?_) (λ he=>hno (λ hh=>?_))
 ·unfold wt
  rw[hjj,if_pos ⟨by omega,he⟩]
 ·have h2:teq (l.getD j Nw) s=false:=he
  rw[h2]at hh
  cases hh.2
def Nga {l:List ByteArray} {s y:ByteArray}:y∈wt l s↔y=s∨y∈l:=by
 unfold wt
 by_cases h:tpl l s<l.length∧teq (l.getD (tpl l s) Nw) s=true
 ·rw[if_pos h]
  refine⟨.inr,λ h'=>?_⟩
  rcases h' with rfl|h'
  ·have:=A4 (d:=Nw) h.1
   rwa [Jl.1 h.2]at this
  ·exact h'
 ·rw[if_neg h]
  have e:l.take (tpl l s)++l.drop (tpl l s)=l:=Wo _ _
  constructor
  ·intro h'
   rw[Vp]at h'
   rcases Vo.1 h' with h'|h'
   ·right;rw[← e];exact Wb _ h'
   ·rcases Vo.1 h' with h'|h'
    ·left;simpa using h'
    ·right;rw[← e];exact Vt _ h'
  ·rintro (rfl|h')
   ·simp
   ·rw[← e]at h'
    rcases Vo.1 h' with h'|h'<;>simp[h']
def Nha (p:ByteArray→Bool):∀ l:List ByteArray,l.take (l.takeWhile p).length=l.takeWhile p∧l.drop (l.takeWhile p).length=l.dropWhile p
 |[]=>⟨rfl,rfl⟩
 |y::l=>by
  obtain⟨h1,h2⟩:=Nha p l
  simp only[Zo,Hxb]
  cases p y with
  |true=>simp[h1,h2]
  |false=>simp
def Dga {p:ByteArray→Bool}:∀ {l:List ByteArray} {y:ByteArray},y∈l.takeWhile p→p y=true
 |[],y,h=>by simp at h
 |z::l,y,h=>by
  simp only[Zo]at h
  cases hz:p z
  ·rw[hz]at h;simp at h
  rw[hz]at h
  simp only[if_true]at h
  rcases Vm.1 h with rfl|h
  ·exact hz
  ·exact Dga h
def B5a {s:ByteArray}:∀ {l:List ByteArray},TS l→(∀ y r,l.dropWhile (λ y=>tlt y s)=y::r→y≠s)→∀ z∈l.dropWhile (λ y=>tlt y s),tlt s z=true
 |[],_,_,z,hz=>by simp at hz
 |y::l,hs,hn,z,hz=>by
  obtain⟨h1,h2⟩:=Wk.1 hs
  simp only[Hxb]at hz hn
  cases hy:tlt y s with
  |true=>
   rw[hy]at hz hn
   simp only[if_true]at hz hn
   exact B5a h2 hn z hz
  |false=>
   rw[hy]at hz hn
   simp only[Ya,if_false]at hz hn
   have hxy:tlt s y=true:=by
    cases hh:tlt s y with
    |true=>rfl
    |false=>exact absurd (Ara hy hh) (hn y l rfl)
   rcases Vm.1 hz with rfl|hz
   ·exact hxy
   ·exact N6 hxy (h1 z hz)
def Rx {l:List ByteArray} {s:ByteArray} (hs:TS l):TS (wt l s):=by
 unfold wt
 by_cases h:tpl l s<l.length∧teq (l.getD (tpl l s) Nw) s=true
 ·rw[if_pos h];exact hs
 ·rw[if_neg h]
  obtain⟨e1,e2⟩:=Nha (λ y=>tlt y s) l
  have hd:∀ y r,l.dropWhile (λ y=>tlt y s)=y::r→y≠s:=by
   intro y r hr hy
   rw[← e2]at hr
   have hlt:tpl l s<l.length:=by
    rcases Hzb (tpl l s) l.length with h'|h'
    ·exact h'
    ·have:l.drop (tpl l s)=[]:=Wa h'
     unfold tpl at this
     rw[this]at hr
     cases hr
   have:l.drop (tpl l s)=l.getD (tpl l s) Nw::l.drop (tpl l s+1):=Af hlt
   unfold tpl at this
   rw[this]at hr
   simp only[Yk]at hr
   exact h ⟨hlt,Jl.2 (hr.1.trans hy)⟩
  have e1':l.take (tpl l s)=l.takeWhile (λ y=>tlt y s):=e1
  have e2':l.drop (tpl l s)=l.dropWhile (λ y=>tlt y s):=e2
  rw[e1',e2',Vp]
  have hs':TS (l.takeWhile (λ y=>tlt y s)++l.dropWhile (λ y=>tlt y s)):=by rw[Hjb];exact hs
  obtain⟨h1,h2,h3⟩:=Zc.1 hs'
  refine Zc.2 ⟨h1,Wk.2 ⟨λ z hz=>B5a hs hd z hz,h2⟩,λ a ha b hb=>?_⟩
  rcases Vm.1 hb with rfl|hb
  ·exact Dga (p:=λ y=>tlt y b) ha
  ·exact h3 a ha b hb

def Hta {l:List ByteArray} {s:ByteArray}:(wt l s).length≤l.length+1:=by
 unfold wt
 have:=Zga l s
 split
 ·omega
 ·simp only[Vd,Vq,Wd,Vc,Vh];omega

section
variable {α σ R:Type} {a b:α} {p:Prop} [Decidable p]
def dT (h:p):cond (decide p) a b=a:=by rw[decide_eq_true h];rfl
def dF (h:¬ p):cond (decide p) a b=b:=by rw[decide_eq_false h];rfl
def bT {m n:Nat} (h:m≤n):cond (Nat.ble m n) a b=a:=by rw[Zi h];rfl
def Grb {L:Nat→Int→σ→Option R} {Q:R→Prop} (n:Nat) (I:Nat→σ→Prop) (hend:∀ s,I n s→Tot (λ k=>L (k+1) (n:Int) s) Q)
  (Usa:∀ i s,i<n→I i s→(∀ s',I (i+1) s'→Tot (λ k=>L k ((i:Int)+1) s') Q)→Tot (λ k=>L (k+1) (i:Int) s) Q):
  ∀ (i:Nat) (s:σ),i≤n→I i s→Tot (λ k=>L k (i:Int) s) Q:=by
 suffices h:∀ (m i:Nat) (s:σ),n-i=m→i≤n→I i s→Tot (λ k=>L k (i:Int) s) Q from λ i s hi hs=>h _ i s rfl hi hs
 intro m
 induction m with
 |zero=>
  intro i s hm hi hs
  obtain rfl:i=n:=by omega
  exact Tot.succ (hend s hs)
 |succ m ih=>
  intro i s hm hi hs
  refine Tot.succ (Usa i s (by omega) hs λ s' hs'=>?_)
  have:=ih (i+1) s' (by omega) (by omega) hs'
  rwa [show (((i+1:Nat)):Int)=(i:Int)+1 by omega]at this
end
def cst (x:BitVec 32):BitVec 32:=if x.getLsbD 0 then (x >>> 1) ^^^ 2197175160#32 else x >>> 1
def C6a:Nat→BitVec 32→BitVec 32
 |0,x=>x
 |n+1,x=>C6a n (cst x)
def cby (x:BitVec 32) (b:Int):BitVec 32:=C6a 8 (x ^^^ ofInt 32 b)
def Czb (l:List Int):BitVec 32 := ~~~ (l.foldl cby 4294967295#32)
def crc (l:List Int):Int:=((Czb l).toNat:Int)
def G6b (v:BitVec 32):v.getLsbD 0=decide (v.toNat % 2=1):=by
 rw[BitVec.getLsbD,Nat.testBit_zero]
def Kqa (v:BitVec 32):ofInt (IntKind.bits .u32) (v.toNat:Int)=v:=by
 show ofInt 32 (v.toNat:Int)=v
 rw[BitVec.ofInt_natCast,BitVec.ofNat_toNat,BitVec.setWidth_eq]
def Kra (n:Nat) (h:n<4294967296):(ofInt (IntKind.bits .i64) (n:Int)).toNat=n:=Rw n (by omega)
def Flb (v:BitVec 32):wrap .u32 (v.toNat:Int)=(v.toNat:Int):=Jcb _ ⟨by omega,by have:=v.isLt;omega⟩
def sh1 (v:BitVec 32):Int.fdiv (v.toNat:Int) 2=((v >>> 1).toNat:Int):=by
 rw[Zza _ (by omega),BitVec.toNat_ushiftRight,Nat.shiftRight_eq_div_pow]
 omega
def Fmb (v:BitVec 32):((wrap .u32 ((ofInt (IntKind.bits .u32) (v.toNat:Int) &&& ofInt (IntKind.bits .u32) 1).toNat))==1)=v.getLsbD 0:=by
 show (wrap .u32 (((ofInt 32 (v.toNat:Int) &&& ofInt 32 1).toNat:Nat):Int)==1)=_
 rw[show ofInt 32 (v.toNat:Int)=v from Kqa v,Flb,G6b,Hwb,show (ofInt 32 1).toNat=1 from by decide,Nat.and_one_is_mod,Izb,beq_iff_eq,decide_eq_true_iff]
 omega
def Fnb (v:BitVec 32):((wrap .i64 ((ofInt (IntKind.bits .i64) (v.toNat:Int) &&& ofInt (IntKind.bits .i64) 1).toNat))==1)=v.getLsbD 0:=by
 have:=v.isLt
 rw[G6b,Hwb,Kra _ v.isLt,show (ofInt (IntKind.bits .i64) 1).toNat=1 from by decide,Nat.and_one_is_mod,w64 (by omega) (by omega),Izb,beq_iff_eq,decide_eq_true_iff]
 omega
def Fob (v w:BitVec 32) (x:Int) (h:ofInt 32 x=w):wrap .u32 ((ofInt (IntKind.bits .u32) (v.toNat:Int) ^^^ ofInt (IntKind.bits .u32) x).toNat)=((v ^^^ w).toNat:Int):=by
 show wrap .u32 (((ofInt 32 (v.toNat:Int) ^^^ ofInt 32 x).toNat:Nat):Int)=_
 rw[show ofInt 32 (v.toNat:Int)=v from Kqa v,h]
 exact Flb _
def F5b (v w:BitVec 32):wrap .i64 ((ofInt (IntKind.bits .i64) (v.toNat:Int) ^^^ ofInt (IntKind.bits .i64) (w.toNat:Int)).toNat)=((v ^^^ w).toNat:Int):=by
 have:=(v ^^^ w).isLt
 rw[BitVec.toNat_xor,Kra _ v.isLt,Kra _ w.isLt,← BitVec.toNat_xor]
 exact w64 (by omega) (by omega)
def G7b (K:IntKind) (h:1≤IntKind.bits K):(2:Int) ^ (min (toNat 1) (IntKind.bits K))=2:=by
 rw[show toNat 1=1 from rfl,Zt h];rfl
def Pia (l:List Int) (x8 x9:Int):∀ (n:Nat) (v:BitVec 32) (i:Int),0≤i→8-i=n→Tot (λ k=>Ke k (v.toNat:Int) l x8 x9 i) (λ r=>r=(((C6a n v).toNat:Int),l,x8,x9)):=by
 intro n
 induction n with
 |zero=>
  intro v i h0 hn
  refine Tot.succ ?_
  simp only[Ke]
  exact Gnb (by omega) (Gib rfl)
 |succ n ih=>
  intro v i h0 hn
  refine Tot.succ ?_
  simp only[Ke]
  refine Gmb (by omega) ?_
  rw[w64 (n:=i+1) (by omega) (by omega),Fmb,G7b _ (by decide),sh1,Fob _ 2197175160#32 _ (by decide)]
  have e:C6a (n+1) v=C6a n (cst v):=rfl
  rw[e]
  refine Gob (λ h=>?_) (λ h=>?_)
  ·have:=ih (v >>> 1 ^^^ 2197175160#32) (i+1) (by omega) (by omega)
   rwa [show v >>> 1 ^^^ 2197175160#32=cst v by unfold cst;rw[if_pos h]]at this ⊢
  ·have:=ih (v >>> 1) (i+1) (by omega) (by omega)
   rwa [show v >>> 1=cst v by unfold cst;rw[if_neg (by rw[h];simp)]]at this ⊢
def Ksa (l:List Int) (x4:Int):∀ (n:Nat) (v:BitVec 32) (i:Int),0≤i→8-i=n→Tot (λ k=>Ia k l (v.toNat:Int) x4 i) (λ r=>r=(l,((C6a n v).toNat:Int),x4)):=by
 intro n
 induction n with
 |zero=>
  intro v i h0 hn
  refine Tot.succ ?_
  simp only[Ia]
  exact Gnb (by omega) (Gib rfl)
 |succ n ih=>
  intro v i h0 hn
  refine Tot.succ ?_
  simp only[Ia]
  have hp:(2197175160:Int)=((2197175160#32:BitVec 32).toNat:Int):=by decide
  refine Gmb (by omega) ?_
  rw[w64 (n:=i+1) (by omega) (by omega),Fnb,G7b _ (by decide),sh1,hp,F5b]
  have e:C6a (n+1) v=C6a n (cst v):=rfl
  rw[e]
  refine Gob (λ h=>?_) (λ h=>?_)
  ·have:=ih (v >>> 1 ^^^ 2197175160#32) (i+1) (by omega) (by omega)
   rwa [show v >>> 1 ^^^ 2197175160#32=cst v by unfold cst;rw[if_pos h]]at this ⊢
  ·have:=ih (v >>> 1) (i+1) (by omega) (by omega)
   rwa [show v >>> 1=cst v by unfold cst;rw[if_neg (by rw[h];simp)]]at this ⊢
def Nia {b:Int} (h:0≤b∧b≤255):b=((ofInt 32 b).toNat:Int):=by
 rw[I5b]
 omega
def Brb (l:List Int) (hb:Ap l) (hl:l.length≤1000000000000):Tot (λ k=>Mq k l) (λ r=>r=crc l):=by
 unfold Mq
 refine Gjb (Q:=λ r=>r=(((l.foldl cby 4294967295#32).toNat:Nat):Int)) ?_ ?_
 ·have:=Grb (L:=λ k i s=>Kz k s l (l.length:Int) i) (Q:=λ r=>r=(((l.foldl cby 4294967295#32).toNat:Nat):Int)) l.length (λ i s=>∃ v:BitVec 32,s=(v.toNat:Int)∧(l.drop i).foldl cby v=l.foldl cby 4294967295#32) ?_ ?_ 0 4294967295 (Vs _) ⟨4294967295#32,by decide,by rw[Wf]⟩
  ·exact this
  ·rintro s ⟨v,rfl,hv⟩
   simp only[Kz]
   rw[Wi]at hv
   exact Gnb (by omega) (Gib (by rw[← hv];rfl))
  ·rintro i s hi ⟨v,rfl,hv⟩ next
   simp only[Kz]
   have hx:=hb _ (A4 (d:=0) hi)
   refine Gmb (by omega) (Gmb (by omega) (Gmb (by omega) ?_))
   rw[Vb,Jcb _ ⟨hx.1,by omega⟩,Fob v _ _ rfl]
   refine Gtb (Pia l _ _ 8 _ 0 (by decide) (by decide)) ?_
   simp only
   rw[w64 (n:=(i:Int)+1) (by omega) (by omega)]
   refine next _ ⟨_,rfl,?_⟩
   rw[Af (d:=0) hi,Zb]at hv
   exact hv
 ·rintro r rfl
  refine Gib ?_
  unfold crc Czb
  have hm:ofInt 32 (if IntKind.signed .u32 then -1 else IntKind.max .u32)=BitVec.allOnes 32:=by decide
  have e:BitVec.allOnes 32 ^^^ l.foldl cby 4294967295#32 = ~~~ (l.foldl cby 4294967295#32):=by rw[Jmb];exact BitVec.xor_allOnes
  show wrap .i64 (wrap .u32 (((ofInt 32 (if IntKind.signed .u32 then -1 else IntKind.max .u32) ^^^ ofInt 32 ((l.foldl cby 4294967295#32).toNat:Int)).toNat:Nat):Int))=_
  rw[show ofInt 32 ((l.foldl cby 4294967295#32).toNat:Int)=l.foldl cby 4294967295#32 from Kqa _,hm,e]
  have:=(~~~ (l.foldl cby 4294967295#32)).isLt
  rw[Flb,w64 (by omega) (by omega)]
def Bsb (l:List Int) (hb:Ap l) (hl:l.length≤1000000000000):Tot (λ k=>M5 k l) (λ r=>r=crc l):=by
 unfold M5
 refine Gjb (Q:=λ r=>r=(((l.foldl cby 4294967295#32).toNat:Nat):Int)) ?_ ?_
 ·have:=Grb (L:=λ k i s=>Io k l s i) (Q:=λ r=>r=(((l.foldl cby 4294967295#32).toNat:Nat):Int)) l.length (λ i s=>∃ v:BitVec 32,s=(v.toNat:Int)∧(l.drop i).foldl cby v=l.foldl cby 4294967295#32) ?_ ?_ 0 4294967295 (Vs _) ⟨4294967295#32,by decide,by rw[Wf]⟩
  ·exact this
  ·rintro s ⟨v,rfl,hv⟩
   simp only[Io]
   rw[Wi]at hv
   exact Gnb (by omega) (Gib (by rw[← hv];rfl))
  ·rintro i s hi ⟨v,rfl,hv⟩ next
   simp only[Io]
   have hx:=hb _ (A4 (d:=0) hi)
   refine Gmb (by omega) (Gmb (by omega) (Gmb (by omega) ?_))
   rw[Vb,w64 (n:=l.getD i 0) (by omega) (by omega),Nia hx,F5b]
   refine Gtb (Ksa l _ 8 _ 0 (by decide) (by decide)) ?_
   simp only
   rw[w64 (n:=(i:Int)+1) (by omega) (by omega)]
   refine next _ ⟨_,rfl,?_⟩
   rw[Af (d:=0) hi,Zb]at hv
   exact hv
 ·rintro r rfl
  refine Gib ?_
  have hp:(4294967295:Int)=((BitVec.allOnes 32:BitVec 32).toNat:Int):=by decide
  rw[hp,F5b,BitVec.xor_allOnes]
  rfl

def E5b:Fil:=(((0:Int),((0:Int),(0:Int))),(false,([]:List Int)))
def Fk (f:Fil):Bool:=Gw f.1&&(decide ((f.2.2.length:Int)≤200)&&(!f.2.1||((f.2.2.length:Int)==0)))
def F2a (f:Fil):Fw f=some (Fk f):=by
 unfold Fw Fk
 rw[Awa]
 simp only[Vn]
 cases Gw f.1<;>cases decide ((length f.2.2:Int)≤200)<;>cases f.2.1<;>rfl
def Us (f:Fil):C3 f=some (Fk f):=by
 unfold C3 Fk
 rw[Rv]
 simp only[Vn]
 cases Gw f.1<;>cases decide ((length f.2.2:Int)≤200)<;>cases f.2.1<;>rfl
def Km {f:Fil}:Fk f=true↔Gw f.1=true∧f.2.2.length≤200∧(f.2.1=true→f.2.2=[]):=by
 unfold Fk
 rw[Va,Va,decide_eq_true_iff]
 have:(!f.2.1||((f.2.2.length:Int)==0))=true↔(f.2.1=true→f.2.2=[]):=by
  cases f.2.1 with
  |false=>simp
  |true=>simp
 rw[this]
 constructor
 ·rintro⟨h1,h2,h3⟩;exact⟨h1,by omega,h3⟩
 ·rintro⟨h1,h2,h3⟩;exact⟨h1,by omega,h3⟩
def Tja (a b:Fil):Lw a b=some (sle b.1 a.1):=by unfold Lw;rw[Era];rfl
def Tka (a b:Fil):Lu a b=some (sle b.1 a.1):=by unfold Lu;rw[Eqa];rfl
def hdF (s:Stp) (d:Bool):List Int:=Qaa s++Po (Br (C3a d))
def Pp (f:Fil):List Int:=hdF f.1 f.2.1++txt (M9 f.2.2)
def c4 (c:Int):List Int:=[wrap .u8 (Int.fdiv c (2 ^ (min (toNat 24) (IntKind.bits .i64)))),wrap .u8 (Int.fdiv c (2 ^ (min (toNat 16) (IntKind.bits .i64)))),wrap .u8 (Int.fdiv c (2 ^ (min (toNat 8) (IntKind.bits .i64)))),wrap .u8 c]
def M8 (f:Fil):List Int:=bif Fk f then Pp f++c4 (crc (Pp f)) else []
def Q6 {a b:List Int} (ha:Ap a) (hb:Ap b):Ap (a++b):=λ x hx=>(Vo.1 hx).elim (ha x) (hb x)
def Ry (n:Int):Ap (Po (Br n)):=Pca _ (P5 n)
def Tla (s:Stp) (d:Bool):Ap (hdF s d):=Q6 (Q6 (Ry _) (Q6 (Ry _) (Ry _))) (Ry _)
def Qv (f:Fil):Ap (Pp f):=Q6 (Tla _ _) (Q6 (Ry _) (D8a _))
def Xca (c:Int):Ap (c4 c):=by
 intro x hx
 simp only[c4,Vm,Zp,or_false]at hx
 rcases hx with rfl|rfl|rfl|rfl<;>exact H3a _
def Q7 (f:Fil):Ap (M8 f):=by
 unfold M8
 cases Fk f with
 |false=>intro x hx;simp at hx
 |true=>exact Q6 (Qv f) (Xca _)
def Kta (s:Stp) (d:Bool):(hdF s d).length≤20:=by
 have h1:=Ewa s
 have h2:=(Mv (Br (C3a d))).1
 unfold hdF
 rw[Vd]
 omega
def B6a (f:Fil):(Pp f).length≤25+f.2.2.length:=by
 have h1:=Kta f.1 f.2.1
 have h2:=T5a (M9 f.2.2)
 have h3:(M9 f.2.2).size=f.2.2.length:=O4 _
 unfold Pp
 rw[Vd]
 omega
def Y8 (f:Fil):(M8 f).length≤229:=by
 unfold M8
 cases h:Fk f
 ·simp
 have h1:=B6a f
 have h2:=(Km.1 h).2.1
 rw[cond_true,Vd]
 simp only[c4,Vc,Vh]
 omega
def Qw (f:Fil):Tot (λ k=>Fi k f) (λ r=>r=M8 f):=by
 unfold Fi M8
 refine Gtb (Gub (Q:=λ b=>b=Fk f) (F2a f) rfl) ?_
 cases h:Fk f
 ·exact Glb rfl (Gib rfl)
 have h2:=(Km.1 h).2.1
 have h3:(M9 f.2.2).size=f.2.2.length:=O4 _
 have h4:=Kta f.1 f.2.1
 have h5:=B6a f
 refine Gkb rfl (Gtb (Pda [] f.1 f.2.1 (by simp)) ?_)
 rw[Vx]
 refine Gtb (X3a _ _ (by unfold hdF at h4;omega) (by omega)) ?_
 have e:Qaa f.1++Po (Br (C3a f.2.1))++txt (M9 f.2.2)=Pp f:=rfl
 rw[e]
 refine Gtb (Brb _ (Qv f) (by omega)) ?_
 exact Gqb (by simp only[Vc,Vh];omega) (Gib rfl)
def Tl (f:Fil):Tot (λ k=>Bm k f) (λ r=>r=M8 f):=by
 unfold Bm M8
 refine Gtb (Gub (Q:=λ b=>b=Fk f) (Us f) rfl) ?_
 cases h:Fk f
 ·exact Glb rfl (Gib rfl)
 have h2:=(Km.1 h).2.1
 have h3:(M9 f.2.2).size=f.2.2.length:=O4 _
 have h4:=Kta f.1 f.2.1
 have h5:=B6a f
 have h6:=Ewa f.1
 refine Gkb rfl (Gtb (Daa [] f.1 (by simp)) ?_)
 rw[Vx]
 refine Gtb (Gub (Q:=λ r=>r=C3a f.2.1) (N6a _) rfl) ?_
 refine Gtb (W9 _ _ (by omega)) ?_
 refine Gtb (N3a _ _ (by unfold hdF at h4;omega) (by omega)) ?_
 have e:Qaa f.1++Po (Br (C3a f.2.1))++txt (M9 f.2.2)=Pp f:=rfl
 rw[e]
 refine Gtb (Bsb _ (Qv f) (by omega)) ?_
 exact Gqb (by simp only[Vc,Vh];omega) (Gib rfl)
def Ol (b:List Int):Option Fil:=(R9 b 0).bind λ a=>(N4a b a.2).bind λ t=>bif Fk (a.1.1,a.1.2,bytesOf t.1)&&decide (M8 (a.1.1,a.1.2,bytesOf t.1)=b) then some (a.1.1,a.1.2,bytesOf t.1) else none
def Tm (b:List Int):Fil×Bool:=match Ol b with
 |some f=>(f,true)
 |none=>(E5b,false)
def Tma {b:List Int} {f:Fil} (h:Ol b=some f):Fk f=true∧Ap f.2.2∧M8 f=b:=by
 unfold Ol at h
 simp only[I4b]at h
 obtain⟨a,_,t,_,h⟩:=h
 cases hc:(Fk (a.1.1,a.1.2,bytesOf t.1)&&decide (M8 (a.1.1,a.1.2,bytesOf t.1)=b))
 ·rw[hc]at h;cases h
 rw[hc]at h
 simp only[cond_true,Vg]at h
 subst h
 rw[Va,decide_eq_true_iff]at hc
 exact⟨hc.1,D8a _,hc.2⟩
def Tna (s:Stp) (d:Bool) (rest:List Int) (h:Gw s=true):R9 (hdF s d++rest) 0=some ((s,d),(hdF s d).length):=by
 obtain⟨t,c,n⟩:=s
 unfold Gw at h
 simp only[Va,Eb]at h
 obtain⟨⟨t0,t1⟩,⟨c0,c1⟩,n0,n1⟩:=h
 have ht:=Aya t0 t1
 have hc:=Aya c0 (show c≤1000000000 by omega)
 have hn:=Aya n0 (show n≤1000000000 by omega)
 have hbit:(((Br (C3a d):Nat):Int)==1)=d:=by cases d<;>decide
 have hbit2:¬ (1<Br (C3a d)):=by cases d<;>decide
 have k:∀ (a:List Int) (n:Nat) (b:List Int),n≤1000000000→Pr (a++(Po n++b)) a.length=some (n,(a++Po n).length):=λ a n b hn=>by rw[N1a a n b hn,Vd]
 have e0:hdF (t,c,n) d++rest=Po (Br t)++(Po (Br c)++(Po (Br n)++(Po (Br (C3a d))++rest))):=by
  unfold hdF Qaa
  simp only[Vp]
 have el:(hdF (t,c,n) d).length=(Po (Br t)).length+(Po (Br c)).length+(Po (Br n)).length+(Po (Br (C3a d))).length:=by
  unfold hdF Qaa
  simp only[Vd]
  omega
 have g1:=k [] (Br t) (Po (Br c)++(Po (Br n)++(Po (Br (C3a d))++rest))) (P5 t)
 have g2:=k (Po (Br t)) (Br c) (Po (Br n)++(Po (Br (C3a d))++rest)) (P5 c)
 have g3:=k (Po (Br t)++Po (Br c)) (Br n) (Po (Br (C3a d))++rest) (P5 n)
 have g4:=k (Po (Br t)++Po (Br c)++Po (Br n)) (Br (C3a d)) rest (P5 _)
 simp only[Vp,Vx,Vh]at g1 g2 g3 g4
 simp only[Vd]at g1 g2 g3 g4
 unfold R9
 rw[e0,el]
 simp only[Ze]at g1 g2 g3 g4 ⊢
 simp only[g1,g2,g3,g4,Vn,decide_eq_false hbit2,cond_false]
 rw[ht,hc,hn,hbit]
def Xda {l:List Int} {q:Nat} {s:Stp} {d:Bool} (hb:Ap l) (h:R9 l 0=some ((s,d),q)):l=hdF s d++l.drop q∧q≤l.length:=by
 unfold R9 at h
 simp only[I4b]at h
 obtain⟨⟨t,p2⟩,h2,⟨c,p3⟩,h3,⟨n,p4⟩,h4,⟨e,p5⟩,h5,h⟩:=h
 obtain⟨b1,b2,b3,b4⟩:=Tk hb h2
 obtain⟨c1,c2,c3,c4⟩:=Tk hb h3
 obtain⟨d1,d2,d3,d4⟩:=Tk hb h4
 obtain⟨e1,e2,e3,e4⟩:=Tk hb h5
 cases hd:decide (1<e)
 case true=>simp only[hd,cond_true]at h;cases h
 simp only[hd,cond_false,Vg,Vy]at h
 obtain⟨⟨⟨rfl,rfl,rfl⟩,rfl⟩,rfl⟩:=h
 have he:e≤1:=by
  have:=of_decide_eq_false hd
  omega
 have hbit:Br (C3a ((e:Int)==1))=e:=by
  have:e=0∨e=1:=by omega
  rcases this with rfl|rfl<;>decide
 have k:∀ n:Nat,n≤1000000000→Br (n:Int)=n:=λ n hn=>by unfold Br;omega
 simp only at b1 b2 c1 c2 d1 d2 e1 e2
 refine⟨?_,e4⟩
 rw[Wf]at b1
 unfold hdF Qaa
 simp only
 rw[k t b2,k c c2,k n d2,hbit,Vp,Vp,Vp,← e1,← d1,← c1,← b1]
def Y9 {f:Fil} (h:Fk f=true) (hb:Ap f.2.2):Ol (M8 f)=some f:=by
 obtain⟨h1,h2,h3⟩:=Km.1 h
 have e:M8 f=hdF f.1 f.2.1++(txt (M9 f.2.2)++c4 (crc (Pp f))):=by
  unfold M8
  rw[h,cond_true]
  unfold Pp
  rw[Vp]
 have g1:=Tna f.1 f.2.1 (txt (M9 f.2.2)++c4 (crc (Pp f))) h1
 have g2:=X4a (hdF f.1 f.2.1) (M9 f.2.2) (c4 (crc (Pp f))) (by rw[O4];omega)
 rw[← e]at g1 g2
 unfold Ol
 simp only[g1,g2,Vn]
 rw[Oo hb]
 have e1:(f.1,f.2.1,f.2.2)=f:=rfl
 rw[e1,h,decide_eq_true rfl]
 rfl
def B7a {a b:List Int} (ha:Ap a) (hb:Ap b):((M9 a).toList==(M9 b).toList)=decide (a=b):=by
 have:teq (M9 a) (M9 b)=decide (a=b):=by
  rw[Izb,Jl,decide_eq_true_iff]
  constructor
  ·intro h
   have:=congrArg bytesOf h
   rwa [Oo ha,Oo hb]at this
  ·rintro rfl;rfl
 exact this
def Xea (l:List Int) (hb:Ap l) (hl:l.length≤1000000000000) (p:Int) (hp:p≤1000000000000):
  Tot (λ k=>Cz k (l,p,true)) (λ r=>r=((⟨#[]⟩:ByteArray),l,p,true)):=by
 unfold Cz
 refine Gtb (N5a l hb hl p hp) ?_
 exact Glb rfl (Gib rfl)
def Xfa {f:Fil}:(((M8 f).length:Int)==0) = !(Fk f):=by
 unfold M8
 cases h:Fk f
 ·rfl
 rw[cond_true,Vd,Zf,beq_eq_false_iff_ne]
 simp only[c4,Vc,Vh]
 omega
def Qx (b:List Int) (hb:Ap b) (hl:b.length≤1000000000000):Tot (λ k=>Eg k b) (λ r=>r=Tm b):=by
 unfold Eg
 refine Gjb (Fkb b hb hl 0 (Vs _) false) ?_
 rintro r (⟨_,⟨s,d⟩,q,h1,h2,rfl⟩|⟨h1,s,d,q,h2,rfl⟩)
 ·refine Gjb (Fjb b hb hl q h2) ?_
  rintro r (⟨t,q2,h3,h4,rfl⟩|⟨h3,rfl⟩)
  ·have hsz:=(Kka hb h3).2.1
   refine Gqb (by dsimp only;omega) (Gtb (Qw _) ?_)
   refine Gkb rfl ?_
   have e:Tm b=bif Fk (s,d,bytesOf t)&&decide (M8 (s,d,bytesOf t)=b) then ((s,d,bytesOf t),true) else (E5b,false):=by
    unfold Tm Ol
    simp only[h1,h3,Vn]
    cases Fk (s,d,bytesOf t)&&decide (M8 (s,d,bytesOf t)=b)<;>rfl
   simp only
   rw[e,Xfa]
   cases hf:Fk (s,d,bytesOf t)
   ·exact Glb rfl (Gib rfl)
   refine Gkb rfl ?_
   rw[B7a (Q7 _) hb]
   cases decide (M8 (s,d,bytesOf t)=b) with
   |false=>exact Glb rfl (Gib rfl)
   |true=>exact Gkb rfl (Gib rfl)
  ·refine Gqb (Vs _) (Gtb (Qw _) ?_)
   refine Glb rfl (Gib ?_)
   unfold Tm Ol
   simp only[h1,h3,Vn,H9b]
   rfl
 ·refine Gtb (Xea b hb hl q (by omega)) ?_
  refine Gqb (Vs _) (Gtb (Qw _) ?_)
  refine Glb rfl (Gib ?_)
  unfold Tm Ol
  simp only[h1.resolve_left (by simp),H9b]
  rfl
def B8a (b:List Int) (hb:Ap b) (hl:b.length≤1000000000000):Tot (λ k=>H5 k b) (λ r=>r=Tm b):=by
 have none_of:Ol b=none→Tm b=(E5b,false):=λ h=>by unfold Tm;rw[h]
 unfold H5
 refine Gjb (Bkb b hb hl 0) ?_
 rintro r (⟨n1,p1,n2,p2,n3,p3,_,g1,g2,g3,rfl⟩|⟨h,hr⟩)
 ·refine Gtb (W8 b hb hl (p3:Int)) ?_
  rw[Y7]
  have g1':Pr b 0=some (n1,p1):=g1
  cases g4:Pr b p3 with
  |none=>
   refine Gtb (Eva b hb hl 0) ?_
   refine Gkb rfl (Glb rfl (Gib (none_of ?_).symm))
   unfold Ol R9
   simp only[g1',g2,g3,g4,Vn,H9b]
  |some x=>
   obtain⟨n4,p4⟩:=x
   simp only
   have es:R9 b 0=bif decide (1<n4) then none else some ((((n1:Int),(n2:Int),(n3:Int)),(n4:Int)==1),p4):=by
    unfold R9
    simp only[g1',g2,g3,g4,Vn]
   refine Gtb (Eva b hb hl (p4:Int)) ?_
   rw[N7a]
   refine Gkb rfl (Gkb rfl ?_)
   cases g5:N4a b p4 with
   |none=>
    refine Glb rfl (Gib (none_of ?_).symm)
    unfold Ol
    rw[es]
    cases decide (1<n4) with
    |true=>rfl
    |false=>simp only[cond_false,Vn,g5,H9b]
   |some y=>
    obtain⟨t,q⟩:=y
    refine Gkb rfl (Gpb (λ h=>Gib (none_of ?_).symm) (λ h=>?_))
    ·unfold Ol
     rw[es,decide_eq_true (by omega)]
     rfl
    ·rw[decide_eq_false (by omega),cond_false]at es
     have hq:=Kka hb g5
     simp only
     rw[w64 (n:=(q:Int)+4) (by omega) (by omega)]
     have ef:Ol b=bif Fk (((n1:Int),(n2:Int),(n3:Int)),(n4:Int)==1,bytesOf t)&&decide (M8 (((n1:Int),(n2:Int),(n3:Int)),(n4:Int)==1,bytesOf t)=b) then some (((n1:Int),(n2:Int),(n3:Int)),(n4:Int)==1,bytesOf t) else none:=by
      unfold Ol
      simp only[es,g5,Vn]
     refine Gob (λ h4=>Gib (none_of ?_).symm) (λ h4=>?_)
     ·rw[ef]
      cases hc:(Fk (((n1:Int),(n2:Int),(n3:Int)),(n4:Int)==1,bytesOf t)&&decide (M8 (((n1:Int),(n2:Int),(n3:Int)),(n4:Int)==1,bytesOf t)=b))
      ·rfl
      exfalso
      rw[Va,decide_eq_true_iff]at hc
      have a1:=(Xda hb es).1
      rw[hq.1]at a1
      have a2:=hc.2
      unfold M8 at a2
      rw[hc.1,cond_true]at a2
      unfold Pp at a2
      simp only at a2
      rw[Uo,Vp]at a2
      rw[← a2]at a1
      have a3:=Jfb (Jfb a1)
      have a4:=congrArg length a3
      rw[a2,Wd]at a4
      simp only[c4,Vc,Vh]at a4
      have:(q:Int)+4=(b.length:Int):=by omega
      simp[this]at h4
     ·refine Gqb (by simp only[Vh];omega) ?_
      rw[Vx]
      refine Gtb (Gub (Q:=λ r=>r=Fk (((n1:Int),(n2:Int),(n3:Int)),(n4:Int)==1,bytesOf t)) (Us _) rfl) ?_
      unfold Tm
      rw[ef]
      cases hf:Fk (((n1:Int),(n2:Int),(n3:Int)),(n4:Int)==1,bytesOf t)
      ·exact Glb rfl (Gib rfl)
      refine Gkb rfl (Gtb (Tl _) ?_)
      rw[B7a (Q7 _) hb,Wc]
      cases decide (M8 (((n1:Int),(n2:Int),(n3:Int)),(n4:Int)==1,bytesOf t)=b) with
      |false=>exact Glb rfl (Gib rfl)
      |true=>exact Gkb rfl (Gib rfl)
 ·obtain⟨r1,r2,r3⟩:=r
  simp only at hr
  subst hr
  refine Gtb (W8 b hb hl _) ?_
  refine Gtb (Eva b hb hl _) ?_
  refine Glb rfl (Gib (none_of ?_).symm)
  unfold Ol
  rw[T6a (p:=0) (h.resolve_right (by omega))]
  rfl

def gt (l:List Nmd) (s:ByteArray):Option (List Int):=match fnd l s with
 |some i=>some (l.getD i D6).2
 |none=>none
def Kua (y:Nmd) (l:List Nmd) (s:ByteArray):gt (y::l) s=if y.1=s then some y.2 else gt l s:=by
 unfold gt
 rw[Nda]
 by_cases h:y.1=s
 ·rw[if_pos (Jl.2 h),if_pos h];rfl
 ·rw[if_neg (λ c=>h (Jl.1 c)),if_neg h]
  cases fnd l s<;>rfl
def Pj {l:List Nmd} {s:ByteArray} {b:List Int} (h:gt l s=some b):(s,b)∈l:=by
 induction l with
 |nil=>cases h
 |cons y l ih=>
  rw[Kua]at h
  by_cases e:y.1=s
  ·rw[if_pos e]at h
   cases h
   subst e
   exact Za
  ·rw[if_neg e]at h
   exact Vj _ (ih h)
def O6 {l:List Nmd} {s:ByteArray}:gt l s=none↔∀ x∈l,x.1≠s:=by
 rw[← X7a]
 unfold gt
 cases fnd l s with
 |none=>simp
 |some i=>simp
def Toa {l:List Nmd} (hs:Gx l) {x:Nmd} (hx:x∈l):gt l x.1=some x.2:=by
 cases h:gt l x.1 with
 |none=>exact absurd rfl (O6.1 h x hx)
 |some b=>rw[show x=(x.1,b) from Bqb hs hx (Pj h) rfl]
def Hua {l:List Nmd} (hs:Gx l) {s:ByteArray} {b:List Int}:gt l s=some b↔(s,b)∈l:=⟨Pj,λ h=>Toa hs h⟩
def B9a {l:List Nmd} {s:ByteArray}:(gt l s).isSome=(fnd l s).isSome:=by
 unfold gt
 cases fnd l s<;>rfl
def Ut {l:List Nmd} (hs:Gx l) {s t:ByteArray}:gt (cut l s) t=if s=t then none else gt l t:=by
 by_cases h:s=t
 ·subst h
  rw[if_pos rfl,O6]
  exact B4a
 ·rw[if_neg h]
  cases hg:gt l t with
  |none=>exact O6.2 λ x hx=>O6.1 hg x (P8.subset hx)
  |some b=>
   rw[Hua (O5 hs)]
   refine I9b.2 ⟨Pj hg,?_⟩
   cases ht:teq t s with
   |false=>simp[ht]
   |true=>exact absurd (Jl.1 ht).symm h
def Zha {l:List Nmd} (hs:Gx l) {x:Nmd} (hn:∀ y∈l,y.1≠x.1) {t:ByteArray}:gt (ins l x) t=if x.1=t then some x.2 else gt l t:=by
 have hi:=Sq hs hn
 by_cases h:x.1=t
 ·subst h
  rw[if_pos rfl,Hua hi]
  exact Ws.2 (.inl rfl)
 ·rw[if_neg h]
  cases hg:gt l t with
  |none=>
   refine O6.2 λ y hy=>?_
   rcases Ws.1 hy with rfl|hy
   ·exact h
   ·exact O6.1 hg y hy
  |some b=>
   rw[Hua hi]
   exact Ws.2 (.inr (Pj hg))
def Zia:∀ {l m:List Nmd},Gx l→Gx m→(∀ s,gt l s=gt m s)→l=m:=by
 have key:∀ {l m:List Nmd},Gx l→Gx m→(∀ s,gt l s=gt m s)→∀ x∈l,x∈m:=λ hl hm h x hx=>by
  have:=h x.1
  rw[Toa hl hx]at this
  exact Pj this.symm
 intro l m hl hm h
 have h1:∀ x,x∈l↔x∈m:=λ x=>⟨key hl hm h x,key hm hl (λ s=>(h s).symm) x⟩
 clear h key
 induction l generalizing m with
 |nil=>
  cases m with
  |nil=>rfl
  |cons y m=>exact absurd ((h1 y).2 (by simp)) (by simp)
 |cons x l ih=>
  cases m with
  |nil=>exact absurd ((h1 x).1 (by simp)) (by simp)
  |cons y m=>
   obtain⟨a1,a2⟩:=Wk.1 hl
   obtain⟨b1,b2⟩:=Wk.1 hm
   have e:x=y:=by
    rcases Vm.1 ((h1 x).1 (by simp)) with h|h
    ·exact h
    ·rcases Vm.1 ((h1 y).2 (by simp)) with h'|h'
     ·exact h'.symm
     ·have c1:=a1 y h'
      rw[Asa (b1 x h)]at c1
      cases c1
   subst e
   congr 1
   refine ih a2 b2 λ z=>⟨λ hz=>?_,λ hz=>?_⟩
   ·rcases Vm.1 ((h1 z).1 (Vj _ hz)) with rfl|h
    ·have c:=a1 z hz
     rw[M1]at c
     cases c
    ·exact h
   ·rcases Vm.1 ((h1 z).2 (Vj _ hz)) with rfl|h
    ·have c:=b1 z hz
     rw[M1]at c
     cases c
    ·exact h
def Tpa (l:List Nmd) (s:ByteArray):rdN l s=match gt l s with|some b=>(b,true)|none=>([],false):=by
 unfold rdN gt
 cases fnd l s<;>rfl
def Ja {s:ByteArray} (h:B1 s=true):L9 s:=by
 have:=(B0a h).2
 unfold L9
 omega
def Dm {d:Dsk}:Aj d=true↔Jo d.1=true∧Jo d.2=true:=by
 unfold Aj
 rw[Va]
def Na {d:Dsk} (h:Aj d=true):Gx d.1:=(Ah.1 (Dm.1 h).1).1
def Qy {d:Dsk} (h:Aj d=true):Gx d.2:=(Ah.1 (Dm.1 h).2).1
def LB (l:List Nmd):Prop:=∀ x∈l,Ap x.2
def DB (d:Dsk):Prop:=LB d.1∧LB d.2
def LB.cut {l:List Nmd} (h:LB l) (s:ByteArray):LB (cut l s):=λ x hx=>h x (P8.subset hx)
def LB.ins {l:List Nmd} (h:LB l) {x:Nmd} (hx:Ap x.2):LB (ins l x):=λ y hy=>by
 rcases Ws.1 hy with rfl|hy
 ·exact hx
 ·exact h y hy
def LB.gt {l:List Nmd} (h:LB l) {s:ByteArray} {b:List Int} (hg:gt l s=some b):Ap b:=h _ (Pj hg)
def Nq:Ap []:=λ x hx=>by cases hx
def wr (l:List Nmd) (s:ByteArray) (b:List Int):List Nmd:=ins (cut l s) (s,b)
def sy (d:Dsk) (s:ByteArray):List Nmd:=match gt d.1 s with
 |some b=>wr d.2 s b
 |none=>cut d.2 s
def wrD (d:Dsk) (s:ByteArray) (b:List Int):Dsk×Bool:=bif decide (b.length≤400)&&decide ((wr d.1 s b).length≤60) then ((wr d.1 s b,d.2),true) else (d,false)
def syD (d:Dsk) (s:ByteArray):Dsk×Bool:=bif decide ((sy d s).length≤60) then ((d.1,sy d s),true) else (d,false)
def rmD (d:Dsk) (s:ByteArray):Dsk×Bool:=bif (gt d.1 s).isSome then ((cut d.1 s,d.2),true) else (d,false)
section
variable {d:Dsk} {s:ByteArray} {b:List Int}
def Tqa (hd:Aj d=true):wrI d s b=wr d.1 s b:=by
 unfold wrI wr
 rw[Qt (Na hd)]
def Tra (hd:Aj d=true):syI d s=sy d s:=by
 unfold syI sy gt wr
 rw[Qt (Qy hd)]
 cases fnd d.1 s<;>rfl
def Pja (hd:Aj d=true) (hs:B1 s=true) (hb:b.length≤1000000000000):Tot (λ k=>Ea k d s b) (λ r=>r=wrD d s b):=by
 refine(Tia d s b (Ni hd) (Ja hs) hb).mono ?_
 rintro r rfl
 rw[hd,hs,Tqa hd]
 rfl
def Dha (hd:Aj d=true) (hs:B1 s=true) (hb:b.length≤1000000000000):Tot (λ k=>Bf k d s b) (λ r=>r=wrD d s b):=by
 refine(Hqa d s b (Ni hd) (Ja hs) hb).mono ?_
 rintro r rfl
 obtain⟨h1,h2⟩:=Nfa (b:=b) hd hs
 rw[hd,hs,h1,h2,Tqa hd]
 rfl
def Hva (hd:Aj d=true) (hs:B1 s=true):Tot (λ k=>Ca k d s) (λ r=>r=syD d s):=by
 refine(X9a d s (Ni hd) (Ja hs)).mono ?_
 rintro r rfl
 rw[hd,hs,Tra hd]
 rfl
def Uu (hd:Aj d=true) (hs:B1 s=true):Tot (λ k=>Am k d s) (λ r=>r=syD d s):=by
 refine(Nea d s (Ni hd) (Ja hs)).mono ?_
 rintro r rfl
 rw[hd,hs,Bpb hd,Tha hd hs,Tra hd]
 rfl
def Btb (hd:Aj d=true) (hs:B1 s=true) (hb:b.length≤400) (hl:(wr d.1 s b).length≤60):Aj (wr d.1 s b,d.2)=true:=by
 have:=(Nfa (b:=b) hd hs).2
 rw[Tqa hd,decide_eq_true hb,decide_eq_true hl]at this
 exact this
def Fpb (hd:Aj d=true) (hs:B1 s=true) (hl:(sy d s).length≤60):Aj (d.1,sy d s)=true:=by
 have:=Tha hd hs
 rw[Tra hd,decide_eq_true hl]at this
 exact this
def Nja (hd:Aj d=true) (hs:B1 s=true):Aj (wrD d s b).1=true:=by
 unfold wrD
 cases hc:decide (b.length≤400)&&decide ((wr d.1 s b).length≤60)
 ·exact hd
 rw[Va,decide_eq_true_iff,decide_eq_true_iff]at hc
 exact Btb hd hs hc.1 hc.2
def E6b (hd:Aj d=true) (hs:B1 s=true):Aj (syD d s).1=true:=by
 unfold syD
 cases hc:decide ((sy d s).length≤60) with
 |false=>exact hd
 |true=>exact Fpb hd hs (of_decide_eq_true hc)
def Zja (hd:Aj d=true):Aj (rmD d s).1=true:=by
 unfold rmD
 cases (gt d.1 s).isSome with
 |false=>exact hd
 |true=>exact Dm.2 ⟨Xa (Dm.1 hd).1,(Dm.1 hd).2⟩
def Pka (hd:Aj d=true) (h:(gt d.1 s).isSome=true):B1 s=true:=by
 cases hg:gt d.1 s with
 |none=>rw[hg]at h;cases h
 |some b=>exact(Qs.1 ((Ah.1 (Dm.1 hd).1).2.1 _ (Pj hg))).1
def Kva (hd:Aj d=true):Tot (λ k=>F9 k d s) (λ r=>r=rmD d s):=by
 refine(Pha d s (Ni hd).1).mono ?_
 rintro r rfl
 rw[hd,← B9a,Hnb,Qt (Na hd)]
 rfl
def Tn (hd:Aj d=true) (hs:L9 s):Tot (λ k=>Bh k d s) (λ r=>r=rmD d s):=by
 refine(Dda d s (Ni hd).1 hs).mono ?_
 rintro r rfl
 unfold rmD
 rw[hd,← B9a]
 cases h:(gt d.1 s).isSome
 ·rfl
 have h1:Aj (cut d.1 s,d.2)=true:=by
  have:=Zja (s:=s) hd
  unfold rmD at this
  rw[h]at this
  exact this
 rw[Pka hd h,h1]
 rfl
end
def lkD (d:Dsk) (s:ByteArray):Fil×Int:=match gt d.1 s with
 |none=>(E5b,1)
 |some b=>match Ol b with
  |some f=>(f,0)
  |none=>(E5b,2)
def Tsa {l:List Nmd} {s:ByteArray} {b:List Int} (h:C5a l) (hg:gt l s=some b):b.length≤1000000000000:=h.2 _ (Pj hg)
def Nka {d:Dsk} (hf:C5a d.1) (hb:LB d.1) (s:ByteArray):Tot (λ k=>Lh k d s) (λ r=>r=lkD d s):=by
 unfold Lh lkD
 refine Gtb (Nba d s hf) ?_
 rw[Tpa]
 cases hg:gt d.1 s with
 |none=>exact Glb rfl (Gib rfl)
 |some b=>
  refine Gkb rfl (Gtb (Qx b (hb.gt hg) (Tsa hf hg)) ?_)
  unfold Tm
  dsimp only
  cases Ol b with
  |none=>exact Glb rfl (Gib rfl)
  |some f=>exact Gkb rfl (Gib rfl)
def Yy {d:Dsk} (hf:C5a d.1) (hb:LB d.1) (s:ByteArray):Tot (λ k=>Ie k d s) (λ r=>r=lkD d s):=by
 unfold Ie lkD
 refine Gtb (Nca d s hf) ?_
 rw[Tpa]
 cases hg:gt d.1 s with
 |none=>exact Glb rfl (Gib rfl)
 |some b=>
  refine Gkb rfl (Gtb (B8a b (hb.gt hg) (Tsa hf hg)) ?_)
  unfold Tm
  dsimp only
  cases Ol b with
  |none=>exact Glb rfl (Gib rfl)
  |some f=>exact Gkb rfl (Gib rfl)
def Q8 {d:Dsk} {s:ByteArray} {f:Fil}:lkD d s=(f,0)↔∃ b,gt d.1 s=some b∧Ol b=some f:=by
 unfold lkD
 cases gt d.1 s with
 |none=>simp
 |some b=>cases h:Ol b<;>simp[h]
def old (d:Dsk) (s:ByteArray):Option Fil:=(gt d.1 s).bind Ol
def kp1 (d:Dsk) (s:ByteArray) (f:Fil):Option (Dsk×Int):=
 let w:=bif (wrD d s (M8 f)).2 then some ((wrD d s (M8 f)).1,(0:Int)) else none
 match old d s with
 |some o=>bif sle o.1 f.1 then w else some (d,1)
 |none=>w
def kp2 (d:Dsk) (s:ByteArray) (sure:Bool) (x:Dsk×Int):Dsk×Int:=bif sure then (bif (syD x.1 s).2 then ((syD x.1 s).1,x.2) else (d,3)) else x
def N7 (d:Dsk) (s:ByteArray) (f:Fil) (sure:Bool):Dsk×Int:=match kp1 d s f with
 |some x=>kp2 d s sure x
 |none=>(d,3)
def keep (d:Dsk) (s:ByteArray) (f:Fil) (sure:Bool):Dsk×Int:=bif Aj d&&(B1 s&&Fk f) then N7 d s f sure else (d,2)
def Xga:Ol []=none:=by
 cases h:Ol [] with
 |none=>rfl
 |some f=>
  obtain⟨h1,_,h3⟩:=Tma h
  unfold M8 at h3
  rw[h1]at h3
  simp[c4]at h3
def E7b {d:Dsk} {s:ByteArray} {f:Fil} (hd:Aj d=true) (hs:B1 s=true) {x:Dsk×Int} (h:kp1 d s f=some x):Aj x.1=true:=by
 have hw:∀ x,(bif (wrD d s (M8 f)).2 then some ((wrD d s (M8 f)).1,(0:Int)) else none)=some x→Aj x.1=true:=by
  intro x h
  cases hc:(wrD d s (M8 f)).2 with
  |false=>rw[hc]at h;cases h
  |true=>rw[hc]at h;cases h;exact Nja hd hs
 unfold kp1 at h
 simp only at h
 split at h
 ·rename_i o _
  cases hc:sle o.1 f.1 with
  |false=>rw[hc]at h;cases h;exact hd
  |true=>rw[hc]at h;exact hw _ h
 ·exact hw _ h
def E8b {d:Dsk} {s:ByteArray} (hd:Aj d=true) (hs:B1 s=true) {x:Dsk} {c:Int} (hx:Aj x=true) (sure:Bool):
  Tot (λ k=>cond sure ((Ca k x s).bind λ r=>cond (!r.2) ((A6 k d).bind λ q=>some (q,3)) (some (r.1,c))) (some (x,c))) (λ r=>r=kp2 d s sure (x,c)):=by
 unfold kp2
 cases sure
 ·exact Gib rfl
 refine Glb rfl (Gtb (Hva hx hs) ?_)
 cases h:(syD x s).2
 case true=>exact Gkb rfl (Gib rfl)
 refine Glb rfl (Gtb (K7 d (Ni hd).1.1) ?_)
 exact Gib rfl
def Xha (d:Dsk) (s:ByteArray) (f:Fil) (sure:Bool) (hd:DIn d) (hb:LB d.1) (hs:L9 s):Tot (λ k=>Mh k d s f sure) (λ r=>r=keep d s f sure):=by
 have bad:Tot (λ k=>(A6 k d).bind λ r2=>some (r2,(2:Int))) (λ r=>r=(d,2)):=by
  refine Gtb (K7 d hd.1.1) ?_
  exact Gib rfl
 unfold Mh keep
 refine Gtb (Sp d hd.1.1 hd.1.2) ?_
 cases h1:Aj d
 ·exact Glb rfl bad
 refine Gkb rfl (Gtb (Qo s hs) ?_)
 cases h2:B1 s
 ·exact Glb rfl bad
 refine Gkb rfl (Gtb (Gub (Q:=λ b=>b=Fk f) (F2a f) rfl) ?_)
 cases h3:Fk f
 ·exact Glb rfl bad
 refine Gkb rfl (Gtb (K7 d hd.1.1) ?_)
 refine Gtb (Nba d s hd.1.1.1) ?_
 have hlen:=Y8 f
 have w:∀ {o:Option Fil},(kp1 d s f=bif (wrD d s (M8 f)).2 then some ((wrD d s (M8 f)).1,(0:Int)) else none)→Tot (λ k=>(Fi k f).bind λ r13=>(Ea k d s r13).bind λ r14=>cond (!r14.2) ((A6 k d).bind λ r15=>some (r15,(3:Int))) (cond sure ((Ca k r14.1 s).bind λ r16=>cond (!r16.2) ((A6 k d).bind λ r17=>some (r17,3)) (some (r16.1,0))) (some (r14.1,0)))) (λ r=>r=N7 d s f sure):=by
  intro _ e
  refine Gtb (Qw f) ?_
  refine Gtb (Pja h1 h2 (by omega)) ?_
  unfold N7
  rw[e]
  cases h4:(wrD d s (M8 f)).2 with
  |false=>
   refine Glb rfl (Gtb (K7 d hd.1.1) ?_)
   exact Gib rfl
  |true=>exact Gkb rfl (E8b h1 h2 (Nja h1 h2) sure)
 rw[Tpa]
 have eo:old d s=(gt d.1 s).bind Ol:=rfl
 cases hg:gt d.1 s with
 |none=>
  rw[hg]at eo
  refine Gtb (Qx [] Nq (by simp)) ?_
  unfold Tm
  rw[Xga]
  refine Gkb rfl (w (o:=none) ?_)
  unfold kp1
  rw[eo]
  rfl
 |some b=>
  rw[hg]at eo
  have eo:old d s=Ol b:=eo
  refine Gtb (Qx b (hb.gt hg) (Tsa hd.1.1.1 hg)) ?_
  unfold Tm
  cases ho:Ol b with
  |none=>
   refine Gkb rfl (w (o:=none) ?_)
   unfold kp1
   rw[eo,ho]
  |some o=>
   rw[ho]at eo
   refine Glb rfl (Gtb (Gub (Q:=λ b=>b=sle o.1 f.1) (Tja f o) rfl) ?_)
   cases hl:sle o.1 f.1 with
   |true=>
    refine Gkb rfl (w (o:=none) ?_)
    unfold kp1
    simp only[eo,hl,cond_true]
   |false=>
    have e1:N7 d s f sure=kp2 d s sure (d,1):=by
     unfold N7 kp1
     simp only[eo,hl,cond_false]
    refine Glb rfl ?_
    show Tot _ (λ r=>r=N7 d s f sure)
    rw[e1]
    exact E8b h1 h2 h1 sure
def E9b {d:Dsk} {s:ByteArray} (hd:Aj d=true) (hs:B1 s=true) {x:Dsk} {c:Int} (hx:Aj x=true):
  Tot (λ k=>(Am k x s).bind λ r=>cond (!r.2) ((A7 k d).bind λ q=>some (q,3)) (some (r.1,c))) (λ r=>r=kp2 d s true (x,c)):=by
 unfold kp2
 refine Gtb (Uu hx hs) ?_
 cases h:(syD x s).2
 case true=>exact Gkb rfl (Gib rfl)
 refine Glb rfl (Gtb (Mf d (Ni hd).1.1) ?_)
 exact Gib rfl
def Nla (d:Dsk) (s:ByteArray) (f:Fil) (sure:Bool) (hd:DIn d) (hb:LB d.1) (hs:L9 s):Tot (λ k=>Kg k d s f sure) (λ r=>r=keep d s f sure):=by
 have bad:Tot (λ k=>(A7 k d).bind λ r2=>some (r2,(2:Int))) (λ r=>r=(d,2)):=by
  refine Gtb (Mf d hd.1.1) ?_
  exact Gib rfl
 unfold Kg keep
 refine Gtb (Qr d hd.1.1 hd.1.2) ?_
 cases h1:Aj d
 ·exact Glb rfl bad
 refine Gkb rfl (Gtb (Ph s hs) ?_)
 cases h2:B1 s
 ·exact Glb rfl bad
 refine Gkb rfl (Gtb (Gub (Q:=λ b=>b=Fk f) (Us f) rfl) ?_)
 cases h3:Fk f
 ·exact Glb rfl bad
 refine Gkb rfl (Gtb (Yy hd.1.1.1 hb s) ?_)
 have hlen:=Y8 f
 have w:(kp1 d s f=bif (wrD d s (M8 f)).2 then some ((wrD d s (M8 f)).1,(0:Int)) else none)→Tot (λ k=>(Bm k f).bind λ r12=>(Bf k d s r12).bind λ r13=>cond r13.2 (cond sure ((Am k r13.1 s).bind λ r14=>cond (!r14.2) ((A7 k d).bind λ r15=>some (r15,(3:Int))) (some (r14.1,0))) (cond (!r13.2) ((A7 k d).bind λ r16=>some (r16,3)) (some (r13.1,0)))) (cond (!r13.2) ((A7 k d).bind λ r17=>some (r17,3)) (some (r13.1,0)))) (λ r=>r=N7 d s f sure):=by
  intro e
  refine Gtb (Tl f) ?_
  refine Gtb (Dha h1 h2 (by omega)) ?_
  unfold N7
  rw[e]
  cases h4:(wrD d s (M8 f)).2 with
  |false=>
   refine Gkb rfl (Glb rfl (Gtb (Mf d hd.1.1) ?_))
   exact Gib rfl
  |true=>
   refine Glb rfl ?_
   cases sure with
   |true=>exact Glb rfl (E9b h1 h2 (Nja h1 h2))
   |false=>exact Gkb rfl (Gkb rfl (Gib rfl))
 have eo:old d s=(gt d.1 s).bind Ol:=rfl
 unfold lkD
 cases hg:gt d.1 s with
 |none=>
  rw[hg]at eo
  refine Gkb rfl (w ?_)
  unfold kp1
  rw[eo]
  rfl
 |some b=>
  rw[hg]at eo
  have eo:old d s=Ol b:=eo
  simp only
  cases ho:Ol b with
  |none=>
   refine Gkb rfl (w ?_)
   unfold kp1
   rw[eo,ho]
  |some o=>
   rw[ho]at eo
   refine Glb rfl (Gtb (Gub (Q:=λ b=>b=sle o.1 f.1) (Tka f o) rfl) ?_)
   cases hl:sle o.1 f.1 with
   |true=>
    refine Gkb rfl (w ?_)
    unfold kp1
    simp only[eo,hl,cond_true]
   |false=>
    have e1:N7 d s f sure=kp2 d s sure (d,1):=by
     unfold N7 kp1
     simp only[eo,hl,cond_false]
    refine Glb rfl ?_
    show Tot _ (λ r=>r=N7 d s f sure)
    rw[e1]
    refine Gtb (Mf d hd.1.1) ?_
    cases sure with
    |true=>exact Glb rfl (E9b h1 h2 h1)
    |false=>exact Gkb rfl (Gib rfl)

end Go.Proofs.YtmhhjceoinoekaaGreat.Vf
