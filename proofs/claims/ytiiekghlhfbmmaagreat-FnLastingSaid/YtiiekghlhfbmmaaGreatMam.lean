import Derived.Test.YtiiekghlhfbmmaaGreatMal
set_option linter.all false
namespace Go.Proofs.YtiiekghlhfbmmaaGreat.Vf
open Go
open List (length getD)
open Int (toNat)
open Go.IntKind (wrap)
open BitVec (ofInt)
def Wq:=@Bool.and_false
def Yw:=@Bool.not_true
def Zh:=@Bool.not_false
def Zza:=@List.filter_cons
def I4b:=@Bool.false_or
def Ibb:=@List.mem_filter
def Icb:=@List.takeWhile_append_dropWhile
def Ilb:=@Bool.eq_iff_iff
def Isb:=@List.filter_sublist
def Itb:=@List.dropWhile_cons
def Jxb:=@Bool.true_or
def K2b:=@List.findIdx?_eq_none_iff
def K5b:=@Go.IntWalk.u32_in
def K7b:=@List.append_cancel_left
def Keb:=@BitVec.xor_comm
def Kfb:=@BitVec.eq_of_toNat_eq
def Kib:=@Nat.mod_lt

def Jpa (l:List Int) (h:l.length≤1000000000000):(length ([]:List Int)+l.length)*1≤140737488355328:=by
 simp only[Vk]
 omega
def Aoa (l:List Nmd) (hf:Gqa l):∀ (n i:Nat) (acc:List Nmd),l.length-i=n→i≤l.length→acc.length≤i→
  Tot (λ k=>C6 k l acc (i:Int)) (λ r=>r=acc++l.drop i):=by
 obtain⟨h1,h2⟩:=hf
 intro n
 induction n with
 |zero=>
  intro i acc hd hi ha
  refine Tot.succ ?_
  simp only[C6]
  refine H6b (by omega) (H1b ?_)
  rw[Wj (by omega),Wp]
 |succ n ih=>
  intro i acc hd hi ha
  have hlt:i<l.length:=by omega
  refine Tot.succ ?_
  simp only[C6]
  refine H5b (by omega) (H5b (by omega) (H5b (by omega) (H5b (by omega) (H5b (by omega) ?_))))
  rw[show toNat (i:Int)=i from Vc i,w64 (n:=(i:Int)+1) (by omega) (by omega),Ah (d:=Dc) hlt]
  have e0:l.getD i ((⟨#[]⟩:ByteArray),([]:List Int))=l.getD i Dc:=rfl
  rw[e0]
  have hb:=h2 _ (A3 (d:=Dc) hlt)
  refine H9b (Jpa _ hb) (H9b (by simp only[Vd,Vk];omega) ?_)
  refine(ih (i+1) (acc++[l.getD i Dc]) (by omega) (by omega) (by simp only[Ve,Vd,Vk];omega)).mono ?_
  rintro r rfl
  rw[Vo]
  rfl
def Oi (l:List Nmd) (hf:Gqa l):Tot (λ k=>Be k l) (λ r=>r=l):=by
 unfold Be
 refine H2b (Aoa l hf _ 0 [] rfl (Vp _) (Vp _)) ?_
 intro r hr
 rw[Wo,Vy]at hr
 exact H1b hr
def Ll (d:Dsk) (hf:Wza d):Tot (λ k=>A6 k d) (λ r=>r=d):=by
 unfold A6
 refine Hdb (Oi d.1 hf.1) ?_
 refine Hdb (Oi d.2 hf.2) ?_
 exact H1b rfl
def Spa (l:List Nmd) (s:ByteArray) (hf:l.length≤1000000000000):∀ (n i:Nat),l.length-i=n→i≤l.length→
  Tot (λ k=>Iw k l s (i:Int)) (λ r=>r=match fnd (l.drop i) s with|some j => .inl ((i+j:Nat):Int)|none => .inr ()):=by
 intro n
 induction n with
 |zero=>
  intro i hd hi
  refine Tot.succ ?_
  simp only[Iw]
  refine H6b (by omega) (H1b ?_)
  rw[Wj (by omega)]
  rfl
 |succ n ih=>
  intro i hd hi
  have hlt:i<l.length:=by omega
  refine Tot.succ ?_
  simp only[Iw]
  refine H5b (by omega) (H5b (by omega) (H5b (by omega) ?_))
  rw[show toNat (i:Int)=i from Vc i,w64 (n:=(i:Int)+1) (by omega) (by omega),Ah (d:=Dc) hlt]
  have e0:l.getD i ((⟨#[]⟩:ByteArray),([]:List Int))=l.getD i Dc:=rfl
  rw[e0]
  have e1:fnd (l.getD i Dc::l.drop (i+1)) s=if teq (l.getD i Dc).1 s then some 0 else (fnd (l.drop (i+1)) s).map (· + 1):=by
   unfold fnd
   rw[J3b]
  rw[e1]
  refine H7b (λ h=>?_) (λ h=>?_)
  ·have h':teq (l.getD i Dc).1 s=true:=h
   rw[if_pos h']
   exact H1b rfl
  ·have h':¬ (teq (l.getD i Dc).1 s=true):=by
    have:teq (l.getD i Dc).1 s=false:=h
    rw[this];simp
   rw[if_neg h']
   refine(ih (i+1) (by omega) (by omega)).mono ?_
   rintro r rfl
   cases fnd (l.drop (i+1)) s with
   |none=>rfl
   |some j=>
    show Sum.inl _=Sum.inl _
    rw[show i+1+j=i+(j+1) by omega]
def Cqa (l:List Nmd) (s:ByteArray) (hf:l.length≤1000000000000):Tot (λ k=>Cy k l s) (λ r=>r=Gra l s):=by
 unfold Cy Gra
 refine Hdb (Spa l s hf _ 0 rfl (Vp _)) ?_
 rw[Wo]
 cases fnd l s with
 |none=>exact H1b rfl
 |some j=>
  refine H1b ?_
  rw[Wk]
def cut (l:List Nmd) (s:ByteArray):List Nmd:=l.filter (λ x => !(teq x.1 s))
def Ona (l:List Nmd) (s:ByteArray) (hf:l.length≤1000000000000):∀ (n i:Nat) (acc:List Nmd),l.length-i=n→i≤l.length→acc.length≤i→
  Tot (λ k=>Hd k l s acc (i:Int)) (λ r=>r=acc++cut (l.drop i) s):=by
 intro n
 induction n with
 |zero=>
  intro i acc hd hi ha
  refine Tot.succ ?_
  simp only[Hd]
  refine H6b (by omega) (H1b ?_)
  rw[Wj (by omega)]
  simp[cut]
 |succ n ih=>
  intro i acc hd hi ha
  have hlt:i<l.length:=by omega
  refine Tot.succ ?_
  simp only[Hd]
  refine H5b (by omega) (H5b (by omega) (H5b (by omega) ?_))
  rw[show toNat (i:Int)=i from Vc i,w64 (n:=(i:Int)+1) (by omega) (by omega),Ah (d:=Dc) hlt]
  have e0:l.getD i ((⟨#[]⟩:ByteArray),([]:List Int))=l.getD i Dc:=rfl
  rw[e0]
  have e1:cut (l.getD i Dc::l.drop (i+1)) s=if (!(teq (l.getD i Dc).1 s))=true then l.getD i Dc::cut (l.drop (i+1)) s else cut (l.drop (i+1)) s:=by
   unfold cut
   rw[Zza]
  rw[e1]
  refine H7b (λ h=>?_) (λ h=>?_)
  ·have h':(!(teq (l.getD i Dc).1 s))=true:=h
   rw[if_pos h']
   refine H5b (by omega) (H5b (by omega) (H9b (by simp only[Vd,Vk];omega) ?_))
   refine(ih (i+1) (acc++[l.getD i Dc]) (by omega) (by omega) (by simp only[Ve,Vd,Vk];omega)).mono ?_
   rintro r rfl
   rw[Vo]
   rfl
  ·have h':¬ ((!(teq (l.getD i Dc).1 s))=true):=by
    have:(!(teq (l.getD i Dc).1 s))=false:=h
    rw[this];simp
   rw[if_neg h']
   exact ih (i+1) acc (by omega) (by omega) (by omega)
def Sqa (l:List Nmd) (s:ByteArray) (hf:l.length≤1000000000000):Tot (λ k=>Ii k l s) (λ r=>r=cut l s):=by
 unfold Ii
 refine H2b (Ona l s hf _ 0 [] rfl (Vp _) (Vp _)) ?_
 intro r hr
 rw[Wo,Vy]at hr
 exact H1b hr
def Q3 (d:Dsk) (hf:Wza d) (hs:Ana d):Tot (λ k=>Bh k d) (λ r=>r=Ay d):=by
 unfold Bh Ay
 refine Hdb (Gva d.1 hf.1.1 hs.1) ?_
 cases h:Il d.1
 ·exact H3b rfl (H1b rfl)
 refine H4b rfl (Hdb (Gva d.2 hf.2.1 hs.2) ?_)
 exact H1b (by rw[Vx])

def rdN (l:List Nmd) (s:ByteArray):List Int×Bool:=match fnd l s with
 |some i=>((l.getD i Dc).2,true)
 |none=>([],false)
def Mca (d:Dsk) (s:ByteArray) (hf:Gqa d.1):Tot (λ k=>F5 k d s) (λ r=>r=rdN d.1 s):=by
 unfold F5 rdN
 refine Hdb (M9a d.1 s hf.1) ?_
 unfold Gra
 have hl1:=hf.1
 cases h:fnd d.1 s with
 |none=>exact H5b (by decide) (H1b rfl)
 |some i=>
  have hl:=(Nn h).1
  dsimp only
  refine H6b (by omega) (H5b (by omega) (H5b (by omega) ?_))
  rw[show toNat (i:Int)=i from Vc i]
  have hb:=hf.2 _ (A3 (d:=Dc) hl)
  refine Hdb (Heb (Q:=λ r=>r=(d.1.getD i Dc).2) (Mz _ hb) rfl) ?_
  exact H1b rfl
def Mda (d:Dsk) (s:ByteArray) (hf:Gqa d.1):Tot (λ k=>F6 k d s) (λ r=>r=rdN d.1 s):=by
 unfold F6 rdN
 refine Hdb (Cqa d.1 s hf.1) ?_
 unfold Gra
 have hl1:=hf.1
 cases h:fnd d.1 s with
 |none=>exact H5b (by decide) (H1b rfl)
 |some i=>
  have hl:=(Nn h).1
  dsimp only
  refine H6b (by omega) (H5b (by omega) (H5b (by omega) ?_))
  rw[show toNat (i:Int)=i from Vc i]
  have hb:=hf.2 _ (A3 (d:=Dc) hl)
  exact H9b (Jpa _ hb) (H1b rfl)

def D0 (l:List Nmd):Prop:=l.Pairwise (λ a b=>tlt a.1 b.1=true)
def Jqa:∀ (p:Option ByteArray) (l:List Nmd),chn p l=true↔D0 l∧(∀ r∈l,nOk r=true)∧(∀ q,p=some q→∀ r∈l,tlt q r.1=true)
 |p,[]=>by
  have:chn p []=true:=by cases p<;>rfl
  simp[this,D0]
 |none,r::l=>by
  simp only[chn,Va,Jqa (some r.1) l,D0,Wh]
  constructor
  ·rintro⟨h1,h2,h3,h4⟩
   exact⟨⟨λ a ha=>h4 _ rfl a ha,h2⟩,λ a ha=>by rcases Vl.1 ha with rfl|ha;exact h1;exact h3 a ha,λ q hq=>by cases hq⟩
  ·rintro⟨⟨h1,h2⟩,h3,_⟩
   exact⟨h3 r (by simp),h2,λ a ha=>h3 a (Vh _ ha),λ q hq a ha=>by cases hq;exact h1 a ha⟩
 |some q,r::l=>by
  simp only[chn,Va,Jqa (some r.1) l,D0,Wh]
  constructor
  ·rintro⟨h1,h0,h2,h3,h4⟩
   refine⟨⟨λ a ha=>h4 _ rfl a ha,h2⟩,λ a ha=>by rcases Vl.1 ha with rfl|ha;exact h1;exact h3 a ha,λ q' hq a ha=>?_⟩
   cases hq
   rcases Vl.1 ha with rfl|ha
   ·exact h0
   ·exact Mh h0 (h4 _ rfl a ha)
  ·rintro⟨⟨h1,h2⟩,h3,h4⟩
   exact⟨h3 r (by simp),h4 q rfl r (by simp),h2,λ a ha=>h3 a (Vh _ ha),λ q' hq a ha=>by cases hq;exact h1 a ha⟩
def Ap {l:List Nmd}:Il l=true↔D0 l∧(∀ r∈l,nOk r=true)∧l.length≤60:=by
 unfold Il
 simp only[Va,Jqa,decide_eq_true_eq]
 constructor
 ·rintro⟨⟨h1,h2,_⟩,h3⟩
  exact⟨h1,h2,by omega⟩
 ·rintro⟨h1,h2,h3⟩
  exact⟨⟨h1,h2,λ q hq=>by cases hq⟩,by omega⟩
def Q4 {x:Nmd}:nOk x=true↔B0 x.1=true∧x.2.length≤400:=by
 unfold nOk
 simp only[Va,Wa,decide_eq_false_iff_not]
 constructor
 ·rintro⟨h1,h2⟩;exact⟨h1,by omega⟩
 ·rintro⟨h1,h2⟩;exact⟨h1,by omega⟩
def Wv {l:List Nmd} (h:Il l=true):Gqa l∧Pd l:=by
 obtain⟨_,h2,h3⟩:=Ap.1 h
 refine⟨⟨by omega,λ x hx=>by have:=(Q4.1 (h2 x hx)).2;omega⟩,λ x hx=>?_⟩
 have:=Ama (Q4.1 (h2 x hx)).1
 unfold Lb
 omega
def Mea (y:Nmd) (l:List Nmd) (s:ByteArray):fnd (y::l) s=if teq y.1 s then some 0 else (fnd l s).map (· + 1):=by
 unfold fnd
 rw[J3b]
def X0a {l:List Nmd} {s:ByteArray}:fnd l s=none↔∀ x∈l,x.1≠s:=by
 unfold fnd
 rw[K2b]
 constructor
 ·intro h x hx e
  have:=h x hx
  rw[Cu.2 e]at this
  cases this
 ·intro h x hx
  cases ht:teq x.1 s with
  |false=>rfl
  |true=>exact absurd (Cu.1 ht) (h x hx)
def Q5:∀ {l:List Nmd} {s:ByteArray},D0 l→del l s=cut l s
 |[],s,_=>rfl
 |y::l,s,h=>by
  have hc:=Wh.1 h
  have ih:=Q5 (l:=l) (s:=s) hc.2
  unfold del cut at *
  rw[Mea,Zza]
  cases ht:teq y.1 s with
  |true=>
   have hno:∀ x∈l,(!(teq x.1 s))=true:=λ x hx=>by
    cases hx2:teq x.1 s
    ·rfl
    have e1:=Cu.1 ht
    have e2:=Cu.1 hx2
    have:=hc.1 x hx
    rw[e1,e2,Hs]at this
    cases this
   rw[if_pos rfl,if_neg (by simp)]
   show []++l=_
   rw[Vy,List.filter_eq_self.2 hno]
  |false=>
   rw[if_neg (by simp),if_pos (show (!false)=true from rfl),← ih]
   cases hf:fnd l s with
   |none=>rfl
   |some i=>rfl
def M4 {l:List Nmd} {s:ByteArray} (h:D0 l):D0 (cut l s):=h.sublist Isb
def O4 {l:List Nmd} {s:ByteArray}:(cut l s).Sublist l:=Isb
def Ww {l:List Nmd} {s:ByteArray} (h:Il l=true):Il (cut l s)=true:=by
 obtain⟨h1,h2,h3⟩:=Ap.1 h
 exact Ap.2 ⟨M4 h1,λ x hx=>h2 x (O4.subset hx),by have:=(O4 (l:=l) (s:=s)).length_le;omega⟩
def Bvb {l:List Nmd} {s:ByteArray} {i:Nat} (h:fnd l s=some i):(del l s).length+1=l.length:=by
 have hl:=(Nn h).1
 unfold del
 rw[h]
 simp only[Ve,Vq,Wc]
 omega
def Sra {l m:List Nmd} (h:m.Sublist l) (hf:Gqa l):Gqa m:=⟨by have:=h.length_le;have:=hf.1;omega,λ x hx=>hf.2 x (h.subset hx)⟩
def Gwa {l m:List Nmd} (h:m.Sublist l) (hf:Pd l):Pd m:=λ x hx=>hf x (h.subset hx)

def E7a (d out:Dsk) (s:ByteArray) (hd:Wza d∧Ana d) (ho:Wza out∧Ana out) (hs:Lb s):Tot (λ k=>E6 k d out s) (λ r=>r=bif Ay d&&(B0 s&&Ay out) then (out,true) else (d,false)):=by
 unfold E6
 refine Hdb (Q3 d hd.1 hd.2) ?_
 cases h1:Ay d with
 |false=>
  refine H4b rfl (Hdb (Ll d hd.1) ?_)
  exact H1b rfl
 |true=>
  refine H3b rfl (Hdb (U0 s hs) ?_)
  cases h2:B0 s with
  |false=>
   refine H4b rfl (Hdb (Ll d hd.1) ?_)
   exact H1b rfl
  |true=>
   refine H3b rfl (Hdb (Q3 out ho.1 ho.2) ?_)
   cases h3:Ay out with
   |false=>
    refine H4b rfl (Hdb (Ll d hd.1) ?_)
    exact H1b rfl
   |true=>exact H3b rfl (H1b rfl)
def Ooa (d:Dsk) (s:ByteArray) (hd:Wza d∧Ana d) (hs:Lb s):Tot (λ k=>C8 k d s) (λ r=>r=bif (fnd d.1 s).isSome&&(Ay d&&(B0 s&&Ay (cut d.1 s,d.2))) then ((cut d.1 s,d.2),true) else (d,false)):=by
 unfold C8
 refine H2b (Ll d hd.1) ?_
 rintro r rfl
 refine H2b (Cqa r.1 s hd.1.1.1) ?_
 rintro i rfl
 unfold Gra
 cases h:fnd r.1 s with
 |none=>exact H5b (by decide) (H1b rfl)
 |some i=>
  dsimp only
  refine H6b (by omega) (H2b (Sqa r.1 s hd.1.1.1) ?_)
  rintro c rfl
  refine H2b (E7a r (cut r.1 s,r.2) s hd ⟨⟨Sra O4 hd.1.1,hd.1.2⟩,Gwa O4 hd.2.1,hd.2.2⟩ hs) ?_
  rintro e rfl
  exact H1b rfl

def ptl (x:Nmd):Bool→List Nmd→List Nmd
 |p,[]=>bif p then [] else [x]
 |p,y::l=>(bif !p&&!(tlt y.1 x.1) then [x] else [])++((bif !(teq y.1 x.1) then [y] else [])++ptl x (p||!(tlt y.1 x.1)) l)
def Jra (l:List Nmd) (s:ByteArray) (b:List Int) (hf:l.length≤1000000000000):∀ (n i:Nat) (acc:List Nmd) (p:Bool),l.length-i=n→i≤l.length→acc.length≤2*i→
  Tot (λ k=>Ce k l s acc p (i:Int) s b) (λ r=>r.1++(bif r.2.1 then [] else [(s,b)])=acc++ptl (s,b) p (l.drop i)∧r.2.2=(s,b)∧r.1.length≤2*l.length):=by
 intro n
 induction n with
 |zero=>
  intro i acc p hd hi ha
  refine Tot.succ ?_
  simp only[Ce]
  refine H6b (by omega) (H1b ?_)
  rw[Wj (by omega)]
  exact⟨rfl,rfl,by dsimp only;omega⟩
 |succ n ih=>
  intro i acc p hd hi ha
  have hlt:i<l.length:=by omega
  refine Tot.succ ?_
  simp only[Ce]
  refine H5b (by omega) ?_
  rw[show toNat (i:Int)=i from Vc i,w64 (n:=(i:Int)+1) (by omega) (by omega),Ah (d:=Dc) hlt]
  have e0:l.getD i ((⟨#[]⟩:ByteArray),([]:List Int))=l.getD i Dc:=rfl
  rw[e0]
  have step:∀ (ac:List Nmd) (q:Bool),ac.length≤2*i+1→Tot (λ k=>cond (decide ((0:Int)≤i)) (cond (decide ((i:Int)<(length l:Int))) (cond (!((l.getD i Dc).1.toList==s.toList)) (cond (decide ((0:Int)≤i)) (cond (decide ((i:Int)<(length l:Int))) (cond (Nat.ble ((length ac+length [l.getD i Dc])*40) 140737488355328) (Ce k l s (ac++[l.getD i Dc]) q ((i:Int)+1) s b) none) none) none) (Ce k l s ac q ((i:Int)+1) s b)) none) none)
    (λ r=>r.1++(bif r.2.1 then [] else [(s,b)])=ac++((bif !(teq (l.getD i Dc).1 s) then [l.getD i Dc] else [])++ptl (s,b) q (l.drop (i+1)))∧r.2.2=(s,b)∧r.1.length≤2*l.length):=by
   intro ac q hac
   refine H5b (by omega) (H5b (by omega) (H7b (λ h=>?_) (λ h=>?_)))
   ·have h':(!(teq (l.getD i Dc).1 s))=true:=h
    rw[h']
    refine H5b (by omega) (H5b (by omega) (H9b (by simp only[Vd,Vk];omega) ?_))
    refine(ih (i+1) (ac++[l.getD i Dc]) q (by omega) (by omega) (by simp only[Ve,Vd,Vk];omega)).mono ?_
    rintro r ⟨h1,h2,h3⟩
    refine⟨?_,h2,h3⟩
    rw[h1,Vo]
    rfl
   ·have h':(!(teq (l.getD i Dc).1 s))=false:=h
    rw[h']
    exact ih (i+1) ac q (by omega) (by omega) (by omega)
  cases p with
  |true=>
   refine H3b rfl ?_
   refine(step acc true (by omega)).mono ?_
   rintro r ⟨h1,h2,h3⟩
   exact⟨h1,h2,h3⟩
  |false=>
   refine H4b rfl (H5b (by omega) (H5b (by omega) (H7b (λ h=>?_) (λ h=>?_))))
   ·have h':(!(tlt (l.getD i Dc).1 s))=true:=h
    refine H9b (by simp only[Vd,Vk];omega) ?_
    refine(step (acc++[(s,b)]) true (by simp only[Ve,Vd,Vk];omega)).mono ?_
    rintro r ⟨h1,h2,h3⟩
    refine⟨?_,h2,h3⟩
    rw[h1]
    simp only[ptl,h',Zh,Bool.and_self,I4b,cond_true,Vo]
   ·have h':(!(tlt (l.getD i Dc).1 s))=false:=h
    refine(step acc false (by omega)).mono ?_
    rintro r ⟨h1,h2,h3⟩
    refine⟨?_,h2,h3⟩
    rw[h1]
    simp only[ptl,h',Zh,Wq,I4b,cond_false,Vy]
def E8a (l:List Nmd) (s:ByteArray) (b:List Int) (hf:l.length≤1000000000000) (hb:b.length≤1000000000000):Tot (λ k=>Fa k l s b) (λ r=>r=ptl (s,b) false l):=by
 unfold Fa
 refine H9b (Jpa b hb) ?_
 rw[Vy]
 refine H2b (Jra l s b hf _ 0 [] false rfl (Vp _) (Vp _)) ?_
 rintro⟨r,q,x,y⟩ ⟨h1,h2,h3⟩
 rw[Wo,Vy]at h1
 dsimp only at h1 h2 h3
 dsimp only
 cases q with
 |true=>
  refine H3b rfl (H1b ?_)
  rw[← h1];simp
 |false=>
  refine H4b rfl (H9b (by simp only[Vd,Vk];omega) (H1b ?_))
  rw[← h1]
  obtain⟨rfl,rfl⟩:=Prod.mk.inj h2
  rfl
def Ssa (x:Nmd):∀ (p:Bool) (l:List Nmd),∀ y∈ptl x p l,y∈l∨y=x:=by
 intro p l
 induction l generalizing p with
 |nil=>intro y hy;cases p<;>simp_all [ptl]
 |cons a l ih=>
  intro y hy
  simp only[ptl,Vn]at hy
  rcases hy with hy|hy|hy
  ·revert hy;cases (!p&&!(tlt a.1 x.1))<;>simp_all
  ·revert hy;cases (!(teq a.1 x.1))<;>simp_all
  ·rcases ih _ y hy with h|h
   ·exact Or.inl (Vh _ h)
   ·exact Or.inr h
def Bwb (x:Nmd):∀ (p:Bool) (l:List Nmd),(ptl x p l).length≤l.length+(bif p then 0 else 1):=by
 intro p l
 induction l generalizing p with
 |nil=>cases p<;>simp[ptl]
 |cons a l ih=>
  simp only[ptl,Ve,Vd]
  have:=ih (p||!(tlt a.1 x.1))
  revert this
  cases p<;>cases tlt a.1 x.1<;>cases teq a.1 x.1<;>simp<;>omega
def X1a (x:Nmd):∀ (l:List Nmd),ptl x true l=cut l x.1:=by
 intro l
 induction l with
 |nil=>rfl
 |cons a l ih=>
  simp only[ptl,Yw,Yv,cond_false,Vy,Jxb,ih,cut,Zza]
  cases teq a.1 x.1<;>simp
def Vr (x:Nmd):∀ {l:List Nmd},D0 l→ptl x false l=ins (cut l x.1) x:=by
 intro l
 induction l with
 |nil=>intro _;rfl
 |cons a l ih=>
  intro h
  have hl:D0 l:=(Wh.1 h).2
  have ha:=(Wh.1 h).1
  simp only[ptl,Zh,Vx,I4b]
  cases ht:tlt a.1 x.1 with
  |true=>
   have he:teq a.1 x.1=false:=by
    cases hq:teq a.1 x.1 with
    |false=>rfl
    |true=>rw[(Cu.1 hq),Hs]at ht;cases ht
   simp only[he,Yw,Zh,cond_false,cond_true,Vy,ih hl,cut,Zza,if_true]
   unfold ins plc
   rw[Zp,if_pos ht]
   rfl
  |false=>
   have hc:plc (cut (a::l) x.1) x.1=0:=by
    unfold plc cut
    rw[List.length_eq_zero_iff]
    rw[Zza]
    cases hq:teq a.1 x.1
    ·rw[Zh,if_pos rfl,Zp,if_neg (by rw[ht];simp)]
    have hx:=(Cu.1 hq)
    simp only[Yw,Xs,if_false]
    cases hf:l.filter (λ y => !(teq y.1 x.1)) with
    |nil=>rfl
    |cons b m=>
     have hb:b∈l:=by
      have:b∈l.filter (λ y => !(teq y.1 x.1)):=by rw[hf];exact Ya
      exact(Ibb.1 this).1
     have hab:=ha b hb
     rw[hx]at hab
     rw[Zp,if_neg (by rw[Tv hab];simp)]
   simp only[Zh,cond_true,X1a]
   unfold ins
   rw[hc]
   simp only[Hob,Vy,Wo,cut,Zza]
   cases teq a.1 x.1<;>simp

def Sta {l:List Nmd} {x:Nmd} {p:Bool} (hl:Gqa l) (hl':l.length≤999999999999) (hx:x.2.length≤1000000000000):Gqa (ptl x p l):=by
 refine⟨?_,λ y hy=>?_⟩
 ·have:=Bwb x p l
  revert this
  cases p<;>simp<;>omega
 ·rcases Ssa x p l y hy with h|rfl
  ·exact hl.2 y h
  ·exact hx
def Gxa {l:List Nmd} {x:Nmd} {p:Bool} (hl:Pd l) (hx:Lb x.1):Pd (ptl x p l):=by
 intro y hy
 rcases Ssa x p l y hy with h|rfl
 ·exact hl y h
 ·exact hx
def DIn (d:Dsk):Prop:=(Wza d∧Ana d)∧d.1.length≤2000000∧d.2.length≤2000000
def No {d:Dsk} (h:Ay d=true):DIn d:=by
 unfold Ay at h
 rw[Va]at h
 have h1:=Wv h.1
 have h2:=Wv h.2
 exact⟨⟨⟨h1.1,h2.1⟩,h1.2,h2.2⟩,by have:=(Ap.1 h.1).2.2;omega,by have:=(Ap.1 h.2).2.2;omega⟩
def Sua (d:Dsk) (s:ByteArray) (b:List Int) (hd:DIn d) (hs:Lb s) (hb:b.length≤1000000000000):Tot (λ k=>Dv k d s b) (λ r=>r=bif Ay d&&(B0 s&&Ay (ptl (s,b) false d.1,d.2)) then ((ptl (s,b) false d.1,d.2),true) else (d,false)):=by
 unfold Dv
 refine H2b (Ll d hd.1.1) ?_
 rintro r rfl
 refine H2b (E8a r.1 s b hd.1.1.1.1 hb) ?_
 rintro c rfl
 refine H2b (E7a r (ptl (s,b) false r.1,r.2) s hd.1 ⟨⟨Sta hd.1.1.1 (by have:=hd.2.1;omega) hb,hd.1.1.2⟩,Gxa hd.1.2.1 hs,hd.1.2.2⟩ hs) ?_
 rintro e rfl
 exact H1b rfl
def syS (d:Dsk) (s:ByteArray):List Nmd:=match fnd d.1 s with
 |some i=>ptl (s,(d.1.getD i Dc).2) false (cut d.2 s)
 |none=>cut d.2 s
def Efb {d:Dsk} {s:ByteArray} (hd:DIn d) (hs:Lb s):Gqa (syS d s)∧Pd (syS d s):=by
 unfold syS
 have h1:=Sra (O4 (l:=d.2) (s:=s)) hd.1.1.2
 have h2:=Gwa (O4 (l:=d.2) (s:=s)) hd.1.2.2
 cases h:fnd d.1 s with
 |none=>exact⟨h1,h2⟩
 |some i=>
  have hb:=hd.1.1.1.2 _ (A3 (d:=Dc) (Nn h).1)
  have hc:(cut d.2 s).length≤d.2.length:=(O4 (l:=d.2) (s:=s)).length_le
  exact⟨Sta h1 (by have:=hd.2.2;omega) hb,Gxa h2 hs⟩
def X2a (d:Dsk) (s:ByteArray) (hd:DIn d) (hs:Lb s):Tot (λ k=>Bc k d s) (λ r=>r=bif Ay d&&(B0 s&&Ay (d.1,syS d s)) then ((d.1,syS d s),true) else (d,false)):=by
 unfold Bc
 have hin:=Efb hd hs
 refine H2b (Ll d hd.1.1) ?_
 rintro r rfl
 refine H2b (Mda r s hd.1.1.1) ?_
 rintro b rfl
 refine H2b (Sqa r.2 s hd.1.1.2.1) ?_
 rintro c rfl
 have e:∀ o,o=syS r s→Tot (λ k=>(E6 k r (r.1,o) s).bind λ r5=>some (r5.1,r5.2)) (λ q=>q=bif Ay r&&(B0 s&&Ay (r.1,syS r s)) then ((r.1,syS r s),true) else (r,false)):=by
  rintro o rfl
  refine H2b (E7a r (r.1,syS r s) s hd.1 ⟨⟨hd.1.1.1,hin.1⟩,hd.1.2.1,hin.2⟩ hs) ?_
  rintro e rfl
  exact H1b rfl
 have hc:(cut r.2 s).length≤r.2.length:=(O4 (l:=r.2) (s:=s)).length_le
 cases h:fnd r.1 s with
 |none=>
  have h':rdN r.1 s=([],false):=by unfold rdN;rw[h]
  rw[h']
  refine H3b rfl (e _ ?_)
  unfold syS;rw[h]
 |some i=>
  have h':rdN r.1 s=((r.1.getD i Dc).2,true):=by unfold rdN;rw[h]
  rw[h']
  have hb:=hd.1.1.1.2 _ (A3 (d:=Dc) (Nn h).1)
  refine H4b rfl (H2b (E8a (cut r.2 s) s _ (by have:=hd.2.2;omega) hb) ?_)
  rintro o rfl
  refine e _ ?_
  unfold syS;rw[h]
def Opa (d:Dsk) (s:ByteArray) (hd:Wza d∧Ana d):Tot (λ k=>Ee k d s) (λ r=>r=bif (fnd d.1 s).isSome&&Ay d then ((del d.1 s,d.2),true) else (d,false)):=by
 unfold Ee
 refine H2b (J5 d hd.1) ?_
 rintro r rfl
 refine H2b (Rx r hd.1 hd.2) ?_
 rintro b rfl
 cases h1:Ay r
 ·refine H4b rfl (H1b ?_);rw[Wq];rfl
 refine H3b rfl (H2b (M9a r.1 s hd.1.1.1) ?_)
 rintro i rfl
 unfold Gra
 cases h:fnd r.1 s with
 |none=>exact H5b (by decide) (H1b rfl)
 |some i=>
  dsimp only
  refine H6b (by omega) (H2b (U6 r.1 s hd.1.1.1) ?_)
  rintro c rfl
  exact H1b rfl
def syI (d:Dsk) (s:ByteArray):List Nmd:=match fnd d.1 s with
 |some i=>ins (del d.2 s) (s,(d.1.getD i Dc).2)
 |none=>del d.2 s
def Cra (l:List Nmd) (s:ByteArray):(del l s).length≤l.length:=by
 cases h:fnd l s with
 |none=>unfold del;rw[h];exact Vw _
 |some i=>have:=Bvb h;omega
def Bxb (l:List Nmd) (x:Nmd):(ins l x).length=l.length+1:=by
 unfold ins
 have:=Z9a l x.1
 simp only[Ve,Vq,Wc,Vd,Vk]
 omega
def X3a (d:Dsk) (s:ByteArray) (hd:DIn d) (hs:Lb s):Tot (λ k=>C0 k d s) (λ r=>r=bif Ay d&&(B0 s&&decide ((syI d s).length≤60)) then ((d.1,syI d s),true) else (d,false)):=by
 unfold C0
 refine H2b (J5 d hd.1.1) ?_
 rintro r rfl
 refine H2b (Rx r hd.1.1 hd.1.2) ?_
 rintro b rfl
 cases h1:Ay r
 ·exact H4b rfl (H1b rfl)
 refine H3b rfl (H2b (Q1 s hs) ?_)
 rintro b rfl
 cases h2:B0 s
 ·exact H4b rfl (H1b rfl)
 refine H3b rfl (H2b (U6 r.2 s hd.1.1.2.1) ?_)
 rintro c rfl
 refine H2b (M9a r.1 s hd.1.1.1.1) ?_
 rintro i rfl
 have hdl:=Cra r.2 s
 have hr2:=hd.2.2
 have hr1:=hd.2.1
 have e:∀ o,o=syI r s→o.length≤4000000→Tot (λ k=>cond (decide ((length o:Int) > 60)) ((A5 k r).bind λ r9=>some (r9,false)) (some ((r.1,o),true))) (λ q=>q=bif true&&(true&&decide ((syI r s).length≤60)) then ((r.1,syI r s),true) else (r,false)):=by
  rintro o rfl _
  refine H8b (λ h=>?_) (λ h=>?_)
  ·refine H2b (J5 r hd.1.1) ?_
   rintro q rfl
   refine H1b ?_
   rw[decide_eq_false (by omega)]
   rfl
  ·refine H1b ?_
   rw[decide_eq_true (by omega)]
   rfl
 unfold Gra
 cases h:fnd r.1 s with
 |none=>
  refine H6b (by decide) (e _ ?_ (by omega))
  unfold syI;rw[h]
 |some i=>
  have hl:=(Nn h).1
  dsimp only
  refine H5b (by omega) (H5b (by omega) (H5b (by omega) ?_))
  rw[show toNat (i:Int)=i from Vc i]
  have hb:=hd.1.1.1.2 _ (A3 (d:=Dc) hl)
  refine H2b (Heb (Q:=λ q=>q=(r.1.getD i Dc).2) (Mz _ hb) rfl) ?_
  rintro q rfl
  refine H2b (Mba (del r.2 s) (s,(r.1.getD i Dc).2) (by omega)) ?_
  rintro o rfl
  refine e _ ?_ (by rw[Bxb];omega)
  unfold syI;rw[h]

section
open Go
end

section
open Go
end

def Se (p:Nmd→Bool):∀ l:List Nmd,l.take (l.takeWhile p).length=l.takeWhile p∧l.drop (l.takeWhile p).length=l.dropWhile p
 |[]=>⟨rfl,rfl⟩
 |y::l=>by
  obtain⟨h1,h2⟩:=Se p l
  simp only[Zp,Itb]
  cases p y with
  |true=>simp[h1,h2]
  |false=>simp
def Gya {p:Nmd→Bool}:∀ {l:List Nmd} {y:Nmd},y∈l.takeWhile p→p y=true
 |[],y,h=>by simp at h
 |z::l,y,h=>by
  simp only[Zp]at h
  cases hz:p z
  ·rw[hz]at h;simp at h
  rw[hz]at h
  simp only[if_true]at h
  rcases Vl.1 h with rfl|h
  ·exact hz
  ·exact Gya h
def Zaa (l:List Nmd) (x:Nmd):ins l x=l.takeWhile (λ y=>tlt y.1 x.1)++([x]++l.dropWhile (λ y=>tlt y.1 x.1)):=by
 unfold ins plc
 obtain⟨h1,h2⟩:=Se (λ y=>tlt y.1 x.1) l
 rw[h1,h2,Vo]
def Csa {x:Nmd}:∀ {l:List Nmd},D0 l→(∀ y∈l,y.1≠x.1)→∀ z∈l.dropWhile (λ y=>tlt y.1 x.1),tlt x.1 z.1=true
 |[],_,_,z,hz=>by simp at hz
 |y::l,hs,hn,z,hz=>by
  obtain⟨h1,h2⟩:=Wh.1 hs
  simp only[Itb]at hz
  cases hy:tlt y.1 x.1 with
  |true=>
   rw[hy]at hz
   simp only[if_true]at hz
   exact Csa h2 (λ w hw=>hn w (Vh _ hw)) z hz
  |false=>
   rw[hy]at hz
   simp only[Xs,if_false]at hz
   have hxy:tlt x.1 y.1=true:=by
    cases hh:tlt x.1 y.1 with
    |true=>rfl
    |false=>exact absurd (Aca hy hh) (hn y (by simp))
   rcases Vl.1 hz with rfl|hz
   ·exact hxy
   ·exact Mh hxy (h1 z hz)
def Pe {l:List Nmd} {x:Nmd} (hs:D0 l) (hn:∀ y∈l,y.1≠x.1):D0 (ins l x):=by
 rw[Zaa]
 have hs':D0 (l.takeWhile (λ y=>tlt y.1 x.1)++l.dropWhile (λ y=>tlt y.1 x.1)):=by rw[Icb];exact hs
 obtain⟨h1,h2,h3⟩:=Zg.1 hs'
 have h4:∀ y∈l.takeWhile (λ y=>tlt y.1 x.1),tlt y.1 x.1=true:=λ y hy=>Gya (p:=λ y=>tlt y.1 x.1) hy
 refine Zg.2 ⟨h1,Wh.2 ⟨λ z hz=>Csa hs hn z hz,h2⟩,λ a ha b hb=>?_⟩
 rcases Vl.1 hb with rfl|hb
 ·exact h4 a ha
 ·exact h3 a ha b hb
def W0 {l:List Nmd} {x y:Nmd}:y∈ins l x↔y=x∨y∈l:=by
 rw[Zaa]
 have e:=Icb (p:=λ y:Nmd=>tlt y.1 x.1) (l:=l)
 constructor
 ·intro h
  rcases Vn.1 h with h|h
  ·right;rw[← e];exact Wb _ h
  ·rcases Vl.1 h with h|h
   ·exact .inl h
   ·right;rw[← e];exact Vt _ h
 ·rintro (rfl|h)
  ·exact Vt _ (by simp)
  ·rw[← e]at h
   rcases Vn.1 h with h|h
   ·exact Wb _ h
   ·exact Vt _ (Vh _ h)
def Zba {l:List Nmd} {x:Nmd} (hl:Il l=true) (hn:∀ y∈l,y.1≠x.1) (hx:nOk x=true):Il (ins l x)=decide ((ins l x).length≤60):=by
 obtain⟨h1,h2,h3⟩:=Ap.1 hl
 by_cases h:(ins l x).length≤60
 ·rw[decide_eq_true h]
  exact Ap.2 ⟨Pe h1 hn,λ y hy=>by rcases W0.1 hy with rfl|hy;exact hx;exact h2 y hy,h⟩
 ·rw[decide_eq_false h]
  cases hc:Il (ins l x) with
  |false=>rfl
  |true=>exact absurd (Ap.1 hc).2.2 h
def Wx {l:List Nmd} {s:ByteArray}:∀ y∈cut l s,y.1≠s:=λ y hy e=>by
 have:=(Ibb.1 hy).2
 simp[e,Cu.2 rfl]at this
def Byb {l:List Nmd} {s:ByteArray}:cut (cut l s) s=cut l s:=by
 unfold cut
 rw[List.filter_filter]
 congr 1
 funext x
 simp
def Bzb {d:Dsk} {s:ByteArray} (hd:Ay d=true):syS d s=syI d s:=by
 unfold Ay at hd
 rw[Va]at hd
 have hs:=(Ap.1 hd.2).1
 unfold syS syI
 rw[Q5 hs]
 cases fnd d.1 s with
 |none=>rfl
 |some i=>
  show ptl _ false (cut d.2 s)=ins (cut d.2 s) _
  rw[Vr _ (M4 hs)]
  show ins (cut (cut d.2 s) s) _=_
  rw[Byb]
def Sva {d:Dsk} {s:ByteArray} (hd:Ay d=true) (hs:B0 s=true):Ay (d.1,syI d s)=decide ((syI d s).length≤60):=by
 have hd':=hd
 unfold Ay at hd'
 rw[Va]at hd'
 have h2:=Ap.1 hd'.2
 unfold Ay
 rw[hd'.1,Vx]
 unfold syI
 rw[Q5 h2.1]
 cases h:fnd d.1 s with
 |none=>show Il (cut d.2 s)=decide ((cut d.2 s).length≤60);rw[Ww hd'.2,decide_eq_true (Ap.1 (Ww (s:=s) hd'.2)).2.2]
 |some i=>
  refine Zba (Ww hd'.2) Wx (Q4.2 ⟨hs,?_⟩)
  have h1:=(Ap.1 hd'.1).2.1 _ (A3 (d:=Dc) (Nn h).1)
  exact(Q4.1 h1).2
def C0b {l:List Nmd} (hs:D0 l) {x y:Nmd} (hx:x∈l) (hy:y∈l) (e:x.1=y.1):x=y:=by
 induction l with
 |nil=>simp at hx
 |cons z l ih=>
  obtain⟨h1,h2⟩:=Wh.1 hs
  rcases Vl.1 hx with hx'|hx'
  ·rcases Vl.1 hy with hy'|hy'
   ·rw[hx',hy']
   ·have:=h1 y hy';rw[← hx',e,Hs]at this;cases this
  ·rcases Vl.1 hy with hy'|hy'
   ·have:=h1 x hx';rw[← hy',e,Hs]at this;cases this
   ·exact ih h2 hx' hy'

def wrI (d:Dsk) (s:ByteArray) (b:List Int):List Nmd:=ins (del d.1 s) (s,b)
def Swa (d:Dsk) (s:ByteArray) (b:List Int) (hd:DIn d) (hs:Lb s) (hb:b.length≤1000000000000):Tot (λ k=>Dt k d s b) (λ r=>r=bif Ay d&&(B0 s&&(decide (b.length≤400)&&decide ((wrI d s b).length≤60))) then ((wrI d s b,d.2),true) else (d,false)):=by
 unfold Dt
 refine H2b (J5 d hd.1.1) ?_
 rintro r rfl
 refine H2b (Rx r hd.1.1 hd.1.2) ?_
 rintro b1 rfl
 cases h1:Ay r
 ·exact H4b rfl (H1b rfl)
 refine H3b rfl (H2b (Q1 s hs) ?_)
 rintro b2 rfl
 cases h2:B0 s
 ·exact H4b rfl (H1b rfl)
 refine H3b rfl (H8b (λ h=>?_) (λ h=>?_))
 ·rw[decide_eq_false (show ¬ b.length≤400 by omega)]
  exact H1b rfl
 ·rw[decide_eq_true (show b.length≤400 by omega)]
  refine H2b (U6 r.1 s hd.1.1.1.1) ?_
  rintro c rfl
  refine H2b (Heb (Q:=λ x=>x=b) (Mz b hb) rfl) ?_
  rintro e rfl
  have hdl:=Cra r.1 s
  refine H2b (Mba (del r.1 s) (s,e) (by have:=hd.2.1;omega)) ?_
  rintro m rfl
  refine H8b (λ h=>?_) (λ h=>?_)
  ·rw[decide_eq_false (show ¬ (wrI r s e).length≤60 by unfold wrI;omega)]
   refine H2b (J5 r hd.1.1) ?_
   rintro x rfl
   exact H1b rfl
  ·rw[decide_eq_true (show (wrI r s e).length≤60 by unfold wrI;omega)]
   exact H1b rfl
def Mfa {d:Dsk} {s:ByteArray} {b:List Int} (hd:Ay d=true) (hs:B0 s=true):ptl (s,b) false d.1=wrI d s b∧Ay (wrI d s b,d.2)=(decide (b.length≤400)&&decide ((wrI d s b).length≤60)):=by
 have hd':=hd
 unfold Ay at hd'
 rw[Va]at hd'
 have h1:=Ap.1 hd'.1
 have e1:wrI d s b=ins (cut d.1 s) (s,b):=by unfold wrI;rw[Q5 h1.1]
 refine⟨by rw[e1];exact Vr _ h1.1,?_⟩
 unfold Ay
 rw[hd'.2,Zz,e1]
 by_cases hb:b.length≤400
 ·rw[decide_eq_true hb,Vx]
  exact Zba (Ww hd'.1) Wx (Q4.2 ⟨hs,hb⟩)
 ·rw[decide_eq_false hb,Yv]
  cases hc:Il (ins (cut d.1 s) (s,b)) with
  |false=>rfl
  |true=>exact absurd (Q4.1 ((Ap.1 hc).2.1 (s,b) (W0.2 (.inl rfl)))).2 hb

def TS (l:List ByteArray):Prop:=l.Pairwise (λ a b=>tlt a b=true)
def pk (l:List Nmd) (s:ByteArray):Option Nmd:=match fnd l s with
 |some i=>some (l.getD i Dc)
 |none=>none
def Mu:ByteArray:=⟨#[]⟩
def tpl (l:List ByteArray) (s:ByteArray):Nat:=(l.takeWhile (λ y=>tlt y s)).length
def wt (l:List ByteArray) (s:ByteArray):List ByteArray:=if tpl l s<l.length∧teq (l.getD (tpl l s) Mu) s=true then l else l.take (tpl l s)++[s]++l.drop (tpl l s)
def Zca (l:List ByteArray) (s:ByteArray):tpl l s≤l.length:=(Kab _).length_le
def Xa (l:List ByteArray) (s:ByteArray) (hf:l.length≤1000000000000):∀ (n i:Nat),l.length-i=n→i≤l.length→
  Tot (λ k=>Ed k l s (i:Int)) (λ r=>r=(l,s,((i+tpl (l.drop i) s:Nat):Int))):=by
 intro n
 induction n with
 |zero=>
  intro i hd hi
  refine Tot.succ ?_
  simp only[Ed]
  refine H6b (by omega) (H1b ?_)
  rw[Wj (by omega)]
  rfl
 |succ n ih=>
  intro i hd hi
  have hlt:i<l.length:=by omega
  refine Tot.succ ?_
  simp only[Ed]
  refine H5b (by omega) (H5b (by omega) (H5b (by omega) ?_))
  rw[show toNat (i:Int)=i from Vc i,w64 (n:=(i:Int)+1) (by omega) (by omega),Ah (d:=Mu) hlt]
  have e0:l.getD i (⟨#[]⟩:ByteArray)=l.getD i Mu:=rfl
  rw[e0]
  have e1:tpl (l.getD i Mu::l.drop (i+1)) s=if tlt (l.getD i Mu) s then tpl (l.drop (i+1)) s+1 else 0:=by
   unfold tpl
   rw[Zp]
   split<;>rfl
  rw[e1]
  refine H7b (λ h=>?_) (λ h=>?_)
  ·have h':tlt (l.getD i Mu) s=true:=h
   rw[if_pos h']
   refine(ih (i+1) (by omega) (by omega)).mono ?_
   rintro r rfl
   rw[show i+1+tpl (l.drop (i+1)) s=i+(tpl (l.drop (i+1)) s+1) by omega]
  ·have h':¬ (tlt (l.getD i Mu) s=true):=by
    have:tlt (l.getD i Mu) s=false:=h
    rw[this];simp
   rw[if_neg h']
   exact H1b rfl
def E9a (l:List ByteArray) (s:ByteArray) (hf:l.length≤1000000000):Tot (λ k=>Ha k l s) (λ r=>r=wt l s):=by
 unfold Ha
 refine H2b (Xa l s (by omega) _ 0 rfl (Vp _)) ?_
 intro r hr
 rw[Wo,Wk]at hr
 subst hr
 have hj:=Zca l s
 generalize hjj:tpl l s=j at *
 dsimp only
 have hno:¬ (j<l.length∧teq (l.getD j Mu) s=true)→Tot (λ k=>cond (decide ((0:Int)≤(j:Int))) (cond (decide ((j:Int)≤(length l:Int))) (cond (Nat.ble ((length ([]:List ByteArray)+length (List.take (toNat (j:Int)) l))*16) 140737488355328) (let v3:List ByteArray:=([]:List ByteArray)++(List.take (toNat (j:Int)) l);cond (Nat.ble ((length v3+length [s])*16) 140737488355328) (cond (decide ((0:Int)≤(j:Int))) (cond (decide ((j:Int)≤(length l:Int))) (cond (Nat.ble ((length (v3++[s])+length (List.drop (toNat (j:Int)) l))*16) 140737488355328) (some ((v3++[s])++(List.drop (toNat (j:Int)) l))) none) none) none) none) none) none) none)
   (λ r=>r=wt l s):=by
  intro hn
  refine H5b (by omega) (H5b (by omega) ?_)
  rw[show toNat (j:Int)=j from Vc j]
  refine H9b (by simp only[Vk,Vq];omega) ?_
  refine H9b (by simp only[Ve,Vk,Vq,Vd];omega) ?_
  refine H5b (by omega) (H5b (by omega) (H9b (by simp only[Ve,Vk,Vq,Wc,Vd];omega) (H1b ?_)))
  unfold wt
  rw[hjj,if_neg hn,Vy]
 refine H8b (λ h=>?_) (λ h=>hno (λ hh=>h (by omega)))
 refine H5b (by omega) (H5b h ?_)
 rw[show toNat (j:Int)=j from Vc j]at *
 refine H7b (λ he=>H1b ?_) (λ he=>hno (λ hh=>?_))
 ·unfold wt
  rw[hjj,if_pos ⟨by omega,he⟩]
 ·have h2:teq (l.getD j Mu) s=false:=he
  rw[h2]at hh
  cases hh.2
def Gza {l:List ByteArray} {s y:ByteArray}:y∈wt l s↔y=s∨y∈l:=by
 unfold wt
 by_cases h:tpl l s<l.length∧teq (l.getD (tpl l s) Mu) s=true
 ·rw[if_pos h]
  refine⟨.inr,λ h'=>?_⟩
  rcases h' with rfl|h'
  ·have:=A3 (d:=Mu) h.1
   rwa [Cu.1 h.2]at this
  ·exact h'
 ·rw[if_neg h]
  have e:l.take (tpl l s)++l.drop (tpl l s)=l:=Wl _ _
  constructor
  ·intro h'
   rw[Vo]at h'
   rcases Vn.1 h' with h'|h'
   ·right;rw[← e];exact Wb _ h'
   ·rcases Vn.1 h' with h'|h'
    ·left;simpa using h'
    ·right;rw[← e];exact Vt _ h'
  ·rintro (rfl|h')
   ·simp
   ·rw[← e]at h'
    rcases Vn.1 h' with h'|h'<;>simp[h']
def Mga (p:ByteArray→Bool):∀ l:List ByteArray,l.take (l.takeWhile p).length=l.takeWhile p∧l.drop (l.takeWhile p).length=l.dropWhile p
 |[]=>⟨rfl,rfl⟩
 |y::l=>by
  obtain⟨h1,h2⟩:=Mga p l
  simp only[Zp,Itb]
  cases p y with
  |true=>simp[h1,h2]
  |false=>simp
def Cta {p:ByteArray→Bool}:∀ {l:List ByteArray} {y:ByteArray},y∈l.takeWhile p→p y=true
 |[],y,h=>by simp at h
 |z::l,y,h=>by
  simp only[Zp]at h
  cases hz:p z
  ·rw[hz]at h;simp at h
  rw[hz]at h
  simp only[if_true]at h
  rcases Vl.1 h with rfl|h
  ·exact hz
  ·exact Cta h
def Apa {s:ByteArray}:∀ {l:List ByteArray},TS l→(∀ y r,l.dropWhile (λ y=>tlt y s)=y::r→y≠s)→∀ z∈l.dropWhile (λ y=>tlt y s),tlt s z=true
 |[],_,_,z,hz=>by simp at hz
 |y::l,hs,hn,z,hz=>by
  obtain⟨h1,h2⟩:=Wh.1 hs
  simp only[Itb]at hz hn
  cases hy:tlt y s with
  |true=>
   rw[hy]at hz hn
   simp only[if_true]at hz hn
   exact Apa h2 hn z hz
  |false=>
   rw[hy]at hz hn
   simp only[Xs,if_false]at hz hn
   have hxy:tlt s y=true:=by
    cases hh:tlt s y with
    |true=>rfl
    |false=>exact absurd (Aca hy hh) (hn y l rfl)
   rcases Vl.1 hz with rfl|hz
   ·exact hxy
   ·exact Mh hxy (h1 z hz)
def R9 {l:List ByteArray} {s:ByteArray} (hs:TS l):TS (wt l s):=by
 unfold wt
 by_cases h:tpl l s<l.length∧teq (l.getD (tpl l s) Mu) s=true
 ·rw[if_pos h];exact hs
 ·rw[if_neg h]
  obtain⟨e1,e2⟩:=Mga (λ y=>tlt y s) l
  have hd:∀ y r,l.dropWhile (λ y=>tlt y s)=y::r→y≠s:=by
   intro y r hr hy
   rw[← e2]at hr
   have hlt:tpl l s<l.length:=by
    rcases Ivb (tpl l s) l.length with h'|h'
    ·exact h'
    ·have:l.drop (tpl l s)=[]:=Wj h'
     unfold tpl at this
     rw[this]at hr
     cases hr
   have:l.drop (tpl l s)=l.getD (tpl l s) Mu::l.drop (tpl l s+1):=Ah hlt
   unfold tpl at this
   rw[this]at hr
   simp only[Yn]at hr
   exact h ⟨hlt,Cu.2 (hr.1.trans hy)⟩
  have e1':l.take (tpl l s)=l.takeWhile (λ y=>tlt y s):=e1
  have e2':l.drop (tpl l s)=l.dropWhile (λ y=>tlt y s):=e2
  rw[e1',e2',Vo]
  have hs':TS (l.takeWhile (λ y=>tlt y s)++l.dropWhile (λ y=>tlt y s)):=by rw[Icb];exact hs
  obtain⟨h1,h2,h3⟩:=Zg.1 hs'
  refine Zg.2 ⟨h1,Wh.2 ⟨λ z hz=>Apa hs hd z hz,h2⟩,λ a ha b hb=>?_⟩
  rcases Vl.1 hb with rfl|hb
  ·exact Cta (p:=λ y=>tlt y b) ha
  ·exact h3 a ha b hb

def H0a {l:List ByteArray} {s:ByteArray}:(wt l s).length≤l.length+1:=by
 unfold wt
 have:=Zca l s
 split
 ·omega
 ·simp only[Ve,Vq,Wc,Vd,Vk];omega

section
variable {α σ R:Type} {a b:α} {p:Prop} [Decidable p]
def dT (h:p):cond (decide p) a b=a:=by rw[decide_eq_true h];rfl
def dF (h:¬ p):cond (decide p) a b=b:=by rw[decide_eq_false h];rfl
def bT {m n:Nat} (h:m≤n):cond (Nat.ble m n) a b=a:=by rw[Zo h];rfl
def Hab {L:Nat→Int→σ→Option R} {Q:R→Prop} (n:Nat) (I:Nat→σ→Prop) (hend:∀ s,I n s→Tot (λ k=>L (k+1) (n:Int) s) Q)
  (Bqa:∀ i s,i<n→I i s→(∀ s',I (i+1) s'→Tot (λ k=>L k ((i:Int)+1) s') Q)→Tot (λ k=>L (k+1) (i:Int) s) Q):
  ∀ (i:Nat) (s:σ),i≤n→I i s→Tot (λ k=>L k (i:Int) s) Q:=by
 suffices h:∀ (m i:Nat) (s:σ),n-i=m→i≤n→I i s→Tot (λ k=>L k (i:Int) s) Q from λ i s hi hs=>h _ i s rfl hi hs
 intro m
 induction m with
 |zero=>
  intro i s hm hi hs
  obtain rfl:i=n:=by omega
  exact Tot.succ (hend s hs)
 |succ m ih=>
  intro i s hm hi hs
  refine Tot.succ (Bqa i s (by omega) hs λ s' hs'=>?_)
  have:=ih (i+1) s' (by omega) (by omega) hs'
  rwa [show (((i+1:Nat)):Int)=(i:Int)+1 by omega]at this
end
def cst (x:BitVec 32):BitVec 32:=if x.getLsbD 0 then (x >>> 1) ^^^ 2197175160#32 else x >>> 1
def Bna:Nat→BitVec 32→BitVec 32
 |0,x=>x
 |n+1,x=>Bna n (cst x)
def cby (x:BitVec 32) (b:Int):BitVec 32:=Bna 8 (x ^^^ ofInt 32 b)
def Dab (l:List Int):BitVec 32 := ~~~ (l.foldl cby 4294967295#32)
def crc (l:List Int):Int:=((Dab l).toNat:Int)
def Gnb (v:BitVec 32):v.getLsbD 0=decide (v.toNat % 2=1):=by
 rw[BitVec.getLsbD,Nat.testBit_zero]
def Jsa (v:BitVec 32):ofInt (IntKind.bits .u32) (v.toNat:Int)=v:=by
 show ofInt 32 (v.toNat:Int)=v
 rw[BitVec.ofInt_natCast,BitVec.ofNat_toNat,BitVec.setWidth_eq]
def Jta (n:Nat) (h:n<4294967296):(ofInt (IntKind.bits .i64) (n:Int)).toNat=n:=R8 n (by omega)
def G5b (v:BitVec 32):wrap .u32 (v.toNat:Int)=(v.toNat:Int):=K5b _ ⟨by omega,by have:=v.isLt;omega⟩
def sh1 (v:BitVec 32):Int.fdiv (v.toNat:Int) 2=((v >>> 1).toNat:Int):=by
 rw[Hmb _ (by omega),BitVec.toNat_ushiftRight,Nat.shiftRight_eq_div_pow]
 omega
def G6b (v:BitVec 32):((wrap .u32 ((ofInt (IntKind.bits .u32) (v.toNat:Int) &&& ofInt (IntKind.bits .u32) 1).toNat))==1)=v.getLsbD 0:=by
 show (wrap .u32 (((ofInt 32 (v.toNat:Int) &&& ofInt 32 1).toNat:Nat):Int)==1)=_
 rw[show ofInt 32 (v.toNat:Int)=v from Jsa v,G5b,Gnb,Ipb,show (ofInt 32 1).toNat=1 from by decide,Nat.and_one_is_mod,Ilb,beq_iff_eq,decide_eq_true_iff]
 omega
def G7b (v:BitVec 32):((wrap .i64 ((ofInt (IntKind.bits .i64) (v.toNat:Int) &&& ofInt (IntKind.bits .i64) 1).toNat))==1)=v.getLsbD 0:=by
 have:=v.isLt
 rw[Gnb,Ipb,Jta _ v.isLt,show (ofInt (IntKind.bits .i64) 1).toNat=1 from by decide,Nat.and_one_is_mod,w64 (by omega) (by omega),Ilb,beq_iff_eq,decide_eq_true_iff]
 omega
def G8b (v w:BitVec 32) (x:Int) (h:ofInt 32 x=w):wrap .u32 ((ofInt (IntKind.bits .u32) (v.toNat:Int) ^^^ ofInt (IntKind.bits .u32) x).toNat)=((v ^^^ w).toNat:Int):=by
 show wrap .u32 (((ofInt 32 (v.toNat:Int) ^^^ ofInt 32 x).toNat:Nat):Int)=_
 rw[show ofInt 32 (v.toNat:Int)=v from Jsa v,h]
 exact G5b _
def Fpb (v w:BitVec 32):wrap .i64 ((ofInt (IntKind.bits .i64) (v.toNat:Int) ^^^ ofInt (IntKind.bits .i64) (w.toNat:Int)).toNat)=((v ^^^ w).toNat:Int):=by
 have:=(v ^^^ w).isLt
 rw[BitVec.toNat_xor,Jta _ v.isLt,Jta _ w.isLt,← BitVec.toNat_xor]
 exact w64 (by omega) (by omega)
def Gob (K:IntKind) (h:1≤IntKind.bits K):(2:Int) ^ (min (toNat 1) (IntKind.bits K))=2:=by
 rw[show toNat 1=1 from rfl,Zx h];rfl
def Oqa (l:List Int) (x8 x9:Int):∀ (n:Nat) (v:BitVec 32) (i:Int),0≤i→8-i=n→Tot (λ k=>J9 k (v.toNat:Int) l x8 x9 i) (λ r=>r=(((Bna n v).toNat:Int),l,x8,x9)):=by
 intro n
 induction n with
 |zero=>
  intro v i h0 hn
  refine Tot.succ ?_
  simp only[J9]
  exact H6b (by omega) (H1b rfl)
 |succ n ih=>
  intro v i h0 hn
  refine Tot.succ ?_
  simp only[J9]
  refine H5b (by omega) ?_
  rw[w64 (n:=i+1) (by omega) (by omega),G6b,Gob _ (by decide),sh1,G8b _ 2197175160#32 _ (by decide)]
  have e:Bna (n+1) v=Bna n (cst v):=rfl
  rw[e]
  refine H7b (λ h=>?_) (λ h=>?_)
  ·have:=ih (v >>> 1 ^^^ 2197175160#32) (i+1) (by omega) (by omega)
   rwa [show v >>> 1 ^^^ 2197175160#32=cst v by unfold cst;rw[if_pos h]]at this ⊢
  ·have:=ih (v >>> 1) (i+1) (by omega) (by omega)
   rwa [show v >>> 1=cst v by unfold cst;rw[if_neg (by rw[h];simp)]]at this ⊢
def Jua (l:List Int) (x4:Int):∀ (n:Nat) (v:BitVec 32) (i:Int),0≤i→8-i=n→Tot (λ k=>Ja k l (v.toNat:Int) x4 i) (λ r=>r=(l,((Bna n v).toNat:Int),x4)):=by
 intro n
 induction n with
 |zero=>
  intro v i h0 hn
  refine Tot.succ ?_
  simp only[Ja]
  exact H6b (by omega) (H1b rfl)
 |succ n ih=>
  intro v i h0 hn
  refine Tot.succ ?_
  simp only[Ja]
  have hp:(2197175160:Int)=((2197175160#32:BitVec 32).toNat:Int):=by decide
  refine H5b (by omega) ?_
  rw[w64 (n:=i+1) (by omega) (by omega),G7b,Gob _ (by decide),sh1,hp,Fpb]
  have e:Bna (n+1) v=Bna n (cst v):=rfl
  rw[e]
  refine H7b (λ h=>?_) (λ h=>?_)
  ·have:=ih (v >>> 1 ^^^ 2197175160#32) (i+1) (by omega) (by omega)
   rwa [show v >>> 1 ^^^ 2197175160#32=cst v by unfold cst;rw[if_pos h]]at this ⊢
  ·have:=ih (v >>> 1) (i+1) (by omega) (by omega)
   rwa [show v >>> 1=cst v by unfold cst;rw[if_neg (by rw[h];simp)]]at this ⊢
def Mha {b:Int} (h:0≤b∧b≤255):b=((ofInt 32 b).toNat:Int):=by
 rw[J1b]
 omega
def C1b (l:List Int) (hb:Al l) (hl:l.length≤1000000000000):Tot (λ k=>Lz k l) (λ r=>r=crc l):=by
 unfold Lz
 refine H2b (Q:=λ r=>r=(((l.foldl cby 4294967295#32).toNat:Nat):Int)) ?_ ?_
 ·have:=Hab (L:=λ k i s=>Ji k s l (l.length:Int) i) (Q:=λ r=>r=(((l.foldl cby 4294967295#32).toNat:Nat):Int)) l.length (λ i s=>∃ v:BitVec 32,s=(v.toNat:Int)∧(l.drop i).foldl cby v=l.foldl cby 4294967295#32) ?_ ?_ 0 4294967295 (Vp _) ⟨4294967295#32,by decide,by rw[Wo]⟩
  ·exact this
  ·rintro s ⟨v,rfl,hv⟩
   simp only[Ji]
   rw[We]at hv
   exact H6b (by omega) (H1b (by rw[← hv];rfl))
  ·rintro i s hi ⟨v,rfl,hv⟩ next
   simp only[Ji]
   have hx:=hb _ (A3 (d:=0) hi)
   refine H5b (by omega) (H5b (by omega) (H5b (by omega) ?_))
   rw[Vc,K5b _ ⟨hx.1,by omega⟩,G8b v _ _ rfl]
   refine Hdb (Oqa l _ _ 8 _ 0 (by decide) (by decide)) ?_
   simp only
   rw[w64 (n:=(i:Int)+1) (by omega) (by omega)]
   refine next _ ⟨_,rfl,?_⟩
   rw[Ah (d:=0) hi,Yr]at hv
   exact hv
 ·rintro r rfl
  refine H1b ?_
  unfold crc Dab
  have hm:ofInt 32 (if IntKind.signed .u32 then -1 else IntKind.max .u32)=BitVec.allOnes 32:=by decide
  have e:BitVec.allOnes 32 ^^^ l.foldl cby 4294967295#32 = ~~~ (l.foldl cby 4294967295#32):=by rw[Keb];exact BitVec.xor_allOnes
  show wrap .i64 (wrap .u32 (((ofInt 32 (if IntKind.signed .u32 then -1 else IntKind.max .u32) ^^^ ofInt 32 ((l.foldl cby 4294967295#32).toNat:Int)).toNat:Nat):Int))=_
  rw[show ofInt 32 ((l.foldl cby 4294967295#32).toNat:Int)=l.foldl cby 4294967295#32 from Jsa _,hm,e]
  have:=(~~~ (l.foldl cby 4294967295#32)).isLt
  rw[G5b,w64 (by omega) (by omega)]
def C2b (l:List Int) (hb:Al l) (hl:l.length≤1000000000000):Tot (λ k=>M0 k l) (λ r=>r=crc l):=by
 unfold M0
 refine H2b (Q:=λ r=>r=(((l.foldl cby 4294967295#32).toNat:Nat):Int)) ?_ ?_
 ·have:=Hab (L:=λ k i s=>Jl k l s i) (Q:=λ r=>r=(((l.foldl cby 4294967295#32).toNat:Nat):Int)) l.length (λ i s=>∃ v:BitVec 32,s=(v.toNat:Int)∧(l.drop i).foldl cby v=l.foldl cby 4294967295#32) ?_ ?_ 0 4294967295 (Vp _) ⟨4294967295#32,by decide,by rw[Wo]⟩
  ·exact this
  ·rintro s ⟨v,rfl,hv⟩
   simp only[Jl]
   rw[We]at hv
   exact H6b (by omega) (H1b (by rw[← hv];rfl))
  ·rintro i s hi ⟨v,rfl,hv⟩ next
   simp only[Jl]
   have hx:=hb _ (A3 (d:=0) hi)
   refine H5b (by omega) (H5b (by omega) (H5b (by omega) ?_))
   rw[Vc,w64 (n:=l.getD i 0) (by omega) (by omega),Mha hx,Fpb]
   refine Hdb (Jua l _ 8 _ 0 (by decide) (by decide)) ?_
   simp only
   rw[w64 (n:=(i:Int)+1) (by omega) (by omega)]
   refine next _ ⟨_,rfl,?_⟩
   rw[Ah (d:=0) hi,Yr]at hv
   exact hv
 ·rintro r rfl
  refine H1b ?_
  have hp:(4294967295:Int)=((BitVec.allOnes 32:BitVec 32).toNat:Int):=by decide
  rw[hp,Fpb,BitVec.xor_allOnes]
  rfl

def Sxa:Fil:=(((0:Int),((0:Int),(0:Int))),(false,([]:List Int)))
def F7 (f:Fil):Bool:=Hk f.1&&(decide ((f.2.2.length:Int)≤200)&&(!f.2.1||((f.2.2.length:Int)==0)))
def Eaa (f:Fil):Fe f=some (F7 f):=by
 unfold Fe F7
 rw[Afa]
 simp only[Vs]
 cases Hk f.1<;>cases decide ((length f.2.2:Int)≤200)<;>cases f.2.1<;>rfl
def Eba (f:Fil):Fh f=some (F7 f):=by
 unfold Fh F7
 rw[Aga]
 simp only[Vs]
 cases Hk f.1<;>cases decide ((length f.2.2:Int)≤200)<;>cases f.2.1<;>rfl
def J8 {f:Fil}:F7 f=true↔Hk f.1=true∧f.2.2.length≤200∧(f.2.1=true→f.2.2=[]):=by
 unfold F7
 rw[Va,Va,decide_eq_true_iff]
 have:(!f.2.1||((f.2.2.length:Int)==0))=true↔(f.2.1=true→f.2.2=[]):=by
  cases f.2.1 with
  |false=>simp
  |true=>simp
 rw[this]
 constructor
 ·rintro⟨h1,h2,h3⟩;exact⟨h1,by omega,h3⟩
 ·rintro⟨h1,h2,h3⟩;exact⟨h1,by omega,h3⟩
def Aqa (a b:Fil):Hm a b=some (sle b.1 a.1):=by unfold Hm;rw[Xq];rfl
def Sya (a b:Fil):Kj a b=some (sle b.1 a.1):=by unfold Kj;rw[M0a];rfl
def hdF (s:Stp) (d:Bool):List Int:=Pja s++Ou (Bm (E6a d))
def Ov (f:Fil):List Int:=hdF f.1 f.2.1++txt (L7 f.2.2)
def c4 (c:Int):List Int:=[wrap .u8 (Int.fdiv c (2 ^ (min (toNat 24) (IntKind.bits .i64)))),wrap .u8 (Int.fdiv c (2 ^ (min (toNat 16) (IntKind.bits .i64)))),wrap .u8 (Int.fdiv c (2 ^ (min (toNat 8) (IntKind.bits .i64)))),wrap .u8 c]
def Kg (f:Fil):List Int:=bif F7 f then Ov f++c4 (crc (Ov f)) else []
def Pf {a b:List Int} (ha:Al a) (hb:Al b):Al (a++b):=λ x hx=>(Vn.1 hx).elim (ha x) (hb x)
def Ra (n:Int):Al (Ou (Bm n)):=Oka _ (O3 n)
def Sza (s:Stp) (d:Bool):Al (hdF s d):=Pf (Pf (Ra _) (Pf (Ra _) (Ra _))) (Ra _)
def Q6 (f:Fil):Al (Ov f):=Pf (Sza _ _) (Pf (Ra _) (Cna _))
def X4a (c:Int):Al (c4 c):=by
 intro x hx
 simp only[c4,Vl,Hjb,or_false]at hx
 rcases hx with rfl|rfl|rfl|rfl<;>exact Gga _
def Ry (f:Fil):Al (Kg f):=by
 unfold Kg
 cases F7 f with
 |false=>intro x hx;simp at hx
 |true=>exact Pf (Q6 f) (X4a _)
def Jva (s:Stp) (d:Bool):(hdF s d).length≤20:=by
 have h1:=M7a s
 have h2:=(Ml (Bm (E6a d))).1
 unfold hdF
 rw[Ve]
 omega
def Ara (f:Fil):(Ov f).length≤25+f.2.2.length:=by
 have h1:=Jva f.1 f.2.1
 have h2:=Btb (L7 f.2.2)
 have h3:(L7 f.2.2).size=f.2.2.length:=Ns _
 unfold Ov
 rw[Ve]
 omega
def Xu (f:Fil):(Kg f).length≤229:=by
 unfold Kg
 cases h:F7 f
 ·simp
 have h1:=Ara f
 have h2:=(J8.1 h).2.1
 rw[cond_true,Ve]
 simp only[c4,Vd,Vk]
 omega
def Q7 (f:Fil):Tot (λ k=>Es k f) (λ r=>r=Kg f):=by
 unfold Es Kg
 refine Hdb (Heb (Q:=λ b=>b=F7 f) (Eaa f) rfl) ?_
 cases h:F7 f
 ·exact H4b rfl (H1b rfl)
 have h2:=(J8.1 h).2.1
 have h3:(L7 f.2.2).size=f.2.2.length:=Ns _
 have h4:=Jva f.1 f.2.1
 have h5:=Ara f
 refine H3b rfl (Hdb (Ola [] f.1 f.2.1 (by simp)) ?_)
 rw[Vy]
 refine Hdb (Wva _ _ (by unfold hdF at h4;omega) (by omega)) ?_
 have e:Pja f.1++Ou (Bm (E6a f.2.1))++txt (L7 f.2.2)=Ov f:=rfl
 rw[e]
 refine Hdb (C1b _ (Q6 f) (by omega)) ?_
 exact H9b (by simp only[Vd,Vk];omega) (H1b rfl)
def Asa (f:Fil):Tot (λ k=>Eu k f) (λ r=>r=Kg f):=by
 unfold Eu Kg
 refine Hdb (Heb (Q:=λ b=>b=F7 f) (Eba f) rfl) ?_
 cases h:F7 f
 ·exact H4b rfl (H1b rfl)
 have h2:=(J8.1 h).2.1
 have h3:(L7 f.2.2).size=f.2.2.length:=Ns _
 have h4:=Jva f.1 f.2.1
 have h5:=Ara f
 have h6:=M7a f.1
 refine H3b rfl (Hdb (Oma [] f.1 (by simp)) ?_)
 rw[Vy]
 refine Hdb (Heb (Q:=λ r=>r=E6a f.2.1) (Wya _) rfl) ?_
 refine Hdb (Ala _ _ (by omega)) ?_
 refine Hdb (Wwa _ _ (by unfold hdF at h4;omega) (by omega)) ?_
 have e:Pja f.1++Ou (Bm (E6a f.2.1))++txt (L7 f.2.2)=Ov f:=rfl
 rw[e]
 refine Hdb (C2b _ (Q6 f) (by omega)) ?_
 exact H9b (by simp only[Vd,Vk];omega) (H1b rfl)
def Ms (b:List Int):Option Fil:=(Qk b 0).bind λ a=>(M5a b a.2).bind λ t=>bif F7 (a.1.1,a.1.2,bytesOf t.1)&&decide (Kg (a.1.1,a.1.2,bytesOf t.1)=b) then some (a.1.1,a.1.2,bytesOf t.1) else none
def Sz (b:List Int):Fil×Bool:=match Ms b with
 |some f=>(f,true)
 |none=>(Sxa,false)
def T0a {b:List Int} {f:Fil} (h:Ms b=some f):F7 f=true∧Al f.2.2∧Kg f=b:=by
 unfold Ms at h
 simp only[J0b]at h
 obtain⟨a,_,t,_,h⟩:=h
 cases hc:(F7 (a.1.1,a.1.2,bytesOf t.1)&&decide (Kg (a.1.1,a.1.2,bytesOf t.1)=b))
 ·rw[hc]at h;cases h
 rw[hc]at h
 simp only[cond_true,Vg]at h
 subst h
 rw[Va,decide_eq_true_iff]at hc
 exact⟨hc.1,Cna _,hc.2⟩
def T1a (s:Stp) (d:Bool) (rest:List Int) (h:Hk s=true):Qk (hdF s d++rest) 0=some ((s,d),(hdF s d).length):=by
 obtain⟨t,c,n⟩:=s
 unfold Hk at h
 simp only[Va,F9]at h
 obtain⟨⟨t0,t1⟩,⟨c0,c1⟩,n0,n1⟩:=h
 have ht:=Aja t0 t1
 have hc:=Aja c0 (show c≤1000000000 by omega)
 have hn:=Aja n0 (show n≤1000000000 by omega)
 have hbit:(((Bm (E6a d):Nat):Int)==1)=d:=by cases d<;>decide
 have hbit2:¬ (1<Bm (E6a d)):=by cases d<;>decide
 have k:∀ (a:List Int) (n:Nat) (b:List Int),n≤1000000000→Ox (a++(Ou n++b)) a.length=some (n,(a++Ou n).length):=λ a n b hn=>by rw[M3a a n b hn,Ve]
 have e0:hdF (t,c,n) d++rest=Ou (Bm t)++(Ou (Bm c)++(Ou (Bm n)++(Ou (Bm (E6a d))++rest))):=by
  unfold hdF Pja
  simp only[Vo]
 have el:(hdF (t,c,n) d).length=(Ou (Bm t)).length+(Ou (Bm c)).length+(Ou (Bm n)).length+(Ou (Bm (E6a d))).length:=by
  unfold hdF Pja
  simp only[Ve]
  omega
 have g1:=k [] (Bm t) (Ou (Bm c)++(Ou (Bm n)++(Ou (Bm (E6a d))++rest))) (O3 t)
 have g2:=k (Ou (Bm t)) (Bm c) (Ou (Bm n)++(Ou (Bm (E6a d))++rest)) (O3 c)
 have g3:=k (Ou (Bm t)++Ou (Bm c)) (Bm n) (Ou (Bm (E6a d))++rest) (O3 n)
 have g4:=k (Ou (Bm t)++Ou (Bm c)++Ou (Bm n)) (Bm (E6a d)) rest (O3 _)
 simp only[Vo,Vy,Vk]at g1 g2 g3 g4
 simp only[Ve]at g1 g2 g3 g4
 unfold Qk
 rw[e0,el]
 simp only[Zk]at g1 g2 g3 g4 ⊢
 simp only[g1,g2,g3,g4,Vs,decide_eq_false hbit2,cond_false]
 rw[ht,hc,hn,hbit]
def X5a {l:List Int} {q:Nat} {s:Stp} {d:Bool} (hb:Al l) (h:Qk l 0=some ((s,d),q)):l=hdF s d++l.drop q∧q≤l.length:=by
 unfold Qk at h
 simp only[J0b]at h
 obtain⟨⟨t,p2⟩,h2,⟨c,p3⟩,h3,⟨n,p4⟩,h4,⟨e,p5⟩,h5,h⟩:=h
 obtain⟨b1,b2,b3,b4⟩:=Sy hb h2
 obtain⟨c1,c2,c3,c4⟩:=Sy hb h3
 obtain⟨d1,d2,d3,d4⟩:=Sy hb h4
 obtain⟨e1,e2,e3,e4⟩:=Sy hb h5
 cases hd:decide (1<e)
 case true=>simp only[hd,cond_true]at h;cases h
 simp only[hd,cond_false,Vg,Vz]at h
 obtain⟨⟨⟨rfl,rfl,rfl⟩,rfl⟩,rfl⟩:=h
 have he:e≤1:=by
  have:=of_decide_eq_false hd
  omega
 have hbit:Bm (E6a ((e:Int)==1))=e:=by
  have:e=0∨e=1:=by omega
  rcases this with rfl|rfl<;>decide
 have k:∀ n:Nat,n≤1000000000→Bm (n:Int)=n:=λ n hn=>by unfold Bm;omega
 simp only at b1 b2 c1 c2 d1 d2 e1 e2
 refine⟨?_,e4⟩
 rw[Wo]at b1
 unfold hdF Pja
 simp only
 rw[k t b2,k c c2,k n d2,hbit,Vo,Vo,Vo,← e1,← d1,← c1,← b1]
def U7 {f:Fil} (h:F7 f=true) (hb:Al f.2.2):Ms (Kg f)=some f:=by
 obtain⟨h1,h2,h3⟩:=J8.1 h
 have e:Kg f=hdF f.1 f.2.1++(txt (L7 f.2.2)++c4 (crc (Ov f))):=by
  unfold Kg
  rw[h,cond_true]
  unfold Ov
  rw[Vo]
 have g1:=T1a f.1 f.2.1 (txt (L7 f.2.2)++c4 (crc (Ov f))) h1
 have g2:=Wxa (hdF f.1 f.2.1) (L7 f.2.2) (c4 (crc (Ov f))) (by rw[Ns];omega)
 rw[← e]at g1 g2
 unfold Ms
 simp only[g1,g2,Vs]
 rw[Nr hb]
 have e1:(f.1,f.2.1,f.2.2)=f:=rfl
 rw[e1,h,decide_eq_true rfl]
 rfl
def U8 {a b:List Int} (ha:Al a) (hb:Al b):((L7 a).toList==(L7 b).toList)=decide (a=b):=by
 have:teq (L7 a) (L7 b)=decide (a=b):=by
  rw[Ilb,Cu,decide_eq_true_iff]
  constructor
  ·intro h
   have:=congrArg bytesOf h
   rwa [Nr ha,Nr hb]at this
  ·rintro rfl;rfl
 exact this
def X6a (l:List Int) (hb:Al l) (hl:l.length≤1000000000000) (p:Int) (hp:p≤1000000000000):
  Tot (λ k=>Cp k (l,p,true)) (λ r=>r=((⟨#[]⟩:ByteArray),l,p,true)):=by
 unfold Cp
 refine Hdb (M6a l hb hl p hp) ?_
 exact H4b rfl (H1b rfl)
def X7a {f:Fil}:(((Kg f).length:Int)==0) = !(F7 f):=by
 unfold Kg
 cases h:F7 f
 ·rfl
 rw[cond_true,Ve,Yw,beq_eq_false_iff_ne]
 simp only[c4,Vd,Vk]
 omega
def Q8 (b:List Int) (hb:Al b) (hl:b.length≤1000000000000):Tot (λ k=>Dy k b) (λ r=>r=Sz b):=by
 unfold Dy
 refine H2b (G4b b hb hl 0 (Vp _) false) ?_
 rintro r (⟨_,⟨s,d⟩,q,h1,h2,rfl⟩|⟨h1,s,d,q,h2,rfl⟩)
 ·refine H2b (G3b b hb hl q h2) ?_
  rintro r (⟨t,q2,h3,h4,rfl⟩|⟨h3,rfl⟩)
  ·have hsz:=(Jma hb h3).2.1
   refine H9b (by dsimp only;omega) (Hdb (Q7 _) ?_)
   refine H3b rfl ?_
   have e:Sz b=bif F7 (s,d,bytesOf t)&&decide (Kg (s,d,bytesOf t)=b) then ((s,d,bytesOf t),true) else (Sxa,false):=by
    unfold Sz Ms
    simp only[h1,h3,Vs]
    cases F7 (s,d,bytesOf t)&&decide (Kg (s,d,bytesOf t)=b)<;>rfl
   simp only
   rw[e,X7a]
   cases hf:F7 (s,d,bytesOf t)
   ·exact H4b rfl (H1b rfl)
   refine H3b rfl ?_
   rw[U8 (Ry _) hb]
   cases decide (Kg (s,d,bytesOf t)=b) with
   |false=>exact H4b rfl (H1b rfl)
   |true=>exact H3b rfl (H1b rfl)
  ·refine H9b (Vp _) (Hdb (Q7 _) ?_)
   refine H4b rfl (H1b ?_)
   unfold Sz Ms
   simp only[h1,h3,Vs,I0b]
   rfl
 ·refine Hdb (X6a b hb hl q (by omega)) ?_
  refine H9b (Vp _) (Hdb (Q7 _) ?_)
  refine H4b rfl (H1b ?_)
  unfold Sz Ms
  simp only[h1.resolve_left (by simp),I0b]
  rfl
def Ata (b:List Int) (hb:Al b) (hl:b.length≤1000000000000):Tot (λ k=>Ge k b) (λ r=>r=Sz b):=by
 have none_of:Ms b=none→Sz b=(Sxa,false):=λ h=>by unfold Sz;rw[h]
 unfold Ge
 refine H2b (Bub b hb hl 0) ?_
 rintro r (⟨n1,p1,n2,p2,n3,p3,_,g1,g2,g3,rfl⟩|⟨h,hr⟩)
 ·refine Hdb (V9 b hb hl (p3:Int)) ?_
  rw[Xt]
  have g1':Ox b 0=some (n1,p1):=g1
  cases g4:Ox b p3 with
  |none=>
   refine Hdb (E5a b hb hl 0) ?_
   refine H3b rfl (H4b rfl (H1b (none_of ?_).symm))
   unfold Ms Qk
   simp only[g1',g2,g3,g4,Vs,I0b]
  |some x=>
   obtain⟨n4,p4⟩:=x
   simp only
   have es:Qk b 0=bif decide (1<n4) then none else some ((((n1:Int),(n2:Int),(n3:Int)),(n4:Int)==1),p4):=by
    unfold Qk
    simp only[g1',g2,g3,g4,Vs]
   refine Hdb (E5a b hb hl (p4:Int)) ?_
   rw[M8a]
   refine H3b rfl (H3b rfl ?_)
   cases g5:M5a b p4 with
   |none=>
    refine H4b rfl (H1b (none_of ?_).symm)
    unfold Ms
    rw[es]
    cases decide (1<n4) with
    |true=>rfl
    |false=>simp only[cond_false,Vs,g5,I0b]
   |some y=>
    obtain⟨t,q⟩:=y
    refine H3b rfl (H8b (λ h=>H1b (none_of ?_).symm) (λ h=>?_))
    ·unfold Ms
     rw[es,decide_eq_true (by omega)]
     rfl
    ·rw[decide_eq_false (by omega),cond_false]at es
     have hq:=Jma hb g5
     simp only
     rw[w64 (n:=(q:Int)+4) (by omega) (by omega)]
     have ef:Ms b=bif F7 (((n1:Int),(n2:Int),(n3:Int)),(n4:Int)==1,bytesOf t)&&decide (Kg (((n1:Int),(n2:Int),(n3:Int)),(n4:Int)==1,bytesOf t)=b) then some (((n1:Int),(n2:Int),(n3:Int)),(n4:Int)==1,bytesOf t) else none:=by
      unfold Ms
      simp only[es,g5,Vs]
     refine H7b (λ h4=>H1b (none_of ?_).symm) (λ h4=>?_)
     ·rw[ef]
      cases hc:(F7 (((n1:Int),(n2:Int),(n3:Int)),(n4:Int)==1,bytesOf t)&&decide (Kg (((n1:Int),(n2:Int),(n3:Int)),(n4:Int)==1,bytesOf t)=b))
      ·rfl
      exfalso
      rw[Va,decide_eq_true_iff]at hc
      have a1:=(X5a hb es).1
      rw[hq.1]at a1
      have a2:=hc.2
      unfold Kg at a2
      rw[hc.1,cond_true]at a2
      unfold Ov at a2
      simp only at a2
      rw[U4,Vo]at a2
      rw[← a2]at a1
      have a3:=K7b (K7b a1)
      have a4:=congrArg length a3
      rw[a2,Wc]at a4
      simp only[c4,Vd,Vk]at a4
      have:(q:Int)+4=(b.length:Int):=by omega
      simp[this]at h4
     ·refine H9b (by simp only[Vk];omega) ?_
      rw[Vy]
      refine Hdb (Heb (Q:=λ r=>r=F7 (((n1:Int),(n2:Int),(n3:Int)),(n4:Int)==1,bytesOf t)) (Eba _) rfl) ?_
      unfold Sz
      rw[ef]
      cases hf:F7 (((n1:Int),(n2:Int),(n3:Int)),(n4:Int)==1,bytesOf t)
      ·exact H4b rfl (H1b rfl)
      refine H3b rfl (Hdb (Asa _) ?_)
      rw[U8 (Ry _) hb,Vx]
      cases decide (Kg (((n1:Int),(n2:Int),(n3:Int)),(n4:Int)==1,bytesOf t)=b) with
      |false=>exact H4b rfl (H1b rfl)
      |true=>exact H3b rfl (H1b rfl)
 ·obtain⟨r1,r2,r3⟩:=r
  simp only at hr
  subst hr
  refine Hdb (V9 b hb hl _) ?_
  refine Hdb (E5a b hb hl _) ?_
  refine H4b rfl (H1b (none_of ?_).symm)
  unfold Ms
  rw[Sna (p:=0) (h.resolve_right (by omega))]
  rfl

def gt (l:List Nmd) (s:ByteArray):Option (List Int):=match fnd l s with
 |some i=>some (l.getD i Dc).2
 |none=>none
def Jwa (y:Nmd) (l:List Nmd) (s:ByteArray):gt (y::l) s=if y.1=s then some y.2 else gt l s:=by
 unfold gt
 rw[Mea]
 by_cases h:y.1=s
 ·rw[if_pos (Cu.2 h),if_pos h];rfl
 ·rw[if_neg (λ c=>h (Cu.1 c)),if_neg h]
  cases fnd l s<;>rfl
def O5 {l:List Nmd} {s:ByteArray} {b:List Int} (h:gt l s=some b):(s,b)∈l:=by
 induction l with
 |nil=>cases h
 |cons y l ih=>
  rw[Jwa]at h
  by_cases e:y.1=s
  ·rw[if_pos e]at h
   cases h
   subst e
   exact Ya
  ·rw[if_neg e]at h
   exact Vh _ (ih h)
def N7 {l:List Nmd} {s:ByteArray}:gt l s=none↔∀ x∈l,x.1≠s:=by
 rw[← X0a]
 unfold gt
 cases fnd l s with
 |none=>simp
 |some i=>simp
def Eca {l:List Nmd} (hs:D0 l) {x:Nmd} (hx:x∈l):gt l x.1=some x.2:=by
 cases h:gt l x.1 with
 |none=>exact absurd rfl (N7.1 h x hx)
 |some b=>rw[show x=(x.1,b) from C0b hs hx (O5 h) rfl]
def H1a {l:List Nmd} (hs:D0 l) {s:ByteArray} {b:List Int}:gt l s=some b↔(s,b)∈l:=⟨O5,λ h=>Eca hs h⟩
def Aua {l:List Nmd} {s:ByteArray}:(gt l s).isSome=(fnd l s).isSome:=by
 unfold gt
 cases fnd l s<;>rfl
def Sf {l:List Nmd} (hs:D0 l) {s t:ByteArray}:gt (cut l s) t=if s=t then none else gt l t:=by
 by_cases h:s=t
 ·subst h
  rw[if_pos rfl,N7]
  exact Wx
 ·rw[if_neg h]
  cases hg:gt l t with
  |none=>exact N7.2 λ x hx=>N7.1 hg x (O4.subset hx)
  |some b=>
   rw[H1a (M4 hs)]
   refine Ibb.2 ⟨O5 hg,?_⟩
   cases ht:teq t s with
   |false=>simp[ht]
   |true=>exact absurd (Cu.1 ht).symm h
def Zda {l:List Nmd} (hs:D0 l) {x:Nmd} (hn:∀ y∈l,y.1≠x.1) {t:ByteArray}:gt (ins l x) t=if x.1=t then some x.2 else gt l t:=by
 have hi:=Pe hs hn
 by_cases h:x.1=t
 ·subst h
  rw[if_pos rfl,H1a hi]
  exact W0.2 (.inl rfl)
 ·rw[if_neg h]
  cases hg:gt l t with
  |none=>
   refine N7.2 λ y hy=>?_
   rcases W0.1 hy with rfl|hy
   ·exact h
   ·exact N7.1 hg y hy
  |some b=>
   rw[H1a hi]
   exact W0.2 (.inr (O5 hg))
def Zea:∀ {l m:List Nmd},D0 l→D0 m→(∀ s,gt l s=gt m s)→l=m:=by
 have key:∀ {l m:List Nmd},D0 l→D0 m→(∀ s,gt l s=gt m s)→∀ x∈l,x∈m:=λ hl hm h x hx=>by
  have:=h x.1
  rw[Eca hl hx]at this
  exact O5 this.symm
 intro l m hl hm h
 have h1:∀ x,x∈l↔x∈m:=λ x=>⟨key hl hm h x,key hm hl (λ s=>(h s).symm) x⟩
 clear h key
 induction l generalizing m with
 |nil=>
  cases m with
  |nil=>rfl
  |cons y m=>exact absurd ((h1 y).2 (by simp)) (by simp)
 |cons x l ih=>
  cases m with
  |nil=>exact absurd ((h1 x).1 (by simp)) (by simp)
  |cons y m=>
   obtain⟨a1,a2⟩:=Wh.1 hl
   obtain⟨b1,b2⟩:=Wh.1 hm
   have e:x=y:=by
    rcases Vl.1 ((h1 x).1 (by simp)) with h|h
    ·exact h
    ·rcases Vl.1 ((h1 y).2 (by simp)) with h'|h'
     ·exact h'.symm
     ·have c1:=a1 y h'
      rw[Tv (b1 x h)]at c1
      cases c1
   subst e
   congr 1
   refine ih a2 b2 λ z=>⟨λ hz=>?_,λ hz=>?_⟩
   ·rcases Vl.1 ((h1 z).1 (Vh _ hz)) with rfl|h
    ·have c:=a1 z hz
     rw[Hs]at c
     cases c
    ·exact h
   ·rcases Vl.1 ((h1 z).2 (Vh _ hz)) with rfl|h
    ·have c:=b1 z hz
     rw[Hs]at c
     cases c
    ·exact h
def T2a (l:List Nmd) (s:ByteArray):rdN l s=match gt l s with|some b=>(b,true)|none=>([],false):=by
 unfold rdN gt
 cases fnd l s<;>rfl
def Ib {s:ByteArray} (h:B0 s=true):Lb s:=by
 have:=(Ama h).2
 unfold Lb
 omega
def E7 {d:Dsk}:Ay d=true↔Il d.1=true∧Il d.2=true:=by
 unfold Ay
 rw[Va]
def Ka {d:Dsk} (h:Ay d=true):D0 d.1:=(Ap.1 (E7.1 h).1).1
def O6 {d:Dsk} (h:Ay d=true):D0 d.2:=(Ap.1 (E7.1 h).2).1
def LB (l:List Nmd):Prop:=∀ x∈l,Al x.2
def DB (d:Dsk):Prop:=LB d.1∧LB d.2
def LB.cut {l:List Nmd} (h:LB l) (s:ByteArray):LB (cut l s):=λ x hx=>h x (O4.subset hx)
def LB.ins {l:List Nmd} (h:LB l) {x:Nmd} (hx:Al x.2):LB (ins l x):=λ y hy=>by
 rcases W0.1 hy with rfl|hy
 ·exact hx
 ·exact h y hy
def LB.gt {l:List Nmd} (h:LB l) {s:ByteArray} {b:List Int} (hg:gt l s=some b):Al b:=h _ (O5 hg)
def Nf:Al []:=λ x hx=>by cases hx
def wr (l:List Nmd) (s:ByteArray) (b:List Int):List Nmd:=ins (cut l s) (s,b)
def sy (d:Dsk) (s:ByteArray):List Nmd:=match gt d.1 s with
 |some b=>wr d.2 s b
 |none=>cut d.2 s
def wrD (d:Dsk) (s:ByteArray) (b:List Int):Dsk×Bool:=bif decide (b.length≤400)&&decide ((wr d.1 s b).length≤60) then ((wr d.1 s b,d.2),true) else (d,false)
def syD (d:Dsk) (s:ByteArray):Dsk×Bool:=bif decide ((sy d s).length≤60) then ((d.1,sy d s),true) else (d,false)
def rmD (d:Dsk) (s:ByteArray):Dsk×Bool:=bif (gt d.1 s).isSome then ((cut d.1 s,d.2),true) else (d,false)
section
variable {d:Dsk} {s:ByteArray} {b:List Int}
def T3a (hd:Ay d=true):wrI d s b=wr d.1 s b:=by
 unfold wrI wr
 rw[Q5 (Ka hd)]
def T4a (hd:Ay d=true):syI d s=sy d s:=by
 unfold syI sy gt wr
 rw[Q5 (O6 hd)]
 cases fnd d.1 s<;>rfl
def Ora (hd:Ay d=true) (hs:B0 s=true) (hb:b.length≤1000000000000):Tot (λ k=>Dt k d s b) (λ r=>r=wrD d s b):=by
 refine(Swa d s b (No hd) (Ib hs) hb).mono ?_
 rintro r rfl
 rw[hd,hs,T3a hd]
 rfl
def Osa (hd:Ay d=true) (hs:B0 s=true) (hb:b.length≤1000000000000):Tot (λ k=>Dv k d s b) (λ r=>r=wrD d s b):=by
 refine(Sua d s b (No hd) (Ib hs) hb).mono ?_
 rintro r rfl
 obtain⟨h1,h2⟩:=Mfa (b:=b) hd hs
 rw[hd,hs,h1,h2,T3a hd]
 rfl
def H2a (hd:Ay d=true) (hs:B0 s=true):Tot (λ k=>C0 k d s) (λ r=>r=syD d s):=by
 refine(X3a d s (No hd) (Ib hs)).mono ?_
 rintro r rfl
 rw[hd,hs,T4a hd]
 rfl
def Ava (hd:Ay d=true) (hs:B0 s=true):Tot (λ k=>Bc k d s) (λ r=>r=syD d s):=by
 refine(X2a d s (No hd) (Ib hs)).mono ?_
 rintro r rfl
 rw[hd,hs,Bzb hd,Sva hd hs,T4a hd]
 rfl
def C3b (hd:Ay d=true) (hs:B0 s=true) (hb:b.length≤400) (hl:(wr d.1 s b).length≤60):Ay (wr d.1 s b,d.2)=true:=by
 have:=(Mfa (b:=b) hd hs).2
 rw[T3a hd,decide_eq_true hb,decide_eq_true hl]at this
 exact this
def G9b (hd:Ay d=true) (hs:B0 s=true) (hl:(sy d s).length≤60):Ay (d.1,sy d s)=true:=by
 have:=Sva hd hs
 rw[T4a hd,decide_eq_true hl]at this
 exact this
def T5a (hd:Ay d=true) (hs:B0 s=true):Ay (wrD d s b).1=true:=by
 unfold wrD
 cases hc:decide (b.length≤400)&&decide ((wr d.1 s b).length≤60)
 ·exact hd
 rw[Va,decide_eq_true_iff,decide_eq_true_iff]at hc
 exact C3b hd hs hc.1 hc.2
def Egb (hd:Ay d=true) (hs:B0 s=true):Ay (syD d s).1=true:=by
 unfold syD
 cases hc:decide ((sy d s).length≤60) with
 |false=>exact hd
 |true=>exact G9b hd hs (of_decide_eq_true hc)
def Zfa (hd:Ay d=true):Ay (rmD d s).1=true:=by
 unfold rmD
 cases (gt d.1 s).isSome with
 |false=>exact hd
 |true=>exact E7.2 ⟨Ww (E7.1 hd).1,(E7.1 hd).2⟩
def Ota (hd:Ay d=true) (h:(gt d.1 s).isSome=true):B0 s=true:=by
 cases hg:gt d.1 s with
 |none=>rw[hg]at h;cases h
 |some b=>exact(Q4.1 ((Ap.1 (E7.1 hd).1).2.1 _ (O5 hg))).1
def Jxa (hd:Ay d=true):Tot (λ k=>Ee k d s) (λ r=>r=rmD d s):=by
 refine(Opa d s (No hd).1).mono ?_
 rintro r rfl
 rw[hd,← Aua,Zz,Q5 (Ka hd)]
 rfl
def Awa (hd:Ay d=true) (hs:Lb s):Tot (λ k=>C8 k d s) (λ r=>r=rmD d s):=by
 refine(Ooa d s (No hd).1 hs).mono ?_
 rintro r rfl
 unfold rmD
 rw[hd,← Aua]
 cases h:(gt d.1 s).isSome
 ·rfl
 have h1:Ay (cut d.1 s,d.2)=true:=by
  have:=Zfa (s:=s) hd
  unfold rmD at this
  rw[h]at this
  exact this
 rw[Ota hd h,h1]
 rfl
end
def lkD (d:Dsk) (s:ByteArray):Fil×Int:=match gt d.1 s with
 |none=>(Sxa,1)
 |some b=>match Ms b with
  |some f=>(f,0)
  |none=>(Sxa,2)
def T6a {l:List Nmd} {s:ByteArray} {b:List Int} (h:Gqa l) (hg:gt l s=some b):b.length≤1000000000000:=h.2 _ (O5 hg)
def Eda {d:Dsk} (hf:Gqa d.1) (hb:LB d.1) (s:ByteArray):Tot (λ k=>Iq k d s) (λ r=>r=lkD d s):=by
 unfold Iq lkD
 refine Hdb (Mca d s hf) ?_
 rw[T2a]
 cases hg:gt d.1 s with
 |none=>exact H4b rfl (H1b rfl)
 |some b=>
  refine H3b rfl (Hdb (Q8 b (hb.gt hg) (T6a hf hg)) ?_)
  unfold Sz
  dsimp only
  cases Ms b with
  |none=>exact H4b rfl (H1b rfl)
  |some f=>exact H3b rfl (H1b rfl)
def Xv {d:Dsk} (hf:Gqa d.1) (hb:LB d.1) (s:ByteArray):Tot (λ k=>Ho k d s) (λ r=>r=lkD d s):=by
 unfold Ho lkD
 refine Hdb (Mda d s hf) ?_
 rw[T2a]
 cases hg:gt d.1 s with
 |none=>exact H4b rfl (H1b rfl)
 |some b=>
  refine H3b rfl (Hdb (Ata b (hb.gt hg) (T6a hf hg)) ?_)
  unfold Sz
  dsimp only
  cases Ms b with
  |none=>exact H4b rfl (H1b rfl)
  |some f=>exact H3b rfl (H1b rfl)
def O7 {d:Dsk} {s:ByteArray} {f:Fil}:lkD d s=(f,0)↔∃ b,gt d.1 s=some b∧Ms b=some f:=by
 unfold lkD
 cases gt d.1 s with
 |none=>simp
 |some b=>cases h:Ms b<;>simp[h]
def old (d:Dsk) (s:ByteArray):Option Fil:=(gt d.1 s).bind Ms
def kp1 (d:Dsk) (s:ByteArray) (f:Fil):Option (Dsk×Int):=
 let w:=bif (wrD d s (Kg f)).2 then some ((wrD d s (Kg f)).1,(0:Int)) else none
 match old d s with
 |some o=>bif sle o.1 f.1 then w else some (d,1)
 |none=>w
def kp2 (d:Dsk) (s:ByteArray) (sure:Bool) (x:Dsk×Int):Dsk×Int:=bif sure then (bif (syD x.1 s).2 then ((syD x.1 s).1,x.2) else (d,3)) else x
def Ls (d:Dsk) (s:ByteArray) (f:Fil) (sure:Bool):Dsk×Int:=match kp1 d s f with
 |some x=>kp2 d s sure x
 |none=>(d,3)
def keep (d:Dsk) (s:ByteArray) (f:Fil) (sure:Bool):Dsk×Int:=bif Ay d&&(B0 s&&F7 f) then Ls d s f sure else (d,2)
def X8a:Ms []=none:=by
 cases h:Ms [] with
 |none=>rfl
 |some f=>
  obtain⟨h1,_,h3⟩:=T0a h
  unfold Kg at h3
  rw[h1]at h3
  simp[c4]at h3
def Ehb {d:Dsk} {s:ByteArray} {f:Fil} (hd:Ay d=true) (hs:B0 s=true) {x:Dsk×Int} (h:kp1 d s f=some x):Ay x.1=true:=by
 have hw:∀ x,(bif (wrD d s (Kg f)).2 then some ((wrD d s (Kg f)).1,(0:Int)) else none)=some x→Ay x.1=true:=by
  intro x h
  cases hc:(wrD d s (Kg f)).2 with
  |false=>rw[hc]at h;cases h
  |true=>rw[hc]at h;cases h;exact T5a hd hs
 unfold kp1 at h
 simp only at h
 split at h
 ·rename_i o _
  cases hc:sle o.1 f.1 with
  |false=>rw[hc]at h;cases h;exact hd
  |true=>rw[hc]at h;exact hw _ h
 ·exact hw _ h
def Eib {d:Dsk} {s:ByteArray} (hd:Ay d=true) (hs:B0 s=true) {x:Dsk} {c:Int} (hx:Ay x=true) (sure:Bool):
  Tot (λ k=>cond sure ((C0 k x s).bind λ r=>cond (!r.2) ((A5 k d).bind λ q=>some (q,3)) (some (r.1,c))) (some (x,c))) (λ r=>r=kp2 d s sure (x,c)):=by
 unfold kp2
 cases sure
 ·exact H1b rfl
 refine H4b rfl (Hdb (H2a hx hs) ?_)
 cases h:(syD x s).2
 case true=>exact H3b rfl (H1b rfl)
 refine H4b rfl (Hdb (J5 d (No hd).1.1) ?_)
 exact H1b rfl
def X9a (d:Dsk) (s:ByteArray) (f:Fil) (sure:Bool) (hd:DIn d) (hb:LB d.1) (hs:Lb s):Tot (λ k=>Lt k d s f sure) (λ r=>r=keep d s f sure):=by
 have bad:Tot (λ k=>(A5 k d).bind λ r2=>some (r2,(2:Int))) (λ r=>r=(d,2)):=by
  refine Hdb (J5 d hd.1.1) ?_
  exact H1b rfl
 unfold Lt keep
 refine Hdb (Rx d hd.1.1 hd.1.2) ?_
 cases h1:Ay d
 ·exact H4b rfl bad
 refine H3b rfl (Hdb (Q1 s hs) ?_)
 cases h2:B0 s
 ·exact H4b rfl bad
 refine H3b rfl (Hdb (Heb (Q:=λ b=>b=F7 f) (Eaa f) rfl) ?_)
 cases h3:F7 f
 ·exact H4b rfl bad
 refine H3b rfl (Hdb (J5 d hd.1.1) ?_)
 refine Hdb (Mca d s hd.1.1.1) ?_
 have hlen:=Xu f
 have w:∀ {o:Option Fil},(kp1 d s f=bif (wrD d s (Kg f)).2 then some ((wrD d s (Kg f)).1,(0:Int)) else none)→Tot (λ k=>(Es k f).bind λ r13=>(Dt k d s r13).bind λ r14=>cond (!r14.2) ((A5 k d).bind λ r15=>some (r15,(3:Int))) (cond sure ((C0 k r14.1 s).bind λ r16=>cond (!r16.2) ((A5 k d).bind λ r17=>some (r17,3)) (some (r16.1,0))) (some (r14.1,0)))) (λ r=>r=Ls d s f sure):=by
  intro _ e
  refine Hdb (Q7 f) ?_
  refine Hdb (Ora h1 h2 (by omega)) ?_
  unfold Ls
  rw[e]
  cases h4:(wrD d s (Kg f)).2 with
  |false=>
   refine H4b rfl (Hdb (J5 d hd.1.1) ?_)
   exact H1b rfl
  |true=>exact H3b rfl (Eib h1 h2 (T5a h1 h2) sure)
 rw[T2a]
 have eo:old d s=(gt d.1 s).bind Ms:=rfl
 cases hg:gt d.1 s with
 |none=>
  rw[hg]at eo
  refine Hdb (Q8 [] Nf (by simp)) ?_
  unfold Sz
  rw[X8a]
  refine H3b rfl (w (o:=none) ?_)
  unfold kp1
  rw[eo]
  rfl
 |some b=>
  rw[hg]at eo
  have eo:old d s=Ms b:=eo
  refine Hdb (Q8 b (hb.gt hg) (T6a hd.1.1.1 hg)) ?_
  unfold Sz
  cases ho:Ms b with
  |none=>
   refine H3b rfl (w (o:=none) ?_)
   unfold kp1
   rw[eo,ho]
  |some o=>
   rw[ho]at eo
   refine H4b rfl (Hdb (Heb (Q:=λ b=>b=sle o.1 f.1) (Aqa f o) rfl) ?_)
   cases hl:sle o.1 f.1 with
   |true=>
    refine H3b rfl (w (o:=none) ?_)
    unfold kp1
    simp only[eo,hl,cond_true]
   |false=>
    have e1:Ls d s f sure=kp2 d s sure (d,1):=by
     unfold Ls kp1
     simp only[eo,hl,cond_false]
    refine H4b rfl ?_
    show Tot _ (λ r=>r=Ls d s f sure)
    rw[e1]
    exact Eib h1 h2 h1 sure
def Ejb {d:Dsk} {s:ByteArray} (hd:Ay d=true) (hs:B0 s=true) {x:Dsk} {c:Int} (hx:Ay x=true):
  Tot (λ k=>(Bc k x s).bind λ r=>cond (!r.2) ((A6 k d).bind λ q=>some (q,3)) (some (r.1,c))) (λ r=>r=kp2 d s true (x,c)):=by
 unfold kp2
 refine Hdb (Ava hx hs) ?_
 cases h:(syD x s).2
 case true=>exact H3b rfl (H1b rfl)
 refine H4b rfl (Hdb (Ll d (No hd).1.1) ?_)
 exact H1b rfl
def Mia (d:Dsk) (s:ByteArray) (f:Fil) (sure:Bool) (hd:DIn d) (hb:LB d.1) (hs:Lb s):Tot (λ k=>Jy k d s f sure) (λ r=>r=keep d s f sure):=by
 have bad:Tot (λ k=>(A6 k d).bind λ r2=>some (r2,(2:Int))) (λ r=>r=(d,2)):=by
  refine Hdb (Ll d hd.1.1) ?_
  exact H1b rfl
 unfold Jy keep
 refine Hdb (Q3 d hd.1.1 hd.1.2) ?_
 cases h1:Ay d
 ·exact H4b rfl bad
 refine H3b rfl (Hdb (U0 s hs) ?_)
 cases h2:B0 s
 ·exact H4b rfl bad
 refine H3b rfl (Hdb (Heb (Q:=λ b=>b=F7 f) (Eba f) rfl) ?_)
 cases h3:F7 f
 ·exact H4b rfl bad
 refine H3b rfl (Hdb (Xv hd.1.1.1 hb s) ?_)
 have hlen:=Xu f
 have w:(kp1 d s f=bif (wrD d s (Kg f)).2 then some ((wrD d s (Kg f)).1,(0:Int)) else none)→Tot (λ k=>(Eu k f).bind λ r12=>(Dv k d s r12).bind λ r13=>cond r13.2 (cond sure ((Bc k r13.1 s).bind λ r14=>cond (!r14.2) ((A6 k d).bind λ r15=>some (r15,(3:Int))) (some (r14.1,0))) (cond (!r13.2) ((A6 k d).bind λ r16=>some (r16,3)) (some (r13.1,0)))) (cond (!r13.2) ((A6 k d).bind λ r17=>some (r17,3)) (some (r13.1,0)))) (λ r=>r=Ls d s f sure):=by
  intro e
  refine Hdb (Asa f) ?_
  refine Hdb (Osa h1 h2 (by omega)) ?_
  unfold Ls
  rw[e]
  cases h4:(wrD d s (Kg f)).2 with
  |false=>
   refine H3b rfl (H4b rfl (Hdb (Ll d hd.1.1) ?_))
   exact H1b rfl
  |true=>
   refine H4b rfl ?_
   cases sure with
   |true=>exact H4b rfl (Ejb h1 h2 (T5a h1 h2))
   |false=>exact H3b rfl (H3b rfl (H1b rfl))
 have eo:old d s=(gt d.1 s).bind Ms:=rfl
 unfold lkD
 cases hg:gt d.1 s with
 |none=>
  rw[hg]at eo
  refine H3b rfl (w ?_)
  unfold kp1
  rw[eo]
  rfl
 |some b=>
  rw[hg]at eo
  have eo:old d s=Ms b:=eo
  simp only
  cases ho:Ms b with
  |none=>
   refine H3b rfl (w ?_)
   unfold kp1
   rw[eo,ho]
  |some o=>
   rw[ho]at eo
   refine H4b rfl (Hdb (Heb (Q:=λ b=>b=sle o.1 f.1) (Sya f o) rfl) ?_)
   cases hl:sle o.1 f.1 with
   |true=>
    refine H3b rfl (w ?_)
    unfold kp1
    simp only[eo,hl,cond_true]
   |false=>
    have e1:Ls d s f sure=kp2 d s sure (d,1):=by
     unfold Ls kp1
     simp only[eo,hl,cond_false]
    refine H4b rfl ?_
    show Tot _ (λ r=>r=Ls d s f sure)
    rw[e1]
    refine Hdb (Ll d hd.1.1) ?_
    cases sure with
    |true=>exact H4b rfl (Ejb h1 h2 h1)
    |false=>exact H3b rfl (H1b rfl)

def DG (d:Dsk):Prop:=Ay d=true∧DB d
def Zga {d:Dsk} {s:ByteArray} {b:List Int} (hd:Ay d=true) (h:gt d.1 s=some b):b.length≤400:=(Q4.1 ((Ap.1 (E7.1 hd).1).2.1 _ (O5 h))).2
def Ekb {d:Dsk} {s:ByteArray} {b:List Int} (h:DB d) (hb:Al b):DB (wrD d s b).1:=by
 unfold wrD
 cases decide (b.length≤400)&&decide ((wr d.1 s b).length≤60) with
 |false=>exact h
 |true=>exact⟨(h.1.cut s).ins hb,h.2⟩
def Gab {d:Dsk} {s:ByteArray} (h:DB d):LB (sy d s):=by
 unfold sy
 cases hg:gt d.1 s with
 |none=>exact h.2.cut s
 |some b=>exact(h.2.cut s).ins (h.1.gt hg)
def Elb {d:Dsk} {s:ByteArray} (h:DB d):DB (syD d s).1:=by
 unfold syD
 cases decide ((sy d s).length≤60) with
 |false=>exact h
 |true=>exact⟨h.1,Gab h⟩
def Emb {d:Dsk} {s:ByteArray} (h:DB d):DB (rmD d s).1:=by
 unfold rmD
 cases (gt d.1 s).isSome with
 |false=>exact h
 |true=>exact⟨h.1.cut s,h.2⟩
def Enb {d:Dsk} {s:ByteArray} (h:DG d) (hs:B0 s=true):DG (syD d s).1:=⟨Egb h.1 hs,Elb h.2⟩
def Xaa {d:Dsk} {s:ByteArray} (h:DG d):DG (rmD d s).1:=⟨Zfa h.1,Emb h.2⟩
def Eob {d:Dsk} {s:ByteArray} {f:Fil} (hd:DG d) (hs:B0 s=true) {x:Dsk×Int} (h:kp1 d s f=some x):DG x.1:=by
 refine⟨Ehb hd.1 hs h,?_⟩
 have hw:∀ x,(bif (wrD d s (Kg f)).2 then some ((wrD d s (Kg f)).1,(0:Int)) else none)=some x→DB x.1:=by
  intro x h
  cases hc:(wrD d s (Kg f)).2 with
  |false=>rw[hc]at h;cases h
  |true=>rw[hc]at h;cases h;exact Ekb hd.2 (Ry f)
 unfold kp1 at h
 simp only at h
 split at h
 ·rename_i o _
  cases hc:sle o.1 f.1 with
  |false=>rw[hc]at h;cases h;exact hd.2
  |true=>rw[hc]at h;exact hw _ h
 ·exact hw _ h
def Gbb {d:Dsk} {s:ByteArray} {sure:Bool} (hd:DG d) (hs:B0 s=true) {x:Dsk×Int} (hx:DG x.1):DG (kp2 d s sure x).1:=by
 unfold kp2
 cases sure
 ·exact hx
 rw[cond_true]
 cases (syD x.1 s).2 with
 |false=>exact hd
 |true=>exact Enb hx hs
def T7a {d:Dsk} {s:ByteArray} {f:Fil} {sure:Bool} (hd:DG d) (hs:B0 s=true):DG (Ls d s f sure).1:=by
 unfold Ls
 cases h:kp1 d s f with
 |none=>exact hd
 |some x=>exact Gbb hd hs (Eob hd hs h)
def Zha {d:Dsk} {s:ByteArray} {f:Fil} {sure:Bool} (hd:DG d):DG (keep d s f sure).1:=by
 unfold keep
 cases h:B0 s
 ·rw[hd.1];exact hd
 cases F7 f with
 |false=>rw[hd.1];exact hd
 |true=>rw[hd.1];exact T7a hd h
def Boa (b:Int) (j:Nat):Int:=((ofInt 8 b ^^^ BitVec.twoPow 8 j).toNat:Int)
def Mja (b:Int) (j:Nat):0≤Boa b j∧Boa b j≤255:=by
 unfold Boa
 have:=(ofInt 8 b ^^^ BitVec.twoPow 8 j).isLt
 omega
def C4b (b:Int):∀ j,j<8→wrap .u8 ((ofInt (IntKind.bits .u8) b ^^^ ofInt (IntKind.bits .u8) (wrap .u8 ((1:Int)*2 ^ (min j (IntKind.bits .u8))))).toNat)=Boa b j:=by
 intro j hj
 have h1:∀ j,j<8→ofInt 8 (wrap .u8 ((1:Int)*2 ^ (min j 8)))=BitVec.twoPow 8 j:=by decide
 show wrap .u8 (((ofInt 8 b ^^^ ofInt 8 (wrap .u8 ((1:Int)*2 ^ (min j 8)))).toNat:Nat):Int)=_
 rw[h1 j hj]
 have:=(ofInt 8 b ^^^ BitVec.twoPow 8 j).isLt
 rw[Gpa _ (by omega)]
 rfl
def Xba {b:Int} (hb:0≤b∧b≤255) {j:Nat} (hj:j<8):Boa b j≠b:=by
 intro h
 unfold Boa at h
 have h1:b=((ofInt 8 b).toNat:Int):=by rw[J1b];omega
 have h2:(ofInt 8 b ^^^ BitVec.twoPow 8 j).toNat=(ofInt 8 b).toNat:=by omega
 have h3:=Kfb h2
 have h4:BitVec.twoPow 8 j=0#8:=by
  have:=congrArg (λ x=>ofInt 8 b ^^^ x) h3
  simpa[← BitVec.xor_assoc] using this
 have h5:∀ j,j<8→BitVec.twoPow 8 j≠0#8:=by decide
 exact h5 j hj h4
def N8 (l:List Int) (n:Nat):List Int:=l.set (n/8) (Boa (l.getD (n/8) 0) (n % 8))
def H3a (l:List Int) (n:Nat):(N8 l n).length=l.length:=by unfold N8;rw[Vv]
def Jya {l:List Int} (h:Al l) (n:Nat):Al (N8 l n):=λ x hx=>by
 rcases Ys hx with h'|rfl
 ·exact h x h'
 ·exact Mja _ _
def F0a (d:Dsk) (s:ByteArray) (n:Int):Dsk×Bool:=match gt d.1 s with
 |none=>(d,false)
 |some b=>bif inR n 0 (8*(b.length:Int)-1) then ((wr d.1 s (N8 b n.toNat),bif decide (gt d.2 s=some b) then wr d.2 s (N8 b n.toNat) else d.2),true) else (d,false)
def T8a {l:List Nmd} (hs:D0 l) {s:ByteArray} {i:Nat} (h:fnd l s=some i) (b:List Int):l.set i (s,b)=wr l s b:=by
 obtain⟨hi,hn⟩:=Nn h
 have hm:(l.set i (s,b)).map Prod.fst=l.map Prod.fst:=by
  rw[List.map_set]
  apply Imb
  intro j
  by_cases hj:i=j
  ·subst hj
   rw[J7b (by rw[Wd];exact hi),Hgb,Vj hi]
   rw[Vb,Vj hi]at hn
   exact congrArg some hn.symm
  ·rw[Inb hj]
 have h1:D0 (l.set i (s,b)):=by
  have e:∀ m:List Nmd,D0 m↔(m.map Prod.fst).Pairwise (λ a b=>tlt a b=true):=λ m=>by
   unfold D0
   rw[Zm]
  rw[e,hm,← e]
  exact hs
 refine Zea h1 (Pe (M4 hs) Wx) λ t=>?_
 have h2:=Zda (x:=(s,b)) (t:=t) (M4 hs (s:=s)) Wx
 unfold wr
 rw[h2]
 by_cases ht:s=t
 ·subst ht
  rw[if_pos rfl,H1a h1]
  exact List.mem_set hi _
 ·rw[if_neg ht,Sf hs,if_neg ht]
  cases hg:gt l t with
  |none=>
   refine N7.2 λ x hx=>?_
   rcases Ys hx with h'|rfl
   ·exact N7.1 hg x h'
   ·exact ht
  |some c=>
   rw[H1a h1]
   obtain⟨j,hj,e⟩:=Ze.1 (O5 hg)
   have hij:i≠j:=by
    rintro rfl
    rw[Vb,Vj hi,Yu,e]at hn
    exact ht hn.symm
   refine Ze.2 ⟨j,by rw[Vv];exact hj,?_⟩
   rw[List.getElem_set_ne hij]
   exact e
def H4a {l:List Nmd} {s:ByteArray} {b:List Int} (hs:D0 l) (h:(gt l s).isSome=true):(wr l s b).length=l.length:=by
 rw[Aua]at h
 obtain⟨i,hi⟩:=Zl.1 h
 rw[← T8a hs hi,Vv]
def Epb {d:Dsk} {s:ByteArray} {n:Int} (h:DG d):DG (F0a d s n).1:=by
 unfold F0a
 cases hg:gt d.1 s with
 |none=>exact h
 |some b=>
  simp only
  cases inR n 0 (8*(b.length:Int)-1)
  ·exact h
  have hn:=Ota h.1 (s:=s) (by rw[hg];rfl)
  have hb:=Zga h.1 hg
  have hbb:=Jya (h.2.1.gt hg) n.toNat
  have l1:=H4a (b:=N8 b n.toNat) (Ka h.1) (s:=s) (by rw[hg];rfl)
  have q1:=C3b h.1 hn (b:=N8 b n.toNat) (by rw[H3a];exact hb) (by rw[l1];exact(Ap.1 (E7.1 h.1).1).2.2)
  rw[cond_true]
  cases hc:decide (gt d.2 s=some b)
  ·exact⟨q1,(h.2.1.cut s).ins hbb,h.2.2⟩
  have hg2:=of_decide_eq_true hc
  have l2:=H4a (b:=N8 b n.toNat) (O6 h.1) (s:=s) (by rw[hg2];rfl)
  have h':Ay (d.2,d.1)=true:=E7.2 ⟨(E7.1 h.1).2,(E7.1 h.1).1⟩
  have q2:=C3b h' hn (b:=N8 b n.toNat) (by rw[H3a];exact hb) (by show (wr d.2 s _).length≤60;rw[l2];exact(Ap.1 (E7.1 h.1).2).2.2)
  exact⟨E7.2 ⟨(E7.1 q1).1,(E7.1 q2).1⟩,(h.2.1.cut s).ins hbb,(h.2.2.cut s).ins hbb⟩
def C5b {d:Dsk} {s:ByteArray} {n:Int} (h:DG d) (hn:n≤9223372036854775807) (hn0 : -9223372036854775808≤n):Tot (λ k=>Jo k d s n) (λ r=>r=F0a d s n):=by
 have hin:=No h.1
 unfold Jo
 refine Hdb (Ll d hin.1.1) ?_
 refine Hdb (Cqa d.1 s hin.1.1.1.1) ?_
 refine Hdb (Q3 d hin.1.1 hin.1.2) ?_
 rw[h.1]
 refine H3b rfl ?_
 unfold F0a
 unfold Gra
 cases hf:fnd d.1 s with
 |none=>
  have hg:gt d.1 s=none:=by unfold gt;rw[hf]
  rw[hg]
  exact H5b (by decide) (H1b rfl)
 |some i=>
  have hg:gt d.1 s=some (d.1.getD i Dc).2:=by unfold gt;rw[hf]
  have hi:=(Nn hf).1
  have hnm:=(Nn hf).2
  have hb:=Zga h.1 hg
  rw[hg]
  have e0:d.1.getD i ((⟨#[]⟩:ByteArray),([]:List Int))=d.1.getD i Dc:=rfl
  simp only[Vc,e0]
  refine H6b (by omega) (H5b (by omega) (H5b (by omega) ?_))
  rw[w64 (n:=8*((d.1.getD i Dc).2.length:Int)) (by omega) (by omega),w64 (n:=8*((d.1.getD i Dc).2.length:Int)-1) (by omega) (by omega)]
  refine Hdb (Heb (Q:=λ b=>b=inR n 0 (8*((d.1.getD i Dc).2.length:Int)-1)) (Nz _ _ _) rfl) ?_
  cases hr:inR n 0 (8*((d.1.getD i Dc).2.length:Int)-1)
  ·exact H4b rfl (H1b rfl)
  obtain⟨n0,n1⟩:=F9.1 hr
  obtain⟨m,rfl⟩:∃ m:Nat,n=(m:Int):=⟨n.toNat,by omega⟩
  have hm8:m/8<(d.1.getD i Dc).2.length:=by omega
  have et:wrap .i64 (Int.tdiv (m:Int) 8)=((m/8:Nat):Int):=by
   rw[Hxb (by omega),w64 (by omega) (by omega)]
   omega
  have eu:wrap .u64 (Int.tmod (m:Int) 8)=((m % 8:Nat):Int):=by
   have h8:∀ j:Nat,j<8→wrap .u64 (j:Int)=(j:Int):=by decide
   rw[Hlb (by omega),← h8 (m % 8) (by omega)]
   congr 1
  refine H3b rfl (Hdb (Cqa d.2 s hin.1.1.2.1) ?_)
  simp only[et,eu,Vc,C4b _ _ (Kib m (show 0<8 by omega))]
  have ew:d.1.set i ((d.1.getD i Dc).1,N8 (d.1.getD i Dc).2 m)=wr d.1 s (N8 (d.1.getD i Dc).2 m):=by rw[hnm];exact T8a (Ka h.1) hf _
  have ew':d.1.set i ((d.1.getD i Dc).1,(d.1.getD i Dc).2.set (m/8) (Boa ((d.1.getD i Dc).2.getD (m/8) 0) (m % 8)))=wr d.1 s (N8 (d.1.getD i Dc).2 m):=ew
  unfold Gra
  cases hf2:fnd d.2 s with
  |none=>
   have hg2:gt d.2 s=none:=by unfold gt;rw[hf2]
   rw[hg2]
   refine H6b (by decide) (H5b (by omega) (H5b (by omega) (H5b (by omega) (H5b (by omega) (H6b (by omega) (H5b (by omega) (H5b (by omega) (H1b ?_))))))))
   rw[ew']
   rfl
  |some j=>
   have hg2:gt d.2 s=some (d.2.getD j Dc).2:=by unfold gt;rw[hf2]
   have hj:=(Nn hf2).1
   have hjn:=(Nn hf2).2
   have e1:d.2.getD j ((⟨#[]⟩:ByteArray),([]:List Int))=d.2.getD j Dc:=rfl
   rw[hg2]
   simp only[Vc,e1]
   refine H5b (by omega) (H5b (by omega) (H5b (by omega) (H5b (by omega) (H5b (by omega) (H5b (by omega) (H5b (by omega) (H5b (by omega) (H5b (by omega) (H6b (by omega) (H5b (by omega) (H5b (by omega) ?_)))))))))))
   rw[U8 (h.2.2.gt hg2) (h.2.1.gt hg)]
   refine H8b (λ he=>?_) (λ he=>?_)
   ·have hl2:(d.2.getD j Dc).2.length=(d.1.getD i Dc).2.length:=by rw[he]
    refine H5b (by omega) (H5b (by omega) (H5b (by omega) (H5b (by omega) (H6b (by omega) (H5b (by omega) (H5b (by omega) (H1b ?_)))))))
    have ew2:d.2.set j ((d.2.getD j Dc).1,(d.2.getD j Dc).2.set (m/8) (Boa ((d.2.getD j Dc).2.getD (m/8) 0) (m % 8)))=wr d.2 s (N8 (d.1.getD i Dc).2 m):=by
     rw[hjn,he]
     exact T8a (O6 h.1) hf2 _
    rw[ew',ew2,he,decide_eq_true rfl]
    rfl
   ·refine H1b ?_
    rw[ew',decide_eq_false (λ c=>he (Ikb c))]
    rfl
def lb0:LB []:=λ x hx=>by cases hx
def dg0:DG ([],[]):=⟨by decide,⟨lb0,lb0⟩⟩

section
variable {d:Dsk} {s:ByteArray} {f:Fil} {sure:Bool}
def Xca (a:Stp):sle a a=false:=Gk a
def U9 (h1:Ay d=true) (h2:B0 s=true) (h3:F7 f=true):keep d s f sure=Ls d s f sure:=by unfold keep;rw[h1,h2,h3];rfl
def H5a {x:Dsk} {c:Int}:(kp2 d s sure (x,c)=(d,3))∨(sure=false∧kp2 d s sure (x,c)=(x,c))∨(sure=true∧(sy x s).length≤60∧kp2 d s sure (x,c)=((x.1,sy x s),c)):=by
 unfold kp2 syD
 cases sure
 ·exact .inr (.inl ⟨rfl,rfl⟩)
 rw[cond_true]
 by_cases h:(sy x s).length≤60
 ·rw[decide_eq_true h]
  exact .inr (.inr ⟨rfl,h,rfl⟩)
 ·rw[decide_eq_false h]
  exact .inl rfl
def T9a (hd:DG d) (hs:B0 s=true):kp1 d s f=none∨(∃ o,old d s=some o∧sle o.1 f.1=false∧kp1 d s f=some (d,1))∨((∀ o,old d s=some o→sle o.1 f.1=true)∧(wr d.1 s (Kg f)).length≤60∧kp1 d s f=some ((wr d.1 s (Kg f),d.2),0)):=by
 have hl:(Kg f).length≤400:=by have:=Xu f;omega
 have w:(bif (wrD d s (Kg f)).2 then some ((wrD d s (Kg f)).1,(0:Int)) else none)=none∨((wr d.1 s (Kg f)).length≤60∧(bif (wrD d s (Kg f)).2 then some ((wrD d s (Kg f)).1,(0:Int)) else none)=some ((wr d.1 s (Kg f),d.2),0)):=by
  unfold wrD
  rw[decide_eq_true hl,Vx]
  by_cases h:(wr d.1 s (Kg f)).length≤60
  ·rw[decide_eq_true h];exact .inr ⟨h,rfl⟩
  ·rw[decide_eq_false h];exact .inl rfl
 unfold kp1
 cases ho:old d s with
 |none=>
  rcases w with h|⟨h1,h2⟩
  ·exact .inl h
  ·exact .inr (.inr ⟨λ o h=>(by cases h),h1,h2⟩)
 |some o=>
  simp only
  cases hc:sle o.1 f.1
  ·exact .inr (.inl ⟨o,rfl,hc,rfl⟩)
  rcases w with h|⟨h1,h2⟩
  ·exact .inl h
  ·exact .inr (.inr ⟨λ o' h=>(by cases h;exact hc),h1,h2⟩)
def Rz (hd:DG d) (hs:B0 s=true):Ls d s f sure=(d,3)∨
  (∃ o,old d s=some o∧sle o.1 f.1=false∧(Ls d s f sure).2=1∧DG (Ls d s f sure).1∧((sure=false∧(Ls d s f sure).1=d)∨(sure=true∧(Ls d s f sure).1=(d.1,sy d s))))∨
  ((∀ o,old d s=some o→sle o.1 f.1=true)∧DG (wr d.1 s (Kg f),d.2)∧(Ls d s f sure).2=0∧DG (Ls d s f sure).1∧((sure=false∧(Ls d s f sure).1=(wr d.1 s (Kg f),d.2))∨(sure=true∧(Ls d s f sure).1=(wr d.1 s (Kg f),sy (wr d.1 s (Kg f),d.2) s)))):=by
 have hg:=T7a (f:=f) (sure:=sure) hd hs
 rcases T9a (f:=f) hd hs with h|⟨o,h1,h2,h⟩|⟨h1,h2,h⟩
 ·exact .inl (by unfold Ls;rw[h])
 ·have e:Ls d s f sure=kp2 d s sure (d,1):=by unfold Ls;rw[h]
  rcases H5a (d:=d) (s:=s) (sure:=sure) (x:=d) (c:=1) with k|⟨k0,k⟩|⟨k0,k1,k⟩
  ·exact .inl (e.trans k)
  ·rw[← e]at k
   exact .inr (.inl ⟨o,h1,h2,by rw[k],hg,.inl ⟨k0,by rw[k]⟩⟩)
  ·rw[← e]at k
   exact .inr (.inl ⟨o,h1,h2,by rw[k],hg,.inr ⟨k0,by rw[k]⟩⟩)
 ·have e:Ls d s f sure=kp2 d s sure ((wr d.1 s (Kg f),d.2),0):=by unfold Ls;rw[h]
  have hw:=Eob hd hs h
  rcases H5a (d:=d) (s:=s) (sure:=sure) (x:=(wr d.1 s (Kg f),d.2)) (c:=0) with k|⟨k0,k⟩|⟨k0,k1,k⟩
  ·exact .inl (e.trans k)
  ·rw[← e]at k
   exact .inr (.inr ⟨h1,hw,by rw[k],hg,.inl ⟨k0,by rw[k]⟩⟩)
  ·rw[← e]at k
   exact .inr (.inr ⟨h1,hw,by rw[k],hg,.inr ⟨k0,by rw[k]⟩⟩)
def Eea {l:List Nmd} (hs:D0 l) {s t:ByteArray} {b:List Int}:gt (wr l s b) t=if s=t then some b else gt l t:=by
 unfold wr
 rw[Zda (x:=(s,b)) (M4 hs) Wx]
 by_cases h:s=t
 ·rw[if_pos h,if_pos h]
 ·rw[if_neg h,if_neg h,Sf hs,if_neg h]
def Jza (hd:Ay d=true) {t:ByteArray}:gt (sy d s) t=if s=t then gt d.1 s else gt d.2 t:=by
 unfold sy
 cases h:gt d.1 s with
 |none=>rw[Sf (O6 hd)]
 |some b=>rw[Eea (O6 hd)]
def Taa (hd:DG d) (hs:B0 s=true) (hf:F7 f=true) (hb:Al f.2.2) (h:(Ls d s f true).2=0∨(Ls d s f true).2=1):
  ∃ o g b,DG o∧DG (Ls d s f true).1∧(Ls d s f true).1=(o.1,sy o s)∧gt o.1 s=some b∧Ms b=some g∧sle g.1 f.1=false:=by
 rcases Rz (f:=f) (sure:=true) hd hs with k|⟨o,h1,h2,k,hg,h3⟩|⟨h1,h2,k,hg,h3⟩
 ·rw[k]at h;rcases h with h|h<;>cases h
 ·rcases h3 with⟨h3,_⟩|⟨_,h3⟩
  ·cases h3
  ·have ho:(gt d.1 s).bind Ms=some o:=h1
   cases hg1:gt d.1 s with
   |none=>rw[hg1]at ho;cases ho
   |some b=>
    rw[hg1]at ho
    exact⟨d,o,b,hd,hg,h3,hg1,ho,h2⟩
 ·rcases h3 with⟨h3,_⟩|⟨_,h3⟩
  ·cases h3
  ·exact⟨(wr d.1 s (Kg f),d.2),f,Kg f,h2,hg,h3,by show gt (wr d.1 s (Kg f)) s=_;rw[Eea (Ka hd.1),if_pos rfl],U7 hf hb,Xca _⟩
end

end Go.Proofs.YtiiekghlhfbmmaaGreat.Vf
