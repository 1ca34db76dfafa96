import Derived.Test.YtmhhjceoinoekaaGreatMal
set_option linter.all false
namespace Go.Proofs.YtmhhjceoinoekaaGreat.Vf
open Go
open List (length getD)
open Int (toNat)
open Go.IntKind (wrap)
open BitVec (ofInt)
def Yt:=@Bool.and_false
def Za:=@Bool.not_true
def Zu:=@Bool.false_or
def Zx:=@List.mem_iff_getElem
def Hnb:=@List.filter_cons
def I7b:=@Bool.not_false
def Iab:=@List.takeWhile_append_dropWhile
def Inb:=@List.dropWhile_cons
def Irb:=@Bool.true_or
def J0b:=@List.mem_filter
def J1b:=@Bool.eq_iff_iff
def Jyb:=@List.findIdx?_eq_none_iff
def K1b:=@Go.IntWalk.u32_in
def K2b:=@Nat.mod_lt
def K4b:=@List.append_cancel_left
def Kbb:=@BitVec.xor_comm
def Kcb:=@BitVec.eq_of_toNat_eq

def L2a (l:List Int) (h:l.length≤1000000000000):(length ([]:List Int)+l.length)*1≤140737488355328:=by
 simp only[Vj]
 omega
def C5a (l:List Nmd) (hf:E7a l):∀ (n i:Nat) (acc:List Nmd),l.length-i=n→i≤l.length→acc.length≤i→
  Tot (λ k=>Ch k l acc (i:Int)) (λ r=>r=acc++l.drop i):=by
 obtain⟨h1,h2⟩:=hf
 intro n
 induction n with
 |zero=>
  intro i acc hd hi ha
  refine Tot.succ ?_
  simp only[Ch]
  refine H8b (by omega) (H3b ?_)
  rw[Wa (by omega),Wn]
 |succ n ih=>
  intro i acc hd hi ha
  have hlt:i<l.length:=by omega
  refine Tot.succ ?_
  simp only[Ch]
  refine H7b (by omega) (H7b (by omega) (H7b (by omega) (H7b (by omega) (H7b (by omega) ?_))))
  rw[show toNat (i:Int)=i from Va i,w64 (n:=(i:Int)+1) (by omega) (by omega),Ad (d:=C3) hlt]
  have e0:l.getD i ((⟨#[]⟩:ByteArray),([]:List Int))=l.getD i C3:=rfl
  rw[e0]
  have hb:=h2 _ (A3 (d:=C3) hlt)
  refine Hbb (L2a _ hb) (Hbb (by simp only[Vd,Vj];omega) ?_)
  refine(ih (i+1) (acc++[l.getD i C3]) (by omega) (by omega) (by simp only[Ve,Vd,Vj];omega)).mono ?_
  rintro r rfl
  rw[Vp]
  rfl
def Q4 (l:List Nmd) (hf:E7a l):Tot (λ k=>Bp k l) (λ r=>r=l):=by
 unfold Bp
 refine H4b (C5a l hf _ 0 [] rfl (Vo _) (Vo _)) ?_
 intro r hr
 rw[Wh,Vx]at hr
 exact H3b hr
def N3 (d:Dsk) (hf:Xya d):Tot (λ k=>A6 k d) (λ r=>r=d):=by
 unfold A6
 refine Hfb (Q4 d.1 hf.1) ?_
 refine Hfb (Q4 d.2 hf.2) ?_
 exact H3b rfl
def Tqa (l:List Nmd) (s:ByteArray) (hf:l.length≤1000000000000):∀ (n i:Nat),l.length-i=n→i≤l.length→
  Tot (λ k=>Km k l s (i:Int)) (λ r=>r=match fnd (l.drop i) s with|some j => .inl ((i+j:Nat):Int)|none => .inr ()):=by
 intro n
 induction n with
 |zero=>
  intro i hd hi
  refine Tot.succ ?_
  simp only[Km]
  refine H8b (by omega) (H3b ?_)
  rw[Wa (by omega)]
  rfl
 |succ n ih=>
  intro i hd hi
  have hlt:i<l.length:=by omega
  refine Tot.succ ?_
  simp only[Km]
  refine H7b (by omega) (H7b (by omega) (H7b (by omega) ?_))
  rw[show toNat (i:Int)=i from Va i,w64 (n:=(i:Int)+1) (by omega) (by omega),Ad (d:=C3) hlt]
  have e0:l.getD i ((⟨#[]⟩:ByteArray),([]:List Int))=l.getD i C3:=rfl
  rw[e0]
  have e1:fnd (l.getD i C3::l.drop (i+1)) s=if teq (l.getD i C3).1 s then some 0 else (fnd (l.drop (i+1)) s).map (· + 1):=by
   unfold fnd
   rw[Izb]
  rw[e1]
  refine H9b (λ h=>?_) (λ h=>?_)
  ·have h':teq (l.getD i C3).1 s=true:=h
   rw[if_pos h']
   exact H3b rfl
  ·have h':¬ (teq (l.getD i C3).1 s=true):=by
    have:teq (l.getD i C3).1 s=false:=h
    rw[this];simp
   rw[if_neg h']
   refine(ih (i+1) (by omega) (by omega)).mono ?_
   rintro r rfl
   cases fnd (l.drop (i+1)) s with
   |none=>rfl
   |some j=>
    show Sum.inl _=Sum.inl _
    rw[show i+1+j=i+(j+1) by omega]
def E8a (l:List Nmd) (s:ByteArray) (hf:l.length≤1000000000000):Tot (λ k=>Dw k l s) (λ r=>r=Cxa l s):=by
 unfold Dw Cxa
 refine Hfb (Tqa l s hf _ 0 rfl (Vo _)) ?_
 rw[Wh]
 cases fnd l s with
 |none=>exact H3b rfl
 |some j=>
  refine H3b ?_
  rw[Wl]
def cut (l:List Nmd) (s:ByteArray):List Nmd:=l.filter (λ x => !(teq x.1 s))
def Pva (l:List Nmd) (s:ByteArray) (hf:l.length≤1000000000000):∀ (n i:Nat) (acc:List Nmd),l.length-i=n→i≤l.length→acc.length≤i→
  Tot (λ k=>Ip k l s acc (i:Int)) (λ r=>r=acc++cut (l.drop i) s):=by
 intro n
 induction n with
 |zero=>
  intro i acc hd hi ha
  refine Tot.succ ?_
  simp only[Ip]
  refine H8b (by omega) (H3b ?_)
  rw[Wa (by omega)]
  simp[cut]
 |succ n ih=>
  intro i acc hd hi ha
  have hlt:i<l.length:=by omega
  refine Tot.succ ?_
  simp only[Ip]
  refine H7b (by omega) (H7b (by omega) (H7b (by omega) ?_))
  rw[show toNat (i:Int)=i from Va i,w64 (n:=(i:Int)+1) (by omega) (by omega),Ad (d:=C3) hlt]
  have e0:l.getD i ((⟨#[]⟩:ByteArray),([]:List Int))=l.getD i C3:=rfl
  rw[e0]
  have e1:cut (l.getD i C3::l.drop (i+1)) s=if (!(teq (l.getD i C3).1 s))=true then l.getD i C3::cut (l.drop (i+1)) s else cut (l.drop (i+1)) s:=by
   unfold cut
   rw[Hnb]
  rw[e1]
  refine H9b (λ h=>?_) (λ h=>?_)
  ·have h':(!(teq (l.getD i C3).1 s))=true:=h
   rw[if_pos h']
   refine H7b (by omega) (H7b (by omega) (Hbb (by simp only[Vd,Vj];omega) ?_))
   refine(ih (i+1) (acc++[l.getD i C3]) (by omega) (by omega) (by simp only[Ve,Vd,Vj];omega)).mono ?_
   rintro r rfl
   rw[Vp]
   rfl
  ·have h':¬ ((!(teq (l.getD i C3).1 s))=true):=by
    have:(!(teq (l.getD i C3).1 s))=false:=h
    rw[this];simp
   rw[if_neg h']
   exact ih (i+1) acc (by omega) (by omega) (by omega)
def Tra (l:List Nmd) (s:ByteArray) (hf:l.length≤1000000000000):Tot (λ k=>Jz k l s) (λ r=>r=cut l s):=by
 unfold Jz
 refine H4b (Pva l s hf _ 0 [] rfl (Vo _) (Vo _)) ?_
 intro r hr
 rw[Wh,Vx]at hr
 exact H3b hr
def Rh (d:Dsk) (hf:Xya d) (hs:C4a d):Tot (λ k=>Br k d) (λ r=>r=B8 d):=by
 unfold Br B8
 refine Hfb (Iaa d.1 hf.1.1 hs.1) ?_
 cases h:Ka d.1
 ·exact H5b rfl (H3b rfl)
 refine H6b rfl (Hfb (Iaa d.2 hf.2.1 hs.2) ?_)
 exact H3b (by rw[Wd])

def rdN (l:List Nmd) (s:ByteArray):List Int×Bool:=match fnd l s with
 |some i=>((l.getD i C3).2,true)
 |none=>([],false)
def Nwa (d:Dsk) (s:ByteArray) (hf:E7a d.1):Tot (λ k=>G7 k d s) (λ r=>r=rdN d.1 s):=by
 unfold G7 rdN
 refine Hfb (Z2 d.1 s hf.1) ?_
 unfold Cxa
 have hl1:=hf.1
 cases h:fnd d.1 s with
 |none=>exact H7b (by decide) (H3b rfl)
 |some i=>
  have hl:=(Oa h).1
  dsimp only
  refine H8b (by omega) (H7b (by omega) (H7b (by omega) ?_))
  rw[show toNat (i:Int)=i from Va i]
  have hb:=hf.2 _ (A3 (d:=C3) hl)
  refine Hfb (Hhb (Q:=λ r=>r=(d.1.getD i C3).2) (Nk _ hb) rfl) ?_
  exact H3b rfl
def Nxa (d:Dsk) (s:ByteArray) (hf:E7a d.1):Tot (λ k=>G8 k d s) (λ r=>r=rdN d.1 s):=by
 unfold G8 rdN
 refine Hfb (E8a d.1 s hf.1) ?_
 unfold Cxa
 have hl1:=hf.1
 cases h:fnd d.1 s with
 |none=>exact H7b (by decide) (H3b rfl)
 |some i=>
  have hl:=(Oa h).1
  dsimp only
  refine H8b (by omega) (H7b (by omega) (H7b (by omega) ?_))
  rw[show toNat (i:Int)=i from Va i]
  have hb:=hf.2 _ (A3 (d:=C3) hl)
  exact Hbb (L2a _ hb) (H3b rfl)
def Iba (a b:List Nmd) (hf:E7a a) (hl:a.length=b.length):∀ (n i:Nat),a.length-i=n→i≤a.length→
  Tot (λ k=>Eu k a b (i:Int)) (λ r=>(r = .inr ()∧a.drop i=b.drop i)∨(r = .inl false∧a.drop i≠b.drop i)):=by
 obtain⟨hf1,hf2⟩:=hf
 intro n
 induction n with
 |zero=>
  intro i hd hi
  refine Tot.succ ?_
  simp only[Eu]
  refine H8b (by omega) (H3b (.inl ⟨rfl,?_⟩))
  rw[Wa (by omega),Wa (by omega)]
 |succ n ih=>
  intro i hd hi
  have h1:i<a.length:=by omega
  refine Tot.succ ?_
  simp only[Eu]
  refine H7b (by omega) (H7b (by omega) (H7b (by omega) (H7b (by omega) (H7b (by omega) ?_))))
  rw[show toNat (i:Int)=i from Va i,w64 (n:=(i:Int)+1) (by omega) (by omega),Ad (d:=C3) h1,Ad (d:=C3) (l:=b) (i:=i) (by omega)]
  have ea:a.getD i ((⟨#[]⟩:ByteArray),([]:List Int))=a.getD i C3:=rfl
  have eb:b.getD i ((⟨#[]⟩:ByteArray),([]:List Int))=b.getD i C3:=rfl
  rw[ea,eb]
  refine H9b (λ h=>H3b (.inr ⟨rfl,?_⟩)) (λ h=>?_)
  ·have h':(!(teq (a.getD i C3).1 (b.getD i C3).1))=true:=h
   rw[Vw]at h'
   intro e
   injection e with e _
   rw[e,Iw.2 rfl]at h'
   cases h'
  ·have h':(!(teq (a.getD i C3).1 (b.getD i C3).1))=false:=h
   rw[Wo,Iw]at h'
   refine H7b (by omega) (H7b (by omega) (H7b (by omega) (H7b (by omega) ?_)))
   refine Hfb (Fla (a.getD i C3).2 (b.getD i C3).2 (hf2 _ (A3 (d:=C3) h1))) ?_
   by_cases hs:(a.getD i C3).2=(b.getD i C3).2
   ·refine H5b (by rw[decide_eq_true hs];rfl) ?_
    have e:a.getD i C3=b.getD i C3:=Prod.ext h' hs
    refine(ih (i+1) (by omega) (by omega)).mono ?_
    rintro r (⟨rfl,h⟩|⟨rfl,h⟩)
    ·exact .inl ⟨rfl,by rw[e,h]⟩
    ·refine .inr ⟨rfl,λ q=>h ?_⟩
     injection q
   ·refine H6b (by rw[decide_eq_false hs];rfl) (H3b (.inr ⟨rfl,λ e=>hs ?_⟩))
    injection e with e _
    rw[e]
def Ws (a b:List Nmd) (hf:E7a a):Tot (λ k=>Cc k a b) (λ r=>r=decide (a=b)):=by
 unfold Cc
 refine H9b (λ h=>H3b ?_) (λ h=>?_)
 ·have:a≠b:=λ e=>by subst e;simp at h
  rw[decide_eq_false this]
 ·have hl:a.length=b.length:=by
   have:(a.length:Int)=b.length:=by simpa using h
   omega
  refine H4b (Iba a b hf hl _ 0 rfl (Vo _)) ?_
  rintro r (⟨rfl,h⟩|⟨rfl,h⟩)
  ·rw[Wh,Wh]at h
   rw[decide_eq_true h]
   exact H3b rfl
  ·rw[Wh,Wh]at h
   rw[decide_eq_false h]
   exact H3b rfl

def Hh (l:List Nmd):Prop:=l.Pairwise (λ a b=>tlt a.1 b.1=true)
def L3a:∀ (p:Option ByteArray) (l:List Nmd),chn p l=true↔Hh l∧(∀ r∈l,nOk r=true)∧(∀ q,p=some q→∀ r∈l,tlt q r.1=true)
 |p,[]=>by
  have:chn p []=true:=by cases p<;>rfl
  simp[this,Hh]
 |none,r::l=>by
  simp only[chn,Vb,L3a (some r.1) l,Hh,Wj]
  constructor
  ·rintro⟨h1,h2,h3,h4⟩
   exact⟨⟨λ a ha=>h4 _ rfl a ha,h2⟩,λ a ha=>by rcases Vl.1 ha with rfl|ha;exact h1;exact h3 a ha,λ q hq=>by cases hq⟩
  ·rintro⟨⟨h1,h2⟩,h3,_⟩
   exact⟨h3 r (by simp),h2,λ a ha=>h3 a (Vh _ ha),λ q hq a ha=>by cases hq;exact h1 a ha⟩
 |some q,r::l=>by
  simp only[chn,Vb,L3a (some r.1) l,Hh,Wj]
  constructor
  ·rintro⟨h1,h0,h2,h3,h4⟩
   refine⟨⟨λ a ha=>h4 _ rfl a ha,h2⟩,λ a ha=>by rcases Vl.1 ha with rfl|ha;exact h1;exact h3 a ha,λ q' hq a ha=>?_⟩
   cases hq
   rcases Vl.1 ha with rfl|ha
   ·exact h0
   ·exact Nu h0 (h4 _ rfl a ha)
  ·rintro⟨⟨h1,h2⟩,h3,h4⟩
   exact⟨h3 r (by simp),h4 q rfl r (by simp),h2,λ a ha=>h3 a (Vh _ ha),λ q' hq a ha=>by cases hq;exact h1 a ha⟩
def Am {l:List Nmd}:Ka l=true↔Hh l∧(∀ r∈l,nOk r=true)∧l.length≤60:=by
 unfold Ka
 simp only[Vb,L3a,decide_eq_true_eq]
 constructor
 ·rintro⟨⟨h1,h2,_⟩,h3⟩
  exact⟨h1,h2,by omega⟩
 ·rintro⟨h1,h2,h3⟩
  exact⟨⟨h1,h2,λ q hq=>by cases hq⟩,by omega⟩
def Ri {x:Nmd}:nOk x=true↔B2 x.1=true∧x.2.length≤400:=by
 unfold nOk
 simp only[Vb,Vw,decide_eq_false_iff_not]
 constructor
 ·rintro⟨h1,h2⟩;exact⟨h1,by omega⟩
 ·rintro⟨h1,h2⟩;exact⟨h1,by omega⟩
def Z3 {l:List Nmd} (h:Ka l=true):E7a l∧Qt l:=by
 obtain⟨_,h2,h3⟩:=Am.1 h
 refine⟨⟨by omega,λ x hx=>by have:=(Ri.1 (h2 x hx)).2;omega⟩,λ x hx=>?_⟩
 have:=C3a (Ri.1 (h2 x hx)).1
 unfold Mo
 omega
def Nya (y:Nmd) (l:List Nmd) (s:ByteArray):fnd (y::l) s=if teq y.1 s then some 0 else (fnd l s).map (· + 1):=by
 unfold fnd
 rw[Izb]
def Xza {l:List Nmd} {s:ByteArray}:fnd l s=none↔∀ x∈l,x.1≠s:=by
 unfold fnd
 rw[Jyb]
 constructor
 ·intro h x hx e
  have:=h x hx
  rw[Iw.2 e]at this
  cases this
 ·intro h x hx
  cases ht:teq x.1 s with
  |false=>rfl
  |true=>exact absurd (Iw.1 ht) (h x hx)
def Rj:∀ {l:List Nmd} {s:ByteArray},Hh l→del l s=cut l s
 |[],s,_=>rfl
 |y::l,s,h=>by
  have hc:=Wj.1 h
  have ih:=Rj (l:=l) (s:=s) hc.2
  unfold del cut at *
  rw[Nya,Hnb]
  cases ht:teq y.1 s with
  |true=>
   have hno:∀ x∈l,(!(teq x.1 s))=true:=λ x hx=>by
    cases hx2:teq x.1 s
    ·rfl
    have e1:=Iw.1 ht
    have e2:=Iw.1 hx2
    have:=hc.1 x hx
    rw[e1,e2,Lh]at this
    cases this
   rw[if_pos rfl,if_neg (by simp)]
   show []++l=_
   rw[Vx,List.filter_eq_self.2 hno]
  |false=>
   rw[if_neg (by simp),if_pos (show (!false)=true from rfl),← ih]
   cases hf:fnd l s with
   |none=>rfl
   |some i=>rfl
def Ov {l:List Nmd} {s:ByteArray} (h:Hh l):Hh (cut l s):=h.sublist List.filter_sublist
def Pt {l:List Nmd} {s:ByteArray}:(cut l s).Sublist l:=List.filter_sublist
def Z4 {l:List Nmd} {s:ByteArray} (h:Ka l=true):Ka (cut l s)=true:=by
 obtain⟨h1,h2,h3⟩:=Am.1 h
 exact Am.2 ⟨Ov h1,λ x hx=>h2 x (Pt.subset hx),by have:=(Pt (l:=l) (s:=s)).length_le;omega⟩
def Cfb {l:List Nmd} {s:ByteArray} {i:Nat} (h:fnd l s=some i):(del l s).length+1=l.length:=by
 have hl:=(Oa h).1
 unfold del
 rw[h]
 simp only[Ve,Vs,We]
 omega
def Tsa {l m:List Nmd} (h:m.Sublist l) (hf:E7a l):E7a m:=⟨by have:=h.length_le;have:=hf.1;omega,λ x hx=>hf.2 x (h.subset hx)⟩
def Ica {l m:List Nmd} (h:m.Sublist l) (hf:Qt l):Qt m:=λ x hx=>hf x (h.subset hx)

def Fma (d out:Dsk) (s:ByteArray) (hd:Xya d∧C4a d) (ho:Xya out∧C4a out) (hs:Mo s):Tot (λ k=>Fc k d out s) (λ r=>r=bif B8 d&&(B2 s&&B8 out) then (out,true) else (d,false)):=by
 unfold Fc
 refine Hfb (Rh d hd.1 hd.2) ?_
 cases h1:B8 d with
 |false=>
  refine H6b rfl (Hfb (N3 d hd.1) ?_)
  exact H3b rfl
 |true=>
  refine H5b rfl (Hfb (W4 s hs) ?_)
  cases h2:B2 s with
  |false=>
   refine H6b rfl (Hfb (N3 d hd.1) ?_)
   exact H3b rfl
  |true=>
   refine H5b rfl (Hfb (Rh out ho.1 ho.2) ?_)
   cases h3:B8 out with
   |false=>
    refine H6b rfl (Hfb (N3 d hd.1) ?_)
    exact H3b rfl
   |true=>exact H5b rfl (H3b rfl)
def Pwa (d:Dsk) (s:ByteArray) (hd:Xya d∧C4a d) (hs:Mo s):Tot (λ k=>Ck k d s) (λ r=>r=bif (fnd d.1 s).isSome&&(B8 d&&(B2 s&&B8 (cut d.1 s,d.2))) then ((cut d.1 s,d.2),true) else (d,false)):=by
 unfold Ck
 refine H4b (N3 d hd.1) ?_
 rintro r rfl
 refine H4b (E8a r.1 s hd.1.1.1) ?_
 rintro i rfl
 unfold Cxa
 cases h:fnd r.1 s with
 |none=>exact H7b (by decide) (H3b rfl)
 |some i=>
  dsimp only
  refine H8b (by omega) (H4b (Tra r.1 s hd.1.1.1) ?_)
  rintro c rfl
  refine H4b (Fma r (cut r.1 s,r.2) s hd ⟨⟨Tsa Pt hd.1.1,hd.1.2⟩,Ica Pt hd.2.1,hd.2.2⟩ hs) ?_
  rintro e rfl
  exact H3b rfl

def ptl (x:Nmd):Bool→List Nmd→List Nmd
 |p,[]=>bif p then [] else [x]
 |p,y::l=>(bif !p&&!(tlt y.1 x.1) then [x] else [])++((bif !(teq y.1 x.1) then [y] else [])++ptl x (p||!(tlt y.1 x.1)) l)
def L4a (l:List Nmd) (s:ByteArray) (b:List Int) (hf:l.length≤1000000000000):∀ (n i:Nat) (acc:List Nmd) (p:Bool),l.length-i=n→i≤l.length→acc.length≤2*i→
  Tot (λ k=>Cp k l s acc p (i:Int) s b) (λ r=>r.1++(bif r.2.1 then [] else [(s,b)])=acc++ptl (s,b) p (l.drop i)∧r.2.2=(s,b)∧r.1.length≤2*l.length):=by
 intro n
 induction n with
 |zero=>
  intro i acc p hd hi ha
  refine Tot.succ ?_
  simp only[Cp]
  refine H8b (by omega) (H3b ?_)
  rw[Wa (by omega)]
  exact⟨rfl,rfl,by dsimp only;omega⟩
 |succ n ih=>
  intro i acc p hd hi ha
  have hlt:i<l.length:=by omega
  refine Tot.succ ?_
  simp only[Cp]
  refine H7b (by omega) ?_
  rw[show toNat (i:Int)=i from Va i,w64 (n:=(i:Int)+1) (by omega) (by omega),Ad (d:=C3) hlt]
  have e0:l.getD i ((⟨#[]⟩:ByteArray),([]:List Int))=l.getD i C3:=rfl
  rw[e0]
  have B7:∀ (ac:List Nmd) (q:Bool),ac.length≤2*i+1→Tot (λ k=>cond (decide ((0:Int)≤i)) (cond (decide ((i:Int)<(length l:Int))) (cond (!((l.getD i C3).1.toList==s.toList)) (cond (decide ((0:Int)≤i)) (cond (decide ((i:Int)<(length l:Int))) (cond (Nat.ble ((length ac+length [l.getD i C3])*40) 140737488355328) (Cp k l s (ac++[l.getD i C3]) q ((i:Int)+1) s b) none) none) none) (Cp k l s ac q ((i:Int)+1) s b)) none) none)
    (λ r=>r.1++(bif r.2.1 then [] else [(s,b)])=ac++((bif !(teq (l.getD i C3).1 s) then [l.getD i C3] else [])++ptl (s,b) q (l.drop (i+1)))∧r.2.2=(s,b)∧r.1.length≤2*l.length):=by
   intro ac q hac
   refine H7b (by omega) (H7b (by omega) (H9b (λ h=>?_) (λ h=>?_)))
   ·have h':(!(teq (l.getD i C3).1 s))=true:=h
    rw[h']
    refine H7b (by omega) (H7b (by omega) (Hbb (by simp only[Vd,Vj];omega) ?_))
    refine(ih (i+1) (ac++[l.getD i C3]) q (by omega) (by omega) (by simp only[Ve,Vd,Vj];omega)).mono ?_
    rintro r ⟨h1,h2,h3⟩
    refine⟨?_,h2,h3⟩
    rw[h1,Vp]
    rfl
   ·have h':(!(teq (l.getD i C3).1 s))=false:=h
    rw[h']
    exact ih (i+1) ac q (by omega) (by omega) (by omega)
  cases p with
  |true=>
   refine H5b rfl ?_
   refine(B7 acc true (by omega)).mono ?_
   rintro r ⟨h1,h2,h3⟩
   exact⟨h1,h2,h3⟩
  |false=>
   refine H6b rfl (H7b (by omega) (H7b (by omega) (H9b (λ h=>?_) (λ h=>?_))))
   ·have h':(!(tlt (l.getD i C3).1 s))=true:=h
    refine Hbb (by simp only[Vd,Vj];omega) ?_
    refine(B7 (acc++[(s,b)]) true (by simp only[Ve,Vd,Vj];omega)).mono ?_
    rintro r ⟨h1,h2,h3⟩
    refine⟨?_,h2,h3⟩
    rw[h1]
    simp only[ptl,h',I7b,Bool.and_self,Zu,cond_true,Vp]
   ·have h':(!(tlt (l.getD i C3).1 s))=false:=h
    refine(B7 acc false (by omega)).mono ?_
    rintro r ⟨h1,h2,h3⟩
    refine⟨?_,h2,h3⟩
    rw[h1]
    simp only[ptl,h',I7b,Yt,Zu,cond_false,Vx]
def Fna (l:List Nmd) (s:ByteArray) (b:List Int) (hf:l.length≤1000000000000) (hb:b.length≤1000000000000):Tot (λ k=>Gb k l s b) (λ r=>r=ptl (s,b) false l):=by
 unfold Gb
 refine Hbb (L2a b hb) ?_
 rw[Vx]
 refine H4b (L4a l s b hf _ 0 [] false rfl (Vo _) (Vo _)) ?_
 rintro⟨r,q,x,y⟩ ⟨h1,h2,h3⟩
 rw[Wh,Vx]at h1
 dsimp only at h1 h2 h3
 dsimp only
 cases q with
 |true=>
  refine H5b rfl (H3b ?_)
  rw[← h1];simp
 |false=>
  refine H6b rfl (Hbb (by simp only[Vd,Vj];omega) (H3b ?_))
  rw[← h1]
  obtain⟨rfl,rfl⟩:=Prod.mk.inj h2
  rfl
def Tta (x:Nmd):∀ (p:Bool) (l:List Nmd),∀ y∈ptl x p l,y∈l∨y=x:=by
 intro p l
 induction l generalizing p with
 |nil=>intro y hy;cases p<;>simp_all [ptl]
 |cons a l ih=>
  intro y hy
  simp only[ptl,Vq]at hy
  rcases hy with hy|hy|hy
  ·revert hy;cases (!p&&!(tlt a.1 x.1))<;>simp_all
  ·revert hy;cases (!(teq a.1 x.1))<;>simp_all
  ·rcases ih _ y hy with h|h
   ·exact Or.inl (Vh _ h)
   ·exact Or.inr h
def Cgb (x:Nmd):∀ (p:Bool) (l:List Nmd),(ptl x p l).length≤l.length+(bif p then 0 else 1):=by
 intro p l
 induction l generalizing p with
 |nil=>cases p<;>simp[ptl]
 |cons a l ih=>
  simp only[ptl,Ve,Vd]
  have:=ih (p||!(tlt a.1 x.1))
  revert this
  cases p<;>cases tlt a.1 x.1<;>cases teq a.1 x.1<;>simp<;>omega
def Y0a (x:Nmd):∀ (l:List Nmd),ptl x true l=cut l x.1:=by
 intro l
 induction l with
 |nil=>rfl
 |cons a l ih=>
  simp only[ptl,Za,Zt,cond_false,Vx,Irb,ih,cut,Hnb]
  cases teq a.1 x.1<;>simp
def Xw (x:Nmd):∀ {l:List Nmd},Hh l→ptl x false l=ins (cut l x.1) x:=by
 intro l
 induction l with
 |nil=>intro _;rfl
 |cons a l ih=>
  intro h
  have hl:Hh l:=(Wj.1 h).2
  have ha:=(Wj.1 h).1
  simp only[ptl,I7b,Wd,Zu]
  cases ht:tlt a.1 x.1 with
  |true=>
   have he:teq a.1 x.1=false:=by
    cases hq:teq a.1 x.1 with
    |false=>rfl
    |true=>rw[(Iw.1 hq),Lh]at ht;cases ht
   simp only[he,Za,I7b,cond_false,cond_true,Vx,ih hl,cut,Hnb,if_true]
   unfold ins plc
   rw[Zs,if_pos ht]
   rfl
  |false=>
   have hc:plc (cut (a::l) x.1) x.1=0:=by
    unfold plc cut
    rw[List.length_eq_zero_iff]
    rw[Hnb]
    cases hq:teq a.1 x.1
    ·rw[I7b,if_pos rfl,Zs,if_neg (by rw[ht];simp)]
    have hx:=(Iw.1 hq)
    simp only[Za,Ya,if_false]
    cases hf:l.filter (λ y => !(teq y.1 x.1)) with
    |nil=>rfl
    |cons b m=>
     have hb:b∈l:=by
      have:b∈l.filter (λ y => !(teq y.1 x.1)):=by rw[hf];exact Yb
      exact(J0b.1 this).1
     have hab:=ha b hb
     rw[hx]at hab
     rw[Zs,if_neg (by rw[W0 hab];simp)]
   simp only[I7b,cond_true,Y0a]
   unfold ins
   rw[hc]
   simp only[Hub,Vx,Wh,cut,Hnb]
   cases teq a.1 x.1<;>simp

def Tua {l:List Nmd} {x:Nmd} {p:Bool} (hl:E7a l) (hl':l.length≤999999999999) (hx:x.2.length≤1000000000000):E7a (ptl x p l):=by
 refine⟨?_,λ y hy=>?_⟩
 ·have:=Cgb x p l
  revert this
  cases p<;>simp<;>omega
 ·rcases Tta x p l y hy with h|rfl
  ·exact hl.2 y h
  ·exact hx
def Ida {l:List Nmd} {x:Nmd} {p:Bool} (hl:Qt l) (hx:Mo x.1):Qt (ptl x p l):=by
 intro y hy
 rcases Tta x p l y hy with h|rfl
 ·exact hl y h
 ·exact hx
def DIn (d:Dsk):Prop:=(Xya d∧C4a d)∧d.1.length≤2000000∧d.2.length≤2000000
def Oi {d:Dsk} (h:B8 d=true):DIn d:=by
 unfold B8 at h
 rw[Vb]at h
 have h1:=Z3 h.1
 have h2:=Z3 h.2
 exact⟨⟨⟨h1.1,h2.1⟩,h1.2,h2.2⟩,by have:=(Am.1 h.1).2.2;omega,by have:=(Am.1 h.2).2.2;omega⟩
def Tva (d:Dsk) (s:ByteArray) (b:List Int) (hd:DIn d) (hs:Mo s) (hb:b.length≤1000000000000):Tot (λ k=>F3 k d s b) (λ r=>r=bif B8 d&&(B2 s&&B8 (ptl (s,b) false d.1,d.2)) then ((ptl (s,b) false d.1,d.2),true) else (d,false)):=by
 unfold F3
 refine H4b (N3 d hd.1.1) ?_
 rintro r rfl
 refine H4b (Fna r.1 s b hd.1.1.1.1 hb) ?_
 rintro c rfl
 refine H4b (Fma r (ptl (s,b) false r.1,r.2) s hd.1 ⟨⟨Tua hd.1.1.1 (by have:=hd.2.1;omega) hb,hd.1.1.2⟩,Ida hd.1.2.1 hs,hd.1.2.2⟩ hs) ?_
 rintro e rfl
 exact H3b rfl
def syS (d:Dsk) (s:ByteArray):List Nmd:=match fnd d.1 s with
 |some i=>ptl (s,(d.1.getD i C3).2) false (cut d.2 s)
 |none=>cut d.2 s
def Esb {d:Dsk} {s:ByteArray} (hd:DIn d) (hs:Mo s):E7a (syS d s)∧Qt (syS d s):=by
 unfold syS
 have h1:=Tsa (Pt (l:=d.2) (s:=s)) hd.1.1.2
 have h2:=Ica (Pt (l:=d.2) (s:=s)) hd.1.2.2
 cases h:fnd d.1 s with
 |none=>exact⟨h1,h2⟩
 |some i=>
  have hb:=hd.1.1.1.2 _ (A3 (d:=C3) (Oa h).1)
  have hc:(cut d.2 s).length≤d.2.length:=(Pt (l:=d.2) (s:=s)).length_le
  exact⟨Tua h1 (by have:=hd.2.2;omega) hb,Ida h2 hs⟩
def Y1a (d:Dsk) (s:ByteArray) (hd:DIn d) (hs:Mo s):Tot (λ k=>Bn k d s) (λ r=>r=bif B8 d&&(B2 s&&B8 (d.1,syS d s)) then ((d.1,syS d s),true) else (d,false)):=by
 unfold Bn
 have hin:=Esb hd hs
 refine H4b (N3 d hd.1.1) ?_
 rintro r rfl
 refine H4b (Nxa r s hd.1.1.1) ?_
 rintro b rfl
 refine H4b (Tra r.2 s hd.1.1.2.1) ?_
 rintro c rfl
 have e:∀ o,o=syS r s→Tot (λ k=>(Fc k r (r.1,o) s).bind λ r5=>some (r5.1,r5.2)) (λ q=>q=bif B8 r&&(B2 s&&B8 (r.1,syS r s)) then ((r.1,syS r s),true) else (r,false)):=by
  rintro o rfl
  refine H4b (Fma r (r.1,syS r s) s hd.1 ⟨⟨hd.1.1.1,hin.1⟩,hd.1.2.1,hin.2⟩ hs) ?_
  rintro e rfl
  exact H3b rfl
 have hc:(cut r.2 s).length≤r.2.length:=(Pt (l:=r.2) (s:=s)).length_le
 cases h:fnd r.1 s with
 |none=>
  have h':rdN r.1 s=([],false):=by unfold rdN;rw[h]
  rw[h']
  refine H5b rfl (e _ ?_)
  unfold syS;rw[h]
 |some i=>
  have h':rdN r.1 s=((r.1.getD i C3).2,true):=by unfold rdN;rw[h]
  rw[h']
  have hb:=hd.1.1.1.2 _ (A3 (d:=C3) (Oa h).1)
  refine H6b rfl (H4b (Fna (cut r.2 s) s _ (by have:=hd.2.2;omega) hb) ?_)
  rintro o rfl
  refine e _ ?_
  unfold syS;rw[h]
def Pxa (d:Dsk) (s:ByteArray) (hd:Xya d∧C4a d):Tot (λ k=>Fh k d s) (λ r=>r=bif (fnd d.1 s).isSome&&B8 d then ((del d.1 s,d.2),true) else (d,false)):=by
 unfold Fh
 refine H4b (J4 d hd.1) ?_
 rintro r rfl
 refine H4b (Q3 r hd.1 hd.2) ?_
 rintro b rfl
 cases h1:B8 r
 ·refine H6b rfl (H3b ?_);rw[Yt];rfl
 refine H5b rfl (H4b (Z2 r.1 s hd.1.1.1) ?_)
 rintro i rfl
 unfold Cxa
 cases h:fnd r.1 s with
 |none=>exact H7b (by decide) (H3b rfl)
 |some i=>
  dsimp only
  refine H8b (by omega) (H4b (Wr r.1 s hd.1.1.1) ?_)
  rintro c rfl
  exact H3b rfl
def syI (d:Dsk) (s:ByteArray):List Nmd:=match fnd d.1 s with
 |some i=>ins (del d.2 s) (s,(d.1.getD i C3).2)
 |none=>del d.2 s
def E9a (l:List Nmd) (s:ByteArray):(del l s).length≤l.length:=by
 cases h:fnd l s with
 |none=>unfold del;rw[h];exact Vv _
 |some i=>have:=Cfb h;omega
def Chb (l:List Nmd) (x:Nmd):(ins l x).length=l.length+1:=by
 unfold ins
 have:=A9b l x.1
 simp only[Ve,Vs,We,Vd,Vj]
 omega
def Y2a (d:Dsk) (s:ByteArray) (hd:DIn d) (hs:Mo s):Tot (λ k=>C8 k d s) (λ r=>r=bif B8 d&&(B2 s&&decide ((syI d s).length≤60)) then ((d.1,syI d s),true) else (d,false)):=by
 unfold C8
 refine H4b (J4 d hd.1.1) ?_
 rintro r rfl
 refine H4b (Q3 r hd.1.1 hd.1.2) ?_
 rintro b rfl
 cases h1:B8 r
 ·exact H6b rfl (H3b rfl)
 refine H5b rfl (H4b (Pc s hs) ?_)
 rintro b rfl
 cases h2:B2 s
 ·exact H6b rfl (H3b rfl)
 refine H5b rfl (H4b (Wr r.2 s hd.1.1.2.1) ?_)
 rintro c rfl
 refine H4b (Z2 r.1 s hd.1.1.1.1) ?_
 rintro i rfl
 have hdl:=E9a r.2 s
 have hr2:=hd.2.2
 have hr1:=hd.2.1
 have e:∀ o,o=syI r s→o.length≤4000000→Tot (λ k=>cond (decide ((length o:Int) > 60)) ((A4 k r).bind λ r9=>some (r9,false)) (some ((r.1,o),true))) (λ q=>q=bif true&&(true&&decide ((syI r s).length≤60)) then ((r.1,syI r s),true) else (r,false)):=by
  rintro o rfl _
  refine Hab (λ h=>?_) (λ h=>?_)
  ·refine H4b (J4 r hd.1.1) ?_
   rintro q rfl
   refine H3b ?_
   rw[decide_eq_false (by omega)]
   rfl
  ·refine H3b ?_
   rw[decide_eq_true (by omega)]
   rfl
 unfold Cxa
 cases h:fnd r.1 s with
 |none=>
  refine H8b (by decide) (e _ ?_ (by omega))
  unfold syI;rw[h]
 |some i=>
  have hl:=(Oa h).1
  dsimp only
  refine H7b (by omega) (H7b (by omega) (H7b (by omega) ?_))
  rw[show toNat (i:Int)=i from Va i]
  have hb:=hd.1.1.1.2 _ (A3 (d:=C3) hl)
  refine H4b (Hhb (Q:=λ q=>q=(r.1.getD i C3).2) (Nk _ hb) rfl) ?_
  rintro q rfl
  refine H4b (Nva (del r.2 s) (s,(r.1.getD i C3).2) (by omega)) ?_
  rintro o rfl
  refine e _ ?_ (by rw[Chb];omega)
  unfold syI;rw[h]

section
open Go
end

section
open Go
end

def Tx (p:Nmd→Bool):∀ l:List Nmd,l.take (l.takeWhile p).length=l.takeWhile p∧l.drop (l.takeWhile p).length=l.dropWhile p
 |[]=>⟨rfl,rfl⟩
 |y::l=>by
  obtain⟨h1,h2⟩:=Tx p l
  simp only[Zs,Inb]
  cases p y with
  |true=>simp[h1,h2]
  |false=>simp
def Iea {p:Nmd→Bool}:∀ {l:List Nmd} {y:Nmd},y∈l.takeWhile p→p y=true
 |[],y,h=>by simp at h
 |z::l,y,h=>by
  simp only[Zs]at h
  cases hz:p z
  ·rw[hz]at h;simp at h
  rw[hz]at h
  simp only[if_true]at h
  rcases Vl.1 h with rfl|h
  ·exact hz
  ·exact Iea h
def Aab (l:List Nmd) (x:Nmd):ins l x=l.takeWhile (λ y=>tlt y.1 x.1)++([x]++l.dropWhile (λ y=>tlt y.1 x.1)):=by
 unfold ins plc
 obtain⟨h1,h2⟩:=Tx (λ y=>tlt y.1 x.1) l
 rw[h1,h2,Vp]
def Eaa {x:Nmd}:∀ {l:List Nmd},Hh l→(∀ y∈l,y.1≠x.1)→∀ z∈l.dropWhile (λ y=>tlt y.1 x.1),tlt x.1 z.1=true
 |[],_,_,z,hz=>by simp at hz
 |y::l,hs,hn,z,hz=>by
  obtain⟨h1,h2⟩:=Wj.1 hs
  simp only[Inb]at hz
  cases hy:tlt y.1 x.1 with
  |true=>
   rw[hy]at hz
   simp only[if_true]at hz
   exact Eaa h2 (λ w hw=>hn w (Vh _ hw)) z hz
  |false=>
   rw[hy]at hz
   simp only[Ya,if_false]at hz
   have hxy:tlt x.1 y.1=true:=by
    cases hh:tlt x.1 y.1 with
    |true=>rfl
    |false=>exact absurd (Bva hy hh) (hn y (by simp))
   rcases Vl.1 hz with rfl|hz
   ·exact hxy
   ·exact Nu hxy (h1 z hz)
def Tg {l:List Nmd} {x:Nmd} (hs:Hh l) (hn:∀ y∈l,y.1≠x.1):Hh (ins l x):=by
 rw[Aab]
 have hs':Hh (l.takeWhile (λ y=>tlt y.1 x.1)++l.dropWhile (λ y=>tlt y.1 x.1)):=by rw[Iab];exact hs
 obtain⟨h1,h2,h3⟩:=Zd.1 hs'
 have h4:∀ y∈l.takeWhile (λ y=>tlt y.1 x.1),tlt y.1 x.1=true:=λ y hy=>Iea (p:=λ y=>tlt y.1 x.1) hy
 refine Zd.2 ⟨h1,Wj.2 ⟨λ z hz=>Eaa hs hn z hz,h2⟩,λ a ha b hb=>?_⟩
 rcases Vl.1 hb with rfl|hb
 ·exact h4 a ha
 ·exact h3 a ha b hb
def Xx {l:List Nmd} {x y:Nmd}:y∈ins l x↔y=x∨y∈l:=by
 rw[Aab]
 have e:=Iab (p:=λ y:Nmd=>tlt y.1 x.1) (l:=l)
 constructor
 ·intro h
  rcases Vq.1 h with h|h
  ·right;rw[← e];exact Wc _ h
  ·rcases Vl.1 h with h|h
   ·exact .inl h
   ·right;rw[← e];exact Vt _ h
 ·rintro (rfl|h)
  ·exact Vt _ (by simp)
  ·rw[← e]at h
   rcases Vq.1 h with h|h
   ·exact Wc _ h
   ·exact Vt _ (Vh _ h)
def Abb {l:List Nmd} {x:Nmd} (hl:Ka l=true) (hn:∀ y∈l,y.1≠x.1) (hx:nOk x=true):Ka (ins l x)=decide ((ins l x).length≤60):=by
 obtain⟨h1,h2,h3⟩:=Am.1 hl
 by_cases h:(ins l x).length≤60
 ·rw[decide_eq_true h]
  exact Am.2 ⟨Tg h1 hn,λ y hy=>by rcases Xx.1 hy with rfl|hy;exact hx;exact h2 y hy,h⟩
 ·rw[decide_eq_false h]
  cases hc:Ka (ins l x) with
  |false=>rfl
  |true=>exact absurd (Am.1 hc).2.2 h
def C6a {l:List Nmd} {s:ByteArray}:∀ y∈cut l s,y.1≠s:=λ y hy e=>by
 have:=(J0b.1 hy).2
 simp[e,Iw.2 rfl]at this
def Cib {l:List Nmd} {s:ByteArray}:cut (cut l s) s=cut l s:=by
 unfold cut
 rw[List.filter_filter]
 congr 1
 funext x
 simp
def Cjb {d:Dsk} {s:ByteArray} (hd:B8 d=true):syS d s=syI d s:=by
 unfold B8 at hd
 rw[Vb]at hd
 have hs:=(Am.1 hd.2).1
 unfold syS syI
 rw[Rj hs]
 cases fnd d.1 s with
 |none=>rfl
 |some i=>
  show ptl _ false (cut d.2 s)=ins (cut d.2 s) _
  rw[Xw _ (Ov hs)]
  show ins (cut (cut d.2 s) s) _=_
  rw[Cib]
def Twa {d:Dsk} {s:ByteArray} (hd:B8 d=true) (hs:B2 s=true):B8 (d.1,syI d s)=decide ((syI d s).length≤60):=by
 have hd':=hd
 unfold B8 at hd'
 rw[Vb]at hd'
 have h2:=Am.1 hd'.2
 unfold B8
 rw[hd'.1,Wd]
 unfold syI
 rw[Rj h2.1]
 cases h:fnd d.1 s with
 |none=>show Ka (cut d.2 s)=decide ((cut d.2 s).length≤60);rw[Z4 hd'.2,decide_eq_true (Am.1 (Z4 (s:=s) hd'.2)).2.2]
 |some i=>
  refine Abb (Z4 hd'.2) C6a (Ri.2 ⟨hs,?_⟩)
  have h1:=(Am.1 hd'.1).2.1 _ (A3 (d:=C3) (Oa h).1)
  exact(Ri.1 h1).2
def Ckb {l:List Nmd} (hs:Hh l) {x y:Nmd} (hx:x∈l) (hy:y∈l) (e:x.1=y.1):x=y:=by
 induction l with
 |nil=>simp at hx
 |cons z l ih=>
  obtain⟨h1,h2⟩:=Wj.1 hs
  rcases Vl.1 hx with hx'|hx'
  ·rcases Vl.1 hy with hy'|hy'
   ·rw[hx',hy']
   ·have:=h1 y hy';rw[← hx',e,Lh]at this;cases this
  ·rcases Vl.1 hy with hy'|hy'
   ·have:=h1 x hx';rw[← hy',e,Lh]at this;cases this
   ·exact ih h2 hx' hy'

def wrI (d:Dsk) (s:ByteArray) (b:List Int):List Nmd:=ins (del d.1 s) (s,b)
def Txa (d:Dsk) (s:ByteArray) (b:List Int) (hd:DIn d) (hs:Mo s) (hb:b.length≤1000000000000):Tot (λ k=>Ey k d s b) (λ r=>r=bif B8 d&&(B2 s&&(decide (b.length≤400)&&decide ((wrI d s b).length≤60))) then ((wrI d s b,d.2),true) else (d,false)):=by
 unfold Ey
 refine H4b (J4 d hd.1.1) ?_
 rintro r rfl
 refine H4b (Q3 r hd.1.1 hd.1.2) ?_
 rintro b1 rfl
 cases h1:B8 r
 ·exact H6b rfl (H3b rfl)
 refine H5b rfl (H4b (Pc s hs) ?_)
 rintro b2 rfl
 cases h2:B2 s
 ·exact H6b rfl (H3b rfl)
 refine H5b rfl (Hab (λ h=>?_) (λ h=>?_))
 ·rw[decide_eq_false (show ¬ b.length≤400 by omega)]
  exact H3b rfl
 ·rw[decide_eq_true (show b.length≤400 by omega)]
  refine H4b (Wr r.1 s hd.1.1.1.1) ?_
  rintro c rfl
  refine H4b (Hhb (Q:=λ x=>x=b) (Nk b hb) rfl) ?_
  rintro e rfl
  have hdl:=E9a r.1 s
  refine H4b (Nva (del r.1 s) (s,e) (by have:=hd.2.1;omega)) ?_
  rintro m rfl
  refine Hab (λ h=>?_) (λ h=>?_)
  ·rw[decide_eq_false (show ¬ (wrI r s e).length≤60 by unfold wrI;omega)]
   refine H4b (J4 r hd.1.1) ?_
   rintro x rfl
   exact H3b rfl
  ·rw[decide_eq_true (show (wrI r s e).length≤60 by unfold wrI;omega)]
   exact H3b rfl
def Nza {d:Dsk} {s:ByteArray} {b:List Int} (hd:B8 d=true) (hs:B2 s=true):ptl (s,b) false d.1=wrI d s b∧B8 (wrI d s b,d.2)=(decide (b.length≤400)&&decide ((wrI d s b).length≤60)):=by
 have hd':=hd
 unfold B8 at hd'
 rw[Vb]at hd'
 have h1:=Am.1 hd'.1
 have e1:wrI d s b=ins (cut d.1 s) (s,b):=by unfold wrI;rw[Rj h1.1]
 refine⟨by rw[e1];exact Xw _ h1.1,?_⟩
 unfold B8
 rw[hd'.2,Ijb,e1]
 by_cases hb:b.length≤400
 ·rw[decide_eq_true hb,Wd]
  exact Abb (Z4 hd'.1) C6a (Ri.2 ⟨hs,hb⟩)
 ·rw[decide_eq_false hb,Zt]
  cases hc:Ka (ins (cut d.1 s) (s,b)) with
  |false=>rfl
  |true=>exact absurd (Ri.1 ((Am.1 hc).2.1 (s,b) (Xx.2 (.inl rfl)))).2 hb

def TS (l:List ByteArray):Prop:=l.Pairwise (λ a b=>tlt a b=true)
def pk (l:List Nmd) (s:ByteArray):Option Nmd:=match fnd l s with
 |some i=>some (l.getD i C3)
 |none=>none
def Nm:ByteArray:=⟨#[]⟩
def tpl (l:List ByteArray) (s:ByteArray):Nat:=(l.takeWhile (λ y=>tlt y s)).length
def wt (l:List ByteArray) (s:ByteArray):List ByteArray:=if tpl l s<l.length∧teq (l.getD (tpl l s) Nm) s=true then l else l.take (tpl l s)++[s]++l.drop (tpl l s)
def Acb (l:List ByteArray) (s:ByteArray):tpl l s≤l.length:=(K7b _).length_le
def A9a (l:List ByteArray) (s:ByteArray) (hf:l.length≤1000000000000):∀ (n i:Nat),l.length-i=n→i≤l.length→
  Tot (λ k=>Fj k l s (i:Int)) (λ r=>r=(l,s,((i+tpl (l.drop i) s:Nat):Int))):=by
 intro n
 induction n with
 |zero=>
  intro i hd hi
  refine Tot.succ ?_
  simp only[Fj]
  refine H8b (by omega) (H3b ?_)
  rw[Wa (by omega)]
  rfl
 |succ n ih=>
  intro i hd hi
  have hlt:i<l.length:=by omega
  refine Tot.succ ?_
  simp only[Fj]
  refine H7b (by omega) (H7b (by omega) (H7b (by omega) ?_))
  rw[show toNat (i:Int)=i from Va i,w64 (n:=(i:Int)+1) (by omega) (by omega),Ad (d:=Nm) hlt]
  have e0:l.getD i (⟨#[]⟩:ByteArray)=l.getD i Nm:=rfl
  rw[e0]
  have e1:tpl (l.getD i Nm::l.drop (i+1)) s=if tlt (l.getD i Nm) s then tpl (l.drop (i+1)) s+1 else 0:=by
   unfold tpl
   rw[Zs]
   split<;>rfl
  rw[e1]
  refine H9b (λ h=>?_) (λ h=>?_)
  ·have h':tlt (l.getD i Nm) s=true:=h
   rw[if_pos h']
   refine(ih (i+1) (by omega) (by omega)).mono ?_
   rintro r rfl
   rw[show i+1+tpl (l.drop (i+1)) s=i+(tpl (l.drop (i+1)) s+1) by omega]
  ·have h':¬ (tlt (l.getD i Nm) s=true):=by
    have:tlt (l.getD i Nm) s=false:=h
    rw[this];simp
   rw[if_neg h']
   exact H3b rfl
def Wt (l:List ByteArray) (s:ByteArray) (hf:l.length≤1000000000):Tot (λ k=>Fb k l s) (λ r=>r=wt l s):=by
 unfold Fb
 refine H4b (A9a l s (by omega) _ 0 rfl (Vo _)) ?_
 intro r hr
 rw[Wh,Wl]at hr
 subst hr
 have hj:=Acb l s
 generalize hjj:tpl l s=j at *
 dsimp only
 have hno:¬ (j<l.length∧teq (l.getD j Nm) s=true)→Tot (λ k=>cond (decide ((0:Int)≤(j:Int))) (cond (decide ((j:Int)≤(length l:Int))) (cond (Nat.ble ((length ([]:List ByteArray)+length (List.take (toNat (j:Int)) l))*16) 140737488355328) (let v3:List ByteArray:=([]:List ByteArray)++(List.take (toNat (j:Int)) l);cond (Nat.ble ((length v3+length [s])*16) 140737488355328) (cond (decide ((0:Int)≤(j:Int))) (cond (decide ((j:Int)≤(length l:Int))) (cond (Nat.ble ((length (v3++[s])+length (List.drop (toNat (j:Int)) l))*16) 140737488355328) (some ((v3++[s])++(List.drop (toNat (j:Int)) l))) none) none) none) none) none) none) none)
   (λ r=>r=wt l s):=by
  intro hn
  refine H7b (by omega) (H7b (by omega) ?_)
  rw[show toNat (j:Int)=j from Va j]
  refine Hbb (by simp only[Vj,Vs];omega) ?_
  refine Hbb (by simp only[Ve,Vj,Vs,Vd];omega) ?_
  refine H7b (by omega) (H7b (by omega) (Hbb (by simp only[Ve,Vj,Vs,We,Vd];omega) (H3b ?_)))
  unfold wt
  rw[hjj,if_neg hn,Vx]
 refine Hab (λ h=>?_) (λ h=>hno (λ hh=>h (by omega)))
 refine H7b (by omega) (H7b h ?_)
 rw[show toNat (j:Int)=j from Va j]at *
 refine H9b (λ he=>H3b ?_) (λ he=>hno (λ hh=>?_))
 ·unfold wt
  rw[hjj,if_pos ⟨by omega,he⟩]
 ·have h2:teq (l.getD j Nm) s=false:=he
  rw[h2]at hh
  cases hh.2
def Ifa {l:List ByteArray} {s y:ByteArray}:y∈wt l s↔y=s∨y∈l:=by
 unfold wt
 by_cases h:tpl l s<l.length∧teq (l.getD (tpl l s) Nm) s=true
 ·rw[if_pos h]
  refine⟨.inr,λ h'=>?_⟩
  rcases h' with rfl|h'
  ·have:=A3 (d:=Nm) h.1
   rwa [Iw.1 h.2]at this
  ·exact h'
 ·rw[if_neg h]
  have e:l.take (tpl l s)++l.drop (tpl l s)=l:=Wq _ _
  constructor
  ·intro h'
   rw[Vp]at h'
   rcases Vq.1 h' with h'|h'
   ·right;rw[← e];exact Wc _ h'
   ·rcases Vq.1 h' with h'|h'
    ·left;simpa using h'
    ·right;rw[← e];exact Vt _ h'
  ·rintro (rfl|h')
   ·simp
   ·rw[← e]at h'
    rcases Vq.1 h' with h'|h'<;>simp[h']
def O0a (p:ByteArray→Bool):∀ l:List ByteArray,l.take (l.takeWhile p).length=l.takeWhile p∧l.drop (l.takeWhile p).length=l.dropWhile p
 |[]=>⟨rfl,rfl⟩
 |y::l=>by
  obtain⟨h1,h2⟩:=O0a p l
  simp only[Zs,Inb]
  cases p y with
  |true=>simp[h1,h2]
  |false=>simp
def Eba {p:ByteArray→Bool}:∀ {l:List ByteArray} {y:ByteArray},y∈l.takeWhile p→p y=true
 |[],y,h=>by simp at h
 |z::l,y,h=>by
  simp only[Zs]at h
  cases hz:p z
  ·rw[hz]at h;simp at h
  rw[hz]at h
  simp only[if_true]at h
  rcases Vl.1 h with rfl|h
  ·exact hz
  ·exact Eba h
def C7a {s:ByteArray}:∀ {l:List ByteArray},TS l→(∀ y r,l.dropWhile (λ y=>tlt y s)=y::r→y≠s)→∀ z∈l.dropWhile (λ y=>tlt y s),tlt s z=true
 |[],_,_,z,hz=>by simp at hz
 |y::l,hs,hn,z,hz=>by
  obtain⟨h1,h2⟩:=Wj.1 hs
  simp only[Inb]at hz hn
  cases hy:tlt y s with
  |true=>
   rw[hy]at hz hn
   simp only[if_true]at hz hn
   exact C7a h2 hn z hz
  |false=>
   rw[hy]at hz hn
   simp only[Ya,if_false]at hz hn
   have hxy:tlt s y=true:=by
    cases hh:tlt s y with
    |true=>rfl
    |false=>exact absurd (Bva hy hh) (hn y l rfl)
   rcases Vl.1 hz with rfl|hz
   ·exact hxy
   ·exact Nu hxy (h1 z hz)
def Qu {l:List ByteArray} {s:ByteArray} (hs:TS l):TS (wt l s):=by
 unfold wt
 by_cases h:tpl l s<l.length∧teq (l.getD (tpl l s) Nm) s=true
 ·rw[if_pos h];exact hs
 ·rw[if_neg h]
  obtain⟨e1,e2⟩:=O0a (λ y=>tlt y s) l
  have hd:∀ y r,l.dropWhile (λ y=>tlt y s)=y::r→y≠s:=by
   intro y r hr hy
   rw[← e2]at hr
   have hlt:tpl l s<l.length:=by
    rcases Ipb (tpl l s) l.length with h'|h'
    ·exact h'
    ·have:l.drop (tpl l s)=[]:=Wa h'
     unfold tpl at this
     rw[this]at hr
     cases hr
   have:l.drop (tpl l s)=l.getD (tpl l s) Nm::l.drop (tpl l s+1):=Ad hlt
   unfold tpl at this
   rw[this]at hr
   simp only[Yl]at hr
   exact h ⟨hlt,Iw.2 (hr.1.trans hy)⟩
  have e1':l.take (tpl l s)=l.takeWhile (λ y=>tlt y s):=e1
  have e2':l.drop (tpl l s)=l.dropWhile (λ y=>tlt y s):=e2
  rw[e1',e2',Vp]
  have hs':TS (l.takeWhile (λ y=>tlt y s)++l.dropWhile (λ y=>tlt y s)):=by rw[Iab];exact hs
  obtain⟨h1,h2,h3⟩:=Zd.1 hs'
  refine Zd.2 ⟨h1,Wj.2 ⟨λ z hz=>C7a hs hd z hz,h2⟩,λ a ha b hb=>?_⟩
  rcases Vl.1 hb with rfl|hb
  ·exact Eba (p:=λ y=>tlt y b) ha
  ·exact h3 a ha b hb

def O1a {l:List ByteArray} {s:ByteArray}:(wt l s).length≤l.length+1:=by
 unfold wt
 have:=Acb l s
 split
 ·omega
 ·simp only[Ve,Vs,We,Vd,Vj];omega

section
variable {α σ R:Type} {a b:α} {p:Prop} [Decidable p]
def dT (h:p):cond (decide p) a b=a:=by rw[decide_eq_true h];rfl
def dF (h:¬ p):cond (decide p) a b=b:=by rw[decide_eq_false h];rfl
def bT {m n:Nat} (h:m≤n):cond (Nat.ble m n) a b=a:=by rw[Zj h];rfl
def Hcb {L:Nat→Int→σ→Option R} {Q:R→Prop} (n:Nat) (I:Nat→σ→Prop) (hend:∀ s,I n s→Tot (λ k=>L (k+1) (n:Int) s) Q)
  (Lpa:∀ i s,i<n→I i s→(∀ s',I (i+1) s'→Tot (λ k=>L k ((i:Int)+1) s') Q)→Tot (λ k=>L (k+1) (i:Int) s) Q):
  ∀ (i:Nat) (s:σ),i≤n→I i s→Tot (λ k=>L k (i:Int) s) Q:=by
 suffices h:∀ (m i:Nat) (s:σ),n-i=m→i≤n→I i s→Tot (λ k=>L k (i:Int) s) Q from λ i s hi hs=>h _ i s rfl hi hs
 intro m
 induction m with
 |zero=>
  intro i s hm hi hs
  obtain rfl:i=n:=by omega
  exact Tot.succ (hend s hs)
 |succ m ih=>
  intro i s hm hi hs
  refine Tot.succ (Lpa i s (by omega) hs λ s' hs'=>?_)
  have:=ih (i+1) s' (by omega) (by omega) hs'
  rwa [show (((i+1:Nat)):Int)=(i:Int)+1 by omega]at this
end
def cst (x:BitVec 32):BitVec 32:=if x.getLsbD 0 then (x >>> 1) ^^^ 2197175160#32 else x >>> 1
def D8a:Nat→BitVec 32→BitVec 32
 |0,x=>x
 |n+1,x=>D8a n (cst x)
def cby (x:BitVec 32) (b:Int):BitVec 32:=D8a 8 (x ^^^ ofInt 32 b)
def Dnb (l:List Int):BitVec 32 := ~~~ (l.foldl cby 4294967295#32)
def crc (l:List Int):Int:=((Dnb l).toNat:Int)
def Gtb (v:BitVec 32):v.getLsbD 0=decide (v.toNat % 2=1):=by
 rw[BitVec.getLsbD,Nat.testBit_zero]
def L5a (v:BitVec 32):ofInt (IntKind.bits .u32) (v.toNat:Int)=v:=by
 show ofInt 32 (v.toNat:Int)=v
 rw[BitVec.ofInt_natCast,BitVec.ofNat_toNat,BitVec.setWidth_eq]
def L6a (n:Nat) (h:n<4294967296):(ofInt (IntKind.bits .i64) (n:Int)).toNat=n:=Sq n (by omega)
def G9b (v:BitVec 32):wrap .u32 (v.toNat:Int)=(v.toNat:Int):=K1b _ ⟨by omega,by have:=v.isLt;omega⟩
def sh1 (v:BitVec 32):Int.fdiv (v.toNat:Int) 2=((v >>> 1).toNat:Int):=by
 rw[Hpb _ (by omega),BitVec.toNat_ushiftRight,Nat.shiftRight_eq_div_pow]
 omega
def Gab (v:BitVec 32):((wrap .u32 ((ofInt (IntKind.bits .u32) (v.toNat:Int) &&& ofInt (IntKind.bits .u32) 1).toNat))==1)=v.getLsbD 0:=by
 show (wrap .u32 (((ofInt 32 (v.toNat:Int) &&& ofInt 32 1).toNat:Nat):Int)==1)=_
 rw[show ofInt 32 (v.toNat:Int)=v from L5a v,G9b,Gtb,Imb,show (ofInt 32 1).toNat=1 from by decide,Nat.and_one_is_mod,J1b,beq_iff_eq,decide_eq_true_iff]
 omega
def Gbb (v:BitVec 32):((wrap .i64 ((ofInt (IntKind.bits .i64) (v.toNat:Int) &&& ofInt (IntKind.bits .i64) 1).toNat))==1)=v.getLsbD 0:=by
 have:=v.isLt
 rw[Gtb,Imb,L6a _ v.isLt,show (ofInt (IntKind.bits .i64) 1).toNat=1 from by decide,Nat.and_one_is_mod,w64 (by omega) (by omega),J1b,beq_iff_eq,decide_eq_true_iff]
 omega
def Gcb (v w:BitVec 32) (x:Int) (h:ofInt 32 x=w):wrap .u32 ((ofInt (IntKind.bits .u32) (v.toNat:Int) ^^^ ofInt (IntKind.bits .u32) x).toNat)=((v ^^^ w).toNat:Int):=by
 show wrap .u32 (((ofInt 32 (v.toNat:Int) ^^^ ofInt 32 x).toNat:Nat):Int)=_
 rw[show ofInt 32 (v.toNat:Int)=v from L5a v,h]
 exact G9b _
def Ftb (v w:BitVec 32):wrap .i64 ((ofInt (IntKind.bits .i64) (v.toNat:Int) ^^^ ofInt (IntKind.bits .i64) (w.toNat:Int)).toNat)=((v ^^^ w).toNat:Int):=by
 have:=(v ^^^ w).isLt
 rw[BitVec.toNat_xor,L6a _ v.isLt,L6a _ w.isLt,← BitVec.toNat_xor]
 exact w64 (by omega) (by omega)
def Gub (K:IntKind) (h:1≤IntKind.bits K):(2:Int) ^ (min (toNat 1) (IntKind.bits K))=2:=by
 rw[show toNat 1=1 from rfl,Zy h];rfl
def Pya (l:List Int) (x8 x9:Int):∀ (n:Nat) (v:BitVec 32) (i:Int),0≤i→8-i=n→Tot (λ k=>L5 k (v.toNat:Int) l x8 x9 i) (λ r=>r=(((D8a n v).toNat:Int),l,x8,x9)):=by
 intro n
 induction n with
 |zero=>
  intro v i h0 hn
  refine Tot.succ ?_
  simp only[L5]
  exact H8b (by omega) (H3b rfl)
 |succ n ih=>
  intro v i h0 hn
  refine Tot.succ ?_
  simp only[L5]
  refine H7b (by omega) ?_
  rw[w64 (n:=i+1) (by omega) (by omega),Gab,Gub _ (by decide),sh1,Gcb _ 2197175160#32 _ (by decide)]
  have e:D8a (n+1) v=D8a n (cst v):=rfl
  rw[e]
  refine H9b (λ h=>?_) (λ h=>?_)
  ·have:=ih (v >>> 1 ^^^ 2197175160#32) (i+1) (by omega) (by omega)
   rwa [show v >>> 1 ^^^ 2197175160#32=cst v by unfold cst;rw[if_pos h]]at this ⊢
  ·have:=ih (v >>> 1) (i+1) (by omega) (by omega)
   rwa [show v >>> 1=cst v by unfold cst;rw[if_neg (by rw[h];simp)]]at this ⊢
def L7a (l:List Int) (x4:Int):∀ (n:Nat) (v:BitVec 32) (i:Int),0≤i→8-i=n→Tot (λ k=>L6 k l (v.toNat:Int) x4 i) (λ r=>r=(l,((D8a n v).toNat:Int),x4)):=by
 intro n
 induction n with
 |zero=>
  intro v i h0 hn
  refine Tot.succ ?_
  simp only[L6]
  exact H8b (by omega) (H3b rfl)
 |succ n ih=>
  intro v i h0 hn
  refine Tot.succ ?_
  simp only[L6]
  have hp:(2197175160:Int)=((2197175160#32:BitVec 32).toNat:Int):=by decide
  refine H7b (by omega) ?_
  rw[w64 (n:=i+1) (by omega) (by omega),Gbb,Gub _ (by decide),sh1,hp,Ftb]
  have e:D8a (n+1) v=D8a n (cst v):=rfl
  rw[e]
  refine H9b (λ h=>?_) (λ h=>?_)
  ·have:=ih (v >>> 1 ^^^ 2197175160#32) (i+1) (by omega) (by omega)
   rwa [show v >>> 1 ^^^ 2197175160#32=cst v by unfold cst;rw[if_pos h]]at this ⊢
  ·have:=ih (v >>> 1) (i+1) (by omega) (by omega)
   rwa [show v >>> 1=cst v by unfold cst;rw[if_neg (by rw[h];simp)]]at this ⊢
def O2a {b:Int} (h:0≤b∧b≤255):b=((ofInt 32 b).toNat:Int):=by
 rw[Ixb]
 omega
def Clb (l:List Int) (hb:Ao l) (hl:l.length≤1000000000000):Tot (λ k=>Nf k l) (λ r=>r=crc l):=by
 unfold Nf
 refine H4b (Q:=λ r=>r=(((l.foldl cby 4294967295#32).toNat:Nat):Int)) ?_ ?_
 ·have:=Hcb (L:=λ k i s=>Lk k s l (l.length:Int) i) (Q:=λ r=>r=(((l.foldl cby 4294967295#32).toNat:Nat):Int)) l.length (λ i s=>∃ v:BitVec 32,s=(v.toNat:Int)∧(l.drop i).foldl cby v=l.foldl cby 4294967295#32) ?_ ?_ 0 4294967295 (Vo _) ⟨4294967295#32,by decide,by rw[Wh]⟩
  ·exact this
  ·rintro s ⟨v,rfl,hv⟩
   simp only[Lk]
   rw[Vz]at hv
   exact H8b (by omega) (H3b (by rw[← hv];rfl))
  ·rintro i s hi ⟨v,rfl,hv⟩ next
   simp only[Lk]
   have hx:=hb _ (A3 (d:=0) hi)
   refine H7b (by omega) (H7b (by omega) (H7b (by omega) ?_))
   rw[Va,K1b _ ⟨hx.1,by omega⟩,Gcb v _ _ rfl]
   refine Hfb (Pya l _ _ 8 _ 0 (by decide) (by decide)) ?_
   simp only
   rw[w64 (n:=(i:Int)+1) (by omega) (by omega)]
   refine next _ ⟨_,rfl,?_⟩
   rw[Ad (d:=0) hi,Yv]at hv
   exact hv
 ·rintro r rfl
  refine H3b ?_
  unfold crc Dnb
  have hm:ofInt 32 (if IntKind.signed .u32 then -1 else IntKind.max .u32)=BitVec.allOnes 32:=by decide
  have e:BitVec.allOnes 32 ^^^ l.foldl cby 4294967295#32 = ~~~ (l.foldl cby 4294967295#32):=by rw[Kbb];exact BitVec.xor_allOnes
  show wrap .i64 (wrap .u32 (((ofInt 32 (if IntKind.signed .u32 then -1 else IntKind.max .u32) ^^^ ofInt 32 ((l.foldl cby 4294967295#32).toNat:Int)).toNat:Nat):Int))=_
  rw[show ofInt 32 ((l.foldl cby 4294967295#32).toNat:Int)=l.foldl cby 4294967295#32 from L5a _,hm,e]
  have:=(~~~ (l.foldl cby 4294967295#32)).isLt
  rw[G9b,w64 (by omega) (by omega)]
def Cmb (l:List Int) (hb:Ao l) (hl:l.length≤1000000000000):Tot (λ k=>Ng k l) (λ r=>r=crc l):=by
 unfold Ng
 refine H4b (Q:=λ r=>r=(((l.foldl cby 4294967295#32).toNat:Nat):Int)) ?_ ?_
 ·have:=Hcb (L:=λ k i s=>Lr k l s i) (Q:=λ r=>r=(((l.foldl cby 4294967295#32).toNat:Nat):Int)) l.length (λ i s=>∃ v:BitVec 32,s=(v.toNat:Int)∧(l.drop i).foldl cby v=l.foldl cby 4294967295#32) ?_ ?_ 0 4294967295 (Vo _) ⟨4294967295#32,by decide,by rw[Wh]⟩
  ·exact this
  ·rintro s ⟨v,rfl,hv⟩
   simp only[Lr]
   rw[Vz]at hv
   exact H8b (by omega) (H3b (by rw[← hv];rfl))
  ·rintro i s hi ⟨v,rfl,hv⟩ next
   simp only[Lr]
   have hx:=hb _ (A3 (d:=0) hi)
   refine H7b (by omega) (H7b (by omega) (H7b (by omega) ?_))
   rw[Va,w64 (n:=l.getD i 0) (by omega) (by omega),O2a hx,Ftb]
   refine Hfb (L7a l _ 8 _ 0 (by decide) (by decide)) ?_
   simp only
   rw[w64 (n:=(i:Int)+1) (by omega) (by omega)]
   refine next _ ⟨_,rfl,?_⟩
   rw[Ad (d:=0) hi,Yv]at hv
   exact hv
 ·rintro r rfl
  refine H3b ?_
  have hp:(4294967295:Int)=((BitVec.allOnes 32:BitVec 32).toNat:Int):=by decide
  rw[hp,Ftb,BitVec.xor_allOnes]
  rfl

def Etb:Fil:=(((0:Int),((0:Int),(0:Int))),(false,([]:List Int)))
def F8 (f:Fil):Bool:=Ga f.1&&(decide ((f.2.2.length:Int)≤200)&&(!f.2.1||((f.2.2.length:Int)==0)))
def Aqa (f:Fil):Ec f=some (F8 f):=by
 unfold Ec F8
 rw[W5]
 simp only[Vn]
 cases Ga f.1<;>cases decide ((length f.2.2:Int)≤200)<;>cases f.2.1<;>rfl
def Foa (f:Fil):Gp f=some (F8 f):=by
 unfold Gp F8
 rw[Bya]
 simp only[Vn]
 cases Ga f.1<;>cases decide ((length f.2.2:Int)≤200)<;>cases f.2.1<;>rfl
def K6 {f:Fil}:F8 f=true↔Ga f.1=true∧f.2.2.length≤200∧(f.2.1=true→f.2.2=[]):=by
 unfold F8
 rw[Vb,Vb,decide_eq_true_iff]
 have:(!f.2.1||((f.2.2.length:Int)==0))=true↔(f.2.1=true→f.2.2=[]):=by
  cases f.2.1 with
  |false=>simp
  |true=>simp
 rw[this]
 constructor
 ·rintro⟨h1,h2,h3⟩;exact⟨h1,by omega,h3⟩
 ·rintro⟨h1,h2,h3⟩;exact⟨h1,by omega,h3⟩
def Tya (a b:Fil):Md a b=some (sle b.1 a.1):=by unfold Md;rw[W1];rfl
def Tza (a b:Fil):Mg a b=some (sle b.1 a.1):=by unfold Mg;rw[Nja];rfl
def hdF (s:Stp) (d:Bool):List Int:=Qra s++Qc (Bv (Fka d))
def Qd (f:Fil):List Int:=hdF f.1 f.2.1++txt (M9 f.2.2)
def c4 (c:Int):List Int:=[wrap .u8 (Int.fdiv c (2 ^ (min (toNat 24) (IntKind.bits .i64)))),wrap .u8 (Int.fdiv c (2 ^ (min (toNat 16) (IntKind.bits .i64)))),wrap .u8 (Int.fdiv c (2 ^ (min (toNat 8) (IntKind.bits .i64)))),wrap .u8 c]
def Mv (f:Fil):List Int:=bif F8 f then Qd f++c4 (crc (Qd f)) else []
def Qv {a b:List Int} (ha:Ao a) (hb:Ao b):Ao (a++b):=λ x hx=>(Vq.1 hx).elim (ha x) (hb x)
def Sr (n:Int):Ao (Qc (Bv n)):=Psa _ (Ps n)
def U0a (s:Stp) (d:Bool):Ao (hdF s d):=Qv (Qv (Sr _) (Qv (Sr _) (Sr _))) (Sr _)
def Rk (f:Fil):Ao (Qd f):=Qv (U0a _ _) (Qv (Sr _) (E4a _))
def Y3a (c:Int):Ao (c4 c):=by
 intro x hx
 simp only[c4,Vl,Hlb,or_false]at hx
 rcases hx with rfl|rfl|rfl|rfl<;>exact Hya _
def Th (f:Fil):Ao (Mv f):=by
 unfold Mv
 cases F8 f with
 |false=>intro x hx;simp at hx
 |true=>exact Qv (Rk f) (Y3a _)
def L8a (s:Stp) (d:Bool):(hdF s d).length≤20:=by
 have h1:=Nsa s
 have h2:=(Nz (Bv (Fka d))).1
 unfold hdF
 rw[Ve]
 omega
def C8a (f:Fil):(Qd f).length≤25+f.2.2.length:=by
 have h1:=L8a f.1 f.2.1
 have h2:=Cdb (M9 f.2.2)
 have h3:(M9 f.2.2).size=f.2.2.length:=Pk _
 unfold Qd
 rw[Ve]
 omega
def Fpa (f:Fil):(Mv f).length≤229:=by
 unfold Mv
 cases h:F8 f
 ·simp
 have h1:=C8a f
 have h2:=(K6.1 h).2.1
 rw[cond_true,Ve]
 simp only[c4,Vd,Vj]
 omega
def Rl (f:Fil):Tot (λ k=>Fx k f) (λ r=>r=Mv f):=by
 unfold Fx Mv
 refine Hfb (Hhb (Q:=λ b=>b=F8 f) (Aqa f) rfl) ?_
 cases h:F8 f
 ·exact H6b rfl (H3b rfl)
 have h2:=(K6.1 h).2.1
 have h3:(M9 f.2.2).size=f.2.2.length:=Pk _
 have h4:=L8a f.1 f.2.1
 have h5:=C8a f
 refine H5b rfl (Hfb (Pta [] f.1 f.2.1 (by simp)) ?_)
 rw[Vx]
 refine Hfb (Xua _ _ (by unfold hdF at h4;omega) (by omega)) ?_
 have e:Qra f.1++Qc (Bv (Fka f.2.1))++txt (M9 f.2.2)=Qd f:=rfl
 rw[e]
 refine Hfb (Clb _ (Rk f) (by omega)) ?_
 exact Hbb (by simp only[Vd,Vj];omega) (H3b rfl)
def C9a (f:Fil):Tot (λ k=>Fz k f) (λ r=>r=Mv f):=by
 unfold Fz Mv
 refine Hfb (Hhb (Q:=λ b=>b=F8 f) (Foa f) rfl) ?_
 cases h:F8 f
 ·exact H6b rfl (H3b rfl)
 have h2:=(K6.1 h).2.1
 have h3:(M9 f.2.2).size=f.2.2.length:=Pk _
 have h4:=L8a f.1 f.2.1
 have h5:=C8a f
 have h6:=Nsa f.1
 refine H5b rfl (Hfb (Pua [] f.1 (by simp)) ?_)
 rw[Vx]
 refine Hfb (Hhb (Q:=λ r=>r=Fka f.2.1) (Xxa _) rfl) ?_
 refine Hfb (C2a _ _ (by omega)) ?_
 refine Hfb (Xva _ _ (by unfold hdF at h4;omega) (by omega)) ?_
 have e:Qra f.1++Qc (Bv (Fka f.2.1))++txt (M9 f.2.2)=Qd f:=rfl
 rw[e]
 refine Hfb (Cmb _ (Rk f) (by omega)) ?_
 exact Hbb (by simp only[Vd,Vj];omega) (H3b rfl)
def On (b:List Int):Option Fil:=(Rx b 0).bind λ a=>(Nqa b a.2).bind λ t=>bif F8 (a.1.1,a.1.2,bytesOf t.1)&&decide (Mv (a.1.1,a.1.2,bytesOf t.1)=b) then some (a.1.1,a.1.2,bytesOf t.1) else none
def Ss (b:List Int):Fil×Bool:=match On b with
 |some f=>(f,true)
 |none=>(Etb,false)
def L9a {b:List Int} {f:Fil} (h:On b=some f):F8 f=true∧Ao f.2.2∧Mv f=b:=by
 unfold On at h
 simp only[Iwb]at h
 obtain⟨a,_,t,_,h⟩:=h
 cases hc:(F8 (a.1.1,a.1.2,bytesOf t.1)&&decide (Mv (a.1.1,a.1.2,bytesOf t.1)=b))
 ·rw[hc]at h;cases h
 rw[hc]at h
 simp only[cond_true,Vg]at h
 subst h
 rw[Vb,decide_eq_true_iff]at hc
 exact⟨hc.1,E4a _,hc.2⟩
def U1a (s:Stp) (d:Bool) (rest:List Int) (h:Ga s=true):Rx (hdF s d++rest) 0=some ((s,d),(hdF s d).length):=by
 obtain⟨t,c,n⟩:=s
 unfold Ga at h
 simp only[Vb,Cf]at h
 obtain⟨⟨t0,t1⟩,⟨c0,c1⟩,n0,n1⟩:=h
 have ht:=C0a t0 t1
 have hc:=C0a c0 (show c≤1000000000 by omega)
 have hn:=C0a n0 (show n≤1000000000 by omega)
 have hbit:(((Bv (Fka d):Nat):Int)==1)=d:=by cases d<;>decide
 have hbit2:¬ (1<Bv (Fka d)):=by cases d<;>decide
 have k:∀ (a:List Int) (n:Nat) (b:List Int),n≤1000000000→Qf (a++(Qc n++b)) a.length=some (n,(a++Qc n).length):=λ a n b hn=>by rw[Noa a n b hn,Ve]
 have e0:hdF (t,c,n) d++rest=Qc (Bv t)++(Qc (Bv c)++(Qc (Bv n)++(Qc (Bv (Fka d))++rest))):=by
  unfold hdF Qra
  simp only[Vp]
 have el:(hdF (t,c,n) d).length=(Qc (Bv t)).length+(Qc (Bv c)).length+(Qc (Bv n)).length+(Qc (Bv (Fka d))).length:=by
  unfold hdF Qra
  simp only[Ve]
  omega
 have g1:=k [] (Bv t) (Qc (Bv c)++(Qc (Bv n)++(Qc (Bv (Fka d))++rest))) (Ps t)
 have g2:=k (Qc (Bv t)) (Bv c) (Qc (Bv n)++(Qc (Bv (Fka d))++rest)) (Ps c)
 have g3:=k (Qc (Bv t)++Qc (Bv c)) (Bv n) (Qc (Bv (Fka d))++rest) (Ps n)
 have g4:=k (Qc (Bv t)++Qc (Bv c)++Qc (Bv n)) (Bv (Fka d)) rest (Ps _)
 simp only[Vp,Vx,Vj]at g1 g2 g3 g4
 simp only[Ve]at g1 g2 g3 g4
 unfold Rx
 rw[e0,el]
 simp only[Zh]at g1 g2 g3 g4 ⊢
 simp only[g1,g2,g3,g4,Vn,decide_eq_false hbit2,cond_false]
 rw[ht,hc,hn,hbit]
def Y4a {l:List Int} {q:Nat} {s:Stp} {d:Bool} (hb:Ao l) (h:Rx l 0=some ((s,d),q)):l=hdF s d++l.drop q∧q≤l.length:=by
 unfold Rx at h
 simp only[Iwb]at h
 obtain⟨⟨t,p2⟩,h2,⟨c,p3⟩,h3,⟨n,p4⟩,h4,⟨e,p5⟩,h5,h⟩:=h
 obtain⟨b1,b2,b3,b4⟩:=Uf hb h2
 obtain⟨c1,c2,c3,c4⟩:=Uf hb h3
 obtain⟨d1,d2,d3,d4⟩:=Uf hb h4
 obtain⟨e1,e2,e3,e4⟩:=Uf hb h5
 cases hd:decide (1<e)
 case true=>simp only[hd,cond_true]at h;cases h
 simp only[hd,cond_false,Vg,Vy]at h
 obtain⟨⟨⟨rfl,rfl,rfl⟩,rfl⟩,rfl⟩:=h
 have he:e≤1:=by
  have:=of_decide_eq_false hd
  omega
 have hbit:Bv (Fka ((e:Int)==1))=e:=by
  have:e=0∨e=1:=by omega
  rcases this with rfl|rfl<;>decide
 have k:∀ n:Nat,n≤1000000000→Bv (n:Int)=n:=λ n hn=>by unfold Bv;omega
 simp only at b1 b2 c1 c2 d1 d2 e1 e2
 refine⟨?_,e4⟩
 rw[Wh]at b1
 unfold hdF Qra
 simp only
 rw[k t b2,k c c2,k n d2,hbit,Vp,Vp,Vp,← e1,← d1,← c1,← b1]
def Ara {f:Fil} (h:F8 f=true) (hb:Ao f.2.2):On (Mv f)=some f:=by
 obtain⟨h1,h2,h3⟩:=K6.1 h
 have e:Mv f=hdF f.1 f.2.1++(txt (M9 f.2.2)++c4 (crc (Qd f))):=by
  unfold Mv
  rw[h,cond_true]
  unfold Qd
  rw[Vp]
 have g1:=U1a f.1 f.2.1 (txt (M9 f.2.2)++c4 (crc (Qd f))) h1
 have g2:=Xwa (hdF f.1 f.2.1) (M9 f.2.2) (c4 (crc (Qd f))) (by rw[Pk];omega)
 rw[← e]at g1 g2
 unfold On
 simp only[g1,g2,Vn]
 rw[Pd hb]
 have e1:(f.1,f.2.1,f.2.2)=f:=rfl
 rw[e1,h,decide_eq_true rfl]
 rfl
def St {a b:List Int} (ha:Ao a) (hb:Ao b):((M9 a).toList==(M9 b).toList)=decide (a=b):=by
 have:teq (M9 a) (M9 b)=decide (a=b):=by
  rw[J1b,Iw,decide_eq_true_iff]
  constructor
  ·intro h
   have:=congrArg bytesOf h
   rwa [Pd ha,Pd hb]at this
  ·rintro rfl;rfl
 exact this
def Y5a (l:List Int) (hb:Ao l) (hl:l.length≤1000000000000) (p:Int) (hp:p≤1000000000000):
  Tot (λ k=>De k (l,p,true)) (λ r=>r=((⟨#[]⟩:ByteArray),l,p,true)):=by
 unfold De
 refine Hfb (Nra l hb hl p hp) ?_
 exact H6b rfl (H3b rfl)
def Y6a {f:Fil}:(((Mv f).length:Int)==0) = !(F8 f):=by
 unfold Mv
 cases h:F8 f
 ·rfl
 rw[cond_true,Ve,Za,beq_eq_false_iff_ne]
 simp only[c4,Vd,Vj]
 omega
def Ow (b:List Int) (hb:Ao b) (hl:b.length≤1000000000000):Tot (λ k=>Bz k b) (λ r=>r=Ss b):=by
 unfold Bz
 refine H4b (G8b b hb hl 0 (Vo _) false) ?_
 rintro r (⟨_,⟨s,d⟩,q,h1,h2,rfl⟩|⟨h1,s,d,q,h2,rfl⟩)
 ·refine H4b (G7b b hb hl q h2) ?_
  rintro r (⟨t,q2,h3,h4,rfl⟩|⟨h3,rfl⟩)
  ·have hsz:=(Kza hb h3).2.1
   refine Hbb (by dsimp only;omega) (Hfb (Rl _) ?_)
   refine H5b rfl ?_
   have e:Ss b=bif F8 (s,d,bytesOf t)&&decide (Mv (s,d,bytesOf t)=b) then ((s,d,bytesOf t),true) else (Etb,false):=by
    unfold Ss On
    simp only[h1,h3,Vn]
    cases F8 (s,d,bytesOf t)&&decide (Mv (s,d,bytesOf t)=b)<;>rfl
   simp only
   rw[e,Y6a]
   cases hf:F8 (s,d,bytesOf t)
   ·exact H6b rfl (H3b rfl)
   refine H5b rfl ?_
   rw[St (Th _) hb]
   cases decide (Mv (s,d,bytesOf t)=b) with
   |false=>exact H6b rfl (H3b rfl)
   |true=>exact H5b rfl (H3b rfl)
  ·refine Hbb (Vo _) (Hfb (Rl _) ?_)
   refine H6b rfl (H3b ?_)
   unfold Ss On
   simp only[h1,h3,Vn,I0b]
   rfl
 ·refine Hfb (Y5a b hb hl q (by omega)) ?_
  refine Hbb (Vo _) (Hfb (Rl _) ?_)
  refine H6b rfl (H3b ?_)
  unfold Ss On
  simp only[h1.resolve_left (by simp),I0b]
  rfl
def Caa (b:List Int) (hb:Ao b) (hl:b.length≤1000000000000):Tot (λ k=>Hq k b) (λ r=>r=Ss b):=by
 have none_of:On b=none→Ss b=(Etb,false):=λ h=>by unfold Ss;rw[h]
 unfold Hq
 refine H4b (Ceb b hb hl 0) ?_
 rintro r (⟨n1,p1,n2,p2,n3,p3,_,g1,g2,g3,rfl⟩|⟨h,hr⟩)
 ·refine Hfb (Xv b hb hl (p3:Int)) ?_
  rw[Apa]
  have g1':Qf b 0=some (n1,p1):=g1
  cases g4:Qf b p3 with
  |none=>
   refine Hfb (Fja b hb hl 0) ?_
   refine H5b rfl (H6b rfl (H3b (none_of ?_).symm))
   unfold On Rx
   simp only[g1',g2,g3,g4,Vn,I0b]
  |some x=>
   obtain⟨n4,p4⟩:=x
   simp only
   have es:Rx b 0=bif decide (1<n4) then none else some ((((n1:Int),(n2:Int),(n3:Int)),(n4:Int)==1),p4):=by
    unfold Rx
    simp only[g1',g2,g3,g4,Vn]
   refine Hfb (Fja b hb hl (p4:Int)) ?_
   rw[Nta]
   refine H5b rfl (H5b rfl ?_)
   cases g5:Nqa b p4 with
   |none=>
    refine H6b rfl (H3b (none_of ?_).symm)
    unfold On
    rw[es]
    cases decide (1<n4) with
    |true=>rfl
    |false=>simp only[cond_false,Vn,g5,I0b]
   |some y=>
    obtain⟨t,q⟩:=y
    refine H5b rfl (Hab (λ h=>H3b (none_of ?_).symm) (λ h=>?_))
    ·unfold On
     rw[es,decide_eq_true (by omega)]
     rfl
    ·rw[decide_eq_false (by omega),cond_false]at es
     have hq:=Kza hb g5
     simp only
     rw[w64 (n:=(q:Int)+4) (by omega) (by omega)]
     have ef:On b=bif F8 (((n1:Int),(n2:Int),(n3:Int)),(n4:Int)==1,bytesOf t)&&decide (Mv (((n1:Int),(n2:Int),(n3:Int)),(n4:Int)==1,bytesOf t)=b) then some (((n1:Int),(n2:Int),(n3:Int)),(n4:Int)==1,bytesOf t) else none:=by
      unfold On
      simp only[es,g5,Vn]
     refine H9b (λ h4=>H3b (none_of ?_).symm) (λ h4=>?_)
     ·rw[ef]
      cases hc:(F8 (((n1:Int),(n2:Int),(n3:Int)),(n4:Int)==1,bytesOf t)&&decide (Mv (((n1:Int),(n2:Int),(n3:Int)),(n4:Int)==1,bytesOf t)=b))
      ·rfl
      exfalso
      rw[Vb,decide_eq_true_iff]at hc
      have a1:=(Y4a hb es).1
      rw[hq.1]at a1
      have a2:=hc.2
      unfold Mv at a2
      rw[hc.1,cond_true]at a2
      unfold Qd at a2
      simp only at a2
      rw[W9,Vp]at a2
      rw[← a2]at a1
      have a3:=K4b (K4b a1)
      have a4:=congrArg length a3
      rw[a2,We]at a4
      simp only[c4,Vd,Vj]at a4
      have:(q:Int)+4=(b.length:Int):=by omega
      simp[this]at h4
     ·refine Hbb (by simp only[Vj];omega) ?_
      rw[Vx]
      refine Hfb (Hhb (Q:=λ r=>r=F8 (((n1:Int),(n2:Int),(n3:Int)),(n4:Int)==1,bytesOf t)) (Foa _) rfl) ?_
      unfold Ss
      rw[ef]
      cases hf:F8 (((n1:Int),(n2:Int),(n3:Int)),(n4:Int)==1,bytesOf t)
      ·exact H6b rfl (H3b rfl)
      refine H5b rfl (Hfb (C9a _) ?_)
      rw[St (Th _) hb,Wd]
      cases decide (Mv (((n1:Int),(n2:Int),(n3:Int)),(n4:Int)==1,bytesOf t)=b) with
      |false=>exact H6b rfl (H3b rfl)
      |true=>exact H5b rfl (H3b rfl)
 ·obtain⟨r1,r2,r3⟩:=r
  simp only at hr
  subst hr
  refine Hfb (Xv b hb hl _) ?_
  refine Hfb (Fja b hb hl _) ?_
  refine H6b rfl (H3b (none_of ?_).symm)
  unfold On
  rw[Toa (p:=0) (h.resolve_right (by omega))]
  rfl

def gt (l:List Nmd) (s:ByteArray):Option (List Int):=match fnd l s with
 |some i=>some (l.getD i C3).2
 |none=>none
def Laa (y:Nmd) (l:List Nmd) (s:ByteArray):gt (y::l) s=if y.1=s then some y.2 else gt l s:=by
 unfold gt
 rw[Nya]
 by_cases h:y.1=s
 ·rw[if_pos (Iw.2 h),if_pos h];rfl
 ·rw[if_neg (λ c=>h (Iw.1 c)),if_neg h]
  cases fnd l s<;>rfl
def Q5 {l:List Nmd} {s:ByteArray} {b:List Int} (h:gt l s=some b):(s,b)∈l:=by
 induction l with
 |nil=>cases h
 |cons y l ih=>
  rw[Laa]at h
  by_cases e:y.1=s
  ·rw[if_pos e]at h
   cases h
   subst e
   exact Yb
  ·rw[if_neg e]at h
   exact Vh _ (ih h)
def Ox {l:List Nmd} {s:ByteArray}:gt l s=none↔∀ x∈l,x.1≠s:=by
 rw[← Xza]
 unfold gt
 cases fnd l s with
 |none=>simp
 |some i=>simp
def Lba {l:List Nmd} (hs:Hh l) {x:Nmd} (hx:x∈l):gt l x.1=some x.2:=by
 cases h:gt l x.1 with
 |none=>exact absurd rfl (Ox.1 h x hx)
 |some b=>rw[show x=(x.1,b) from Ckb hs hx (Q5 h) rfl]
def Iga {l:List Nmd} (hs:Hh l) {s:ByteArray} {b:List Int}:gt l s=some b↔(s,b)∈l:=⟨Q5,λ h=>Lba hs h⟩
def Cba {l:List Nmd} {s:ByteArray}:(gt l s).isSome=(fnd l s).isSome:=by
 unfold gt
 cases fnd l s<;>rfl
def Wu {l:List Nmd} (hs:Hh l) {s t:ByteArray}:gt (cut l s) t=if s=t then none else gt l t:=by
 by_cases h:s=t
 ·subst h
  rw[if_pos rfl,Ox]
  exact C6a
 ·rw[if_neg h]
  cases hg:gt l t with
  |none=>exact Ox.2 λ x hx=>Ox.1 hg x (Pt.subset hx)
  |some b=>
   rw[Iga (Ov hs)]
   refine J0b.2 ⟨Q5 hg,?_⟩
   cases ht:teq t s with
   |false=>simp[ht]
   |true=>exact absurd (Iw.1 ht).symm h
def Adb {l:List Nmd} (hs:Hh l) {x:Nmd} (hn:∀ y∈l,y.1≠x.1) {t:ByteArray}:gt (ins l x) t=if x.1=t then some x.2 else gt l t:=by
 have hi:=Tg hs hn
 by_cases h:x.1=t
 ·subst h
  rw[if_pos rfl,Iga hi]
  exact Xx.2 (.inl rfl)
 ·rw[if_neg h]
  cases hg:gt l t with
  |none=>
   refine Ox.2 λ y hy=>?_
   rcases Xx.1 hy with rfl|hy
   ·exact h
   ·exact Ox.1 hg y hy
  |some b=>
   rw[Iga hi]
   exact Xx.2 (.inr (Q5 hg))
def Aeb:∀ {l m:List Nmd},Hh l→Hh m→(∀ s,gt l s=gt m s)→l=m:=by
 have key:∀ {l m:List Nmd},Hh l→Hh m→(∀ s,gt l s=gt m s)→∀ x∈l,x∈m:=λ hl hm h x hx=>by
  have:=h x.1
  rw[Lba hl hx]at this
  exact Q5 this.symm
 intro l m hl hm h
 have h1:∀ x,x∈l↔x∈m:=λ x=>⟨key hl hm h x,key hm hl (λ s=>(h s).symm) x⟩
 clear h key
 induction l generalizing m with
 |nil=>
  cases m with
  |nil=>rfl
  |cons y m=>exact absurd ((h1 y).2 (by simp)) (by simp)
 |cons x l ih=>
  cases m with
  |nil=>exact absurd ((h1 x).1 (by simp)) (by simp)
  |cons y m=>
   obtain⟨a1,a2⟩:=Wj.1 hl
   obtain⟨b1,b2⟩:=Wj.1 hm
   have e:x=y:=by
    rcases Vl.1 ((h1 x).1 (by simp)) with h|h
    ·exact h
    ·rcases Vl.1 ((h1 y).2 (by simp)) with h'|h'
     ·exact h'.symm
     ·have c1:=a1 y h'
      rw[W0 (b1 x h)]at c1
      cases c1
   subst e
   congr 1
   refine ih a2 b2 λ z=>⟨λ hz=>?_,λ hz=>?_⟩
   ·rcases Vl.1 ((h1 z).1 (Vh _ hz)) with rfl|h
    ·have c:=a1 z hz
     rw[Lh]at c
     cases c
    ·exact h
   ·rcases Vl.1 ((h1 z).2 (Vh _ hz)) with rfl|h
    ·have c:=b1 z hz
     rw[Lh]at c
     cases c
    ·exact h
def U2a (l:List Nmd) (s:ByteArray):rdN l s=match gt l s with|some b=>(b,true)|none=>([],false):=by
 unfold rdN gt
 cases fnd l s<;>rfl
def J5 {s:ByteArray} (h:B2 s=true):Mo s:=by
 have:=(C3a h).2
 unfold Mo
 omega
def E8 {d:Dsk}:B8 d=true↔Ka d.1=true∧Ka d.2=true:=by
 unfold B8
 rw[Vb]
def N9 {d:Dsk} (h:B8 d=true):Hh d.1:=(Am.1 (E8.1 h).1).1
def Pu {d:Dsk} (h:B8 d=true):Hh d.2:=(Am.1 (E8.1 h).2).1
def LB (l:List Nmd):Prop:=∀ x∈l,Ao x.2
def DB (d:Dsk):Prop:=LB d.1∧LB d.2
def LB.cut {l:List Nmd} (h:LB l) (s:ByteArray):LB (cut l s):=λ x hx=>h x (Pt.subset hx)
def LB.ins {l:List Nmd} (h:LB l) {x:Nmd} (hx:Ao x.2):LB (ins l x):=λ y hy=>by
 rcases Xx.1 hy with rfl|hy
 ·exact hx
 ·exact h y hy
def LB.gt {l:List Nmd} (h:LB l) {s:ByteArray} {b:List Int} (hg:gt l s=some b):Ao b:=h _ (Q5 hg)
def P4:Ao []:=λ x hx=>by cases hx
def wr (l:List Nmd) (s:ByteArray) (b:List Int):List Nmd:=ins (cut l s) (s,b)
def sy (d:Dsk) (s:ByteArray):List Nmd:=match gt d.1 s with
 |some b=>wr d.2 s b
 |none=>cut d.2 s
def wrD (d:Dsk) (s:ByteArray) (b:List Int):Dsk×Bool:=bif decide (b.length≤400)&&decide ((wr d.1 s b).length≤60) then ((wr d.1 s b,d.2),true) else (d,false)
def syD (d:Dsk) (s:ByteArray):Dsk×Bool:=bif decide ((sy d s).length≤60) then ((d.1,sy d s),true) else (d,false)
def rmD (d:Dsk) (s:ByteArray):Dsk×Bool:=bif (gt d.1 s).isSome then ((cut d.1 s,d.2),true) else (d,false)
section
variable {d:Dsk} {s:ByteArray} {b:List Int}
def U3a (hd:B8 d=true):wrI d s b=wr d.1 s b:=by
 unfold wrI wr
 rw[Rj (N9 hd)]
def U4a (hd:B8 d=true):syI d s=sy d s:=by
 unfold syI sy gt wr
 rw[Rj (Pu hd)]
 cases fnd d.1 s<;>rfl
def Pza (hd:B8 d=true) (hs:B2 s=true) (hb:b.length≤1000000000000):Tot (λ k=>Ey k d s b) (λ r=>r=wrD d s b):=by
 refine(Txa d s b (Oi hd) (J5 hs) hb).mono ?_
 rintro r rfl
 rw[hd,hs,U3a hd]
 rfl
def Q0a (hd:B8 d=true) (hs:B2 s=true) (hb:b.length≤1000000000000):Tot (λ k=>F3 k d s b) (λ r=>r=wrD d s b):=by
 refine(Tva d s b (Oi hd) (J5 hs) hb).mono ?_
 rintro r rfl
 obtain⟨h1,h2⟩:=Nza (b:=b) hd hs
 rw[hd,hs,h1,h2,U3a hd]
 rfl
def Iha (hd:B8 d=true) (hs:B2 s=true):Tot (λ k=>C8 k d s) (λ r=>r=syD d s):=by
 refine(Y2a d s (Oi hd) (J5 hs)).mono ?_
 rintro r rfl
 rw[hd,hs,U4a hd]
 rfl
def Cca (hd:B8 d=true) (hs:B2 s=true):Tot (λ k=>Bn k d s) (λ r=>r=syD d s):=by
 refine(Y1a d s (Oi hd) (J5 hs)).mono ?_
 rintro r rfl
 rw[hd,hs,Cjb hd,Twa hd hs,U4a hd]
 rfl
def Cnb (hd:B8 d=true) (hs:B2 s=true) (hb:b.length≤400) (hl:(wr d.1 s b).length≤60):B8 (wr d.1 s b,d.2)=true:=by
 have:=(Nza (b:=b) hd hs).2
 rw[U3a hd,decide_eq_true hb,decide_eq_true hl]at this
 exact this
def Gdb (hd:B8 d=true) (hs:B2 s=true) (hl:(sy d s).length≤60):B8 (d.1,sy d s)=true:=by
 have:=Twa hd hs
 rw[U4a hd,decide_eq_true hl]at this
 exact this
def U5a (hd:B8 d=true) (hs:B2 s=true):B8 (wrD d s b).1=true:=by
 unfold wrD
 cases hc:decide (b.length≤400)&&decide ((wr d.1 s b).length≤60)
 ·exact hd
 rw[Vb,decide_eq_true_iff,decide_eq_true_iff]at hc
 exact Cnb hd hs hc.1 hc.2
def Eub (hd:B8 d=true) (hs:B2 s=true):B8 (syD d s).1=true:=by
 unfold syD
 cases hc:decide ((sy d s).length≤60) with
 |false=>exact hd
 |true=>exact Gdb hd hs (of_decide_eq_true hc)
def Afb (hd:B8 d=true):B8 (rmD d s).1=true:=by
 unfold rmD
 cases (gt d.1 s).isSome with
 |false=>exact hd
 |true=>exact E8.2 ⟨Z4 (E8.1 hd).1,(E8.1 hd).2⟩
def Q1a (hd:B8 d=true) (h:(gt d.1 s).isSome=true):B2 s=true:=by
 cases hg:gt d.1 s with
 |none=>rw[hg]at h;cases h
 |some b=>exact(Ri.1 ((Am.1 (E8.1 hd).1).2.1 _ (Q5 hg))).1
def Lca (hd:B8 d=true):Tot (λ k=>Fh k d s) (λ r=>r=rmD d s):=by
 refine(Pxa d s (Oi hd).1).mono ?_
 rintro r rfl
 rw[hd,← Cba,Ijb,Rj (N9 hd)]
 rfl
def Cda (hd:B8 d=true) (hs:Mo s):Tot (λ k=>Ck k d s) (λ r=>r=rmD d s):=by
 refine(Pwa d s (Oi hd).1 hs).mono ?_
 rintro r rfl
 unfold rmD
 rw[hd,← Cba]
 cases h:(gt d.1 s).isSome
 ·rfl
 have h1:B8 (cut d.1 s,d.2)=true:=by
  have:=Afb (s:=s) hd
  unfold rmD at this
  rw[h]at this
  exact this
 rw[Q1a hd h,h1]
 rfl
end
def lkD (d:Dsk) (s:ByteArray):Fil×Int:=match gt d.1 s with
 |none=>(Etb,1)
 |some b=>match On b with
  |some f=>(f,0)
  |none=>(Etb,2)
def U6a {l:List Nmd} {s:ByteArray} {b:List Int} (h:E7a l) (hg:gt l s=some b):b.length≤1000000000000:=h.2 _ (Q5 hg)
def O3a {d:Dsk} (hf:E7a d.1) (hb:LB d.1) (s:ByteArray):Tot (λ k=>M2 k d s) (λ r=>r=lkD d s):=by
 unfold M2 lkD
 refine Hfb (Nwa d s hf) ?_
 rw[U2a]
 cases hg:gt d.1 s with
 |none=>exact H6b rfl (H3b rfl)
 |some b=>
  refine H5b rfl (Hfb (Ow b (hb.gt hg) (U6a hf hg)) ?_)
  unfold Ss
  dsimp only
  cases On b with
  |none=>exact H6b rfl (H3b rfl)
  |some f=>exact H5b rfl (H3b rfl)
def Asa {d:Dsk} (hf:E7a d.1) (hb:LB d.1) (s:ByteArray):Tot (λ k=>Iy k d s) (λ r=>r=lkD d s):=by
 unfold Iy lkD
 refine Hfb (Nxa d s hf) ?_
 rw[U2a]
 cases hg:gt d.1 s with
 |none=>exact H6b rfl (H3b rfl)
 |some b=>
  refine H5b rfl (Hfb (Caa b (hb.gt hg) (U6a hf hg)) ?_)
  unfold Ss
  dsimp only
  cases On b with
  |none=>exact H6b rfl (H3b rfl)
  |some f=>exact H5b rfl (H3b rfl)
def Qw {d:Dsk} {s:ByteArray} {f:Fil}:lkD d s=(f,0)↔∃ b,gt d.1 s=some b∧On b=some f:=by
 unfold lkD
 cases gt d.1 s with
 |none=>simp
 |some b=>cases h:On b<;>simp[h]
def old (d:Dsk) (s:ByteArray):Option Fil:=(gt d.1 s).bind On
def kp1 (d:Dsk) (s:ByteArray) (f:Fil):Option (Dsk×Int):=
 let w:=bif (wrD d s (Mv f)).2 then some ((wrD d s (Mv f)).1,(0:Int)) else none
 match old d s with
 |some o=>bif sle o.1 f.1 then w else some (d,1)
 |none=>w
def kp2 (d:Dsk) (s:ByteArray) (sure:Bool) (x:Dsk×Int):Dsk×Int:=bif sure then (bif (syD x.1 s).2 then ((syD x.1 s).1,x.2) else (d,3)) else x
def Nv (d:Dsk) (s:ByteArray) (f:Fil) (sure:Bool):Dsk×Int:=match kp1 d s f with
 |some x=>kp2 d s sure x
 |none=>(d,3)
def keep (d:Dsk) (s:ByteArray) (f:Fil) (sure:Bool):Dsk×Int:=bif B8 d&&(B2 s&&F8 f) then Nv d s f sure else (d,2)
def Y7a:On []=none:=by
 cases h:On [] with
 |none=>rfl
 |some f=>
  obtain⟨h1,_,h3⟩:=L9a h
  unfold Mv at h3
  rw[h1]at h3
  simp[c4]at h3
def Evb {d:Dsk} {s:ByteArray} {f:Fil} (hd:B8 d=true) (hs:B2 s=true) {x:Dsk×Int} (h:kp1 d s f=some x):B8 x.1=true:=by
 have hw:∀ x,(bif (wrD d s (Mv f)).2 then some ((wrD d s (Mv f)).1,(0:Int)) else none)=some x→B8 x.1=true:=by
  intro x h
  cases hc:(wrD d s (Mv f)).2 with
  |false=>rw[hc]at h;cases h
  |true=>rw[hc]at h;cases h;exact U5a hd hs
 unfold kp1 at h
 simp only at h
 split at h
 ·rename_i o _
  cases hc:sle o.1 f.1 with
  |false=>rw[hc]at h;cases h;exact hd
  |true=>rw[hc]at h;exact hw _ h
 ·exact hw _ h
def Ewb {d:Dsk} {s:ByteArray} (hd:B8 d=true) (hs:B2 s=true) {x:Dsk} {c:Int} (hx:B8 x=true) (sure:Bool):
  Tot (λ k=>cond sure ((C8 k x s).bind λ r=>cond (!r.2) ((A4 k d).bind λ q=>some (q,3)) (some (r.1,c))) (some (x,c))) (λ r=>r=kp2 d s sure (x,c)):=by
 unfold kp2
 cases sure
 ·exact H3b rfl
 refine H6b rfl (Hfb (Iha hx hs) ?_)
 cases h:(syD x s).2
 case true=>exact H5b rfl (H3b rfl)
 refine H6b rfl (Hfb (J4 d (Oi hd).1.1) ?_)
 exact H3b rfl
def O4a (d:Dsk) (s:ByteArray) (f:Fil) (sure:Bool) (hd:DIn d) (hb:LB d.1) (hs:Mo s):Tot (λ k=>M1 k d s f sure) (λ r=>r=keep d s f sure):=by
 have bad:Tot (λ k=>(A4 k d).bind λ r2=>some (r2,(2:Int))) (λ r=>r=(d,2)):=by
  refine Hfb (J4 d hd.1.1) ?_
  exact H3b rfl
 unfold M1 keep
 refine Hfb (Q3 d hd.1.1 hd.1.2) ?_
 cases h1:B8 d
 ·exact H6b rfl bad
 refine H5b rfl (Hfb (Pc s hs) ?_)
 cases h2:B2 s
 ·exact H6b rfl bad
 refine H5b rfl (Hfb (Hhb (Q:=λ b=>b=F8 f) (Aqa f) rfl) ?_)
 cases h3:F8 f
 ·exact H6b rfl bad
 refine H5b rfl (Hfb (J4 d hd.1.1) ?_)
 refine Hfb (Nwa d s hd.1.1.1) ?_
 have hlen:=Fpa f
 have w:∀ {o:Option Fil},(kp1 d s f=bif (wrD d s (Mv f)).2 then some ((wrD d s (Mv f)).1,(0:Int)) else none)→Tot (λ k=>(Fx k f).bind λ r13=>(Ey k d s r13).bind λ r14=>cond (!r14.2) ((A4 k d).bind λ r15=>some (r15,(3:Int))) (cond sure ((C8 k r14.1 s).bind λ r16=>cond (!r16.2) ((A4 k d).bind λ r17=>some (r17,3)) (some (r16.1,0))) (some (r14.1,0)))) (λ r=>r=Nv d s f sure):=by
  intro _ e
  refine Hfb (Rl f) ?_
  refine Hfb (Pza h1 h2 (by omega)) ?_
  unfold Nv
  rw[e]
  cases h4:(wrD d s (Mv f)).2 with
  |false=>
   refine H6b rfl (Hfb (J4 d hd.1.1) ?_)
   exact H3b rfl
  |true=>exact H5b rfl (Ewb h1 h2 (U5a h1 h2) sure)
 rw[U2a]
 have eo:old d s=(gt d.1 s).bind On:=rfl
 cases hg:gt d.1 s with
 |none=>
  rw[hg]at eo
  refine Hfb (Ow [] P4 (by simp)) ?_
  unfold Ss
  rw[Y7a]
  refine H5b rfl (w (o:=none) ?_)
  unfold kp1
  rw[eo]
  rfl
 |some b=>
  rw[hg]at eo
  have eo:old d s=On b:=eo
  refine Hfb (Ow b (hb.gt hg) (U6a hd.1.1.1 hg)) ?_
  unfold Ss
  cases ho:On b with
  |none=>
   refine H5b rfl (w (o:=none) ?_)
   unfold kp1
   rw[eo,ho]
  |some o=>
   rw[ho]at eo
   refine H6b rfl (Hfb (Hhb (Q:=λ b=>b=sle o.1 f.1) (Tya f o) rfl) ?_)
   cases hl:sle o.1 f.1 with
   |true=>
    refine H5b rfl (w (o:=none) ?_)
    unfold kp1
    simp only[eo,hl,cond_true]
   |false=>
    have e1:Nv d s f sure=kp2 d s sure (d,1):=by
     unfold Nv kp1
     simp only[eo,hl,cond_false]
    refine H6b rfl ?_
    show Tot _ (λ r=>r=Nv d s f sure)
    rw[e1]
    exact Ewb h1 h2 h1 sure
def Exb {d:Dsk} {s:ByteArray} (hd:B8 d=true) (hs:B2 s=true) {x:Dsk} {c:Int} (hx:B8 x=true):
  Tot (λ k=>(Bn k x s).bind λ r=>cond (!r.2) ((A6 k d).bind λ q=>some (q,3)) (some (r.1,c))) (λ r=>r=kp2 d s true (x,c)):=by
 unfold kp2
 refine Hfb (Cca hx hs) ?_
 cases h:(syD x s).2
 case true=>exact H5b rfl (H3b rfl)
 refine H6b rfl (Hfb (N3 d (Oi hd).1.1) ?_)
 exact H3b rfl
def O5a (d:Dsk) (s:ByteArray) (f:Fil) (sure:Bool) (hd:DIn d) (hb:LB d.1) (hs:Mo s):Tot (λ k=>M3 k d s f sure) (λ r=>r=keep d s f sure):=by
 have bad:Tot (λ k=>(A6 k d).bind λ r2=>some (r2,(2:Int))) (λ r=>r=(d,2)):=by
  refine Hfb (N3 d hd.1.1) ?_
  exact H3b rfl
 unfold M3 keep
 refine Hfb (Rh d hd.1.1 hd.1.2) ?_
 cases h1:B8 d
 ·exact H6b rfl bad
 refine H5b rfl (Hfb (W4 s hs) ?_)
 cases h2:B2 s
 ·exact H6b rfl bad
 refine H5b rfl (Hfb (Hhb (Q:=λ b=>b=F8 f) (Foa f) rfl) ?_)
 cases h3:F8 f
 ·exact H6b rfl bad
 refine H5b rfl (Hfb (Asa hd.1.1.1 hb s) ?_)
 have hlen:=Fpa f
 have w:(kp1 d s f=bif (wrD d s (Mv f)).2 then some ((wrD d s (Mv f)).1,(0:Int)) else none)→Tot (λ k=>(Fz k f).bind λ r12=>(F3 k d s r12).bind λ r13=>cond r13.2 (cond sure ((Bn k r13.1 s).bind λ r14=>cond (!r14.2) ((A6 k d).bind λ r15=>some (r15,(3:Int))) (some (r14.1,0))) (cond (!r13.2) ((A6 k d).bind λ r16=>some (r16,3)) (some (r13.1,0)))) (cond (!r13.2) ((A6 k d).bind λ r17=>some (r17,3)) (some (r13.1,0)))) (λ r=>r=Nv d s f sure):=by
  intro e
  refine Hfb (C9a f) ?_
  refine Hfb (Q0a h1 h2 (by omega)) ?_
  unfold Nv
  rw[e]
  cases h4:(wrD d s (Mv f)).2 with
  |false=>
   refine H5b rfl (H6b rfl (Hfb (N3 d hd.1.1) ?_))
   exact H3b rfl
  |true=>
   refine H6b rfl ?_
   cases sure with
   |true=>exact H6b rfl (Exb h1 h2 (U5a h1 h2))
   |false=>exact H5b rfl (H5b rfl (H3b rfl))
 have eo:old d s=(gt d.1 s).bind On:=rfl
 unfold lkD
 cases hg:gt d.1 s with
 |none=>
  rw[hg]at eo
  refine H5b rfl (w ?_)
  unfold kp1
  rw[eo]
  rfl
 |some b=>
  rw[hg]at eo
  have eo:old d s=On b:=eo
  simp only
  cases ho:On b with
  |none=>
   refine H5b rfl (w ?_)
   unfold kp1
   rw[eo,ho]
  |some o=>
   rw[ho]at eo
   refine H6b rfl (Hfb (Hhb (Q:=λ b=>b=sle o.1 f.1) (Tza f o) rfl) ?_)
   cases hl:sle o.1 f.1 with
   |true=>
    refine H5b rfl (w ?_)
    unfold kp1
    simp only[eo,hl,cond_true]
   |false=>
    have e1:Nv d s f sure=kp2 d s sure (d,1):=by
     unfold Nv kp1
     simp only[eo,hl,cond_false]
    refine H6b rfl ?_
    show Tot _ (λ r=>r=Nv d s f sure)
    rw[e1]
    refine Hfb (N3 d hd.1.1) ?_
    cases sure with
    |true=>exact H6b rfl (Exb h1 h2 h1)
    |false=>exact H5b rfl (H3b rfl)

def DG (d:Dsk):Prop:=B8 d=true∧DB d
def U7a {d:Dsk} {s:ByteArray} {b:List Int} (hd:B8 d=true) (h:gt d.1 s=some b):b.length≤400:=(Ri.1 ((Am.1 (E8.1 hd).1).2.1 _ (Q5 h))).2
def Eyb {d:Dsk} {s:ByteArray} {b:List Int} (h:DB d) (hb:Ao b):DB (wrD d s b).1:=by
 unfold wrD
 cases decide (b.length≤400)&&decide ((wr d.1 s b).length≤60) with
 |false=>exact h
 |true=>exact⟨(h.1.cut s).ins hb,h.2⟩
def Geb {d:Dsk} {s:ByteArray} (h:DB d):LB (sy d s):=by
 unfold sy
 cases hg:gt d.1 s with
 |none=>exact h.2.cut s
 |some b=>exact(h.2.cut s).ins (h.1.gt hg)
def Ezb {d:Dsk} {s:ByteArray} (h:DB d):DB (syD d s).1:=by
 unfold syD
 cases decide ((sy d s).length≤60) with
 |false=>exact h
 |true=>exact⟨h.1,Geb h⟩
def F0b {d:Dsk} {s:ByteArray} (h:DB d):DB (rmD d s).1:=by
 unfold rmD
 cases (gt d.1 s).isSome with
 |false=>exact h
 |true=>exact⟨h.1.cut s,h.2⟩
def F1b {d:Dsk} {s:ByteArray} (h:DG d) (hs:B2 s=true):DG (syD d s).1:=⟨Eub h.1 hs,Ezb h.2⟩
def Y8a {d:Dsk} {s:ByteArray} (h:DG d):DG (rmD d s).1:=⟨Afb h.1,F0b h.2⟩
def F2b {d:Dsk} {s:ByteArray} {f:Fil} (hd:DG d) (hs:B2 s=true) {x:Dsk×Int} (h:kp1 d s f=some x):DG x.1:=by
 refine⟨Evb hd.1 hs h,?_⟩
 have hw:∀ x,(bif (wrD d s (Mv f)).2 then some ((wrD d s (Mv f)).1,(0:Int)) else none)=some x→DB x.1:=by
  intro x h
  cases hc:(wrD d s (Mv f)).2 with
  |false=>rw[hc]at h;cases h
  |true=>rw[hc]at h;cases h;exact Eyb hd.2 (Th f)
 unfold kp1 at h
 simp only at h
 split at h
 ·rename_i o _
  cases hc:sle o.1 f.1 with
  |false=>rw[hc]at h;cases h;exact hd.2
  |true=>rw[hc]at h;exact hw _ h
 ·exact hw _ h
def Gfb {d:Dsk} {s:ByteArray} {sure:Bool} (hd:DG d) (hs:B2 s=true) {x:Dsk×Int} (hx:DG x.1):DG (kp2 d s sure x).1:=by
 unfold kp2
 cases sure
 ·exact hx
 rw[cond_true]
 cases (syD x.1 s).2 with
 |false=>exact hd
 |true=>exact F1b hx hs
def U8a {d:Dsk} {s:ByteArray} {f:Fil} {sure:Bool} (hd:DG d) (hs:B2 s=true):DG (Nv d s f sure).1:=by
 unfold Nv
 cases h:kp1 d s f with
 |none=>exact hd
 |some x=>exact Gfb hd hs (F2b hd hs h)
def Agb {d:Dsk} {s:ByteArray} {f:Fil} {sure:Bool} (hd:DG d):DG (keep d s f sure).1:=by
 unfold keep
 cases h:B2 s
 ·rw[hd.1];exact hd
 cases F8 f with
 |false=>rw[hd.1];exact hd
 |true=>rw[hd.1];exact U8a hd h
def Aaa (b:Int) (j:Nat):Int:=((ofInt 8 b ^^^ BitVec.twoPow 8 j).toNat:Int)
def O6a (b:Int) (j:Nat):0≤Aaa b j∧Aaa b j≤255:=by
 unfold Aaa
 have:=(ofInt 8 b ^^^ BitVec.twoPow 8 j).isLt
 omega
def U9a (b:Int):∀ j,j<8→wrap .u8 ((ofInt (IntKind.bits .u8) b ^^^ ofInt (IntKind.bits .u8) (wrap .u8 ((1:Int)*2 ^ (min j (IntKind.bits .u8))))).toNat)=Aaa b j:=by
 intro j hj
 have h1:∀ j,j<8→ofInt 8 (wrap .u8 ((1:Int)*2 ^ (min j 8)))=BitVec.twoPow 8 j:=by decide
 show wrap .u8 (((ofInt 8 b ^^^ ofInt 8 (wrap .u8 ((1:Int)*2 ^ (min j 8)))).toNat:Nat):Int)=_
 rw[h1 j hj]
 have:=(ofInt 8 b ^^^ BitVec.twoPow 8 j).isLt
 rw[I5a _ (by omega)]
 rfl
def Y9a {b:Int} (hb:0≤b∧b≤255) {j:Nat} (hj:j<8):Aaa b j≠b:=by
 intro h
 unfold Aaa at h
 have h1:b=((ofInt 8 b).toNat:Int):=by rw[Ixb];omega
 have h2:(ofInt 8 b ^^^ BitVec.twoPow 8 j).toNat=(ofInt 8 b).toNat:=by omega
 have h3:=Kcb h2
 have h4:BitVec.twoPow 8 j=0#8:=by
  have:=congrArg (λ x=>ofInt 8 b ^^^ x) h3
  simpa[← BitVec.xor_assoc] using this
 have h5:∀ j,j<8→BitVec.twoPow 8 j≠0#8:=by decide
 exact h5 j hj h4
def O3 (l:List Int) (n:Nat):List Int:=l.set (n/8) (Aaa (l.getD (n/8) 0) (n % 8))
def Iia (l:List Int) (n:Nat):(O3 l n).length=l.length:=by unfold O3;rw[Wb]
def Lda {l:List Int} (h:Ao l) (n:Nat):Ao (O3 l n):=λ x hx=>by
 rcases Yk hx with h'|rfl
 ·exact h x h'
 ·exact O6a _ _
def Cya (d:Dsk) (s:ByteArray) (n:Int):Dsk×Bool:=match gt d.1 s with
 |none=>(d,false)
 |some b=>bif inR n 0 (8*(b.length:Int)-1) then ((wr d.1 s (O3 b n.toNat),bif decide (gt d.2 s=some b) then wr d.2 s (O3 b n.toNat) else d.2),true) else (d,false)
def Ija {l:List Nmd} (hs:Hh l) {s:ByteArray} {i:Nat} (h:fnd l s=some i) (b:List Int):l.set i (s,b)=wr l s b:=by
 obtain⟨hi,hn⟩:=Oa h
 have hm:(l.set i (s,b)).map Prod.fst=l.map Prod.fst:=by
  rw[List.map_set]
  apply Iib
  intro j
  by_cases hj:i=j
  ·subst hj
   rw[J5b (by rw[Wf];exact hi),Hib,Vk hi]
   rw[Vc,Vk hi]at hn
   exact congrArg some hn.symm
  ·rw[Ikb hj]
 have h1:Hh (l.set i (s,b)):=by
  have e:∀ m:List Nmd,Hh m↔(m.map Prod.fst).Pairwise (λ a b=>tlt a b=true):=λ m=>by
   unfold Hh
   rw[Hqb]
  rw[e,hm,← e]
  exact hs
 refine Aeb h1 (Tg (Ov hs) C6a) λ t=>?_
 have h2:=Adb (x:=(s,b)) (t:=t) (Ov hs (s:=s)) C6a
 unfold wr
 rw[h2]
 by_cases ht:s=t
 ·subst ht
  rw[if_pos rfl,Iga h1]
  exact List.mem_set hi _
 ·rw[if_neg ht,Wu hs,if_neg ht]
  cases hg:gt l t with
  |none=>
   refine Ox.2 λ x hx=>?_
   rcases Yk hx with h'|rfl
   ·exact Ox.1 hg x h'
   ·exact ht
  |some c=>
   rw[Iga h1]
   obtain⟨j,hj,e⟩:=Zx.1 (Q5 hg)
   have hij:i≠j:=by
    rintro rfl
    rw[Vc,Vk hi,Yn,e]at hn
    exact ht hn.symm
   refine Zx.2 ⟨j,by rw[Wb];exact hj,?_⟩
   rw[List.getElem_set_ne hij]
   exact e
def Ika {l:List Nmd} {s:ByteArray} {b:List Int} (hs:Hh l) (h:(gt l s).isSome=true):(wr l s b).length=l.length:=by
 rw[Cba]at h
 obtain⟨i,hi⟩:=Zn.1 h
 rw[← Ija hs hi,Wb]
def F3b {d:Dsk} {s:ByteArray} {n:Int} (h:DG d):DG (Cya d s n).1:=by
 unfold Cya
 cases hg:gt d.1 s with
 |none=>exact h
 |some b=>
  simp only
  cases inR n 0 (8*(b.length:Int)-1)
  ·exact h
  have hn:=Q1a h.1 (s:=s) (by rw[hg];rfl)
  have hb:=U7a h.1 hg
  have hbb:=Lda (h.2.1.gt hg) n.toNat
  have l1:=Ika (b:=O3 b n.toNat) (N9 h.1) (s:=s) (by rw[hg];rfl)
  have q1:=Cnb h.1 hn (b:=O3 b n.toNat) (by rw[Iia];exact hb) (by rw[l1];exact(Am.1 (E8.1 h.1).1).2.2)
  rw[cond_true]
  cases hc:decide (gt d.2 s=some b)
  ·exact⟨q1,(h.2.1.cut s).ins hbb,h.2.2⟩
  have hg2:=of_decide_eq_true hc
  have l2:=Ika (b:=O3 b n.toNat) (Pu h.1) (s:=s) (by rw[hg2];rfl)
  have h':B8 (d.2,d.1)=true:=E8.2 ⟨(E8.1 h.1).2,(E8.1 h.1).1⟩
  have q2:=Cnb h' hn (b:=O3 b n.toNat) (by rw[Iia];exact hb) (by show (wr d.2 s _).length≤60;rw[l2];exact(Am.1 (E8.1 h.1).2).2.2)
  exact⟨E8.2 ⟨(E8.1 q1).1,(E8.1 q2).1⟩,(h.2.1.cut s).ins hbb,(h.2.2.cut s).ins hbb⟩
def Cob {d:Dsk} {s:ByteArray} {n:Int} (h:DG d) (hn:n≤9223372036854775807) (hn0 : -9223372036854775808≤n):Tot (λ k=>Lu k d s n) (λ r=>r=Cya d s n):=by
 have hin:=Oi h.1
 unfold Lu
 refine Hfb (N3 d hin.1.1) ?_
 refine Hfb (E8a d.1 s hin.1.1.1.1) ?_
 refine Hfb (Rh d hin.1.1 hin.1.2) ?_
 rw[h.1]
 refine H5b rfl ?_
 unfold Cya
 unfold Cxa
 cases hf:fnd d.1 s with
 |none=>
  have hg:gt d.1 s=none:=by unfold gt;rw[hf]
  rw[hg]
  exact H7b (by decide) (H3b rfl)
 |some i=>
  have hg:gt d.1 s=some (d.1.getD i C3).2:=by unfold gt;rw[hf]
  have hi:=(Oa hf).1
  have hnm:=(Oa hf).2
  have hb:=U7a h.1 hg
  rw[hg]
  have e0:d.1.getD i ((⟨#[]⟩:ByteArray),([]:List Int))=d.1.getD i C3:=rfl
  simp only[Va,e0]
  refine H8b (by omega) (H7b (by omega) (H7b (by omega) ?_))
  rw[w64 (n:=8*((d.1.getD i C3).2.length:Int)) (by omega) (by omega),w64 (n:=8*((d.1.getD i C3).2.length:Int)-1) (by omega) (by omega)]
  refine Hfb (Hhb (Q:=λ b=>b=inR n 0 (8*((d.1.getD i C3).2.length:Int)-1)) (Pr _ _ _) rfl) ?_
  cases hr:inR n 0 (8*((d.1.getD i C3).2.length:Int)-1)
  ·exact H6b rfl (H3b rfl)
  obtain⟨n0,n1⟩:=Cf.1 hr
  obtain⟨m,rfl⟩:∃ m:Nat,n=(m:Int):=⟨n.toNat,by omega⟩
  have hm8:m/8<(d.1.getD i C3).2.length:=by omega
  have et:wrap .i64 (Int.tdiv (m:Int) 8)=((m/8:Nat):Int):=by
   rw[Hob (by omega),w64 (by omega) (by omega)]
   omega
  have eu:wrap .u64 (Int.tmod (m:Int) 8)=((m % 8:Nat):Int):=by
   have h8:∀ j:Nat,j<8→wrap .u64 (j:Int)=(j:Int):=by decide
   rw[Zw (by omega),← h8 (m % 8) (by omega)]
   congr 1
  refine H5b rfl (Hfb (E8a d.2 s hin.1.1.2.1) ?_)
  simp only[et,eu,Va,U9a _ _ (K2b m (show 0<8 by omega))]
  have ew:d.1.set i ((d.1.getD i C3).1,O3 (d.1.getD i C3).2 m)=wr d.1 s (O3 (d.1.getD i C3).2 m):=by rw[hnm];exact Ija (N9 h.1) hf _
  have ew':d.1.set i ((d.1.getD i C3).1,(d.1.getD i C3).2.set (m/8) (Aaa ((d.1.getD i C3).2.getD (m/8) 0) (m % 8)))=wr d.1 s (O3 (d.1.getD i C3).2 m):=ew
  unfold Cxa
  cases hf2:fnd d.2 s with
  |none=>
   have hg2:gt d.2 s=none:=by unfold gt;rw[hf2]
   rw[hg2]
   refine H8b (by decide) (H7b (by omega) (H7b (by omega) (H7b (by omega) (H7b (by omega) (H8b (by omega) (H7b (by omega) (H7b (by omega) (H3b ?_))))))))
   rw[ew']
   rfl
  |some j=>
   have hg2:gt d.2 s=some (d.2.getD j C3).2:=by unfold gt;rw[hf2]
   have hj:=(Oa hf2).1
   have hjn:=(Oa hf2).2
   have e1:d.2.getD j ((⟨#[]⟩:ByteArray),([]:List Int))=d.2.getD j C3:=rfl
   rw[hg2]
   simp only[Va,e1]
   refine H7b (by omega) (H7b (by omega) (H7b (by omega) (H7b (by omega) (H7b (by omega) (H7b (by omega) (H7b (by omega) (H7b (by omega) (H7b (by omega) (H8b (by omega) (H7b (by omega) (H7b (by omega) ?_)))))))))))
   rw[St (h.2.2.gt hg2) (h.2.1.gt hg)]
   refine Hab (λ he=>?_) (λ he=>?_)
   ·have hl2:(d.2.getD j C3).2.length=(d.1.getD i C3).2.length:=by rw[he]
    refine H7b (by omega) (H7b (by omega) (H7b (by omega) (H7b (by omega) (H8b (by omega) (H7b (by omega) (H7b (by omega) (H3b ?_)))))))
    have ew2:d.2.set j ((d.2.getD j C3).1,(d.2.getD j C3).2.set (m/8) (Aaa ((d.2.getD j C3).2.getD (m/8) 0) (m % 8)))=wr d.2 s (O3 (d.1.getD i C3).2 m):=by
     rw[hjn,he]
     exact Ija (Pu h.1) hf2 _
    rw[ew',ew2,he,decide_eq_true rfl]
    rfl
   ·refine H3b ?_
    rw[ew',decide_eq_false (λ c=>he (K9b c))]
    rfl
def lb0:LB []:=λ x hx=>by cases hx
def dg0:DG ([],[]):=⟨by decide,⟨lb0,lb0⟩⟩

section
variable {d:Dsk} {s:ByteArray} {f:Fil} {sure:Bool}
def Yaa (a:Stp):sle a a=false:=N1 a
def Ila (h1:B8 d=true) (h2:B2 s=true) (h3:F8 f=true):keep d s f sure=Nv d s f sure:=by unfold keep;rw[h1,h2,h3];rfl
def Ima {x:Dsk} {c:Int}:(kp2 d s sure (x,c)=(d,3))∨(sure=false∧kp2 d s sure (x,c)=(x,c))∨(sure=true∧(sy x s).length≤60∧kp2 d s sure (x,c)=((x.1,sy x s),c)):=by
 unfold kp2 syD
 cases sure
 ·exact .inr (.inl ⟨rfl,rfl⟩)
 rw[cond_true]
 by_cases h:(sy x s).length≤60
 ·rw[decide_eq_true h]
  exact .inr (.inr ⟨rfl,h,rfl⟩)
 ·rw[decide_eq_false h]
  exact .inl rfl
def Uaa (hd:DG d) (hs:B2 s=true):kp1 d s f=none∨(∃ o,old d s=some o∧sle o.1 f.1=false∧kp1 d s f=some (d,1))∨((∀ o,old d s=some o→sle o.1 f.1=true)∧(wr d.1 s (Mv f)).length≤60∧kp1 d s f=some ((wr d.1 s (Mv f),d.2),0)):=by
 have hl:(Mv f).length≤400:=by have:=Fpa f;omega
 have w:(bif (wrD d s (Mv f)).2 then some ((wrD d s (Mv f)).1,(0:Int)) else none)=none∨((wr d.1 s (Mv f)).length≤60∧(bif (wrD d s (Mv f)).2 then some ((wrD d s (Mv f)).1,(0:Int)) else none)=some ((wr d.1 s (Mv f),d.2),0)):=by
  unfold wrD
  rw[decide_eq_true hl,Wd]
  by_cases h:(wr d.1 s (Mv f)).length≤60
  ·rw[decide_eq_true h];exact .inr ⟨h,rfl⟩
  ·rw[decide_eq_false h];exact .inl rfl
 unfold kp1
 cases ho:old d s with
 |none=>
  rcases w with h|⟨h1,h2⟩
  ·exact .inl h
  ·exact .inr (.inr ⟨λ o h=>(by cases h),h1,h2⟩)
 |some o=>
  simp only
  cases hc:sle o.1 f.1
  ·exact .inr (.inl ⟨o,rfl,hc,rfl⟩)
  rcases w with h|⟨h1,h2⟩
  ·exact .inl h
  ·exact .inr (.inr ⟨λ o' h=>(by cases h;exact hc),h1,h2⟩)
def Eca (hd:DG d) (hs:B2 s=true):Nv d s f sure=(d,3)∨
  (∃ o,old d s=some o∧sle o.1 f.1=false∧(Nv d s f sure).2=1∧DG (Nv d s f sure).1∧((sure=false∧(Nv d s f sure).1=d)∨(sure=true∧(Nv d s f sure).1=(d.1,sy d s))))∨
  ((∀ o,old d s=some o→sle o.1 f.1=true)∧DG (wr d.1 s (Mv f),d.2)∧(Nv d s f sure).2=0∧DG (Nv d s f sure).1∧((sure=false∧(Nv d s f sure).1=(wr d.1 s (Mv f),d.2))∨(sure=true∧(Nv d s f sure).1=(wr d.1 s (Mv f),sy (wr d.1 s (Mv f),d.2) s)))):=by
 have hg:=U8a (f:=f) (sure:=sure) hd hs
 rcases Uaa (f:=f) hd hs with h|⟨o,h1,h2,h⟩|⟨h1,h2,h⟩
 ·exact .inl (by unfold Nv;rw[h])
 ·have e:Nv d s f sure=kp2 d s sure (d,1):=by unfold Nv;rw[h]
  rcases Ima (d:=d) (s:=s) (sure:=sure) (x:=d) (c:=1) with k|⟨k0,k⟩|⟨k0,k1,k⟩
  ·exact .inl (e.trans k)
  ·rw[← e]at k
   exact .inr (.inl ⟨o,h1,h2,by rw[k],hg,.inl ⟨k0,by rw[k]⟩⟩)
  ·rw[← e]at k
   exact .inr (.inl ⟨o,h1,h2,by rw[k],hg,.inr ⟨k0,by rw[k]⟩⟩)
 ·have e:Nv d s f sure=kp2 d s sure ((wr d.1 s (Mv f),d.2),0):=by unfold Nv;rw[h]
  have hw:=F2b hd hs h
  rcases Ima (d:=d) (s:=s) (sure:=sure) (x:=(wr d.1 s (Mv f),d.2)) (c:=0) with k|⟨k0,k⟩|⟨k0,k1,k⟩
  ·exact .inl (e.trans k)
  ·rw[← e]at k
   exact .inr (.inr ⟨h1,hw,by rw[k],hg,.inl ⟨k0,by rw[k]⟩⟩)
  ·rw[← e]at k
   exact .inr (.inr ⟨h1,hw,by rw[k],hg,.inr ⟨k0,by rw[k]⟩⟩)
def Lea {l:List Nmd} (hs:Hh l) {s t:ByteArray} {b:List Int}:gt (wr l s b) t=if s=t then some b else gt l t:=by
 unfold wr
 rw[Adb (x:=(s,b)) (Ov hs) C6a]
 by_cases h:s=t
 ·rw[if_pos h,if_pos h]
 ·rw[if_neg h,if_neg h,Wu hs,if_neg h]
def Lfa (hd:B8 d=true) {t:ByteArray}:gt (sy d s) t=if s=t then gt d.1 s else gt d.2 t:=by
 unfold sy
 cases h:gt d.1 s with
 |none=>rw[Wu (Pu hd)]
 |some b=>rw[Lea (Pu hd)]
def Uba (hd:DG d) (hs:B2 s=true) (hf:F8 f=true) (hb:Ao f.2.2) (h:(Nv d s f true).2=0∨(Nv d s f true).2=1):
  ∃ o g b,DG o∧DG (Nv d s f true).1∧(Nv d s f true).1=(o.1,sy o s)∧gt o.1 s=some b∧On b=some g∧sle g.1 f.1=false:=by
 rcases Eca (f:=f) (sure:=true) hd hs with k|⟨o,h1,h2,k,hg,h3⟩|⟨h1,h2,k,hg,h3⟩
 ·rw[k]at h;rcases h with h|h<;>cases h
 ·rcases h3 with⟨h3,_⟩|⟨_,h3⟩
  ·cases h3
  ·have ho:(gt d.1 s).bind On=some o:=h1
   cases hg1:gt d.1 s with
   |none=>rw[hg1]at ho;cases ho
   |some b=>
    rw[hg1]at ho
    exact⟨d,o,b,hd,hg,h3,hg1,ho,h2⟩
 ·rcases h3 with⟨h3,_⟩|⟨_,h3⟩
  ·cases h3
  ·exact⟨(wr d.1 s (Mv f),d.2),f,Mv f,h2,hg,h3,by show gt (wr d.1 s (Mv f)) s=_;rw[Lea (N9 hd.1),if_pos rfl],Ara hf hb,Yaa _⟩
end

end Go.Proofs.YtmhhjceoinoekaaGreat.Vf
