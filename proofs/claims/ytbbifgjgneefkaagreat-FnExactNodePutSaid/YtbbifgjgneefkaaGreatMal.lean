import Derived.Test.YtbbifgjgneefkaaGreatMak
set_option linter.all false
namespace Go.Proofs.YtbbifgjgneefkaaGreat.Vf
open Go
open List (length getD)
open Int (toNat)
open Go.IntKind (wrap)
open BitVec (ofInt)
def Zo:=@List.takeWhile_cons
def Zq:=@Option.bind_none
def Rja:=@List.filter_cons
def Rqa:=@Bool.not_false
def S7a:=@List.takeWhile_append_dropWhile
def Sca:=@List.drop_length
def Sla:=@List.findIdx?_cons
def Sua:=@Bool.not_true
def Sva:=@List.append_cancel_left
def T7a:=@Bool.eq_iff_iff
def Tba:=@Bool.false_or

def P3 (l:List Int) (p:Nat):Z7 l (p:Int)=match Jr l p with
 |some (n,q)=>((n:Int),(q:Int),true)
 |none=>(0,0,false):=by
 unfold Z7;rw[if_neg (by omega),Vm]
 all_goals cases Jr l p<;>rfl
def Bra (l:List Int) (p:Nat):Nja l (p:Int)=match Dma l p with
 |some (s,q)=>(s,(q:Int),true)
 |none=>((⟨#[]⟩:ByteArray),0,false):=by
 unfold Nja;rw[if_neg (by omega),Vm]
 all_goals cases Dma l p<;>rfl
def Qt (l:List Int) (hb:Az l) (hl:l.length≤1000000000000) (p:Nat) (hp:p≤l.length) (bad:Bool):
  Tot (λ k=>B4 k (l,(p:Int),bad)) (λ r=>(bad=false∧∃ n q:Nat,Jr l p=some (n,q)∧q≤l.length∧r=((n:Int),l,(q:Int),false))∨((bad=true∨Jr l p=none)∧r=(0,l,(p:Int),true))):=by
 unfold B4;refine Rfa (Goa l hb hl (p:Int) (by omega)) ?_;refine Rba (λ h=>R5a (.inr ⟨.inl h,rfl⟩)) (λ h=>?_);rw[P3]
 cases hg:Jr l p with
 |none=>exact R8a rfl (R5a (.inr ⟨.inr rfl,rfl⟩))
 |some nq=>
  obtain⟨n,q⟩:=nq;simp only at h;subst h;exact R7a rfl (R5a (.inl ⟨rfl,n,q,rfl,(M2 hb hg).2.2.2,rfl⟩))
def Pza (l:List Int) (hb:Az l) (hl:l.length≤1000000000000) (p:Nat) (hp:p≤l.length):
  Tot (λ k=>B0 k (l,(p:Int),false)) (λ r=>(∃ (s:ByteArray) (q:Nat),Dma l p=some (s,q)∧q≤l.length∧r=(s,l,(q:Int),false))∨(Dma l p=none∧r=((⟨#[]⟩:ByteArray),l,(p:Int),true))):=by
 unfold B0;refine Rfa (Bpa l hb hl (p:Int) (by omega)) ?_;refine R7a rfl ?_;rw[Bra]
 cases hg:Dma l p with
 |none=>exact R8a rfl (R5a (.inr ⟨rfl,rfl⟩))
 |some nq=>
  obtain⟨n,q⟩:=nq;exact R7a rfl (R5a (.inl ⟨n,q,rfl,(Z9 hb hg).2.2.2,rfl⟩))
def Ll (l:List Int) (p:Nat):Option ((Stp×Bool)×Nat):=
 (Jr l p).bind λ b=>(Jr l b.2).bind λ c=>(Jr l c.2).bind λ d=>(Jr l d.2).bind λ e=>bif decide (1<e.1) then none else
  some ((((b.1:Int),(c.1:Int),(d.1:Int)),(e.1:Int)==1),e.2)
def Q0a (l:List Int) (hb:Az l) (hl:l.length≤1000000000000) (p:Nat) (hp:p≤l.length) (bad:Bool):
  Tot (λ k=>Bl k (l,(p:Int),bad)) (λ r=>(bad=false∧∃ (x:Stp×Bool) (q:Nat),Ll l p=some (x,q)∧q≤l.length∧r=(x.1,x.2,l,(q:Int),false))∨((bad=true∨Ll l p=none)∧∃ s b,∃ q:Nat,q≤l.length∧r=(s,b,l,(q:Int),true))):=by
 unfold Bl
 have nx:∀ {o:Option (Nat×Nat)} {f:Nat×Nat→Option ((Stp×Bool)×Nat)},o=none→o.bind f=none:=by
  intro o f h;rw[h];rfl
 refine R6a (Qt l hb hl p hp bad) ?_;rintro r (⟨h0,n1,p1,h1,l1,rfl⟩|⟨h1,rfl⟩)
 ·simp only;refine R6a (Qt l hb hl p1 l1 false) ?_;rintro r (⟨_,n2,p2,h2,l2,rfl⟩|⟨h2,rfl⟩)
  ·simp only;refine R6a (Qt l hb hl p2 l2 false) ?_;rintro r (⟨_,n3,p3,h3,l3,rfl⟩|⟨h3,rfl⟩)
   ·simp only;refine R6a (Qt l hb hl p3 l3 false) ?_;rintro r (⟨_,n4,p4,h4,l4,rfl⟩|⟨h4,rfl⟩)
    ·simp only;refine R7a rfl (R5a ?_)
     have e:Ll l p=bif decide (1<n4) then none else some ((((n1:Int),(n2:Int),(n3:Int)),(n4:Int)==1),p4):=by
      unfold Ll;simp only[h1,h2,h3,h4,Vv]
     cases hd:decide (1<n4) with
     |true=>
      rw[hd,cond_true]at e;refine .inr ⟨.inr e,((n1:Int),(n2:Int),(n3:Int)),((n4:Int)==1),p4,l4,?_⟩;have:decide ((n4:Int) > 1)=true:=decide_eq_true (by have:=of_decide_eq_true hd;omega);rw[this]
     |false=>
      rw[hd,cond_false]at e;refine .inl ⟨h0,_,p4,e,l4,?_⟩;have:decide ((n4:Int) > 1)=false:=decide_eq_false (by have:=of_decide_eq_false hd;omega);rw[this]
    ·refine R8a rfl (R5a (.inr ⟨.inr ?_,_,_,p3,l3,rfl⟩));have h4':=h4.resolve_left (by simp);unfold Ll;simp only[h1,h2,h3,h4',Vv,Zq]
   ·simp only;refine R6a (Qt l hb hl p2 l2 true) ?_;rintro r (⟨hh,_⟩|⟨_,rfl⟩)
    ·cases hh
    ·refine R8a rfl (R5a (.inr ⟨.inr ?_,_,_,p2,l2,rfl⟩));have h3':=h3.resolve_left (by simp);unfold Ll;simp only[h1,h2,h3',Vv,Zq]
  ·simp only;refine R6a (Qt l hb hl p1 l1 true) ?_;rintro r (⟨hh,_⟩|⟨_,rfl⟩)
   ·cases hh
   ·refine R6a (Qt l hb hl p1 l1 true) ?_;rintro r (⟨hh,_⟩|⟨_,rfl⟩)
    ·cases hh
    ·refine R8a rfl (R5a (.inr ⟨.inr ?_,_,_,p1,l1,rfl⟩));have h2':=h2.resolve_left (by simp);unfold Ll;simp only[h1,h2',Vv,Zq]
 ·simp only;refine R6a (Qt l hb hl p hp true) ?_;rintro r (⟨hh,_⟩|⟨_,rfl⟩)
  ·cases hh
  ·refine R6a (Qt l hb hl p hp true) ?_;rintro r (⟨hh,_⟩|⟨_,rfl⟩)
   ·cases hh
   ·refine R6a (Qt l hb hl p hp true) ?_;rintro r (⟨hh,_⟩|⟨_,rfl⟩)
    ·cases hh
    ·refine R8a rfl (R5a (.inr ⟨?_,_,_,p,hp,rfl⟩));rcases h1 with h1|h1
     ·exact .inl h1
     ·refine .inr ?_;unfold Ll;rw[h1];rfl
def Moa (l:List Int) (hb:Az l) (hl:l.length≤1000000000000) (p:Int):
  Tot (λ k=>Cc k l p) (λ r=>(∃ n1 p1 n2 p2 n3 p3,0≤p∧Jr l p.toNat=some (n1,p1)∧Jr l p1=some (n2,p2)∧Jr l p2=some (n3,p3)∧r=(((n1:Int),(n2:Int),(n3:Int)),(p3:Int),true))∨(((Jr l p.toNat).bind λ a=>(Jr l a.2).bind λ b=>Jr l b.2)=none∨p<0)∧r.2.2=false):=by
 unfold Cc;refine Rfa (Nv l hb hl p) ?_;refine Rfa (Nv l hb hl _) ?_;refine Rfa (Nv l hb hl _) ?_
 by_cases hp:p<0
 ·have:(Z7 l p).2.2=false:=by unfold Z7;rw[if_pos hp]
  exact R7a this (R5a (.inr ⟨.inr hp,rfl⟩))
 ·have e1:Z7 l p=match Jr l p.toNat with|some (n,q)=>((n:Int),(q:Int),true)|none=>(0,0,false):=by
   unfold Z7;rw[if_neg hp];all_goals cases Jr l p.toNat<;>rfl
  cases h1:Jr l p.toNat with
  |none=>
   rw[h1]at e1;simp only[e1];exact R7a rfl (R5a (.inr ⟨.inl rfl,rfl⟩))
  |some a=>
   obtain⟨n1,p1⟩:=a;rw[h1]at e1;simp only[e1,P3,Vv];refine R8a rfl ?_
   cases h2:Jr l p1 with
   |none=>exact R7a rfl (R5a (.inr ⟨.inl rfl,rfl⟩))
   |some b=>
    obtain⟨n2,p2⟩:=b;refine R8a rfl ?_;simp only[P3,Vv]
    cases h3:Jr l p2 with
    |none=>exact R5a (.inr ⟨.inl rfl,rfl⟩)
    |some c=>
     obtain⟨n3,p3⟩:=c;exact R5a (.inl ⟨n1,p1,n2,p2,n3,p3,by omega,rfl,h2,h3,rfl⟩)
def Gqa {l:List Int} {p:Nat} (h:((Jr l p).bind λ a=>(Jr l a.2).bind λ b=>Jr l b.2)=none):Ll l p=none:=by
 unfold Ll
 cases h1:Jr l p with
 |none=>rfl
 |some a=>
  rw[h1]at h;simp only[Vv]at h ⊢
  cases h2:Jr l a.2 with
  |none=>rfl
  |some b=>
   rw[h2]at h;simp only[Vv]at h ⊢;rw[h];rfl

section
open Go
end

abbrev Nmd:=ByteArray×List Int
abbrev Dsk:=List Nmd×List Nmd
def Et:Nmd:=((⟨#[]⟩:ByteArray),[])
def V9 (l:List Nmd):Prop:=l.length≤1000000000000∧∀ x∈l,x.2.length≤1000000000000
def Mpa (d:Dsk):Prop:=V9 d.1∧V9 d.2
def I9 (l:List Int) (h:l.length≤1000000000000):Ao l=some l:=by
 unfold Ao;rw[show Nat.ble ((length ([]:List Int)+length l)*1) 140737488355328=true from Yn (by simp only[Vp];omega)];rfl
def Oi (l:List Nmd) (hf:V9 l):∀ (n i:Nat) (acc:List Nmd),l.length-i=n→i≤l.length→acc.length≤i→
  Tot (λ k=>Bi k acc l (l.length:Int) (i:Int)) (λ r=>r=acc++l.drop i):=by
 obtain⟨h1,h2⟩:=hf;intro n
 induction n with
 |zero=>
  intro i acc hd hi ha;refine Tot.succ ?_;simp only[Bi];refine Raa (by omega) (R5a ?_);rw[Wl (by omega),Yf]
 |succ n ih=>
  intro i acc hd hi ha
  have hlt:i<l.length:=by omega
  refine Tot.succ ?_;simp only[Bi];refine R9a (by omega) (R9a (by omega) (R9a (by omega) ?_));rw[show toNat (i:Int)=i from Vm i,w64 (n:=(i:Int)+1) (by omega) (by omega),Fm (d:=Et) hlt];have e0:l.getD i ((⟨#[]⟩:ByteArray),([]:List Int))=l.getD i Et:=rfl;rw[e0];have hb:=h2 _ (Cu (d:=Et) hlt);refine Rfa (Rga (Q:=λ r=>r=(l.getD i Et).2) (I9 _ hb) rfl) ?_;refine Rda (by simp only[Vg,Vp];omega) ?_;refine(ih (i+1) (acc++[l.getD i Et]) (by omega) (by omega) (by simp only[Vh,Vg,Vp];omega)).mono ?_;rintro r rfl;rw[Vj];rfl
def N3 (l:List Nmd) (hf:V9 l):Tot (λ k=>As k l) (λ r=>r=l):=by
 unfold As;refine R6a (Oi l hf _ 0 [] rfl (Wf _) (Wf _)) ?_;intro r hr;rw[We,Wc]at hr;exact R5a hr
def Fn (d:Dsk) (hf:Mpa d):Tot (λ k=>A6 k d) (λ r=>r=d):=by
 unfold A6;refine Rfa (N3 d.1 hf.1) ?_;refine Rfa (N3 d.2 hf.2) ?_;exact R5a rfl
def fnd (l:List Nmd) (s:ByteArray):Option Nat:=l.findIdx? (λ x=>teq x.1 s)
def Joa (l:List Nmd) (s:ByteArray):Int:=match fnd l s with
 |some i=>(i:Int)
 |none => -1
def Gra (l:List Nmd) (s:ByteArray) (hf:l.length≤1000000000000):∀ (n i:Nat),l.length-i=n→i≤l.length→
  Tot (λ k=>G4 k s l (l.length:Int) (i:Int)) (λ r=>r=match fnd (l.drop i) s with|some j => .inl ((i+j:Nat):Int)|none => .inr ()):=by
 intro n
 induction n with
 |zero=>
  intro i hd hi;refine Tot.succ ?_;simp only[G4];refine Raa (by omega) (R5a ?_);rw[Wl (by omega)];rfl
 |succ n ih=>
  intro i hd hi
  have hlt:i<l.length:=by omega
  refine Tot.succ ?_;simp only[G4];refine R9a (by omega) (R9a (by omega) (R9a (by omega) ?_));rw[show toNat (i:Int)=i from Vm i,w64 (n:=(i:Int)+1) (by omega) (by omega),Fm (d:=Et) hlt];have e0:l.getD i ((⟨#[]⟩:ByteArray),([]:List Int))=l.getD i Et:=rfl;rw[e0]
  have e1:fnd (l.getD i Et::l.drop (i+1)) s=if teq (l.getD i Et).1 s then some 0 else (fnd (l.drop (i+1)) s).map (· + 1):=by
   unfold fnd;rw[Sla]
  rw[e1];refine Rba (λ h=>?_) (λ h=>?_)
  ·have h':teq (l.getD i Et).1 s=true:=h;rw[if_pos h'];exact R5a rfl
  ·have h':¬ (teq (l.getD i Et).1 s=true):=by
    have:teq (l.getD i Et).1 s=false:=h;rw[this];simp
   rw[if_neg h'];refine(ih (i+1) (by omega) (by omega)).mono ?_;rintro r rfl
   cases fnd (l.drop (i+1)) s with
   |none=>rfl
   |some j=>
    show Sum.inl _=Sum.inl _;rw[show i+1+j=i+(j+1) by omega]
def Gsa (l:List Nmd) (s:ByteArray) (hf:l.length≤1000000000000):Tot (λ k=>Gp k l s) (λ r=>r=Joa l s):=by
 unfold Gp Joa;refine Rfa (Gra l s hf _ 0 rfl (Wf _)) ?_;rw[We]
 cases fnd l s with
 |none=>exact R5a rfl
 |some j=>
  refine R5a ?_;rw[Wb]
def O7 {l:List Nmd} {s:ByteArray} {i:Nat} (h:fnd l s=some i):i<l.length∧(l.getD i Et).1=s:=by
 unfold fnd at h;rw[List.findIdx?_eq_some_iff_getElem]at h;obtain⟨h1,h2,_⟩:=h;refine⟨h1,?_⟩;rw[Vn,Vs h1];exact Jp.1 h2
def del (l:List Nmd) (s:ByteArray):List Nmd:=match fnd l s with
 |some i=>l.take i++l.drop (i+1)
 |none=>l
def Bsa (l:List Nmd) (s:ByteArray) (hf:l.length≤1000000000000):Tot (λ k=>Fk k l s) (λ r=>r=del l s):=by
 unfold Fk del;refine Rfa (Gsa l s hf) ?_;unfold Joa
 cases h:fnd l s with
 |none=>exact R9a (by decide) (R5a rfl)
 |some i=>
  have hl:=(O7 h).1;dsimp only
  first
  |refine Raa (by omega) (R9a (by omega) (R9a (by omega) ?_))
   rw[w64 (n:=(i:Int)+1) (by omega) (by omega),show toNat (i:Int)=i from Vm i,show toNat ((i:Int)+1)=i+1 by omega];refine Rda (by simp only[Vp,Vl];omega) ?_;refine R9a (by omega) (R9a (by omega) (Rda (by simp only[Vh,Vp,Vl,Vy];omega) (R5a rfl)))
  |refine Raa (by omega) (R8a (by rw[Va,decide_eq_true_iff,decide_eq_true_iff];omega) ?_)
   rw[w64 (n:=(i:Int)+1) (by omega) (by omega),show toNat (i:Int)=i from Vm i,show toNat ((i:Int)+1)=i+1 by omega];refine R9a (by simp only[Vl];omega) (Rda (by simp only[Vp,Vl];omega) ?_);refine R8a (by rw[Va,Va,decide_eq_true_iff,decide_eq_true_iff];exact⟨⟨by omega,by omega⟩,Yn (by omega)⟩) (Rda (by simp only[Vh,Vp,Vl,Vy];omega) (R5a rfl))

def nOk (x:Nmd):Bool:=C1 x.1&&!(decide ((x.2.length:Int) > 400))
def chn:Option ByteArray→List Nmd→Bool
 |_,[]=>true
 |none,r::l=>nOk r&&chn (some r.1) l
 |some q,r::l=>nOk r&&(tlt q r.1&&chn (some r.1) l)
def Eg (l:List Nmd):Bool:=chn none l&&decide ((l.length:Int)≤60)
def Au (d:Dsk):Bool:=Eg d.1&&Eg d.2
def J9 (l:List Nmd):Prop:=∀ x∈l,Ht x.1
def Vr (d:Dsk):Prop:=J9 d.1∧J9 d.2
def Oj (l:List Nmd):Nat→Option ByteArray
 |0=>none
 |i+1=>some (l.getD i Et).1
def Bta (l:List Nmd) (i:Nat) (h:i<l.length):chn (Oj l i) (l.drop i)=(nOk (l.getD i Et)&&(bif decide (0<i) then tlt (l.getD (i-1) Et).1 (l.getD i Et).1 else true)&&chn (Oj l (i+1)) (l.drop (i+1))):=by
 rw[Fm (d:=Et) h]
 cases i with
 |zero=>simp[Oj,chn]
 |succ i=>simp[Oj,chn,T9a]
def W0 (l:List Nmd) (hf:l.length≤1000000000000) (hs:J9 l):∀ (n i:Nat),l.length-i=n→i≤l.length→
  Tot (λ k=>Bu k l l (l.length:Int) (i:Int)) (λ r=>r=bif chn (Oj l i) (l.drop i) then .inr l else .inl false):=by
 intro n
 induction n with
 |zero=>
  intro i hn hi;refine Tot.succ ?_;simp only[Bu];refine Raa (by omega) (R5a ?_);rw[Wl (by omega)]
  cases Oj l i<;>rfl
 |succ n ih=>
  intro i hn hi
  have hlt:i<l.length:=by omega
  refine Tot.succ ?_;simp only[Bu];refine R9a (by omega) (R9a (by omega) (R9a (by omega) ?_));rw[show toNat (i:Int)=i from Vm i,w64 (n:=(i:Int)+1) (by omega) (by omega),Bta l i hlt];have h1:=ih (i+1) (by omega) (by omega)
  have e:(((i+1:Nat)):Int)=(i:Int)+1:=by omega
  rw[e]at h1;have e0:l.getD i ((⟨#[]⟩:ByteArray),([]:List Int))=l.getD i Et:=rfl;rw[e0];refine Rfa (Lc (l.getD i Et).1 (hs _ (Cu hlt))) ?_;cases hb:C1 (l.getD i Et).1
  ·exact R8a rfl (R5a (by rw[show nOk (l.getD i Et)=false by unfold nOk;rw[hb];rfl];rfl))
  refine R7a rfl ?_;refine Rca (λ h4=>R5a (by rw[show nOk (l.getD i Et)=false by unfold nOk;rw[decide_eq_true h4,hb];rfl];rfl)) (λ h4=>?_)
  have hnk:nOk (l.getD i Et)=true:=by unfold nOk;rw[hb,decide_eq_false h4];rfl
  rw[hnk,Wj];refine Rca (λ h0=>?_) (λ h0=>?_)
  ·rw[w64 (n:=(i:Int)-1) (by omega) (by omega)];refine R9a (by omega) (R9a (by omega) ?_);rw[show toNat ((i:Int)-1)=i-1 by omega,decide_eq_true (show 0<i by omega),cond_true];refine Rba (λ ht=>?_) (λ ht=>?_)
   ·have ht':(!(tlt (l.getD (i-1) Et).1 (l.getD i Et).1))=true:=ht;rw[Wi]at ht';exact R5a (by rw[ht'];rfl)
   ·have ht':(!(tlt (l.getD (i-1) Et).1 (l.getD i Et).1))=false:=ht;rw[S0a]at ht';rw[ht',Wj];exact h1
  ·rw[decide_eq_false (show ¬ 0<i by omega),cond_false,Wj];exact h1
def W1 (l:List Nmd) (hf:l.length≤1000000000000) (hs:J9 l):∀ (n i:Nat),l.length-i=n→i≤l.length→
  Tot (λ k=>Cm k l (i:Int)) (λ r=>r=bif chn (Oj l i) (l.drop i) then .inr l else .inl false):=by
 intro n
 induction n with
 |zero=>
  intro i hn hi;refine Tot.succ ?_;simp only[Cm];refine Raa (by omega) (R5a ?_);rw[Wl (by omega)]
  cases Oj l i<;>rfl
 |succ n ih=>
  intro i hn hi
  have hlt:i<l.length:=by omega
  refine Tot.succ ?_;simp only[Cm];refine R9a (by omega) (R9a (by omega) (R9a (by omega) ?_));rw[show toNat (i:Int)=i from Vm i,w64 (n:=(i:Int)+1) (by omega) (by omega),Bta l i hlt];have h1:=ih (i+1) (by omega) (by omega)
  have e:(((i+1:Nat)):Int)=(i:Int)+1:=by omega
  rw[e]at h1;have e0:l.getD i ((⟨#[]⟩:ByteArray),([]:List Int))=l.getD i Et:=rfl;rw[e0];refine Rfa (N0 (l.getD i Et).1 (hs _ (Cu hlt))) ?_;cases hb:C1 (l.getD i Et).1
  ·exact R8a rfl (R5a (by rw[show nOk (l.getD i Et)=false by unfold nOk;rw[hb];rfl];rfl))
  refine R7a rfl (R9a (by omega) (R9a (by omega) ?_));refine Rca (λ h4=>R5a (by rw[show nOk (l.getD i Et)=false by unfold nOk;rw[decide_eq_true h4,hb];rfl];rfl)) (λ h4=>?_)
  have hnk:nOk (l.getD i Et)=true:=by unfold nOk;rw[hb,decide_eq_false h4];rfl
  rw[hnk,Wj];refine Rca (λ h0=>?_) (λ h0=>?_)
  ·rw[w64 (n:=(i:Int)-1) (by omega) (by omega)];refine R9a (by omega) (R9a (by omega) (R9a (by omega) (R9a (by omega) ?_)));rw[show toNat ((i:Int)-1)=i-1 by omega,decide_eq_true (show 0<i by omega),cond_true];refine Rba (λ ht=>?_) (λ ht=>?_)
   ·have ht':(!(tlt (l.getD (i-1) Et).1 (l.getD i Et).1))=true:=ht;rw[Wi]at ht';exact R5a (by rw[ht'];rfl)
   ·have ht':(!(tlt (l.getD (i-1) Et).1 (l.getD i Et).1))=false:=ht;rw[S0a]at ht';rw[ht',Wj];exact h1
  ·rw[decide_eq_false (show ¬ 0<i by omega),cond_false,Wj];exact h1
def W2 (l:List Nmd) (hf:l.length≤1000000000000) (hs:J9 l):Tot (λ k=>Br k l) (λ r=>r=Eg l):=by
 unfold Br Eg;refine Rfa (W0 l hf hs _ 0 rfl (Wf _)) ?_;rw[We];show Tot _ (λ r=>r=(chn none l&&_))
 cases hc:chn none l with
 |true=>rw[show chn (Oj l 0) l=true from hc];exact R5a (by rw[Wj])
 |false=>rw[show chn (Oj l 0) l=false from hc];exact R5a rfl
def W3 (l:List Nmd) (hf:l.length≤1000000000000) (hs:J9 l):Tot (λ k=>Cb k l) (λ r=>r=Eg l):=by
 unfold Cb Eg;refine Rfa (W1 l hf hs _ 0 rfl (Wf _)) ?_;rw[We];show Tot _ (λ r=>r=(chn none l&&_))
 cases hc:chn none l with
 |true=>rw[show chn (Oj l 0) l=true from hc];exact R5a (by rw[Wj])
 |false=>rw[show chn (Oj l 0) l=false from hc];exact R5a rfl
def P4 (d:Dsk) (hf:Mpa d) (hs:Vr d):Tot (λ k=>Bj k d) (λ r=>r=Au d):=by
 unfold Bj Au;refine Rfa (W2 d.1 hf.1.1 hs.1) ?_;cases h:Eg d.1
 ·exact R7a rfl (R5a rfl)
 refine R8a rfl (Rfa (W2 d.2 hf.2.1 hs.2) ?_);exact R5a (by rw[Wj])
def plc (l:List Nmd) (s:ByteArray):Nat:=(l.takeWhile (λ y=>tlt y.1 s)).length
def ins (l:List Nmd) (x:Nmd):List Nmd:=l.take (plc l x.1)++[x]++l.drop (plc l x.1)
def Kza (l:List Nmd) (s:ByteArray):plc l s≤l.length:=(List.takeWhile_sublist _).length_le
def Zv (l:List Nmd) (s:ByteArray) (b:List Int) (hf:l.length≤1000000000000):∀ (n i:Nat),l.length-i=n→i≤l.length→
  Tot (λ k=>F9 k l (i:Int) s b) (λ r=>r=(l,((i+plc (l.drop i) s:Nat):Int),s,b)):=by
 intro n
 induction n with
 |zero=>
  intro i hd hi;refine Tot.succ ?_;simp only[F9];refine Raa (by omega) (R5a ?_);rw[Wl (by omega)];rfl
 |succ n ih=>
  intro i hd hi
  have hlt:i<l.length:=by omega
  refine Tot.succ ?_;simp only[F9];refine R9a (by omega) (R9a (by omega) (R9a (by omega) ?_));rw[show toNat (i:Int)=i from Vm i,w64 (n:=(i:Int)+1) (by omega) (by omega),Fm (d:=Et) hlt];have e0:l.getD i ((⟨#[]⟩:ByteArray),([]:List Int))=l.getD i Et:=rfl;rw[e0]
  have e1:plc (l.getD i Et::l.drop (i+1)) s=if tlt (l.getD i Et).1 s then plc (l.drop (i+1)) s+1 else 0:=by
   unfold plc;rw[Zo]
   split<;>rfl
  rw[e1];refine Rba (λ h=>?_) (λ h=>?_)
  ·have h':tlt (l.getD i Et).1 s=true:=h;rw[if_pos h'];refine(ih (i+1) (by omega) (by omega)).mono ?_;rintro r rfl;rw[show i+1+plc (l.drop (i+1)) s=i+(plc (l.drop (i+1)) s+1) by omega]
  ·have h':¬ (tlt (l.getD i Et).1 s=true):=by
    have:tlt (l.getD i Et).1 s=false:=h;rw[this];simp
   rw[if_neg h'];exact R5a rfl
def Bua (l:List Nmd) (x:Nmd) (hf:l.length≤1000000000000):Tot (λ k=>Gc k l x) (λ r=>r=ins l x):=by
 unfold Gc ins;refine R6a (Zv l x.1 x.2 hf _ 0 rfl (Nat.zero_le _)) ?_;intro r hr;rw[List.drop_zero,Nat.zero_add]at hr;subst hr;have hp:=Kza l x.1;dsimp only
 first
 |refine R9a (by omega) (R9a (by omega) ?_)
  rw[show toNat ((plc l x.1:Nat):Int)=plc l x.1 from Vm _];refine Rda (by simp only[Vp,Vl];omega) ?_;refine Rda (by simp only[Vh,Vp,Vl,Vg];omega) ?_;refine R9a (by omega) (R9a (by omega) (Rda (by simp only[Vh,Vp,Vl,Vy,Vg];omega) (R5a ?_)))
 |refine R8a (by rw[Va,decide_eq_true_iff,decide_eq_true_iff];omega) ?_
  rw[show toNat ((plc l x.1:Nat):Int)=plc l x.1 from Vm _];refine R9a (by simp only[Vl];omega) ?_;refine Rda (by simp only[Vp,Vl];omega) ?_;refine Rda (by simp only[Vh,Vp,Vl,Vg];omega) ?_;refine R8a (by rw[Va,Va,decide_eq_true_iff,decide_eq_true_iff];exact⟨⟨by omega,by omega⟩,Yn (by omega)⟩) (Rda (by simp only[Vh,Vp,Vl,Vy,Vg];omega) (R5a ?_))
 rw[Wc]

def Zw (l:List Int) (h:l.length≤1000000000000):(length ([]:List Int)+l.length)*1≤140737488355328:=by
 simp only[Vp];omega
def Qc (l:List Nmd) (hf:V9 l):∀ (n i:Nat) (acc:List Nmd),l.length-i=n→i≤l.length→acc.length≤i→
  Tot (λ k=>B2 k l acc (i:Int)) (λ r=>r=acc++l.drop i):=by
 obtain⟨h1,h2⟩:=hf;intro n
 induction n with
 |zero=>
  intro i acc hd hi ha;refine Tot.succ ?_;simp only[B2];refine Raa (by omega) (R5a ?_);rw[Wl (by omega),Yf]
 |succ n ih=>
  intro i acc hd hi ha
  have hlt:i<l.length:=by omega
  refine Tot.succ ?_;simp only[B2];refine R9a (by omega) (R9a (by omega) (R9a (by omega) (R9a (by omega) (R9a (by omega) ?_))));rw[show toNat (i:Int)=i from Vm i,w64 (n:=(i:Int)+1) (by omega) (by omega),Fm (d:=Et) hlt];have e0:l.getD i ((⟨#[]⟩:ByteArray),([]:List Int))=l.getD i Et:=rfl;rw[e0];have hb:=h2 _ (Cu (d:=Et) hlt);refine Rda (Zw _ hb) (Rda (by simp only[Vg,Vp];omega) ?_);refine(ih (i+1) (acc++[l.getD i Et]) (by omega) (by omega) (by simp only[Vh,Vg,Vp];omega)).mono ?_;rintro r rfl;rw[Vj];rfl
def O8 (l:List Nmd) (hf:V9 l):Tot (λ k=>Be k l) (λ r=>r=l):=by
 unfold Be;refine R6a (Qc l hf _ 0 [] rfl (Wf _) (Wf _)) ?_;intro r hr;rw[We,Wc]at hr;exact R5a hr
def Hy (d:Dsk) (hf:Mpa d):Tot (λ k=>A7 k d) (λ r=>r=d):=by
 unfold A7;refine Rfa (O8 d.1 hf.1) ?_;refine Rfa (O8 d.2 hf.2) ?_;exact R5a rfl
def Gta (l:List Nmd) (s:ByteArray) (hf:l.length≤1000000000000):∀ (n i:Nat),l.length-i=n→i≤l.length→
  Tot (λ k=>Ej k l s (i:Int)) (λ r=>r=match fnd (l.drop i) s with|some j => .inl ((i+j:Nat):Int)|none => .inr ()):=by
 intro n
 induction n with
 |zero=>
  intro i hd hi;refine Tot.succ ?_;simp only[Ej];refine Raa (by omega) (R5a ?_);rw[Wl (by omega)];rfl
 |succ n ih=>
  intro i hd hi
  have hlt:i<l.length:=by omega
  refine Tot.succ ?_;simp only[Ej];refine R9a (by omega) (R9a (by omega) (R9a (by omega) ?_));rw[show toNat (i:Int)=i from Vm i,w64 (n:=(i:Int)+1) (by omega) (by omega),Fm (d:=Et) hlt];have e0:l.getD i ((⟨#[]⟩:ByteArray),([]:List Int))=l.getD i Et:=rfl;rw[e0]
  have e1:fnd (l.getD i Et::l.drop (i+1)) s=if teq (l.getD i Et).1 s then some 0 else (fnd (l.drop (i+1)) s).map (· + 1):=by
   unfold fnd;rw[Sla]
  rw[e1];refine Rba (λ h=>?_) (λ h=>?_)
  ·have h':teq (l.getD i Et).1 s=true:=h;rw[if_pos h'];exact R5a rfl
  ·have h':¬ (teq (l.getD i Et).1 s=true):=by
    have:teq (l.getD i Et).1 s=false:=h;rw[this];simp
   rw[if_neg h'];refine(ih (i+1) (by omega) (by omega)).mono ?_;rintro r rfl
   cases fnd (l.drop (i+1)) s with
   |none=>rfl
   |some j=>
    show Sum.inl _=Sum.inl _;rw[show i+1+j=i+(j+1) by omega]
def Opa (l:List Nmd) (s:ByteArray) (hf:l.length≤1000000000000):Tot (λ k=>Gg k l s) (λ r=>r=Joa l s):=by
 unfold Gg Joa;refine Rfa (Gta l s hf _ 0 rfl (Wf _)) ?_;rw[We]
 cases fnd l s with
 |none=>exact R5a rfl
 |some j=>
  refine R5a ?_;rw[Wb]
def cut (l:List Nmd) (s:ByteArray):List Nmd:=l.filter (λ x => !(teq x.1 s))
def Daa (l:List Nmd) (s:ByteArray) (hf:l.length≤1000000000000):∀ (n i:Nat) (acc:List Nmd),l.length-i=n→i≤l.length→acc.length≤i→
  Tot (λ k=>Dl k l s acc (i:Int)) (λ r=>r=acc++cut (l.drop i) s):=by
 intro n
 induction n with
 |zero=>
  intro i acc hd hi ha;refine Tot.succ ?_;simp only[Dl];refine Raa (by omega) (R5a ?_);rw[Wl (by omega)];simp[cut]
 |succ n ih=>
  intro i acc hd hi ha
  have hlt:i<l.length:=by omega
  refine Tot.succ ?_;simp only[Dl];refine R9a (by omega) (R9a (by omega) (R9a (by omega) ?_));rw[show toNat (i:Int)=i from Vm i,w64 (n:=(i:Int)+1) (by omega) (by omega),Fm (d:=Et) hlt];have e0:l.getD i ((⟨#[]⟩:ByteArray),([]:List Int))=l.getD i Et:=rfl;rw[e0]
  have e1:cut (l.getD i Et::l.drop (i+1)) s=if (!(teq (l.getD i Et).1 s))=true then l.getD i Et::cut (l.drop (i+1)) s else cut (l.drop (i+1)) s:=by
   unfold cut;rw[Rja]
  rw[e1];refine Rba (λ h=>?_) (λ h=>?_)
  ·have h':(!(teq (l.getD i Et).1 s))=true:=h;rw[if_pos h'];refine R9a (by omega) (R9a (by omega) (Rda (by simp only[Vg,Vp];omega) ?_));refine(ih (i+1) (acc++[l.getD i Et]) (by omega) (by omega) (by simp only[Vh,Vg,Vp];omega)).mono ?_;rintro r rfl;rw[Vj];rfl
  ·have h':¬ ((!(teq (l.getD i Et).1 s))=true):=by
    have:(!(teq (l.getD i Et).1 s))=false:=h;rw[this];simp
   rw[if_neg h'];exact ih (i+1) acc (by omega) (by omega) (by omega)
def Mqa (l:List Nmd) (s:ByteArray) (hf:l.length≤1000000000000):Tot (λ k=>Fj k l s) (λ r=>r=cut l s):=by
 unfold Fj;refine R6a (Daa l s hf _ 0 [] rfl (Wf _) (Wf _)) ?_;intro r hr;rw[We,Wc]at hr;exact R5a hr
def P5 (d:Dsk) (hf:Mpa d) (hs:Vr d):Tot (λ k=>C5 k d) (λ r=>r=Au d):=by
 unfold C5 Au;refine Rfa (W3 d.1 hf.1.1 hs.1) ?_;cases h:Eg d.1
 ·exact R7a rfl (R5a rfl)
 refine R8a rfl (Rfa (W3 d.2 hf.2.1 hs.2) ?_);exact R5a (by rw[Wj])

def rdN (l:List Nmd) (s:ByteArray):List Int×Bool:=match fnd l s with
 |some i=>((l.getD i Et).2,true)
 |none=>([],false)
def Jpa (d:Dsk) (s:ByteArray) (hf:V9 d.1):Tot (λ k=>E7 k d s) (λ r=>r=rdN d.1 s):=by
 unfold E7 rdN;refine Rfa (Gsa d.1 s hf.1) ?_;unfold Joa;have hl1:=hf.1
 cases h:fnd d.1 s with
 |none=>exact R9a (by decide) (R5a rfl)
 |some i=>
  have hl:=(O7 h).1;dsimp only;refine Raa (by omega) (R9a (by omega) (R9a (by omega) ?_));rw[show toNat (i:Int)=i from Int.toNat_natCast i];have hb:=hf.2 _ (Cu (d:=Et) hl);refine Rfa (Rga (Q:=λ r=>r=(d.1.getD i Et).2) (I9 _ hb) rfl) ?_;exact R5a rfl
def Bva (d:Dsk) (s:ByteArray) (hf:V9 d.1):Tot (λ k=>C8 k d s) (λ r=>r=rdN d.1 s):=by
 unfold C8 rdN;refine Rfa (Opa d.1 s hf.1) ?_;unfold Joa;have hl1:=hf.1
 cases h:fnd d.1 s with
 |none=>exact R9a (by decide) (R5a rfl)
 |some i=>
  have hl:=(O7 h).1;dsimp only;refine Raa (by omega) (R9a (by omega) (R9a (by omega) ?_));rw[show toNat (i:Int)=i from Int.toNat_natCast i];have hb:=hf.2 _ (Cu (d:=Et) hl);exact Rda (Zw _ hb) (R5a rfl)

def H8 (l:List Nmd):Prop:=l.Pairwise (λ a b=>tlt a.1 b.1=true)
def Zx:∀ (p:Option ByteArray) (l:List Nmd),chn p l=true↔H8 l∧(∀ r∈l,nOk r=true)∧(∀ q,p=some q→∀ r∈l,tlt q r.1=true)
 |p,[]=>by
  have:chn p []=true:=by cases p<;>rfl
  simp[this,H8]
 |none,r::l=>by
  simp only[chn,Va,Zx (some r.1) l,H8,Yo];constructor
  ·rintro⟨h1,h2,h3,h4⟩;exact⟨⟨λ a ha=>h4 _ rfl a ha,h2⟩,λ a ha=>by rcases Vk.1 ha with rfl|ha;exact h1;exact h3 a ha,λ q hq=>by cases hq⟩
  ·rintro⟨⟨h1,h2⟩,h3,_⟩;exact⟨h3 r (by simp),h2,λ a ha=>h3 a (Vd _ ha),λ q hq a ha=>by cases hq;exact h1 a ha⟩
 |some q,r::l=>by
  simp only[chn,Va,Zx (some r.1) l,H8,Yo];constructor
  ·rintro⟨h1,h0,h2,h3,h4⟩;refine⟨⟨λ a ha=>h4 _ rfl a ha,h2⟩,λ a ha=>by rcases Vk.1 ha with rfl|ha;exact h1;exact h3 a ha,λ q' hq a ha=>?_⟩;cases hq;rcases Vk.1 ha with rfl|ha
   ·exact h0
   ·exact My h0 (h4 _ rfl a ha)
  ·rintro⟨⟨h1,h2⟩,h3,h4⟩;exact⟨h3 r (by simp),h4 q rfl r (by simp),h2,λ a ha=>h3 a (Vd _ ha),λ q' hq a ha=>by cases hq;exact h1 a ha⟩
def Bs {l:List Nmd}:Eg l=true↔H8 l∧(∀ r∈l,nOk r=true)∧l.length≤60:=by
 unfold Eg;simp only[Va,Zx,decide_eq_true_eq];constructor
 ·rintro⟨⟨h1,h2,_⟩,h3⟩;exact⟨h1,h2,by omega⟩
 ·rintro⟨h1,h2,h3⟩;exact⟨⟨h1,h2,λ q hq=>by cases hq⟩,by omega⟩
def M3 {x:Nmd}:nOk x=true↔C1 x.1=true∧x.2.length≤400:=by
 unfold nOk;simp only[Va,Wi,decide_eq_false_iff_not];constructor
 ·rintro⟨h1,h2⟩;exact⟨h1,by omega⟩
 ·rintro⟨h1,h2⟩;exact⟨h1,by omega⟩
def O9 {l:List Nmd} (h:Eg l=true):V9 l∧J9 l:=by
 obtain⟨_,h2,h3⟩:=Bs.1 h;refine⟨⟨by omega,λ x hx=>by have:=(M3.1 (h2 x hx)).2;omega⟩,λ x hx=>?_⟩;have:=Jt (M3.1 (h2 x hx)).1;unfold Ht;omega
def Bwa (y:Nmd) (l:List Nmd) (s:ByteArray):fnd (y::l) s=if teq y.1 s then some 0 else (fnd l s).map (· + 1):=by
 unfold fnd;rw[Sla]
def Nw:∀ {l:List Nmd} {s:ByteArray},H8 l→del l s=cut l s
 |[],s,_=>rfl
 |y::l,s,h=>by
  have hc:=Yo.1 h;have ih:=Nw (l:=l) (s:=s) hc.2;unfold del cut at *;rw[Bwa,Rja]
  cases ht:teq y.1 s with
  |true=>
   have hno:∀ x∈l,(!(teq x.1 s))=true:=λ x hx=>by
    cases hx2:teq x.1 s
    ·rfl
    have e1:=Jp.1 ht;have e2:=Jp.1 hx2;have:=hc.1 x hx;rw[e1,e2,Nt]at this;cases this
   rw[if_pos rfl,if_neg (by simp)];show []++l=_;rw[Wc,List.filter_eq_self.2 hno]
  |false=>
   rw[if_neg (by simp),if_pos (show (!false)=true from rfl),← ih]
   cases hf:fnd l s with
   |none=>rfl
   |some i=>rfl
def Rl {l:List Nmd} {s:ByteArray} (h:H8 l):H8 (cut l s):=h.sublist List.filter_sublist
def M4 {l:List Nmd} {s:ByteArray}:(cut l s).Sublist l:=List.filter_sublist
def Bxa {l:List Nmd} {s:ByteArray} (h:Eg l=true):Eg (cut l s)=true:=by
 obtain⟨h1,h2,h3⟩:=Bs.1 h;exact Bs.2 ⟨Rl h1,λ x hx=>h2 x (M4.subset hx),by have:=(M4 (l:=l) (s:=s)).length_le;omega⟩
def Mra {l:List Nmd} {s:ByteArray} {i:Nat} (h:fnd l s=some i):(del l s).length+1=l.length:=by
 have hl:=(O7 h).1;unfold del;rw[h];simp only[Vh,Vl,Vy];omega
def Msa {l m:List Nmd} (h:m.Sublist l) (hf:V9 l):V9 m:=⟨by have:=h.length_le;have:=hf.1;omega,λ x hx=>hf.2 x (h.subset hx)⟩
def Gua {l m:List Nmd} (h:m.Sublist l) (hf:J9 l):J9 m:=λ x hx=>hf x (h.subset hx)

def Bya (d out:Dsk) (s:ByteArray) (hd:Mpa d∧Vr d) (ho:Mpa out∧Vr out) (hs:Ht s):Tot (λ k=>Cy k d out s) (λ r=>r=bif Au d&&(C1 s&&Au out) then (out,true) else (d,false)):=by
 unfold Cy;refine Rfa (P5 d hd.1 hd.2) ?_
 cases h1:Au d with
 |false=>
  refine R8a rfl (Rfa (Hy d hd.1) ?_);exact R5a rfl
 |true=>
  refine R7a rfl (Rfa (N0 s hs) ?_)
  cases h2:C1 s with
  |false=>
   refine R8a rfl (Rfa (Hy d hd.1) ?_);exact R5a rfl
  |true=>
   refine R7a rfl (Rfa (P5 out ho.1 ho.2) ?_)
   cases h3:Au out with
   |false=>
    refine R8a rfl (Rfa (Hy d hd.1) ?_);exact R5a rfl
   |true=>exact R7a rfl (R5a rfl)

def ptl (x:Nmd):Bool→List Nmd→List Nmd
 |p,[]=>bif p then [] else [x]
 |p,y::l=>(bif !p&&!(tlt y.1 x.1) then [x] else [])++((bif !(teq y.1 x.1) then [y] else [])++ptl x (p||!(tlt y.1 x.1)) l)
def Zy (l:List Nmd) (s:ByteArray) (b:List Int) (hf:l.length≤1000000000000):∀ (n i:Nat) (acc:List Nmd) (p:Bool),l.length-i=n→i≤l.length→acc.length≤2*i→
  Tot (λ k=>Aw k l s acc p (i:Int) s b) (λ r=>r.1++(bif r.2.1 then [] else [(s,b)])=acc++ptl (s,b) p (l.drop i)∧r.2.2=(s,b)∧r.1.length≤2*l.length):=by
 intro n
 induction n with
 |zero=>
  intro i acc p hd hi ha;refine Tot.succ ?_;simp only[Aw];refine Raa (by omega) (R5a ?_);rw[List.drop_of_length_le (by omega)];exact⟨rfl,rfl,by dsimp only;omega⟩
 |succ n ih=>
  intro i acc p hd hi ha
  have hlt:i<l.length:=by omega
  refine Tot.succ ?_;simp only[Aw];refine R9a (by omega) ?_;rw[show toNat (i:Int)=i from Vm i,w64 (n:=(i:Int)+1) (by omega) (by omega),Fm (d:=Et) hlt];have e0:l.getD i ((⟨#[]⟩:ByteArray),([]:List Int))=l.getD i Et:=rfl;rw[e0]
  have Ai:∀ (ac:List Nmd) (q:Bool),ac.length≤2*i+1→Tot (λ k=>cond (decide ((0:Int)≤i)) (cond (decide ((i:Int)<(length l:Int))) (cond (!((l.getD i Et).1.toList==s.toList)) (cond (decide ((0:Int)≤i)) (cond (decide ((i:Int)<(length l:Int))) (cond (Nat.ble ((length ac+length [l.getD i Et])*40) 140737488355328) (Aw k l s (ac++[l.getD i Et]) q ((i:Int)+1) s b) none) none) none) (Aw k l s ac q ((i:Int)+1) s b)) none) none)
    (λ r=>r.1++(bif r.2.1 then [] else [(s,b)])=ac++((bif !(teq (l.getD i Et).1 s) then [l.getD i Et] else [])++ptl (s,b) q (l.drop (i+1)))∧r.2.2=(s,b)∧r.1.length≤2*l.length):=by
   intro ac q hac;refine R9a (by omega) (R9a (by omega) (Rba (λ h=>?_) (λ h=>?_)))
   ·have h':(!(teq (l.getD i Et).1 s))=true:=h;rw[h'];refine R9a (by omega) (R9a (by omega) (Rda (by simp only[Vg,Vp];omega) ?_));refine(ih (i+1) (ac++[l.getD i Et]) q (by omega) (by omega) (by simp only[Vh,Vg,Vp];omega)).mono ?_;rintro r ⟨h1,h2,h3⟩;refine⟨?_,h2,h3⟩;rw[h1,Vj];rfl
   ·have h':(!(teq (l.getD i Et).1 s))=false:=h;rw[h'];exact ih (i+1) ac q (by omega) (by omega) (by omega)
  cases p with
  |true=>
   refine R7a rfl ?_;refine(Ai acc true (by omega)).mono ?_;rintro r ⟨h1,h2,h3⟩;exact⟨h1,h2,h3⟩
  |false=>
   refine R8a rfl (R9a (by omega) (R9a (by omega) (Rba (λ h=>?_) (λ h=>?_))))
   ·have h':(!(tlt (l.getD i Et).1 s))=true:=h;refine Rda (by simp only[Vg,Vp];omega) ?_;refine(Ai (acc++[(s,b)]) true (by simp only[Vh,Vg,Vp];omega)).mono ?_;rintro r ⟨h1,h2,h3⟩;refine⟨?_,h2,h3⟩;rw[h1];simp only[ptl,h',Rqa,Bool.and_self,Tba,cond_true,Vj]
   ·have h':(!(tlt (l.getD i Et).1 s))=false:=h;refine(Ai acc false (by omega)).mono ?_;rintro r ⟨h1,h2,h3⟩;refine⟨?_,h2,h3⟩;rw[h1];simp only[ptl,h',Rqa,Bool.and_false,Tba,cond_false,Wc]
def Bza (l:List Nmd) (s:ByteArray) (b:List Int) (hf:l.length≤1000000000000) (hb:b.length≤1000000000000):Tot (λ k=>Ec k l s b) (λ r=>r=ptl (s,b) false l):=by
 unfold Ec;refine Rda (Zw b hb) ?_;rw[List.nil_append];refine R6a (Zy l s b hf _ 0 [] false rfl (Nat.zero_le _) (Nat.zero_le _)) ?_;rintro⟨r,q,x,y⟩ ⟨h1,h2,h3⟩;rw[List.drop_zero,List.nil_append]at h1;dsimp only at h1 h2 h3;dsimp only
 cases q with
 |true=>
  refine R7a rfl (R5a ?_);rw[← h1];simp
 |false=>
  refine R8a rfl (Rda (by simp only[Vg,Vp];omega) (R5a ?_));rw[← h1];obtain⟨rfl,rfl⟩:=Prod.mk.inj h2;rfl
def Gva (x:Nmd):∀ (p:Bool) (l:List Nmd),∀ y∈ptl x p l,y∈l∨y=x:=by
 intro p l
 induction l generalizing p with
 |nil=>intro y hy;cases p<;>simp_all [ptl]
 |cons a l ih=>
  intro y hy;simp only[ptl,Vo]at hy;rcases hy with hy|hy|hy
  ·revert hy;cases (!p&&!(tlt a.1 x.1))<;>simp_all
  ·revert hy;cases (!(teq a.1 x.1))<;>simp_all
  ·rcases ih _ y hy with h|h
   ·exact Or.inl (Vd _ h)
   ·exact Or.inr h
def Mta (x:Nmd):∀ (p:Bool) (l:List Nmd),(ptl x p l).length≤l.length+(bif p then 0 else 1):=by
 intro p l
 induction l generalizing p with
 |nil=>cases p<;>simp[ptl]
 |cons a l ih=>
  simp only[ptl,Vh,Vg];have:=ih (p||!(tlt a.1 x.1))
  revert this
  cases p<;>cases tlt a.1 x.1<;>cases teq a.1 x.1<;>simp<;>omega
def Jqa (x:Nmd):∀ (l:List Nmd),ptl x true l=cut l x.1:=by
 intro l
 induction l with
 |nil=>rfl
 |cons a l ih=>
  simp only[ptl,Sua,Spa,cond_false,Wc,Bool.true_or,ih,cut,Rja]
  cases teq a.1 x.1<;>simp
def Rm (x:Nmd):∀ {l:List Nmd},H8 l→ptl x false l=ins (cut l x.1) x:=by
 intro l
 induction l with
 |nil=>intro _;rfl
 |cons a l ih=>
  intro h;have hl:H8 l:=(Yo.1 h).2;have ha:=(Yo.1 h).1;simp only[ptl,Rqa,Wj,Tba]
  cases ht:tlt a.1 x.1 with
  |true=>
   have he:teq a.1 x.1=false:=by
    cases hq:teq a.1 x.1 with
    |false=>rfl
    |true=>rw[(Jp.1 hq),Nt]at ht;cases ht
   simp only[he,Sua,Rqa,cond_false,cond_true,Wc,ih hl,cut,Rja,if_true];unfold ins plc;rw[Zo,if_pos ht];rfl
  |false=>
   have hc:plc (cut (a::l) x.1) x.1=0:=by
    unfold plc cut;rw[List.length_eq_zero_iff];rw[Rja];cases hq:teq a.1 x.1
    ·rw[Rqa,if_pos rfl,Zo,if_neg (by rw[ht];simp)]
    have hx:=(Jp.1 hq);simp only[Sua,Wd,if_false]
    cases hf:l.filter (λ y => !(teq y.1 x.1)) with
    |nil=>rfl
    |cons b m=>
     have hb:b∈l:=by
      have:b∈l.filter (λ y => !(teq y.1 x.1)):=by rw[hf];exact Rxa
      exact(List.mem_filter.1 this).1
     have hab:=ha b hb;rw[hx]at hab;rw[Zo,if_neg (by rw[Gia hab];simp)]
   simp only[Rqa,cond_true,Jqa];unfold ins;rw[hc];simp only[Rka,Wc,We,cut,Rja]
   cases teq a.1 x.1<;>simp

def Gwa {l:List Nmd} {x:Nmd} {p:Bool} (hl:V9 l) (hl':l.length≤999999999999) (hx:x.2.length≤1000000000000):V9 (ptl x p l):=by
 refine⟨?_,λ y hy=>?_⟩
 ·have:=Mta x p l
  revert this
  cases p<;>simp<;>omega
 ·rcases Gva x p l y hy with h|rfl
  ·exact hl.2 y h
  ·exact hx
def W4 {l:List Nmd} {x:Nmd} {p:Bool} (hl:J9 l) (hx:Ht x.1):J9 (ptl x p l):=by
 intro y hy;rcases Gva x p l y hy with h|rfl
 ·exact hl y h
 ·exact hx
def DIn (d:Dsk):Prop:=(Mpa d∧Vr d)∧d.1.length≤2000000∧d.2.length≤2000000
def Rn {d:Dsk} (h:Au d=true):DIn d:=by
 unfold Au at h;rw[Va]at h;have h1:=O9 h.1;have h2:=O9 h.2;exact⟨⟨⟨h1.1,h2.1⟩,h1.2,h2.2⟩,by have:=(Bs.1 h.1).2.2;omega,by have:=(Bs.1 h.2).2.2;omega⟩
def Gxa (d:Dsk) (s:ByteArray) (b:List Int) (hd:DIn d) (hs:Ht s) (hb:b.length≤1000000000000):Tot (λ k=>Bp k d s b) (λ r=>r=bif Au d&&(C1 s&&Au (ptl (s,b) false d.1,d.2)) then ((ptl (s,b) false d.1,d.2),true) else (d,false)):=by
 unfold Bp;refine R6a (Hy d hd.1.1) ?_;rintro r rfl;refine R6a (Bza r.1 s b hd.1.1.1.1 hb) ?_;rintro c rfl;refine R6a (Bya r (ptl (s,b) false r.1,r.2) s hd.1 ⟨⟨Gwa hd.1.1.1 (by have:=hd.2.1;omega) hb,hd.1.1.2⟩,W4 hd.1.2.1 hs,hd.1.2.2⟩ hs) ?_;rintro e rfl;exact R5a rfl
def syS (d:Dsk) (s:ByteArray):List Nmd:=match fnd d.1 s with
 |some i=>ptl (s,(d.1.getD i Et).2) false (cut d.2 s)
 |none=>cut d.2 s
def Oqa {d:Dsk} {s:ByteArray} (hd:DIn d) (hs:Ht s):V9 (syS d s)∧J9 (syS d s):=by
 unfold syS;have h1:=Msa (M4 (l:=d.2) (s:=s)) hd.1.1.2;have h2:=Gua (M4 (l:=d.2) (s:=s)) hd.1.2.2
 cases h:fnd d.1 s with
 |none=>exact⟨h1,h2⟩
 |some i=>
  have hb:=hd.1.1.1.2 _ (Cu (d:=Et) (O7 h).1);have hc:(cut d.2 s).length≤d.2.length:=(M4 (l:=d.2) (s:=s)).length_le;exact⟨Gwa h1 (by have:=hd.2.2;omega) hb,W4 h2 hs⟩
def Jra (d:Dsk) (s:ByteArray) (hd:DIn d) (hs:Ht s):Tot (λ k=>Bc k d s) (λ r=>r=bif Au d&&(C1 s&&Au (d.1,syS d s)) then ((d.1,syS d s),true) else (d,false)):=by
 unfold Bc;have hin:=Oqa hd hs;refine R6a (Hy d hd.1.1) ?_;rintro r rfl;refine R6a (Bva r s hd.1.1.1) ?_;rintro b rfl;refine R6a (Mqa r.2 s hd.1.1.2.1) ?_;rintro c rfl
 have e:∀ o,o=syS r s→Tot (λ k=>(Cy k r (r.1,o) s).bind λ r5=>some (r5.1,r5.2)) (λ q=>q=bif Au r&&(C1 s&&Au (r.1,syS r s)) then ((r.1,syS r s),true) else (r,false)):=by
  rintro o rfl;refine R6a (Bya r (r.1,syS r s) s hd.1 ⟨⟨hd.1.1.1,hin.1⟩,hd.1.2.1,hin.2⟩ hs) ?_;rintro e rfl;exact R5a rfl
 have hc:(cut r.2 s).length≤r.2.length:=(M4 (l:=r.2) (s:=s)).length_le
 cases h:fnd r.1 s with
 |none=>
  have h':rdN r.1 s=([],false):=by unfold rdN;rw[h]
  rw[h'];refine R7a rfl (e _ ?_);unfold syS;rw[h]
 |some i=>
  have h':rdN r.1 s=((r.1.getD i Et).2,true):=by unfold rdN;rw[h]
  rw[h'];have hb:=hd.1.1.1.2 _ (Cu (d:=Et) (O7 h).1);refine R8a rfl (R6a (Bza (cut r.2 s) s _ (by have:=hd.2.2;omega) hb) ?_);rintro o rfl;refine e _ ?_;unfold syS;rw[h]
def syI (d:Dsk) (s:ByteArray):List Nmd:=match fnd d.1 s with
 |some i=>ins (del d.2 s) (s,(d.1.getD i Et).2)
 |none=>del d.2 s
def Ro (l:List Nmd) (s:ByteArray):(del l s).length≤l.length:=by
 cases h:fnd l s with
 |none=>unfold del;rw[h];exact Vq _
 |some i=>have:=Mra h;omega
def Mua (l:List Nmd) (x:Nmd):(ins l x).length=l.length+1:=by
 unfold ins;have:=Kza l x.1;simp only[Vh,Vl,Vy,Vg,Vp];omega
def Jsa (d:Dsk) (s:ByteArray) (hd:DIn d) (hs:Ht s):Tot (λ k=>Bd k d s) (λ r=>r=bif Au d&&(C1 s&&decide ((syI d s).length≤60)) then ((d.1,syI d s),true) else (d,false)):=by
 unfold Bd;refine R6a (Fn d hd.1.1) ?_;rintro r rfl;refine R6a (P4 r hd.1.1 hd.1.2) ?_;rintro b rfl;cases h1:Au r
 ·exact R8a rfl (R5a rfl)
 refine R7a rfl (R6a (Lc s hs) ?_);rintro b rfl;cases h2:C1 s
 ·exact R8a rfl (R5a rfl)
 refine R7a rfl (R6a (Bsa r.2 s hd.1.1.2.1) ?_);rintro c rfl;refine R6a (Gsa r.1 s hd.1.1.1.1) ?_;rintro i rfl;have hdl:=Ro r.2 s;have hr2:=hd.2.2;have hr1:=hd.2.1
 have e:∀ o,o=syI r s→o.length≤4000000→Tot (λ k=>cond (decide ((length o:Int) > 60)) ((A6 k r).bind λ r9=>some (r9,false)) (some ((r.1,o),true))) (λ q=>q=bif true&&(true&&decide ((syI r s).length≤60)) then ((r.1,syI r s),true) else (r,false)):=by
  rintro o rfl _;refine Rca (λ h=>?_) (λ h=>?_)
  ·refine R6a (Fn r hd.1.1) ?_;rintro q rfl;refine R5a ?_;rw[decide_eq_false (by omega)];rfl
  ·refine R5a ?_;rw[decide_eq_true (by omega)];rfl
 unfold Joa
 cases h:fnd r.1 s with
 |none=>
  refine Raa (by decide) (e _ ?_ (by omega));unfold syI;rw[h]
 |some i=>
  have hl:=(O7 h).1;dsimp only;refine R9a (by omega) (R9a (by omega) (R9a (by omega) ?_));rw[show toNat (i:Int)=i from Int.toNat_natCast i];have hb:=hd.1.1.1.2 _ (Cu (d:=Et) hl);refine R6a (Rga (Q:=λ q=>q=(r.1.getD i Et).2) (I9 _ hb) rfl) ?_;rintro q rfl;refine R6a (Bua (del r.2 s) (s,(r.1.getD i Et).2) (by omega)) ?_;rintro o rfl;refine e _ ?_ (by rw[Mua];omega);unfold syI;rw[h]

section
open Go
end

section
open Go
end

def Lr (p:Nmd→Bool):∀ l:List Nmd,l.take (l.takeWhile p).length=l.takeWhile p∧l.drop (l.takeWhile p).length=l.dropWhile p
 |[]=>⟨rfl,rfl⟩
 |y::l=>by
  obtain⟨h1,h2⟩:=Lr p l;simp only[Zo,List.dropWhile_cons]
  cases p y with
  |true=>simp[h1,h2]
  |false=>simp
def W5 {p:Nmd→Bool}:∀ {l:List Nmd} {y:Nmd},y∈l.takeWhile p→p y=true
 |[],y,h=>by simp at h
 |z::l,y,h=>by
  simp only[Zo]at h;cases hz:p z
  ·rw[hz]at h;simp at h
  rw[hz]at h;simp only[if_true]at h;rcases Vk.1 h with rfl|h
  ·exact hz
  ·exact W5 h
def L0a (l:List Nmd) (x:Nmd):ins l x=l.takeWhile (λ y=>tlt y.1 x.1)++([x]++l.dropWhile (λ y=>tlt y.1 x.1)):=by
 unfold ins plc;obtain⟨h1,h2⟩:=Lr (λ y=>tlt y.1 x.1) l;rw[h1,h2,Vj]
def Rp {x:Nmd}:∀ {l:List Nmd},H8 l→(∀ y∈l,y.1≠x.1)→∀ z∈l.dropWhile (λ y=>tlt y.1 x.1),tlt x.1 z.1=true
 |[],_,_,z,hz=>by simp at hz
 |y::l,hs,hn,z,hz=>by
  obtain⟨h1,h2⟩:=Yo.1 hs;simp only[List.dropWhile_cons]at hz
  cases hy:tlt y.1 x.1 with
  |true=>
   rw[hy]at hz;simp only[if_true]at hz;exact Rp h2 (λ w hw=>hn w (Vd _ hw)) z hz
  |false=>
   rw[hy]at hz;simp only[Wd,if_false]at hz
   have hxy:tlt x.1 y.1=true:=by
    cases hh:tlt x.1 y.1 with
    |true=>rfl
    |false=>exact absurd (Mla hy hh) (hn y (by simp))
   rcases Vk.1 hz with rfl|hz
   ·exact hxy
   ·exact My hxy (h1 z hz)
def Dba {l:List Nmd} {x:Nmd} (hs:H8 l) (hn:∀ y∈l,y.1≠x.1):H8 (ins l x):=by
 rw[L0a]
 have hs':H8 (l.takeWhile (λ y=>tlt y.1 x.1)++l.dropWhile (λ y=>tlt y.1 x.1)):=by rw[S7a];exact hs
 obtain⟨h1,h2,h3⟩:=Zu.1 hs';have h4:∀ y∈l.takeWhile (λ y=>tlt y.1 x.1),tlt y.1 x.1=true:=λ y hy=>W5 (p:=λ y=>tlt y.1 x.1) hy;refine Zu.2 ⟨h1,Yo.2 ⟨λ z hz=>Rp hs hn z hz,h2⟩,λ a ha b hb=>?_⟩;rcases Vk.1 hb with rfl|hb
 ·exact h4 a ha
 ·exact h3 a ha b hb
def Zz {l:List Nmd} {x y:Nmd}:y∈ins l x↔y=x∨y∈l:=by
 rw[L0a];have e:=S7a (p:=λ y:Nmd=>tlt y.1 x.1) (l:=l);constructor
 ·intro h;rcases Vo.1 h with h|h
  ·right;rw[← e];exact Vt _ h
  ·rcases Vk.1 h with h|h
   ·exact .inl h
   ·right;rw[← e];exact Vi _ h
 ·rintro (rfl|h)
  ·exact Vi _ (by simp)
  ·rw[← e]at h;rcases Vo.1 h with h|h
   ·exact Vt _ h
   ·exact Vi _ (Vd _ h)
def L1a {l:List Nmd} {x:Nmd} (hl:Eg l=true) (hn:∀ y∈l,y.1≠x.1) (hx:nOk x=true):Eg (ins l x)=decide ((ins l x).length≤60):=by
 obtain⟨h1,h2,h3⟩:=Bs.1 hl
 by_cases h:(ins l x).length≤60
 ·rw[decide_eq_true h];exact Bs.2 ⟨Dba h1 hn,λ y hy=>by rcases Zz.1 hy with rfl|hy;exact hx;exact h2 y hy,h⟩
 ·rw[decide_eq_false h]
  cases hc:Eg (ins l x) with
  |false=>rfl
  |true=>exact absurd (Bs.1 hc).2.2 h
def L2a {l:List Nmd} {s:ByteArray}:∀ y∈cut l s,y.1≠s:=λ y hy e=>by
 have:=(List.mem_filter.1 hy).2;simp[e,Jp.2 rfl]at this
def Mva {l:List Nmd} {s:ByteArray}:cut (cut l s) s=cut l s:=by
 unfold cut;rw[List.filter_filter];congr 1;funext x;simp
def Mwa {d:Dsk} {s:ByteArray} (hd:Au d=true):syS d s=syI d s:=by
 unfold Au at hd;rw[Va]at hd;have hs:=(Bs.1 hd.2).1;unfold syS syI;rw[Nw hs]
 cases fnd d.1 s with
 |none=>rfl
 |some i=>
  show ptl _ false (cut d.2 s)=ins (cut d.2 s) _;rw[Rm _ (Rl hs)];show ins (cut (cut d.2 s) s) _=_;rw[Mva]
def Gya {d:Dsk} {s:ByteArray} (hd:Au d=true) (hs:C1 s=true):Au (d.1,syI d s)=decide ((syI d s).length≤60):=by
 have hd':=hd;unfold Au at hd';rw[Va]at hd';have h2:=Bs.1 hd'.2;unfold Au;rw[hd'.1,Wj];unfold syI;rw[Nw h2.1]
 cases h:fnd d.1 s with
 |none=>show Eg (cut d.2 s)=decide ((cut d.2 s).length≤60);rw[Bxa hd'.2,decide_eq_true (Bs.1 (Bxa (s:=s) hd'.2)).2.2]
 |some i=>
  refine L1a (Bxa hd'.2) L2a (M3.2 ⟨hs,?_⟩);have h1:=(Bs.1 hd'.1).2.1 _ (Cu (d:=Et) (O7 h).1);exact(M3.1 h1).2

def wrI (d:Dsk) (s:ByteArray) (b:List Int):List Nmd:=ins (del d.1 s) (s,b)
def Gza (d:Dsk) (s:ByteArray) (b:List Int) (hd:DIn d) (hs:Ht s) (hb:b.length≤1000000000000):Tot (λ k=>Bq k d s b) (λ r=>r=bif Au d&&(C1 s&&(decide (b.length≤400)&&decide ((wrI d s b).length≤60))) then ((wrI d s b,d.2),true) else (d,false)):=by
 unfold Bq;refine R6a (Fn d hd.1.1) ?_;rintro r rfl;refine R6a (P4 r hd.1.1 hd.1.2) ?_;rintro b1 rfl;cases h1:Au r
 ·exact R8a rfl (R5a rfl)
 refine R7a rfl (R6a (Lc s hs) ?_);rintro b2 rfl;cases h2:C1 s
 ·exact R8a rfl (R5a rfl)
 refine R7a rfl (Rca (λ h=>?_) (λ h=>?_))
 ·rw[decide_eq_false (show ¬ b.length≤400 by omega)];exact R5a rfl
 ·rw[decide_eq_true (show b.length≤400 by omega)];refine R6a (Bsa r.1 s hd.1.1.1.1) ?_;rintro c rfl;refine R6a (Rga (Q:=λ x=>x=b) (I9 b hb) rfl) ?_;rintro e rfl;have hdl:=Ro r.1 s;refine R6a (Bua (del r.1 s) (s,e) (by have:=hd.2.1;omega)) ?_;rintro m rfl;refine Rca (λ h=>?_) (λ h=>?_)
  ·rw[decide_eq_false (show ¬ (wrI r s e).length≤60 by unfold wrI;omega)];refine R6a (Fn r hd.1.1) ?_;rintro x rfl;exact R5a rfl
  ·rw[decide_eq_true (show (wrI r s e).length≤60 by unfold wrI;omega)];exact R5a rfl
def C0a {d:Dsk} {s:ByteArray} {b:List Int} (hd:Au d=true) (hs:C1 s=true):ptl (s,b) false d.1=wrI d s b∧Au (wrI d s b,d.2)=(decide (b.length≤400)&&decide ((wrI d s b).length≤60)):=by
 have hd':=hd;unfold Au at hd';rw[Va]at hd';have h1:=Bs.1 hd'.1
 have e1:wrI d s b=ins (cut d.1 s) (s,b):=by unfold wrI;rw[Nw h1.1]
 refine⟨by rw[e1];exact Rm _ h1.1,?_⟩;unfold Au;rw[hd'.2,Sta,e1]
 by_cases hb:b.length≤400
 ·rw[decide_eq_true hb,Wj];exact L1a (Bxa hd'.1) L2a (M3.2 ⟨hs,hb⟩)
 ·rw[decide_eq_false hb,Spa]
  cases hc:Eg (ins (cut d.1 s) (s,b)) with
  |false=>rfl
  |true=>exact absurd (M3.1 ((Bs.1 hc).2.1 (s,b) (Zz.2 (.inl rfl)))).2 hb

def Qna:ByteArray:=⟨#[]⟩

section
open Go
end

section
variable {α σ R:Type} {a b:α} {p:Prop} [Decidable p]
def dT (h:p):cond (decide p) a b=a:=by rw[decide_eq_true h];rfl
def dF (h:¬ p):cond (decide p) a b=b:=by rw[decide_eq_false h];rfl
def Rea {L:Nat→Int→σ→Option R} {Q:R→Prop} (n:Nat) (I:Nat→σ→Prop) (hend:∀ s,I n s→Tot (λ k=>L (k+1) (n:Int) s) Q)
  (Qu:∀ i s,i<n→I i s→(∀ s',I (i+1) s'→Tot (λ k=>L k ((i:Int)+1) s') Q)→Tot (λ k=>L (k+1) (i:Int) s) Q):
  ∀ (i:Nat) (s:σ),i≤n→I i s→Tot (λ k=>L k (i:Int) s) Q:=by
 suffices h:∀ (m i:Nat) (s:σ),n-i=m→i≤n→I i s→Tot (λ k=>L k (i:Int) s) Q from λ i s hi hs=>h _ i s rfl hi hs
 intro m
 induction m with
 |zero=>
  intro i s hm hi hs
  obtain rfl:i=n:=by omega
  exact Tot.succ (hend s hs)
 |succ m ih=>
  intro i s hm hi hs;refine Tot.succ (Qu i s (by omega) hs λ s' hs'=>?_);have:=ih (i+1) s' (by omega) (by omega) hs';rwa [show (((i+1:Nat)):Int)=(i:Int)+1 by omega]at this
end
def cst (x:BitVec 32):BitVec 32:=if x.getLsbD 0 then (x >>> 1) ^^^ 2197175160#32 else x >>> 1
def W6:Nat→BitVec 32→BitVec 32
 |0,x=>x
 |n+1,x=>W6 n (cst x)
def cby (x:BitVec 32) (b:Int):BitVec 32:=W6 8 (x ^^^ ofInt 32 b)
def Qoa (l:List Int):BitVec 32 := ~~~ (l.foldl cby 4294967295#32)
def crc (l:List Int):Int:=((Qoa l).toNat:Int)
def Qpa (v:BitVec 32):v.getLsbD 0=decide (v.toNat % 2=1):=by
 rw[BitVec.getLsbD,Nat.testBit_zero]
def A0a (v:BitVec 32):ofInt (IntKind.bits .u32) (v.toNat:Int)=v:=by
 show ofInt 32 (v.toNat:Int)=v;rw[BitVec.ofInt_natCast,BitVec.ofNat_toNat,BitVec.setWidth_eq]
def A1a (n:Nat) (h:n<4294967296):(ofInt (IntKind.bits .i64) (n:Int)).toNat=n:=N2 n (by omega)
def Q1a (v:BitVec 32):wrap .u32 (v.toNat:Int)=(v.toNat:Int):=Go.IntWalk.u32_in _ ⟨by omega,by have:=v.isLt;omega⟩
def sh1 (v:BitVec 32):Int.fdiv (v.toNat:Int) 2=((v >>> 1).toNat:Int):=by
 rw[Sia _ (by omega),BitVec.toNat_ushiftRight,Nat.shiftRight_eq_div_pow];omega
def Q2a (v:BitVec 32):((wrap .u32 ((ofInt (IntKind.bits .u32) (v.toNat:Int) &&& ofInt (IntKind.bits .u32) 1).toNat))==1)=v.getLsbD 0:=by
 show (wrap .u32 (((ofInt 32 (v.toNat:Int) &&& ofInt 32 1).toNat:Nat):Int)==1)=_;rw[show ofInt 32 (v.toNat:Int)=v from A0a v,Q1a,Qpa,Sya,show (ofInt 32 1).toNat=1 from by decide,Nat.and_one_is_mod,T7a,beq_iff_eq,decide_eq_true_iff];omega
def Q3a (v:BitVec 32):((wrap .i64 ((ofInt (IntKind.bits .i64) (v.toNat:Int) &&& ofInt (IntKind.bits .i64) 1).toNat))==1)=v.getLsbD 0:=by
 have:=v.isLt;rw[Qpa,Sya,A1a _ v.isLt,show (ofInt (IntKind.bits .i64) 1).toNat=1 from by decide,Nat.and_one_is_mod,w64 (by omega) (by omega),T7a,beq_iff_eq,decide_eq_true_iff];omega
def Qqa (v w:BitVec 32) (x:Int) (h:ofInt 32 x=w):wrap .u32 ((ofInt (IntKind.bits .u32) (v.toNat:Int) ^^^ ofInt (IntKind.bits .u32) x).toNat)=((v ^^^ w).toNat:Int):=by
 show wrap .u32 (((ofInt 32 (v.toNat:Int) ^^^ ofInt 32 x).toNat:Nat):Int)=_;rw[show ofInt 32 (v.toNat:Int)=v from A0a v,h];exact Q1a _
def Q4a (v w:BitVec 32):wrap .i64 ((ofInt (IntKind.bits .i64) (v.toNat:Int) ^^^ ofInt (IntKind.bits .i64) (w.toNat:Int)).toNat)=((v ^^^ w).toNat:Int):=by
 have:=(v ^^^ w).isLt;rw[BitVec.toNat_xor,A1a _ v.isLt,A1a _ w.isLt,← BitVec.toNat_xor];exact w64 (by omega) (by omega)
def Qra (K:IntKind) (h:1≤IntKind.bits K):(2:Int) ^ (min (toNat 1) (IntKind.bits K))=2:=by
 rw[show toNat 1=1 from rfl,Zf h];rfl
def Dca (l:List Int) (x8 x9:Int):∀ (n:Nat) (v:BitVec 32) (i:Int),0≤i→8-i=n→Tot (λ k=>Ez k (v.toNat:Int) l x8 x9 i) (λ r=>r=(((W6 n v).toNat:Int),l,x8,x9)):=by
 intro n
 induction n with
 |zero=>
  intro v i h0 hn;refine Tot.succ ?_;simp only[Ez];exact Raa (by omega) (R5a rfl)
 |succ n ih=>
  intro v i h0 hn;refine Tot.succ ?_;simp only[Ez];refine R9a (by omega) ?_;rw[w64 (n:=i+1) (by omega) (by omega),Q2a,Qra _ (by decide),sh1,Qqa _ 2197175160#32 _ (by decide)];have e:W6 (n+1) v=W6 n (cst v):=rfl;rw[e];refine Rba (λ h=>?_) (λ h=>?_)
  ·have:=ih (v >>> 1 ^^^ 2197175160#32) (i+1) (by omega) (by omega);rwa [show v >>> 1 ^^^ 2197175160#32=cst v by unfold cst;rw[if_pos h]]at this ⊢
  ·have:=ih (v >>> 1) (i+1) (by omega) (by omega);rwa [show v >>> 1=cst v by unfold cst;rw[if_neg (by rw[h];simp)]]at this ⊢
def A2a (l:List Int) (x4:Int):∀ (n:Nat) (v:BitVec 32) (i:Int),0≤i→8-i=n→Tot (λ k=>Ey k l (v.toNat:Int) x4 i) (λ r=>r=(l,((W6 n v).toNat:Int),x4)):=by
 intro n
 induction n with
 |zero=>
  intro v i h0 hn;refine Tot.succ ?_;simp only[Ey];exact Raa (by omega) (R5a rfl)
 |succ n ih=>
  intro v i h0 hn;refine Tot.succ ?_;simp only[Ey]
  have hp:(2197175160:Int)=((2197175160#32:BitVec 32).toNat:Int):=by decide
  refine R9a (by omega) ?_;rw[w64 (n:=i+1) (by omega) (by omega),Q3a,Qra _ (by decide),sh1,hp,Q4a];have e:W6 (n+1) v=W6 n (cst v):=rfl;rw[e];refine Rba (λ h=>?_) (λ h=>?_)
  ·have:=ih (v >>> 1 ^^^ 2197175160#32) (i+1) (by omega) (by omega);rwa [show v >>> 1 ^^^ 2197175160#32=cst v by unfold cst;rw[if_pos h]]at this ⊢
  ·have:=ih (v >>> 1) (i+1) (by omega) (by omega);rwa [show v >>> 1=cst v by unfold cst;rw[if_neg (by rw[h];simp)]]at this ⊢
def Ora {b:Int} (h:0≤b∧b≤255):b=((ofInt 32 b).toNat:Int):=by
 rw[BitVec.toNat_ofInt];omega
def Mxa (l:List Int) (hb:Az l) (hl:l.length≤1000000000000):Tot (λ k=>H2 k l) (λ r=>r=crc l):=by
 unfold H2;refine R6a (Q:=λ r=>r=(((l.foldl cby 4294967295#32).toNat:Nat):Int)) ?_ ?_
 ·have:=Rea (L:=λ k i s=>F8 k s l (l.length:Int) i) (Q:=λ r=>r=(((l.foldl cby 4294967295#32).toNat:Nat):Int)) l.length (λ i s=>∃ v:BitVec 32,s=(v.toNat:Int)∧(l.drop i).foldl cby v=l.foldl cby 4294967295#32) ?_ ?_ 0 4294967295 (Wf _) ⟨4294967295#32,by decide,by rw[We]⟩
  ·exact this
  ·rintro s ⟨v,rfl,hv⟩;simp only[F8];rw[Sca]at hv;exact Raa (by omega) (R5a (by rw[← hv];rfl))
  ·rintro i s hi ⟨v,rfl,hv⟩ next;simp only[F8];have hx:=hb _ (Cu (d:=0) hi);refine R9a (by omega) (R9a (by omega) (R9a (by omega) ?_));rw[Vm,Go.IntWalk.u32_in _ ⟨hx.1,by omega⟩,Qqa v _ _ rfl];refine Rfa (Dca l _ _ 8 _ 0 (by decide) (by decide)) ?_;simp only;rw[w64 (n:=(i:Int)+1) (by omega) (by omega)];refine next _ ⟨_,rfl,?_⟩;rw[Fm (d:=0) hi,T1a]at hv;exact hv
 ·rintro r rfl;refine R5a ?_;unfold crc Qoa
  have hm:ofInt 32 (if IntKind.signed .u32 then -1 else IntKind.max .u32)=BitVec.allOnes 32:=by decide
  have e:BitVec.allOnes 32 ^^^ l.foldl cby 4294967295#32 = ~~~ (l.foldl cby 4294967295#32):=by rw[BitVec.xor_comm];exact BitVec.xor_allOnes
  show wrap .i64 (wrap .u32 (((ofInt 32 (if IntKind.signed .u32 then -1 else IntKind.max .u32) ^^^ ofInt 32 ((l.foldl cby 4294967295#32).toNat:Int)).toNat:Nat):Int))=_;rw[show ofInt 32 ((l.foldl cby 4294967295#32).toNat:Int)=l.foldl cby 4294967295#32 from A0a _,hm,e];have:=(~~~ (l.foldl cby 4294967295#32)).isLt;rw[Q1a,w64 (by omega) (by omega)]
def Mya (l:List Int) (hb:Az l) (hl:l.length≤1000000000000):Tot (λ k=>H1 k l) (λ r=>r=crc l):=by
 unfold H1;refine R6a (Q:=λ r=>r=(((l.foldl cby 4294967295#32).toNat:Nat):Int)) ?_ ?_
 ·have:=Rea (L:=λ k i s=>F7 k l s i) (Q:=λ r=>r=(((l.foldl cby 4294967295#32).toNat:Nat):Int)) l.length (λ i s=>∃ v:BitVec 32,s=(v.toNat:Int)∧(l.drop i).foldl cby v=l.foldl cby 4294967295#32) ?_ ?_ 0 4294967295 (Wf _) ⟨4294967295#32,by decide,by rw[We]⟩
  ·exact this
  ·rintro s ⟨v,rfl,hv⟩;simp only[F7];rw[Sca]at hv;exact Raa (by omega) (R5a (by rw[← hv];rfl))
  ·rintro i s hi ⟨v,rfl,hv⟩ next;simp only[F7];have hx:=hb _ (Cu (d:=0) hi);refine R9a (by omega) (R9a (by omega) (R9a (by omega) ?_));rw[Vm,w64 (n:=l.getD i 0) (by omega) (by omega),Ora hx,Q4a];refine Rfa (A2a l _ 8 _ 0 (by decide) (by decide)) ?_;simp only;rw[w64 (n:=(i:Int)+1) (by omega) (by omega)];refine next _ ⟨_,rfl,?_⟩;rw[Fm (d:=0) hi,T1a]at hv;exact hv
 ·rintro r rfl;refine R5a ?_
  have hp:(4294967295:Int)=((BitVec.allOnes 32:BitVec 32).toNat:Int):=by decide
  rw[hp,Q4a,BitVec.xor_allOnes];rfl

def Osa:Fil:=(((0:Int),((0:Int),(0:Int))),(false,([]:List Int)))
def Ea (f:Fil):Bool:=Hu f.1&&(decide ((f.2.2.length:Int)≤200)&&(!f.2.1||((f.2.2.length:Int)==0)))
def Ta (f:Fil):Cg f=some (Ea f):=by
 unfold Cg Ea;rw[V6];simp only[Vv]
 cases Hu f.1<;>cases decide ((length f.2.2:Int)≤200)<;>cases f.2.1<;>rfl
def P6 (f:Fil):Bf f=some (Ea f):=by
 unfold Bf Ea;rw[V7];simp only[Vv]
 cases Hu f.1<;>cases decide ((length f.2.2:Int)≤200)<;>cases f.2.1<;>rfl
def Ld {f:Fil}:Ea f=true↔Hu f.1=true∧f.2.2.length≤200∧(f.2.1=true→f.2.2=[]):=by
 unfold Ea;rw[Va,Va,decide_eq_true_iff]
 have:(!f.2.1||((f.2.2.length:Int)==0))=true↔(f.2.1=true→f.2.2=[]):=by
  cases f.2.1 with
  |false=>simp
  |true=>simp
 rw[this];constructor
 ·rintro⟨h1,h2,h3⟩;exact⟨h1,by omega,h3⟩
 ·rintro⟨h1,h2,h3⟩;exact⟨h1,by omega,h3⟩
def H0a (a b:Fil):G3 a b=some (sle b.1 a.1):=by unfold G3;rw[Jia];rfl
def H1a (a b:Fil):G0 a b=some (sle b.1 a.1):=by unfold G0;rw[Jha];rfl
def hdF (s:Stp) (d:Bool):List Int:=Hsa s++X4 (Dt (Gpa d))
def W7 (f:Fil):List Int:=hdF f.1 f.2.1++txt (H0 f.2.2)
def c4 (c:Int):List Int:=[wrap .u8 (Int.fdiv c (2 ^ (min (toNat 24) (IntKind.bits .i64)))),wrap .u8 (Int.fdiv c (2 ^ (min (toNat 16) (IntKind.bits .i64)))),wrap .u8 (Int.fdiv c (2 ^ (min (toNat 8) (IntKind.bits .i64)))),wrap .u8 c]
def Kr (f:Fil):List Int:=bif Ea f then W7 f++c4 (crc (W7 f)) else []
def Ja {a b:List Int} (ha:Az a) (hb:Az b):Az (a++b):=λ x hx=>(Vo.1 hx).elim (ha x) (hb x)
def Ks (n:Int):Az (X4 (Dt n)):=D6a _ (Q9 n)
def H2a (s:Stp) (d:Bool):Az (hdF s d):=Ja (Ja (Ks _) (Ja (Ks _) (Ks _))) (Ks _)
def M5 (f:Fil):Az (W7 f):=Ja (H2a _ _) (Ja (Ks _) (Rj _))
def Jta (c:Int):Az (c4 c):=by
 intro x hx;simp only[c4,Vk,List.not_mem_nil,or_false]at hx
 rcases hx with rfl|rfl|rfl|rfl<;>exact Gha _
def Nx (f:Fil):Az (Kr f):=by
 unfold Kr
 cases Ea f with
 |false=>intro x hx;simp at hx
 |true=>exact Ja (M5 f) (Jta _)
def A3a (s:Stp) (d:Bool):(hdF s d).length≤20:=by
 have h1:=Bqa s;have h2:=(Hf (Dt (Gpa d))).1;unfold hdF;rw[Vh];omega
def Qd (f:Fil):(W7 f).length≤25+f.2.2.length:=by
 have h1:=A3a f.1 f.2.1;have h2:=Mna (H0 f.2.2);have h3:(H0 f.2.2).size=f.2.2.length:=Ib _;unfold W7;rw[Vh];omega
def C1a (f:Fil):(Kr f).length≤229:=by
 unfold Kr;cases h:Ea f
 ·simp
 have h1:=Qd f;have h2:=(Ld.1 h).2.1;rw[cond_true,Vh];simp only[c4,Vg,Vp];omega
def Ju (f:Fil):Tot (λ k=>C4 k f) (λ r=>r=Kr f):=by
 unfold C4 Kr;refine Rfa (Rga (Q:=λ b=>b=Ea f) (Ta f) rfl) ?_;cases h:Ea f
 ·exact R8a rfl (R5a rfl)
 have h2:=(Ld.1 h).2.1;have h3:(H0 f.2.2).size=f.2.2.length:=Ib _;have h4:=A3a f.1 f.2.1;have h5:=Qd f;refine R7a rfl (Rfa (D7a [] f.1 f.2.1 (by simp)) ?_);rw[Wc];refine Rfa (Jla _ _ (by unfold hdF at h4;omega) (by omega)) ?_;have e:Hsa f.1++X4 (Dt (Gpa f.2.1))++txt (H0 f.2.2)=W7 f:=rfl;rw[e];refine Rfa (Mxa _ (M5 f) (by omega)) ?_;exact Rda (by simp only[Vg,Vp];omega) (R5a rfl)
def Qe (f:Fil):Tot (λ k=>C3 k f) (λ r=>r=Kr f):=by
 unfold C3 Kr;refine Rfa (Rga (Q:=λ b=>b=Ea f) (P6 f) rfl) ?_;cases h:Ea f
 ·exact R8a rfl (R5a rfl)
 have h2:=(Ld.1 h).2.1;have h3:(H0 f.2.2).size=f.2.2.length:=Ib _;have h4:=A3a f.1 f.2.1;have h5:=Qd f;have h6:=Bqa f.1;refine R7a rfl (Rfa (D8a [] f.1 (by simp)) ?_);rw[Wc];refine Rfa (Rga (Q:=λ r=>r=Gpa f.2.1) (Jna _) rfl) ?_;refine Rfa (Qb _ _ (by omega)) ?_;refine Rfa (Jma _ _ (by unfold hdF at h4;omega) (by omega)) ?_;have e:Hsa f.1++X4 (Dt (Gpa f.2.1))++txt (H0 f.2.2)=W7 f:=rfl;rw[e];refine Rfa (Mya _ (M5 f) (by omega)) ?_;exact Rda (by simp only[Vg,Vp];omega) (R5a rfl)
def Ol (b:List Int):Option Fil:=(Ll b 0).bind λ a=>(Dma b a.2).bind λ t=>bif Ea (a.1.1,a.1.2,bytesOf t.1)&&decide (Kr (a.1.1,a.1.2,bytesOf t.1)=b) then some (a.1.1,a.1.2,bytesOf t.1) else none
def Om (b:List Int):Fil×Bool:=match Ol b with
 |some f=>(f,true)
 |none=>(Osa,false)
def Mza {b:List Int} {f:Fil} (h:Ol b=some f):Ea f=true∧Az f.2.2∧Kr f=b:=by
 unfold Ol at h;simp only[Rya]at h;obtain⟨a,_,t,_,h⟩:=h;cases hc:(Ea (a.1.1,a.1.2,bytesOf t.1)&&decide (Kr (a.1.1,a.1.2,bytesOf t.1)=b))
 ·rw[hc]at h;cases h
 rw[hc]at h;simp only[cond_true,Vc]at h;subst h;rw[Va,decide_eq_true_iff]at hc;exact⟨hc.1,Rj _,hc.2⟩
def Jua {l:List Int} {q:Nat} {s:Stp} {d:Bool} (hb:Az l) (h:Ll l 0=some ((s,d),q)):l=hdF s d++l.drop q∧q≤l.length:=by
 unfold Ll at h;simp only[Rya]at h;obtain⟨⟨t,p2⟩,h2,⟨c,p3⟩,h3,⟨n,p4⟩,h4,⟨e,p5⟩,h5,h⟩:=h;obtain⟨b1,b2,b3,b4⟩:=M2 hb h2;obtain⟨c1,c2,c3,c4⟩:=M2 hb h3;obtain⟨d1,d2,d3,d4⟩:=M2 hb h4;obtain⟨e1,e2,e3,e4⟩:=M2 hb h5;cases hd:decide (1<e)
 case true=>simp only[hd,cond_true]at h;cases h
 simp only[hd,cond_false,Vc,Vu]at h;obtain⟨⟨⟨rfl,rfl,rfl⟩,rfl⟩,rfl⟩:=h
 have he:e≤1:=by
  have:=of_decide_eq_false hd;omega
 have hbit:Dt (Gpa ((e:Int)==1))=e:=by
  have:e=0∨e=1:=by omega
  rcases this with rfl|rfl<;>decide
 have k:∀ n:Nat,n≤1000000000→Dt (n:Int)=n:=λ n hn=>by unfold Dt;omega
 simp only at b1 b2 c1 c2 d1 d2 e1 e2;refine⟨?_,e4⟩;rw[We]at b1;unfold hdF Hsa;simp only;rw[k t b2,k c c2,k n d2,hbit,Vj,Vj,Vj,← e1,← d1,← c1,← b1]
def W8 {a b:List Int} (ha:Az a) (hb:Az b):((H0 a).toList==(H0 b).toList)=decide (a=b):=by
 have:teq (H0 a) (H0 b)=decide (a=b):=by
  rw[T7a,Jp,decide_eq_true_iff];constructor
  ·intro h;have:=congrArg bytesOf h;rwa [Js ha,Js hb]at this
  ·rintro rfl;rfl
 exact this
def Jva (l:List Int) (hb:Az l) (hl:l.length≤1000000000000) (p:Int) (hp:p≤1000000000000):
  Tot (λ k=>B0 k (l,p,true)) (λ r=>r=((⟨#[]⟩:ByteArray),l,p,true)):=by
 unfold B0;refine Rfa (Bpa l hb hl p hp) ?_;exact R8a rfl (R5a rfl)
def Jwa {f:Fil}:(((Kr f).length:Int)==0) = !(Ea f):=by
 unfold Kr;cases h:Ea f
 ·rfl
 rw[cond_true,Vh,Sua,beq_eq_false_iff_ne];simp only[c4,Vg,Vp];omega
def Qf (b:List Int) (hb:Az b) (hl:b.length≤1000000000000):Tot (λ k=>Es k b) (λ r=>r=Om b):=by
 unfold Es;refine R6a (Q0a b hb hl 0 (Wf _) false) ?_;rintro r (⟨_,⟨s,d⟩,q,h1,h2,rfl⟩|⟨h1,s,d,q,h2,rfl⟩)
 ·refine R6a (Pza b hb hl q h2) ?_;rintro r (⟨t,q2,h3,h4,rfl⟩|⟨h3,rfl⟩)
  ·have hsz:=(Z9 hb h3).2.1;refine Rda (by dsimp only;omega) (Rfa (Ju _) ?_);refine R7a rfl ?_
   have e:Om b=bif Ea (s,d,bytesOf t)&&decide (Kr (s,d,bytesOf t)=b) then ((s,d,bytesOf t),true) else (Osa,false):=by
    unfold Om Ol;simp only[h1,h3,Vv]
    cases Ea (s,d,bytesOf t)&&decide (Kr (s,d,bytesOf t)=b)<;>rfl
   simp only;rw[e,Jwa];cases hf:Ea (s,d,bytesOf t)
   ·exact R8a rfl (R5a rfl)
   refine R7a rfl ?_;rw[W8 (Nx _) hb]
   cases decide (Kr (s,d,bytesOf t)=b) with
   |false=>exact R8a rfl (R5a rfl)
   |true=>exact R7a rfl (R5a rfl)
  ·refine Rda (Wf _) (Rfa (Ju _) ?_);refine R8a rfl (R5a ?_);unfold Om Ol;simp only[h1,h3,Vv,Zq];rfl
 ·refine Rfa (Jva b hb hl q (by omega)) ?_;refine Rda (Wf _) (Rfa (Ju _) ?_);refine R8a rfl (R5a ?_);unfold Om Ol;simp only[h1.resolve_left (by simp),Zq];rfl
def A4a (b:List Int) (hb:Az b) (hl:b.length≤1000000000000):Tot (λ k=>Eo k b) (λ r=>r=Om b):=by
 have none_of:Ol b=none→Om b=(Osa,false):=λ h=>by unfold Om;rw[h]
 unfold Eo;refine R6a (Moa b hb hl 0) ?_;rintro r (⟨n1,p1,n2,p2,n3,p3,_,g1,g2,g3,rfl⟩|⟨h,hr⟩)
 ·refine Rfa (Nv b hb hl (p3:Int)) ?_;rw[P3];have g1':Jr b 0=some (n1,p1):=g1
  cases g4:Jr b p3 with
  |none=>
   refine Rfa (T9 b hb hl 0) ?_;refine R7a rfl (R8a rfl (R5a (none_of ?_).symm));unfold Ol Ll;simp only[g1',g2,g3,g4,Vv,Zq]
  |some x=>
   obtain⟨n4,p4⟩:=x;simp only
   have es:Ll b 0=bif decide (1<n4) then none else some ((((n1:Int),(n2:Int),(n3:Int)),(n4:Int)==1),p4):=by
    unfold Ll;simp only[g1',g2,g3,g4,Vv]
   refine Rfa (T9 b hb hl (p4:Int)) ?_;rw[Bra];refine R7a rfl (R7a rfl ?_)
   cases g5:Dma b p4 with
   |none=>
    refine R8a rfl (R5a (none_of ?_).symm);unfold Ol;rw[es]
    cases decide (1<n4) with
    |true=>rfl
    |false=>simp only[cond_false,Vv,g5,Zq]
   |some y=>
    obtain⟨t,q⟩:=y;refine R7a rfl (Rca (λ h=>R5a (none_of ?_).symm) (λ h=>?_))
    ·unfold Ol;rw[es,decide_eq_true (by omega)];rfl
    ·rw[decide_eq_false (by omega),cond_false]at es;have hq:=Z9 hb g5;simp only;rw[w64 (n:=(q:Int)+4) (by omega) (by omega)]
     have ef:Ol b=bif Ea (((n1:Int),(n2:Int),(n3:Int)),(n4:Int)==1,bytesOf t)&&decide (Kr (((n1:Int),(n2:Int),(n3:Int)),(n4:Int)==1,bytesOf t)=b) then some (((n1:Int),(n2:Int),(n3:Int)),(n4:Int)==1,bytesOf t) else none:=by
      unfold Ol;simp only[es,g5,Vv]
     refine Rba (λ h4=>R5a (none_of ?_).symm) (λ h4=>?_)
     ·rw[ef];cases hc:(Ea (((n1:Int),(n2:Int),(n3:Int)),(n4:Int)==1,bytesOf t)&&decide (Kr (((n1:Int),(n2:Int),(n3:Int)),(n4:Int)==1,bytesOf t)=b))
      ·rfl
      exfalso;rw[Va,decide_eq_true_iff]at hc;have a1:=(Jua hb es).1;rw[hq.1]at a1;have a2:=hc.2;unfold Kr at a2;rw[hc.1,cond_true]at a2;unfold W7 at a2;simp only at a2;rw[T8,Vj]at a2;rw[← a2]at a1;have a3:=Sva (Sva a1);have a4:=congrArg length a3;rw[a2,Vy]at a4;simp only[c4,Vg,Vp]at a4
      have:(q:Int)+4=(b.length:Int):=by omega
      simp[this]at h4
     ·refine Rda (by simp only[Vp];omega) ?_;rw[Wc];refine Rfa (Rga (Q:=λ r=>r=Ea (((n1:Int),(n2:Int),(n3:Int)),(n4:Int)==1,bytesOf t)) (P6 _) rfl) ?_;unfold Om;rw[ef];cases hf:Ea (((n1:Int),(n2:Int),(n3:Int)),(n4:Int)==1,bytesOf t)
      ·exact R8a rfl (R5a rfl)
      refine R7a rfl (Rfa (Qe _) ?_);rw[W8 (Nx _) hb,Wj]
      cases decide (Kr (((n1:Int),(n2:Int),(n3:Int)),(n4:Int)==1,bytesOf t)=b) with
      |false=>exact R8a rfl (R5a rfl)
      |true=>exact R7a rfl (R5a rfl)
 ·obtain⟨r1,r2,r3⟩:=r;simp only at hr;subst hr;refine Rfa (Nv b hb hl _) ?_;refine Rfa (T9 b hb hl _) ?_;refine R8a rfl (R5a (none_of ?_).symm);unfold Ol;rw[Gqa (p:=0) (h.resolve_right (by omega))];rfl

def gt (l:List Nmd) (s:ByteArray):Option (List Int):=match fnd l s with
 |some i=>some (l.getD i Et).2
 |none=>none
def N0a (y:Nmd) (l:List Nmd) (s:ByteArray):gt (y::l) s=if y.1=s then some y.2 else gt l s:=by
 unfold gt;rw[Bwa]
 by_cases h:y.1=s
 ·rw[if_pos (Jp.2 h),if_pos h];rfl
 ·rw[if_neg (λ c=>h (Jp.1 c)),if_neg h]
  cases fnd l s<;>rfl
def L3a {l:List Nmd} {s:ByteArray} {b:List Int} (h:gt l s=some b):(s,b)∈l:=by
 induction l with
 |nil=>cases h
 |cons y l ih=>
  rw[N0a]at h
  by_cases e:y.1=s
  ·rw[if_pos e]at h;cases h;subst e;exact Rxa
  ·rw[if_neg e]at h;exact Vd _ (ih h)
def L4a (l:List Nmd) (s:ByteArray):rdN l s=match gt l s with|some b=>(b,true)|none=>([],false):=by
 unfold rdN gt
 cases fnd l s<;>rfl
def Le {s:ByteArray} (h:C1 s=true):Ht s:=by
 have:=(Jt h).2;unfold Ht;omega
def C2a {d:Dsk}:Au d=true↔Eg d.1=true∧Eg d.2=true:=by
 unfold Au;rw[Va]
def N1a {d:Dsk} (h:Au d=true):H8 d.1:=(Bs.1 (C2a.1 h).1).1
def N2a {d:Dsk} (h:Au d=true):H8 d.2:=(Bs.1 (C2a.1 h).2).1
def LB (l:List Nmd):Prop:=∀ x∈l,Az x.2
def DB (d:Dsk):Prop:=LB d.1∧LB d.2
def LB.cut {l:List Nmd} (h:LB l) (s:ByteArray):LB (cut l s):=λ x hx=>h x (M4.subset hx)
def LB.ins {l:List Nmd} (h:LB l) {x:Nmd} (hx:Az x.2):LB (ins l x):=λ y hy=>by
 rcases Zz.1 hy with rfl|hy
 ·exact hx
 ·exact h y hy
def LB.gt {l:List Nmd} (h:LB l) {s:ByteArray} {b:List Int} (hg:gt l s=some b):Az b:=h _ (L3a hg)
def H3a:Az []:=λ x hx=>by cases hx
def wr (l:List Nmd) (s:ByteArray) (b:List Int):List Nmd:=ins (cut l s) (s,b)
def sy (d:Dsk) (s:ByteArray):List Nmd:=match gt d.1 s with
 |some b=>wr d.2 s b
 |none=>cut d.2 s
def wrD (d:Dsk) (s:ByteArray) (b:List Int):Dsk×Bool:=bif decide (b.length≤400)&&decide ((wr d.1 s b).length≤60) then ((wr d.1 s b,d.2),true) else (d,false)
def syD (d:Dsk) (s:ByteArray):Dsk×Bool:=bif decide ((sy d s).length≤60) then ((d.1,sy d s),true) else (d,false)
section
variable {d:Dsk} {s:ByteArray} {b:List Int}
def H4a (hd:Au d=true):wrI d s b=wr d.1 s b:=by
 unfold wrI wr;rw[Nw (N1a hd)]
def H5a (hd:Au d=true):syI d s=sy d s:=by
 unfold syI sy gt wr;rw[Nw (N2a hd)]
 cases fnd d.1 s<;>rfl
def Dda (hd:Au d=true) (hs:C1 s=true) (hb:b.length≤1000000000000):Tot (λ k=>Bq k d s b) (λ r=>r=wrD d s b):=by
 refine(Gza d s b (Rn hd) (Le hs) hb).mono ?_;rintro r rfl;rw[hd,hs,H4a hd];rfl
def Dea (hd:Au d=true) (hs:C1 s=true) (hb:b.length≤1000000000000):Tot (λ k=>Bp k d s b) (λ r=>r=wrD d s b):=by
 refine(Gxa d s b (Rn hd) (Le hs) hb).mono ?_;rintro r rfl;obtain⟨h1,h2⟩:=C0a (b:=b) hd hs;rw[hd,hs,h1,h2,H4a hd];rfl
def H6a (hd:Au d=true) (hs:C1 s=true):Tot (λ k=>Bd k d s) (λ r=>r=syD d s):=by
 refine(Jsa d s (Rn hd) (Le hs)).mono ?_;rintro r rfl;rw[hd,hs,H5a hd];rfl
def H7a (hd:Au d=true) (hs:C1 s=true):Tot (λ k=>Bc k d s) (λ r=>r=syD d s):=by
 refine(Jra d s (Rn hd) (Le hs)).mono ?_;rintro r rfl;rw[hd,hs,Mwa hd,Gya hd hs,H5a hd];rfl
def Q5a (hd:Au d=true) (hs:C1 s=true) (hb:b.length≤400) (hl:(wr d.1 s b).length≤60):Au (wr d.1 s b,d.2)=true:=by
 have:=(C0a (b:=b) hd hs).2;rw[H4a hd,decide_eq_true hb,decide_eq_true hl]at this;exact this
def Q6a (hd:Au d=true) (hs:C1 s=true) (hl:(sy d s).length≤60):Au (d.1,sy d s)=true:=by
 have:=Gya hd hs;rw[H5a hd,decide_eq_true hl]at this;exact this
def H8a (hd:Au d=true) (hs:C1 s=true):Au (wrD d s b).1=true:=by
 unfold wrD;cases hc:decide (b.length≤400)&&decide ((wr d.1 s b).length≤60)
 ·exact hd
 rw[Va,decide_eq_true_iff,decide_eq_true_iff]at hc;exact Q5a hd hs hc.1 hc.2
def Ota (hd:Au d=true) (hs:C1 s=true):Au (syD d s).1=true:=by
 unfold syD
 cases hc:decide ((sy d s).length≤60) with
 |false=>exact hd
 |true=>exact Q6a hd hs (of_decide_eq_true hc)
end
def lkD (d:Dsk) (s:ByteArray):Fil×Int:=match gt d.1 s with
 |none=>(Osa,1)
 |some b=>match Ol b with
  |some f=>(f,0)
  |none=>(Osa,2)
def L5a {l:List Nmd} {s:ByteArray} {b:List Int} (h:V9 l) (hg:gt l s=some b):b.length≤1000000000000:=h.2 _ (L3a hg)
def Jxa {d:Dsk} (hf:V9 d.1) (hb:LB d.1) (s:ByteArray):Tot (λ k=>Gu k d s) (λ r=>r=lkD d s):=by
 unfold Gu lkD;refine Rfa (Bva d s hf) ?_;rw[L4a]
 cases hg:gt d.1 s with
 |none=>exact R8a rfl (R5a rfl)
 |some b=>
  refine R7a rfl (Rfa (A4a b (hb.gt hg) (L5a hf hg)) ?_);unfold Om;dsimp only
  cases Ol b with
  |none=>exact R8a rfl (R5a rfl)
  |some f=>exact R7a rfl (R5a rfl)
def old (d:Dsk) (s:ByteArray):Option Fil:=(gt d.1 s).bind Ol
def kp1 (d:Dsk) (s:ByteArray) (f:Fil):Option (Dsk×Int):=
 let w:=bif (wrD d s (Kr f)).2 then some ((wrD d s (Kr f)).1,(0:Int)) else none
 match old d s with
 |some o=>bif sle o.1 f.1 then w else some (d,1)
 |none=>w
def kp2 (d:Dsk) (s:ByteArray) (sure:Bool) (x:Dsk×Int):Dsk×Int:=bif sure then (bif (syD x.1 s).2 then ((syD x.1 s).1,x.2) else (d,3)) else x
def Ny (d:Dsk) (s:ByteArray) (f:Fil) (sure:Bool):Dsk×Int:=match kp1 d s f with
 |some x=>kp2 d s sure x
 |none=>(d,3)
def keep (d:Dsk) (s:ByteArray) (f:Fil) (sure:Bool):Dsk×Int:=bif Au d&&(C1 s&&Ea f) then Ny d s f sure else (d,2)
def Jya:Ol []=none:=by
 cases h:Ol [] with
 |none=>rfl
 |some f=>
  obtain⟨h1,_,h3⟩:=Mza h;unfold Kr at h3;rw[h1]at h3;simp[c4]at h3
def Oua {d:Dsk} {s:ByteArray} {f:Fil} (hd:Au d=true) (hs:C1 s=true) {x:Dsk×Int} (h:kp1 d s f=some x):Au x.1=true:=by
 have hw:∀ x,(bif (wrD d s (Kr f)).2 then some ((wrD d s (Kr f)).1,(0:Int)) else none)=some x→Au x.1=true:=by
  intro x h
  cases hc:(wrD d s (Kr f)).2 with
  |false=>rw[hc]at h;cases h
  |true=>rw[hc]at h;cases h;exact H8a hd hs
 unfold kp1 at h;simp only at h;split at h
 ·rename_i o _
  cases hc:sle o.1 f.1 with
  |false=>rw[hc]at h;cases h;exact hd
  |true=>rw[hc]at h;exact hw _ h
 ·exact hw _ h
def Ova {d:Dsk} {s:ByteArray} (hd:Au d=true) (hs:C1 s=true) {x:Dsk} {c:Int} (hx:Au x=true) (sure:Bool):
  Tot (λ k=>cond sure ((Bd k x s).bind λ r=>cond (!r.2) ((A6 k d).bind λ q=>some (q,3)) (some (r.1,c))) (some (x,c))) (λ r=>r=kp2 d s sure (x,c)):=by
 unfold kp2;cases sure
 ·exact R5a rfl
 refine R8a rfl (Rfa (H6a hx hs) ?_);cases h:(syD x s).2
 case true=>exact R7a rfl (R5a rfl)
 refine R8a rfl (Rfa (Fn d (Rn hd).1.1) ?_);exact R5a rfl
def Jza (d:Dsk) (s:ByteArray) (f:Fil) (sure:Bool) (hd:DIn d) (hb:LB d.1) (hs:Ht s):Tot (λ k=>Gw k d s f sure) (λ r=>r=keep d s f sure):=by
 have bad:Tot (λ k=>(A6 k d).bind λ r2=>some (r2,(2:Int))) (λ r=>r=(d,2)):=by
  refine Rfa (Fn d hd.1.1) ?_;exact R5a rfl
 unfold Gw keep;refine Rfa (P4 d hd.1.1 hd.1.2) ?_;cases h1:Au d
 ·exact R8a rfl bad
 refine R7a rfl (Rfa (Lc s hs) ?_);cases h2:C1 s
 ·exact R8a rfl bad
 refine R7a rfl (Rfa (Rga (Q:=λ b=>b=Ea f) (Ta f) rfl) ?_);cases h3:Ea f
 ·exact R8a rfl bad
 refine R7a rfl (Rfa (Fn d hd.1.1) ?_);refine Rfa (Jpa d s hd.1.1.1) ?_;have hlen:=C1a f
 have w:∀ {o:Option Fil},(kp1 d s f=bif (wrD d s (Kr f)).2 then some ((wrD d s (Kr f)).1,(0:Int)) else none)→Tot (λ k=>(C4 k f).bind λ r13=>(Bq k d s r13).bind λ r14=>cond (!r14.2) ((A6 k d).bind λ r15=>some (r15,(3:Int))) (cond sure ((Bd k r14.1 s).bind λ r16=>cond (!r16.2) ((A6 k d).bind λ r17=>some (r17,3)) (some (r16.1,0))) (some (r14.1,0)))) (λ r=>r=Ny d s f sure):=by
  intro _ e;refine Rfa (Ju f) ?_;refine Rfa (Dda h1 h2 (by omega)) ?_;unfold Ny;rw[e]
  cases h4:(wrD d s (Kr f)).2 with
  |false=>
   refine R8a rfl (Rfa (Fn d hd.1.1) ?_);exact R5a rfl
  |true=>exact R7a rfl (Ova h1 h2 (H8a h1 h2) sure)
 rw[L4a];have eo:old d s=(gt d.1 s).bind Ol:=rfl
 cases hg:gt d.1 s with
 |none=>
  rw[hg]at eo;refine Rfa (Qf [] H3a (by simp)) ?_;unfold Om;rw[Jya];refine R7a rfl (w (o:=none) ?_);unfold kp1;rw[eo];rfl
 |some b=>
  rw[hg]at eo;have eo:old d s=Ol b:=eo;refine Rfa (Qf b (hb.gt hg) (L5a hd.1.1.1 hg)) ?_;unfold Om
  cases ho:Ol b with
  |none=>
   refine R7a rfl (w (o:=none) ?_);unfold kp1;rw[eo,ho]
  |some o=>
   rw[ho]at eo;refine R8a rfl (Rfa (Rga (Q:=λ b=>b=sle o.1 f.1) (H0a f o) rfl) ?_)
   cases hl:sle o.1 f.1 with
   |true=>
    refine R7a rfl (w (o:=none) ?_);unfold kp1;simp only[eo,hl,cond_true]
   |false=>
    have e1:Ny d s f sure=kp2 d s sure (d,1):=by
     unfold Ny kp1;simp only[eo,hl,cond_false]
    refine R8a rfl ?_;show Tot _ (λ r=>r=Ny d s f sure);rw[e1];exact Ova h1 h2 h1 sure
def Owa {d:Dsk} {s:ByteArray} (hd:Au d=true) (hs:C1 s=true) {x:Dsk} {c:Int} (hx:Au x=true):
  Tot (λ k=>(Bc k x s).bind λ r=>cond (!r.2) ((A7 k d).bind λ q=>some (q,3)) (some (r.1,c))) (λ r=>r=kp2 d s true (x,c)):=by
 unfold kp2;refine Rfa (H7a hx hs) ?_;cases h:(syD x s).2
 case true=>exact R7a rfl (R5a rfl)
 refine R8a rfl (Rfa (Hy d (Rn hd).1.1) ?_);exact R5a rfl
def K0a (d:Dsk) (s:ByteArray) (f:Fil) (sure:Bool) (hd:DIn d) (hb:LB d.1) (hs:Ht s):Tot (λ k=>Gv k d s f sure) (λ r=>r=keep d s f sure):=by
 have bad:Tot (λ k=>(A7 k d).bind λ r2=>some (r2,(2:Int))) (λ r=>r=(d,2)):=by
  refine Rfa (Hy d hd.1.1) ?_;exact R5a rfl
 unfold Gv keep;refine Rfa (P5 d hd.1.1 hd.1.2) ?_;cases h1:Au d
 ·exact R8a rfl bad
 refine R7a rfl (Rfa (N0 s hs) ?_);cases h2:C1 s
 ·exact R8a rfl bad
 refine R7a rfl (Rfa (Rga (Q:=λ b=>b=Ea f) (P6 f) rfl) ?_);cases h3:Ea f
 ·exact R8a rfl bad
 refine R7a rfl (Rfa (Jxa hd.1.1.1 hb s) ?_);have hlen:=C1a f
 have w:(kp1 d s f=bif (wrD d s (Kr f)).2 then some ((wrD d s (Kr f)).1,(0:Int)) else none)→Tot (λ k=>(C3 k f).bind λ r12=>(Bp k d s r12).bind λ r13=>cond r13.2 (cond sure ((Bc k r13.1 s).bind λ r14=>cond (!r14.2) ((A7 k d).bind λ r15=>some (r15,(3:Int))) (some (r14.1,0))) (cond (!r13.2) ((A7 k d).bind λ r16=>some (r16,3)) (some (r13.1,0)))) (cond (!r13.2) ((A7 k d).bind λ r17=>some (r17,3)) (some (r13.1,0)))) (λ r=>r=Ny d s f sure):=by
  intro e;refine Rfa (Qe f) ?_;refine Rfa (Dea h1 h2 (by omega)) ?_;unfold Ny;rw[e]
  cases h4:(wrD d s (Kr f)).2 with
  |false=>
   refine R7a rfl (R8a rfl (Rfa (Hy d hd.1.1) ?_));exact R5a rfl
  |true=>
   refine R8a rfl ?_
   cases sure with
   |true=>exact R8a rfl (Owa h1 h2 (H8a h1 h2))
   |false=>exact R7a rfl (R7a rfl (R5a rfl))
 have eo:old d s=(gt d.1 s).bind Ol:=rfl;unfold lkD
 cases hg:gt d.1 s with
 |none=>
  rw[hg]at eo;refine R7a rfl (w ?_);unfold kp1;rw[eo];rfl
 |some b=>
  rw[hg]at eo;have eo:old d s=Ol b:=eo;simp only
  cases ho:Ol b with
  |none=>
   refine R7a rfl (w ?_);unfold kp1;rw[eo,ho]
  |some o=>
   rw[ho]at eo;refine R8a rfl (Rfa (Rga (Q:=λ b=>b=sle o.1 f.1) (H1a f o) rfl) ?_)
   cases hl:sle o.1 f.1 with
   |true=>
    refine R7a rfl (w ?_);unfold kp1;simp only[eo,hl,cond_true]
   |false=>
    have e1:Ny d s f sure=kp2 d s sure (d,1):=by
     unfold Ny kp1;simp only[eo,hl,cond_false]
    refine R8a rfl ?_;show Tot _ (λ r=>r=Ny d s f sure);rw[e1];refine Rfa (Hy d hd.1.1) ?_
    cases sure with
    |true=>exact R8a rfl (Owa h1 h2 h1)
    |false=>exact R7a rfl (R5a rfl)

def DG (d:Dsk):Prop:=Au d=true∧DB d
def Oxa {d:Dsk} {s:ByteArray} {b:List Int} (h:DB d) (hb:Az b):DB (wrD d s b).1:=by
 unfold wrD
 cases decide (b.length≤400)&&decide ((wr d.1 s b).length≤60) with
 |false=>exact h
 |true=>exact⟨(h.1.cut s).ins hb,h.2⟩
def Q7a {d:Dsk} {s:ByteArray} (h:DB d):LB (sy d s):=by
 unfold sy
 cases hg:gt d.1 s with
 |none=>exact h.2.cut s
 |some b=>exact(h.2.cut s).ins (h.1.gt hg)
def Oya {d:Dsk} {s:ByteArray} (h:DB d):DB (syD d s).1:=by
 unfold syD
 cases decide ((sy d s).length≤60) with
 |false=>exact h
 |true=>exact⟨h.1,Q7a h⟩
def Q8a {d:Dsk} {s:ByteArray} (h:DG d) (hs:C1 s=true):DG (syD d s).1:=⟨Ota h.1 hs,Oya h.2⟩
def Q9a {d:Dsk} {s:ByteArray} {f:Fil} (hd:DG d) (hs:C1 s=true) {x:Dsk×Int} (h:kp1 d s f=some x):DG x.1:=by
 refine⟨Oua hd.1 hs h,?_⟩
 have hw:∀ x,(bif (wrD d s (Kr f)).2 then some ((wrD d s (Kr f)).1,(0:Int)) else none)=some x→DB x.1:=by
  intro x h
  cases hc:(wrD d s (Kr f)).2 with
  |false=>rw[hc]at h;cases h
  |true=>rw[hc]at h;cases h;exact Oxa hd.2 (Nx f)
 unfold kp1 at h;simp only at h;split at h
 ·rename_i o _
  cases hc:sle o.1 f.1 with
  |false=>rw[hc]at h;cases h;exact hd.2
  |true=>rw[hc]at h;exact hw _ h
 ·exact hw _ h
def Qaa {d:Dsk} {s:ByteArray} {sure:Bool} (hd:DG d) (hs:C1 s=true) {x:Dsk×Int} (hx:DG x.1):DG (kp2 d s sure x).1:=by
 unfold kp2;cases sure
 ·exact hx
 rw[cond_true]
 cases (syD x.1 s).2 with
 |false=>exact hd
 |true=>exact Q8a hx hs
def N3a {d:Dsk} {s:ByteArray} {f:Fil} {sure:Bool} (hd:DG d) (hs:C1 s=true):DG (Ny d s f sure).1:=by
 unfold Ny
 cases h:kp1 d s f with
 |none=>exact hd
 |some x=>exact Qaa hd hs (Q9a hd hs h)
def Oza {d:Dsk} {s:ByteArray} {f:Fil} {sure:Bool} (hd:DG d):DG (keep d s f sure).1:=by
 unfold keep;cases h:C1 s
 ·rw[hd.1];exact hd
 cases Ea f with
 |false=>rw[hd.1];exact hd
 |true=>rw[hd.1];exact N3a hd h

section
variable {d:Dsk} {s:ByteArray} {f:Fil} {sure:Bool}
end

abbrev Nod:=Int×Dsk×List Row×List Row
def qOk (l:List Row):Bool:=l.all I2
def Jy (n:Nod):Bool:=qOk n.2.2.2&&(inR n.1 0 20&&(Au n.2.1&&(Lq n.2.2.1&&decide ((n.2.2.2.length:Int)≤60))))
def RF (l:List Row):Prop:=l.length≤2000000∧N1 l
def NIn (n:Nod):Prop:=(DIn n.2.1∧DB n.2.1)∧RF n.2.2.1∧RF n.2.2.2
def NG (n:Nod):Prop:=Jy n=true∧DB n.2.1
def Jb {n:Nod}:Jy n=true↔(∀ r∈n.2.2.2,I2 r=true)∧(0≤n.1∧n.1≤20)∧Au n.2.1=true∧Lq n.2.2.1=true∧n.2.2.2.length≤60:=by
 unfold Jy qOk;simp only[Va,Zp,Z1,decide_eq_true_iff];constructor
 ·rintro⟨h1,h2,h3,h4,h5⟩;exact⟨h1,h2,h3,h4,by omega⟩
 ·rintro⟨h1,h2,h3,h4,h5⟩;exact⟨h1,h2,h3,h4,by omega⟩
def NG.g {n:Nod} (h:NG n):DG n.2.1:=⟨(Jb.1 h.1).2.2.1,h.2⟩
def K1a (n:Nod) (hn:NIn n):Tot (λ k=>D0 k n) (λ r=>r=Jy n):=by
 obtain⟨i,⟨a,b⟩,ro,q⟩:=n;obtain⟨⟨hd,_⟩,hr,hq⟩:=hn;dsimp only at hd hr hq;unfold D0;have hl:=hq.1;refine R6a (Q:=λ r=>r=bif qOk q then .inr (i,a,b,ro,q) else .inl false) ?_ ?_
 ·refine Rea (L:=λ k i' (_:Unit)=>Dg k q (q.length:Int) i' i a b ro q) (Q:=λ r=>r=bif qOk q then .inr (i,a,b,ro,q) else .inl false) q.length (λ j _=>(q.drop j).all I2=q.all I2) ?_ ?_ 0 () (Wf _) (by rw[We])
  ·intro _ hj;rw[Sca]at hj;simp only[Dg];exact Raa (by omega) (R5a (by unfold qOk;rw[← hj];rfl))
  ·intro j _ hj hi next;simp only[Dg];rw[Fm (d:=Nu) hj,Rza]at hi;refine R9a (by omega) (R9a (by omega) (R9a (by omega) ?_));rw[Vm,w64 (n:=(j:Int)+1) (by omega) (by omega)];refine Rfa (Gka (q.getD j Nu) (hq.2 _ (Cu hj))) ?_
   cases hc:I2 (q.getD j Nu) with
   |false=>exact R8a rfl (R5a (by unfold qOk;rw[← hi,hc];rfl))
   |true=>exact R7a rfl (next () (by rw[hc,Wj]at hi;exact hi))
 ·rintro r rfl;unfold Jy;dsimp only;cases qOk q
  ·exact R5a rfl
  simp only[cond_true,T6a,Wj];refine Rfa (Rga (Q:=λ r=>r=inR i 0 20) (Bla _ _ _) rfl) ?_;cases inR i 0 20
  ·exact R7a rfl (R5a rfl)
  refine R8a rfl (Rfa (P4 (a,b) hd.1.1 hd.1.2) ?_);cases Au (a,b)
  ·exact R7a rfl (R5a rfl)
  refine R8a rfl (Rfa (Jja ro (by have:=hr.1;unfold Few;omega) hr.2) ?_)
  cases Lq ro with
  |false=>exact R7a rfl (R5a rfl)
  |true=>exact R8a rfl (R5a rfl)
def K2a (n:Nod) (hn:NIn n):Tot (λ k=>Cw k n) (λ r=>r=Jy n):=by
 obtain⟨i,⟨a,b⟩,ro,q⟩:=n;obtain⟨⟨hd,_⟩,hr,hq⟩:=hn;dsimp only at hd hr hq;unfold Cw;have hl:=hq.1;refine R6a (Q:=λ r=>r=bif qOk q then .inr (i,a,b,ro,q) else .inl false) ?_ ?_
 ·refine Rea (L:=λ k i' (_:Unit)=>Dd k i' i a b ro q) (Q:=λ r=>r=bif qOk q then .inr (i,a,b,ro,q) else .inl false) q.length (λ j _=>(q.drop j).all I2=q.all I2) ?_ ?_ 0 () (Wf _) (by rw[We])
  ·intro _ hj;rw[Sca]at hj;simp only[Dd];exact Raa (by omega) (R5a (by unfold qOk;rw[← hj];rfl))
  ·intro j _ hj hi next;simp only[Dd];rw[Fm (d:=Nu) hj,Rza]at hi;refine R9a (by omega) (R9a (by omega) (R9a (by omega) ?_));rw[Vm,w64 (n:=(j:Int)+1) (by omega) (by omega)];refine Rfa (Gla (q.getD j Nu) (hq.2 _ (Cu hj))) ?_
   cases hc:I2 (q.getD j Nu) with
   |false=>exact R8a rfl (R5a (by unfold qOk;rw[← hi,hc];rfl))
   |true=>exact R7a rfl (next () (by rw[hc,Wj]at hi;exact hi))
 ·rintro r rfl;unfold Jy;dsimp only;cases qOk q
  ·exact R5a rfl
  simp only[cond_true,T6a,Wj];refine Rfa (Rga (Q:=λ r=>r=inR i 0 20) (V5 _ _ _) rfl) ?_;cases inR i 0 20
  ·exact R7a rfl (R5a rfl)
  refine R8a rfl (Rfa (P5 (a,b) hd.1.1 hd.1.2) ?_);cases Au (a,b)
  ·exact R7a rfl (R5a rfl)
  refine R8a rfl (Rfa (Jka ro (by have:=hr.1;unfold Few;omega) hr.2) ?_)
  cases Lq ro with
  |false=>exact R7a rfl (R5a rfl)
  |true=>exact R8a rfl (R5a rfl)
def W9 (n:Nod) (hn:NIn n):Tot (λ k=>E6 k n) (λ r=>r=n):=by
 unfold E6;have h1:=hn.2.1.1;have h2:=hn.2.2.1;refine Rfa (Fn n.2.1 hn.1.1.1.1) ?_;refine Rfa (Rga (Q:=λ r=>r=n.2.2.1) (Bka _ (by unfold Few;omega)) rfl) ?_;refine Rfa (Rga (Q:=λ r=>r=n.2.2.2) (Bka _ (by unfold Few;omega)) rfl) ?_;exact R5a rfl
def Wr (n:Nod) (hn:NIn n):Tot (λ k=>Ei k n) (λ r=>r=n):=by
 unfold Ei;have h1:=hn.2.1.1;have h2:=hn.2.2.1;refine Rfa (Hy n.2.1 hn.1.1.1.1) ?_;refine Rda (by simp only[Vp];omega) (Rda (by simp only[Vp];omega) (R5a ?_));rw[Wc,Wc]
def Tb (s:ByteArray) (f:Fil):Row:=(s,f.1,f.2.1,(f.2.2.length:Int))
def N4a (n:Nod) (s:ByteArray) (f:Fil) (sure:Bool):Nod×Int:=bif (n.2.2.2.length:Int)==60 then (n,3) else
 ((n.1,(keep n.2.1 s f sure).1,n.2.2.1,bif (keep n.2.1 s f sure).2==0&&sure then n.2.2.2++[Tb s f] else n.2.2.2),(keep n.2.1 s f sure).2)
def Nka (n:Nod) (s:ByteArray) (f:Fil) (sure:Bool):Nod×Int:=bif Jy n&&(C1 s&&Ea f) then N4a n s f sure else (n,2)
def K3a {s:ByteArray} {f:Fil} (hs:C1 s=true) (hf:Ea f=true):I2 (Tb s f)=true:=by
 obtain⟨h1,h2,h3⟩:=Ld.1 hf;unfold I2 Tb;dsimp only;rw[hs,h1,Z1.2 ⟨by omega,by omega⟩]
 cases hd:f.2.1 with
 |false=>rfl
 |true=>rw[h3 hd];rfl
def P0a {n:Nod} {s:ByteArray} {f:Fil} {sure:Bool} (hn:NG n) (hs:C1 s=true) (hf:Ea f=true):NG (N4a n s f sure).1:=by
 obtain⟨h1,h2,h3,h4,h5⟩:=Jb.1 hn.1;have hk:=Oza (s:=s) (f:=f) (sure:=sure) hn.g;unfold N4a;cases hl:((n.2.2.2.length:Int)==60)
 case true=>exact hn
 have hl':n.2.2.2.length≠60:=by
  intro e;rw[e]at hl;cases hl
 refine⟨Jb.2 ⟨?_,h2,hk.1,h4,?_⟩,hk.2⟩
 ·show ∀ r∈bif (keep n.2.1 s f sure).2==0&&sure then n.2.2.2++[Tb s f] else n.2.2.2,I2 r=true
  cases (keep n.2.1 s f sure).2==0&&sure
  ·exact h1
  intro r hr;rcases Vo.1 hr with hr|hr
  ·exact h1 r hr
  ·rw[Vz.1 hr];exact K3a hs hf
 ·show (bif (keep n.2.1 s f sure).2==0&&sure then n.2.2.2++[Tb s f] else n.2.2.2).length≤60
  cases (keep n.2.1 s f sure).2==0&&sure with
  |false=>exact h5
  |true=>rw[cond_true,Vh];simp only[Vg,Vp];omega
def H9a (n:Nod) (s:ByteArray) (f:Fil) (sure:Bool) (hn:NIn n) (hs:Ht s):Tot (λ k=>E4 k n s f sure) (λ r=>r=((N4a n s f sure).2,(N4a n s f sure).1)):=by
 have h1:=hn.2.2.1;unfold E4 N4a
 cases (n.2.2.2.length:Int)==60 with
 |true=>exact R8a rfl (R5a rfl)
 |false=>
  refine R7a rfl (R6a (K0a n.2.1 s f sure hn.1.1 hn.1.2.1 hs) ?_);rintro r rfl
  cases (keep n.2.1 s f sure).2==0 with
  |false=>exact R7a rfl (R5a rfl)
  |true=>
   refine R8a rfl ?_
   cases sure with
   |false=>exact R7a rfl (R5a rfl)
   |true=>
    refine R8a rfl (Rda (by simp only[Vp];omega) ?_);refine R6a (Rga (Q:=λ r=>r=Tb s f) (show Gk s f=some (Tb s f) from rfl) rfl) ?_;rintro r rfl;refine Rda (by simp only[Vh,Vg,Vp];omega) (R5a ?_);rw[Wc];rfl
def A5a (n:Nod) (s:ByteArray) (f:Fil) (sure:Bool) (hn:NIn n) (hs:Ht s):Tot (λ k=>Eb k n s f sure) (λ r=>r=Nka n s f sure):=by
 unfold Eb Nka;refine Rfa (Wr n hn) ?_;refine Rfa (K2a n hn) ?_;cases Jy n
 ·exact R8a rfl (R5a rfl)
 refine R7a rfl (Rfa (N0 s hs) ?_);cases C1 s
 ·exact R8a rfl (R5a rfl)
 refine R7a rfl (Rfa (Rga (Q:=λ r=>r=Ea f) (P6 f) rfl) ?_);cases Ea f
 ·exact R8a rfl (R5a rfl)
 refine R7a rfl (Rfa (H9a n s f sure hn hs) ?_);exact R5a rfl

abbrev Dev:=Int×Int×Int
abbrev Rng:=Int×List (List Int)
def Nla (l:List Int) (n:Int):Bool:=l.any (· == n)
def N5a (l:List Dev) (id:Int):Option Dev:=l.find? (λ d=>d.1==id)
def P1a (d:Dev):Bool:=inR d.1 0 20&&(inR d.2.1 0 20&&inR d.2.2 1 1000)
def Qba:Option Int→List Dev→Bool
 |_,[]=>true
 |none,d::l=>P1a d&&Qba (some d.1) l
 |some q,d::l=>P1a d&&(decide (q<d.1)&&Qba (some d.1) l)
def P2a (l:List Dev):Bool:=Qba none l&&inR (l.length:Int) 1 12
def Qca (l:List Dev) (out:List Int) (id:Int):List Int:=match N5a l id with
 |some d=>bif Nla out d.2.1 then out else out++[d.2.1]
 |none=>out
def N6a (ids:List Int) (l:List Dev):List Int:=ids.foldl (Qca l) []

def cnt (id n x:Int):Int:=bif x==id then n+1 else n
def Qwa (id n:Int) (p:List Int):Int:=p.foldl (cnt id) n
def Ws (r:Rng) (id:Int):Int:=r.2.foldl (Qwa id) 0

def Qda (r:Rng) (p zs:List Int) (a:Option (Dev×Bool)) (d:Dev):Option (Dev×Bool):=
 bif Nla p d.1 then a else match a with
 |none=>some (d,!(Nla zs d.2.1))
 |some (b,fr)=>bif (!(Nla zs d.2.1)&&!fr)||(((!(Nla zs d.2.1))==fr)&&decide ((Ws r d.1+1)*b.2.2<(Ws r b.1+1)*d.2.2)) then some (d,!(Nla zs d.2.1)) else some (b,fr)
def Qea (r:Rng) (p:List Int) (l:List Dev):Option (Dev×Bool):=l.foldl (Qda r p (N6a p l)) none
def Qxa (r:Rng) (p:List Int) (l:List Dev):Int:=match Qea r p l with
 |some b=>b.1.1
 |none => -1
def bs (r:Rng):Option (Dev×Bool)→Int×Bool×Dev
 |some (b,fr)=>(Ws r b.1+1,fr,b)
 |none=>(0,false,-1,0,0)

def P3a (l:List Dev) (reps:Int) (ps:List (List Int)):Nat→List Int→List Int
 |0,p=>p
 |n+1,p=>P3a l reps ps n (p++[Qxa (reps,ps++[p]) p l])
def Qsa (l:List Dev) (reps:Int):Nat→List (List Int)→List (List Int)
 |0,ps=>ps
 |n+1,ps=>Qsa l reps n (ps++[P3a l reps ps reps.toNat []])
def build (l:List Dev) (parts reps:Int):Rng×Bool:=bif P2a l&&(inR parts 1 64&&(inR reps 1 5&&!(decide (reps > (l.length:Int))))) then ((reps,Qsa l reps parts.toNat []),true) else ((0,[]),false)

def hv (r:Rng) (l:List Dev) (b id:Int):Bool:=match N5a l b with
 |none=>false
 |some x=>match N5a l id with
  |none=>false
  |some d=>(d.2.1==x.2.1)&&decide (Ws r id-Ws r b≥2)

section
open Go
end

section
open Go
end

section
open Go
end

def Qya (l:List ByteArray) (s:ByteArray):Bool:=l.any λ y=>teq y s
def Qfa (l:List ByteArray):Nat→ByteArray→List ByteArray×Nat
 |0,_=>(l,0)
 |k+1,s=>bif tlt s (l.getD k Qna) then Qfa (l.set (k+1) (l.getD k Qna)) k s else (l,k+1)
def Qza (l:List ByteArray) (s:ByteArray):List ByteArray:=(Qfa (l++[s]) l.length s).1.set (Qfa (l++[s]) l.length s).2 s
def hS1 (l:List Nmd) (j:Nat) (out:List ByteArray) (x:Nmd):List ByteArray:=bif (Ol x.2).isSome&&(!(Qya out x.1)&&(Joa l x.1==(j:Int))) then Qza out x.1 else out
def hS (l:List Nmd):List Nmd→Nat→List ByteArray→List ByteArray
 |[],_,out=>out
 |x::r,j,out=>hS l r (j+1) (hS1 l j out x)

def A6a (n:Nod) (s:ByteArray) (f:Fil) (sure:Bool) (hn:NIn n) (hs:Ht s):Tot (λ k=>Dx k n s f sure) (λ r=>r=Nka n s f sure):=by
 have hq:=hn.2.2.1;unfold Dx Nka;refine Rfa (W9 n hn) ?_;refine Rfa (K1a n hn) ?_;cases h1:Jy n
 ·exact R8a rfl (R5a rfl)
 have h60:=(Jb.1 h1).2.2.2.2;refine R7a rfl (Rfa (Lc s hs) ?_);cases C1 s
 ·exact R8a rfl (R5a rfl)
 refine R7a rfl (Rfa (Rga (Q:=λ r=>r=Ea f) (Ta f) rfl) ?_);cases Ea f
 ·exact R8a rfl (R5a rfl)
 refine R7a rfl ?_;unfold N4a;refine Rca (λ h=>R5a ?_) (λ h=>?_)
 ·rw[show ((n.2.2.2.length:Int)==60)=true from beq_iff_eq.2 (by omega)];rfl
 ·rw[show ((n.2.2.2.length:Int)==60)=false from beq_eq_false_iff_ne.2 (by omega)];refine Rfa (Jza n.2.1 s f sure hn.1.1 hn.1.2.1 hs) ?_;cases (keep n.2.1 s f sure).2==0
  ·exact R7a rfl (R5a rfl)
  refine R8a rfl ?_;cases sure
  ·exact R7a rfl (R5a rfl)
  refine R8a rfl (Rfa (Rga (Q:=λ r=>r=Tb s f) (show Gn s f=some (Tb s f) from rfl) rfl) ?_);exact Rda (by simp only[Vg,Vp];omega) (R5a rfl)

def Qu (v:BitVec 32) (b:Int):BitVec 32:=(v ^^^ ofInt 32 b)*16777619#32

section
variable {R:Type} {L:Nat→Int→Option (Sum Bool R)}
end

def quo (n:Int):Int:=n/2+1

section
open Go
end

def N7a:Row:=((⟨#[]⟩:ByteArray),(((0:Int),((0:Int),(0:Int))),(false,(0:Int))))

end Go.Proofs.YtbbifgjgneefkaaGreat.Vf
