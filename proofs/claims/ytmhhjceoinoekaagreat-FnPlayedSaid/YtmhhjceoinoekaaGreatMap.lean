import Derived.Test.YtmhhjceoinoekaaGreatMao
set_option linter.all false
namespace Go.Proofs.YtmhhjceoinoekaaGreat.Vf
open Go
open List (length getD)
open Int (toNat)
open Go.IntKind (wrap)
open BitVec (ofInt)
def J2b:=@List.pairwise_singleton
def Jdb:=@List.drop_append_of_le_length
def Jeb:=@List.take_append_of_le_length
def Jfb:=@List.getElem_map

def tk (n:Nod) (l:List Row):Bool×Nod:=bif decide ((X8 n.2.2.1 l).length > 60) then (false,n) else (true,(n.1,n.2.1,X8 n.2.2.1 l,n.2.2.2))
def Gjb {n:Nod} {l:List Row} (hn:NG n) (hl:M8 l=true):NG (tk n l).2:=by
 obtain⟨h1,h2,h3,h4,h5⟩:=Dv.1 hn.1
 unfold tk
 by_cases h:(X8 n.2.2.1 l).length > 60
 ·rw[decide_eq_true h];exact hn
 ·rw[decide_eq_false h]
  exact⟨Dv.2 ⟨h1,h2,h3,Lga h4 hl (by omega),h5⟩,hn.2⟩
def gst (src:Int) (l:List Row) (self:Bool) (rc ls:List Int) (a:List Nod×Bool) (j:Nat):List Nod×Bool:=
 bif ls.getD j 0==src&&!self then a else bif rch rc j != 1 then (a.1,false) else
  (a.1.set (ls.getD j 0).toNat (tk (a.1.getD (ls.getD j 0).toNat Bb) l).2,bif (tk (a.1.getD (ls.getD j 0).toNat Bb) l).1 then a.2 else false)
def Nc (w:Wld) (src:Int) (l:List Row) (self:Bool) (rc:List Int):List Nod×Bool:=run (gst src l self rc (Im w)) (Im w).length (w.2.2.1,true)
def Vea {src:Int} {l:List Row} {self:Bool} {rc ls:List Int} {a:List Nod×Bool} {j m:Nat} (hl:M8 l=true) (h:NS a.1∧a.1.length=m) (hc:(ls.getD j 0).toNat<m):NS (gst src l self rc ls a j).1∧(gst src l self rc ls a j).1.length=m:=by
 unfold gst
 cases ls.getD j 0==src&&!self
 case true=>exact h
 cases rch rc j != 1 with
 |true=>exact h
 |false=>exact⟨h.1.set (Gjb (h.1.get (by have:=h.2;omega)) hl),by rw[cond_false,cond_false,Wb];exact h.2⟩
def Pl {w:Wld} {x:Int} (h:x∈Im w):0≤x∧x<(w.2.2.1.length:Int):=by
 obtain⟨j,h1,_,rfl⟩:=Gaa.1 h
 omega
def Rq {w:Wld} (hr:RBd w.2.1) (hn:w.2.2.1.length≤2000000):(Im w).length≤4000000000000:=Q7 hn (Tk hr _)
def Axa {w:Wld} {src:Int} {l:List Row} {self:Bool} {rc:List Int} (hl:M8 l=true) (hn:NS w.2.2.1):NS (Nc w src l self rc).1∧(Nc w src l self rc).1.length=w.2.2.1.length:=
 Np (λ _ (b:List Nod×Bool)=>NS b.1∧b.1.length=w.2.2.1.length) ⟨hn,rfl⟩ (λ j b hj hb=>Vea hl hb (by have:=Pl (A3 (d:=0) hj);omega))
def Oka (w:Wld) (src:Int) (l:List Row) (self:Bool) (rc:List Int) (hr:RBd w.2.1) (hn:NS w.2.2.1) (hl:M8 l=true):
  Tot (λ k=>Bu k w src l self rc) (λ r=>r=((Nc w src l self rc).2,wN w (Nc w src l self rc).1)):=by
 have hll:=(Fqa hl).1
 unfold Bu
 refine Hfb (Cma w hr hn.1) ?_
 have hpl:=Rq hr hn.1
 have hc:=λ x=>Pl (w:=w) (x:=x)
 have hrun:Nc w src l self rc=run (gst src l self rc (Im w)) (Im w).length (w.2.2.1,true):=rfl
 have inv:∀ n,n≤(Im w).length→NS (run (gst src l self rc (Im w)) n (w.2.2.1,true)).1∧(run (gst src l self rc (Im w)) n (w.2.2.1,true)).1.length=w.2.2.1.length:=λ n hn'=>
  Np (λ _ (b:List Nod×Bool)=>NS b.1∧b.1.length=w.2.2.1.length) ⟨hn,rfl⟩ (λ j b hj hb=>Vea hl hb (by have:=hc _ (A3 (d:=0) (show j<(Im w).length by omega));omega))
 generalize Im w=ls at *
 refine H4b (Q:=λ r=>r=((Nc w src l self rc).2,wN w (Nc w src l self rc).1)) ?_ (by rintro r rfl;exact H3b rfl)
 refine Hcb (L:=λ k j (a:List Nod×Bool)=>An k src l self rc ls a.2 j (wN w a.1)) (Q:=λ r=>r=((Nc w src l self rc).2,wN w (Nc w src l self rc).1)) ls.length (λ j a=>a=run (gst src l self rc ls) j (w.2.2.1,true)) ?_ ?_ 0 (w.2.2.1,true) (Vo _) rfl
 ·rintro a rfl
  simp (disch:=omega) only [An,dF]
  exact H3b (by rw[hrun])
 ·rintro j a hj rfl next
  obtain⟨i1,i2⟩:=inv j (by omega)
  rw[Pg]at next
  generalize run (gst src l self rc ls) j (w.2.2.1,true)=a at *
  obtain⟨ns,g⟩:=a
  dsimp only at i1 i2
  have hci:=hc _ (A3 (d:=0) hj)
  obtain⟨m,em⟩:∃ m:Nat,ls.getD j 0=(m:Int):=⟨(ls.getD j 0).toNat,by omega⟩
  rw[em]at hci
  unfold gst at next
  rw[em,Va]at next
  have e0:ns.getD m ((0:Int),(([],[]),([],[])))=ns.getD m Bb:=rfl
  have hm:=Ug (i1.get (i:=m) (by omega))
  have h12:=Q3a (ns.getD m Bb) l hm.2.1.1 hll
  rw[show (bif decide ((X8 (ns.getD m Bb).2.2.1 l).length > 60) then (false,(ns.getD m Bb)) else (true,((ns.getD m Bb).1,(ns.getD m Bb).2.1,X8 (ns.getD m Bb).2.2.1 l,(ns.getD m Bb).2.2.2)))=tk (ns.getD m Bb) l from rfl]at h12
  have body:(bif (m:Int)==src&&!self then false else true)=true→Tot (λ k=>(C9 rc (j:Int)).bind λ r2=>cond (r2 != 1) (An k src l self rc ls false ((j:Int)+1) (wN w ns)) (cond (decide ((0:Int)≤(m:Int))) (cond (decide ((m:Int)<(length ns:Int))) ((Iz k (ns.getD m Bb) l).bind λ r5=>cond (!r5.1) (An k src l self rc ls false ((j:Int)+1) (wN w (ns.set m r5.2))) (An k src l self rc ls g ((j:Int)+1) (wN w (ns.set m r5.2)))) none) none)) (λ r=>r=((Nc w src l self rc).2,wN w (Nc w src l self rc).1)):=by
   intro hb
   have hb':((m:Int)==src&&!self)=false:=by
    cases hx:((m:Int)==src&&!self) with
    |false=>rfl
    |true=>rw[hx]at hb;cases hb
   rw[hb']at next
   simp only[Lua,Vn]
   cases h1:rch rc j != 1 with
   |true=>
    rw[h1]at next
    exact H6b rfl (next _ rfl)
   |false=>
    rw[h1]at next
    refine H5b rfl (H7b (by omega) (H7b (by omega) (H4b h12 ?_)))
    rintro q rfl
    dsimp only at next
    generalize tk (ns.getD m Bb) l=q at *
    cases h2:q.1 with
    |false=>rw[h2]at next;exact H6b rfl (next _ rfl)
    |true=>rw[h2]at next;exact H5b rfl (next _ rfl)
  simp (disch:=omega) only [An,dT,Va,w64,em,e0]
  cases hz:(m:Int)==src with
  |true=>
   rw[hz]at next body
   refine H6b rfl ?_
   cases self
   ·exact H6b rfl (next _ rfl)
   refine H5b rfl ?_
   have:=body rfl
   dsimp only[wN]at this ⊢
   simp (disch:=omega) only [dT]at this
   exact this
  |false=>
   rw[hz]at next body
   refine H5b rfl ?_
   have:=body rfl
   dsimp only[wN]at this ⊢
   simp (disch:=omega) only [dT]at this
   exact this
def Qga {r:Row} (h:Ou r=true):M8 [r]=true:=Pj.2 ⟨J2b _ _,λ x hx=>by rw[Vu.1 hx];exact h,by simp⟩
def Y6:M8 []=true:=Pj.2 ⟨List.Pairwise.nil,(λ _ hx=>nomatch hx),Vo _⟩
def Vfa (n:Nod):Nod:=(n.1,n.2.1,[],n.2.2.2)
def Gkb (n:Nod) (q:List Row):Nod:=(n.1,n.2.1,n.2.2.1,q)
def Ola {n:Nod} (hn:NG n):NG (Vfa n):=by
 obtain⟨h1,h2,h3,h4,h5⟩:=Dv.1 hn.1
 exact⟨Dv.2 ⟨h1,h2,h3,Y6,h5⟩,hn.2⟩
def Asb {n:Nod} {q:List Row} (hn:NG n) (h:∀ r∈q,Ou r=true) (hl:q.length≤60):NG (Gkb n q):=by
 obtain⟨h1,h2,h3,h4,h5⟩:=Dv.1 hn.1
 exact⟨Dv.2 ⟨h,h2,h3,h4,hl⟩,hn.2⟩
def Ry (w:Wld) (i:Nat) (rc:List Int):List Nod×Bool:=Nc w (i:Int) (w.2.2.1.getD i Bb).2.2.1 false rc
def Coa (w:Wld) (i:Nat) (rc:List Int):Bool×Wld:=bif ((w.2.2.1.getD i Bb).2.2.1.length:Int)==0 then (false,w) else
 (true,wN w (bif (Ry w i rc).2&&!(Oj (Im (wN w (Ry w i rc).1)) (i:Int)) then (Ry w i rc).1.set i (Vfa ((Ry w i rc).1.getD i Bb)) else (Ry w i rc).1))
def Vga (w:Wld) (i:Nat) (rc:List Int) (hr:RBd w.2.1) (hn:NS w.2.2.1) (hi:i<w.2.2.1.length):Tot (λ k=>I8 k w (i:Int) rc) (λ r=>r=Coa w i rc):=by
 have hni:=hn.get hi
 have e0:w.2.2.1.getD i ((0:Int),(([],[]),([],[])))=w.2.2.1.getD i Bb:=rfl
 have hl:=(Dv.1 hni.1).2.2.2.1
 unfold I8 Coa
 simp (disch:=omega) only [dT,Va,e0]
 cases hz:((w.2.2.1.getD i Bb).2.2.1.length:Int)==0
 case true=>exact H6b rfl (H3b rfl)
 refine H5b rfl (Hfb (Oka w (i:Int) _ false rc hr hn hl) ?_)
 obtain⟨p1,p2⟩:=Axa (w:=w) (src:=(i:Int)) (self:=false) (rc:=rc) hl hn
 rw[show Nc w (i:Int) (w.2.2.1.getD i Bb).2.2.1 false rc=Ry w i rc from rfl]at p1 p2 ⊢
 generalize Ry w i rc=a at *
 obtain⟨ns,g⟩:=a
 dsimp only at p1 p2 ⊢
 cases g
 ·exact H5b rfl (H3b rfl)
 refine H6b rfl ?_
 refine H4b (Q:=λ r=>r=Oj (Im (wN w ns)) (i:Int)) ?_ ?_
 ·unfold K8
  refine Hfb (Cma (wN w ns) hr p1.1) ?_
  refine Hfb (Ui _ _ (by have:=Rq (w:=wN w ns) hr p1.1;omega)) ?_
  exact H3b rfl
 ·rintro b rfl
  cases Oj (Im (wN w ns)) (i:Int)
  case true=>exact H5b rfl (H3b rfl)
  have e1:ns.getD i ((0:Int),(([],[]),([],[])))=ns.getD i Bb:=rfl
  refine H6b rfl ?_
  simp (disch:=omega) only [dT,Va,e1]
  exact H3b rfl
def T0 (w:Wld) (i:Nat) (rc:List Int):List Nod×Bool:=Nc w (i:Int) ((w.2.2.1.getD i Bb).2.2.2.take 1) true rc
def Cpa (w:Wld) (i:Nat) (rc:List Int):Bool×Wld:=bif ((w.2.2.1.getD i Bb).2.2.2.length:Int)==0 then (false,w) else
 (true,wN w (bif (T0 w i rc).2 then (T0 w i rc).1.set i (Gkb ((T0 w i rc).1.getD i Bb) ((w.2.2.1.getD i Bb).2.2.2.drop 1)) else (T0 w i rc).1))
def Rr {q:List Row} (h:∀ r∈q,Ou r=true):M8 (q.take 1)=true:=by
 cases q with
 |nil=>exact Y6
 |cons r q=>exact Qga (h r Yb)
def Vha (w:Wld) (i:Nat) (rc:List Int) (hr:RBd w.2.1) (hn:NS w.2.2.1) (hi:i<w.2.2.1.length):Tot (λ k=>I9 k w (i:Int) rc) (λ r=>r=Cpa w i rc):=by
 have hni:=hn.get hi
 have e0:w.2.2.1.getD i ((0:Int),(([],[]),([],[])))=w.2.2.1.getD i Bb:=rfl
 obtain⟨hq,_,_,_,hq60⟩:=Dv.1 hni.1
 have hl:=Rr hq
 unfold I9 Cpa
 simp (disch:=omega) only [dT,Va,e0]
 cases hz:((w.2.2.1.getD i Bb).2.2.2.length:Int)==0
 case true=>exact H6b rfl (H3b rfl)
 have h1:=beq_eq_false_iff_ne.1 hz
 refine H5b rfl (H7b (by omega) (Hfb (Oka w (i:Int) _ true rc hr hn hl) ?_))
 obtain⟨p1,p2⟩:=Axa (w:=w) (src:=(i:Int)) (self:=true) (rc:=rc) hl hn
 rw[show Nc w (i:Int) ((w.2.2.1.getD i Bb).2.2.2.take (toNat 1)) true rc=T0 w i rc from rfl]
 rw[show Nc w (i:Int) ((w.2.2.1.getD i Bb).2.2.2.take 1) true rc=T0 w i rc from rfl]at p1 p2
 generalize T0 w i rc=a at *
 obtain⟨ns,g⟩:=a
 dsimp only at p1 p2 ⊢
 cases g
 ·exact H5b rfl (H3b rfl)
 refine H6b rfl (H7b (by omega) (Hbb (by rw[We,Vj];omega) ?_))
 have e1:ns.getD i ((0:Int),(([],[]),([],[])))=ns.getD i Bb:=rfl
 simp (disch:=omega) only [dT,Va,e1,Vx]
 exact H3b rfl
def Via:∀ (k:Nat) (l:List ByteArray) (s:ByteArray),k<l.length→∃ j,j≤k∧(Jia l k s).2=j∧(Jia l k s).1.set j s=l.take j++s::((l.take k).drop j++l.drop (k+1))∧(∀ y∈(l.take k).drop j,tlt s y=true)∧(0<j→tlt s (l.getD (j-1) Nm)=false)
 |0,l,s,hk=>by
  refine⟨0,Vv _,rfl,?_,λ y hy=>by simp at hy,λ h=>by omega⟩
  cases l with
  |nil=>simp at hk
  |cons x l=>rfl
 |k+1,l,s,hk=>by
  unfold Jia
  cases hc:tlt s (l.getD k Nm) with
  |false=>
   rw[cond_false]
   refine⟨k+1,Vv _,rfl,?_,λ y hy=>?_,λ _=>hc⟩
   ·rw[Ifb,Idb,Hub,Vx]
    exact I1b .. |>.trans (if_pos hk)
   ·rw[Ifb,Idb,Hub]at hy;cases hy
  |true=>
   rw[cond_true]
   obtain⟨j,h1,h2,h3,h4,h5⟩:=Via k (l.set (k+1) (l.getD k Nm)) s (by rw[Wb];omega)
   have t1:(l.set (k+1) (l.getD k Nm)).take j=l.take j:=by rw[Jkb (by omega)]
   have t2:(l.set (k+1) (l.getD k Nm)).take k=l.take k:=by rw[Jkb (by omega)]
   have t3:(l.set (k+1) (l.getD k Nm)).drop (k+1)=l.getD k Nm::l.drop (k+2):=by
    rw[Zb (by rw[Wb];exact hk),List.getElem_set_self,List.drop_set_of_lt (by omega)]
   have t4:l.take (k+1)=l.take k++[l.getD k Nm]:=by
    rw[Wk (by omega),Vc,Vk (by omega),Yn]
   have hlk:(l.take k).length=k:=by rw[Vs];omega
   rw[t1,t2,t3]at h3
   rw[t2]at h4
   refine⟨j,by omega,h2,?_,λ y hy=>?_,λ h=>?_⟩
   ·rw[h3,t4,Jdb (by omega),Vp]
    rfl
   ·rw[t4,Jdb (by omega)]at hy
    rcases Vq.1 hy with hy|hy
    ·exact h4 y hy
    ·rw[Vu.1 hy];exact hc
   ·have:=h5 h
    rwa [Vc,Ikb (by omega),← Vc]at this
def Eea {l:List ByteArray} {s:ByteArray}:∃ j,j≤l.length∧Anb l s=l.take j++s::l.drop j∧(∀ y∈l.drop j,tlt s y=true)∧(0<j→tlt s (l.getD (j-1) Nm)=false):=by
 obtain⟨j,h1,h2,h3,h4,h5⟩:=Via l.length (l++[s]) s (by simp)
 have t1:(l++[s]).take l.length=l:=by rw[Jeb (Vv _),Yo]
 have t2:(l++[s]).drop (l.length+1)=[]:=J3b (by simp)
 have t3:(l++[s]).take j=l.take j:=Jeb h1
 rw[t1]at h4
 rw[t1,t2,t3,Wn]at h3
 refine⟨j,h1,?_,h4,λ h=>?_⟩
 ·unfold Anb
  rw[h2,h3]
 ·have:=h5 h
  rwa [Vc,Yd (by omega),← Vc]at this
def spl (l:List ByteArray) (s:ByteArray):List ByteArray:=bif D1a l s then l else Anb l s
def Cqa {l:List ByteArray} {s y:ByteArray}:y∈spl l s↔y=s∨y∈l:=by
 unfold spl
 cases h:D1a l s with
 |true=>
  have:=G4a.1 h
  exact⟨.inr,λ h=>h.elim (λ e=>e ▸ this) id⟩
 |false=>
  obtain⟨j,_,e,_⟩:=Eea (l:=l) (s:=s)
  rw[cond_false,e,Vq,Vl]
  conv=>rhs;rw[← Wq j l,Vq]
  constructor
  ·rintro (h|h|h)
   ·exact .inr (.inl h)
   ·exact .inl h
   ·exact .inr (.inr h)
  ·rintro (h|h|h)
   ·exact .inr (.inl h)
   ·exact .inl h
   ·exact .inr (.inr h)
def Y7 {l:List ByteArray} {s:ByteArray} (h:TS l):TS (spl l s):=by
 unfold spl
 cases hh:D1a l s
 case true=>exact h
 have hn:s∉l:=λ c=>by rw[G4a.2 c]at hh;cases hh
 obtain⟨j,h1,e,h4,h5⟩:=Eea (l:=l) (s:=s)
 rw[cond_false,e]
 have hs:∀ y∈l.take j,tlt y s=true:=by
  intro y hy
  by_cases hj:0<j
  ·have hlast:l.getD (j-1) Nm∈l:=A3 (by omega)
   have hlt:tlt (l.getD (j-1) Nm) s=true:=by
    cases hc:tlt (l.getD (j-1) Nm) s with
    |true=>rfl
    |false=>exact absurd (Bva hc (h5 hj) ▸ hlast) hn
   obtain⟨i,hi,rfl⟩:=Zx.1 hy
   rw[Vs]at hi
   rw[List.getElem_take]
   by_cases hij:i=j-1
   ·subst hij
    rwa [Vc,Vk (by omega),Yn]at hlt
   ·have:=Zk.1 h i (j-1) (by omega) (by omega) (by omega)
    rw[Vc,Vk (by omega),Yn]at hlt
    exact Nu this hlt
  ·rw[show j=0 by omega,Hub]at hy;cases hy
 have hd:TS (l.drop j):=h.sublist (List.drop_sublist _ _)
 have ht:TS (l.take j):=h.sublist (K0b _ _)
 exact Zd.2 ⟨ht,Wj.2 ⟨h4,hd⟩,λ a ha b hb=>by
  rcases Vl.1 hb with rfl|hb
  ·exact hs a ha
  ·exact Nu (hs a ha) (h4 b hb)⟩
def Vja (l:List ByteArray) (s:ByteArray) (hl:l.length≤5000000):Tot (λ k=>E6 k l s) (λ r=>r=spl l s):=by
 unfold E6 spl
 refine Hfb (Oha l s (by omega)) ?_
 cases D1a l s
 case true=>exact H6b rfl (H3b rfl)
 have loop:∀ (k:Nat) (x:List ByteArray),k<x.length→x.length≤5000001→Tot (λ n=>Fp n s x (k:Int)) (λ r=>r=(s,(Jia x k s).1,((Jia x k s).2:Int))):=by
  intro k
  induction k with
  |zero=>
   intro x hk hx
   refine Tot.succ ?_
   simp (disch:=omega) only [Fp,dF]
   exact H3b rfl
  |succ k ih=>
   intro x hk hx
   refine Tot.succ ?_
   have e1:((k+1:Nat):Int)-1=(k:Int):=by omega
   have e0:x.getD k (⟨#[]⟩:ByteArray)=x.getD k Nm:=rfl
   simp (disch:=omega) only [Fp,dT,w64,e1,Va,e0,I1a]
   unfold Jia
   refine H9b (λ h=>?_) (λ h=>?_)
   ·rw[h,cond_true]
    exact ih _ (by rw[Wb];omega) (by rw[Wb];omega)
   ·rw[h,cond_false]
    exact H3b rfl
 have n0:([]:List ByteArray).length=0:=rfl
 have n1:([s]:List ByteArray).length=1:=rfl
 have nl:(l++[s]).length=l.length+1:=by simp
 refine H5b rfl (Hbb (by rw[n0];omega) ?_)
 simp only[Vx]
 refine Hbb (by rw[n1];omega) ?_
 rw[nl,w64 (n:=((l.length+1:Nat):Int)-1) (by omega) (by omega),show ((l.length+1:Nat):Int)-1=(l.length:Int) by omega]
 refine Hfb (loop l.length (l++[s]) (by omega) (by omega)) ?_
 obtain⟨i1,i2,_⟩:=Cia l.length (l++[s]) s
 simp (disch:=omega) only [dT,Va]
 exact H3b rfl

abbrev Evt:=Int×Int×ByteArray×List Int×Int×List Int
def Atb (e:Evt):Prop:=Mo e.2.2.1∧e.2.2.2.1.length≤1000000000∧(-9223372036854775808≤e.2.2.2.2.1∧e.2.2.2.2.1≤9223372036854775807)∧e.2.2.2.2.2.length≤4000000000000
def Um (l:List Int):List Bool:=l.map (· == 1)
def crN (n:Nod) (kp:List Bool):Nod:=(n.1,Ro n.2.1 kp,n.2.2)
def Fdb {n:Nod} {kp:List Bool} (hn:NG n):NG (crN n kp):=G5a hn (Lla hn.g)
def Qha (w:Wld) (i:Nat) (s:ByteArray) (b:Int):Bool×Wld:=bif (Cza (w.2.2.1.getD i Bb) s b).2 then (true,(w.1,w.2.1,w.2.2.1.set i (Cza (w.2.2.1.getD i Bb) s b).1,w.2.2.2.1,w.2.2.2.2.1,spl w.2.2.2.2.2 s)) else (false,w)
def Pi (w:Wld) (e:Evt) (i:Nat):Bool×Wld:=
 bif e.1==3 then Cna w i e.2.2.1 e.2.2.2.2.2 else bif e.1==4 then Coa w i e.2.2.2.2.2 else bif e.1==5 then Cpa w i e.2.2.2.2.2 else
 bif e.1==6 then (true,wN w (w.2.2.1.set i (Ggb (w.2.2.1.getD i Bb)).1)) else
 bif e.1==7 then (true,wN w (w.2.2.1.set i (crN (w.2.2.1.getD i Bb) (Um e.2.2.2.2.2)))) else Qha w i e.2.2.1 e.2.2.2.2.1
def Vka (w:Wld) (e:Evt) (i:Nat) (hei:e.2.1=(i:Int)) (he:Atb e) (hr:Il w.2.1 w.1=true) (hn:NS w.2.2.1) (hi:i<w.2.2.1.length) (hsp:w.2.2.2.2.2.length≤2000000):
  Tot (λ k=>B6 k w e) (λ r=>r=Pi w e i):=by
 have hni:=hn.get hi
 have e0:w.2.2.1.getD i ((0:Int),(([],[]),([],[])))=w.2.2.1.getD i Bb:=rfl
 obtain⟨he1,he2,he3,he4⟩:=he
 unfold B6 Pi
 cases e.1==3 with
 |true=>
  rw[hei]
  refine H6b rfl (Hfb (Z7a w i _ _ hr hn hi) ?_)
  exact H3b rfl
 |false=>
  refine H5b rfl ?_
  cases e.1==4 with
  |true=>
   rw[hei]
   refine H6b rfl (Hfb (Vga w i _ (Mn hr) hn hi) ?_)
   exact H3b rfl
  |false=>
   refine H5b rfl ?_
   cases e.1==5 with
   |true=>
    rw[hei]
    refine H6b rfl (Hfb (Vha w i _ (Mn hr) hn hi) ?_)
    exact H3b rfl
   |false=>
    refine H5b rfl ?_
    cases e.1==6 with
    |true=>
     refine H6b rfl ?_
     simp (disch:=omega) only [hei,dT,Va,e0]
     refine Hfb (Uza _ hni.g) ?_
     exact H3b rfl
    |false=>
     refine H5b rfl ?_
     cases e.1==7 with
     |true=>
      refine H6b rfl (H4b (Q:=λ r=>r=(Um e.2.2.2.2.2,w,e)) ?_ ?_)
      ·refine Hcb (L:=λ k j (s:List Bool)=>Dr k s j w e) (Q:=λ r=>r=(Um e.2.2.2.2.2,w,e)) e.2.2.2.2.2.length (λ j s=>s=Um (e.2.2.2.2.2.take j)) ?_ ?_ 0 [] (Vo _) rfl
       ·rintro s rfl
        simp (disch:=omega) only [Dr,dF]
        exact H3b (by rw[Yo])
       ·rintro j s hj rfl next
        simp (disch:=omega) only [Dr,dT,Va,w64]
        have hk:(Um (e.2.2.2.2.2.take j)).length=j:=by unfold Um;rw[Wf,Vs];omega
        refine Hbb (by rw[hk,Hrb];omega) (next _ ?_)
        unfold Um
        rw[Wk hj,Hsb,Vc,Vk hj]
        rfl
      ·rintro r rfl
       simp (disch:=omega) only [hei,dT,Va,e0]
       refine Hfb (Uxa _ _ hni.g (by unfold Um;rw[Wf];exact he4)) ?_
       exact H3b rfl
     |false=>
      refine H5b rfl ?_
      simp (disch:=omega) only [hei,dT,Va,e0]
      refine Hfb (Lha _ _ _ (Ug hni) he3.2 he3.1) ?_
      unfold Qha
      rw[cond_false,cond_false,cond_false,cond_false,cond_false]
      generalize Cza (w.2.2.1.getD i Bb) e.2.2.1 e.2.2.2.2.1=q
      cases h:q.2 with
      |true=>
       refine H6b rfl (Hfb (Vja _ _ (by omega)) ?_)
       exact H3b rfl
      |false=>exact H5b rfl (H3b rfl)
def Un (w:Wld) (i wt:Int):Bool×Wld:=bif !(inR i 0 ((w.1.length:Int)-1)) then (false,w) else bif !(inR wt 1 1000) then (false,w) else
 (decide ((Fya w.2.1 (wgt w.1 i.toNat wt)).2≥0),(wgt w.1 i.toNat wt,(Fya w.2.1 (wgt w.1 i.toNat wt)).1,w.2.2))
def Vla (w:Wld) (i wt:Int) (hr:Il w.2.1 w.1=true):Tot (λ k=>Ie k w i wt) (λ r=>r=Un w i wt):=by
 have h12:=(Cu.1 (B1.1 hr).1).2.2.2
 unfold Ie Un
 rw[w64 (n:=(w.1.length:Int)-1) (by omega) (by omega)]
 simp only[Pr,Vn]
 cases h1:inR i 0 ((w.1.length:Int)-1)
 ·exact H6b rfl (H3b rfl)
 refine H5b rfl ?_
 cases h2:inR wt 1 1000
 ·exact H6b rfl (H3b rfl)
 refine H5b rfl ?_
 obtain⟨i0,i1⟩:=Cf.1 h1
 obtain⟨w0,w1⟩:=Cf.1 h2
 simp (disch:=omega) only [dT]
 refine Hfb (Una (r:=w.2.1) (l:=wgt w.1 i.toNat wt) (Wy hr (by omega) w0 w1)) ?_
 exact H3b rfl
def J7a (r:Int×Wld):Bool×Wld:=bif r.1 != 2 then (r.1 != 3,r.2) else (false,r.2)
def doW (w:Wld) (e:Evt):Bool×Wld:=
 bif e.1==1 then J7a (ask w e.2.2.1 ((0,0,0),false,e.2.2.2.1) e.2.2.2.2.1 e.2.2.2.2.2) else
 bif e.1==2 then J7a (ask w e.2.2.1 ((0,0,0),true,[]) e.2.2.2.2.1 e.2.2.2.2.2) else
 bif e.1==3||(e.1==4||(e.1==5||(e.1==6||(e.1==7||e.1==8)))) then (bif inR e.2.1 0 ((w.2.2.1.length:Int)-1) then Pi w e e.2.1.toNat else (false,w)) else
 bif e.1==9 then Un w e.2.1 e.2.2.2.2.1 else (false,w)
def Feb (w:Wld) (e:Evt) (he:Atb e) (hr:Il w.2.1 w.1=true) (hn:NS w.2.2.1) (hst:Ga w.2.2.2.1=true) (hw:w.2.2.2.2.1.length≤2000000) (hsp:w.2.2.2.2.2.length≤2000000):
  Tot (λ k=>Js k w e) (λ r=>r=doW w e):=by
 have hnl:=hn.1
 have node:∀ {f:Nat→Option (Bool×Wld)} ,Tot (λ k=>(A9 e.2.1 0 (wrap .i64 ((length w.2.2.1:Int)-1))).bind λ r4=>cond r4 ((B6 k w e).bind λ r5=>some (r5.1,r5.2)) (some (false,w))) (λ r=>r=bif inR e.2.1 0 ((w.2.2.1.length:Int)-1) then Pi w e e.2.1.toNat else (false,w)):=by
  intro f
  rw[w64 (n:=(w.2.2.1.length:Int)-1) (by omega) (by omega)]
  simp only[Pr,Vn]
  cases h1:inR e.2.1 0 ((w.2.2.1.length:Int)-1)
  ·exact H5b rfl (H3b rfl)
  obtain⟨i0,i1⟩:=Cf.1 h1
  refine H6b rfl (Hfb (Vka w e e.2.1.toNat (by omega) he hr hn (by omega) hsp) ?_)
  exact H3b rfl
 have answer:∀ (q:Int×Wld),Tot (λ _=>cond (q.1 != 2) (some (q.1 != 3,q.2)) (some (false,q.2))) (λ r=>r=J7a q):=by
  intro q
  unfold J7a
  cases q.1 != 2<;>exact H3b rfl
 unfold Js doW
 cases e.1==1 with
 |true=>
  refine H6b rfl (Hbb (by have:=he.2.1;rw[Vj];omega) (Hfb (Vca w e.2.2.1 ((0,0,0),false,e.2.2.2.1) e.2.2.2.2.1 e.2.2.2.2.2 hr hn hst he.1 (λ h=>by cases h) hw) ?_))
  exact answer _
 |false=>
  refine H5b rfl ?_
  cases e.1==2 with
  |true=>
   refine H6b rfl (Hfb (Vca w e.2.2.1 ((0,0,0),true,[]) e.2.2.2.2.1 e.2.2.2.2.2 hr hn hst he.1 (λ _=>rfl) hw) ?_)
   exact answer _
  |false=>
   refine H5b rfl ?_
   cases e.1==3
   case true=>exact H6b rfl (node (f:=λ _=>none))
   refine H5b rfl ?_
   cases e.1==4
   case true=>exact H6b rfl (node (f:=λ _=>none))
   refine H5b rfl ?_
   cases e.1==5
   case true=>exact H6b rfl (node (f:=λ _=>none))
   refine H5b rfl ?_
   cases e.1==6
   case true=>exact H6b rfl (node (f:=λ _=>none))
   refine H5b rfl ?_
   cases e.1==7
   case true=>exact H6b rfl (node (f:=λ _=>none))
   refine H5b rfl ?_
   cases e.1==8
   case true=>exact H6b rfl (node (f:=λ _=>none))
   refine H5b rfl ?_
   cases e.1==9 with
   |true=>
    refine H6b rfl (Hfb (Vla w _ _ hr) ?_)
    exact H3b rfl
   |false=>exact H5b rfl (H3b rfl)

def Efa {a b c:Stp} (h1:sle a b=false) (h2:sle b c=false):sle a c=false:=by
 cases h:sle a c
 ·rfl
 have n1:¬ _:=λ k=>by rw[Sp.2 k]at h1;cases h1
 have n2:¬ _:=λ k=>by rw[Sp.2 k]at h2;cases h2
 have h3:=Sp.1 h
 omega
def X5 {a b:Stp} (h:sle a b=true):sle b a=false:=by
 cases h':sle b a
 ·rfl
 have h1:=Sp.1 h
 have h2:=Sp.1 h'
 omega
def Gia (ws:List Wri):Prop:=∀ x∈ws,B2 x.1=true∧F8 x.2.1=true∧Ao x.2.1.2.2
def IsW (ws:List Wri) (s:ByteArray) (f:Fil):Prop:=∃ x∈ws,x.1=s∧x.2.1=f
def EO (ws:List Wri) (sp:List ByteArray) (s:ByteArray) (b:List Int):Prop:=∃ f,IsW ws s f∧(b=Mv f∨(s∈sp∧∃ n,n<8*(Mv f).length∧b=O3 (Mv f) n))
def ED (ws:List Wri) (sp:List ByteArray) (d:Dsk) (s:ByteArray):Prop:=
 (∀ b,gt d.1 s=some b→EO ws sp s b)∧(∀ b,gt d.2 s=some b→EO ws sp s b)∧
 (s∉sp→∀ b f,gt d.2 s=some b→On b=some f→∃ b' f',gt d.1 s=some b'∧On b'=some f'∧sle f'.1 f.1=false)
def DI (ws:List Wri) (sp:List ByteArray) (d:Dsk):Prop:=∀ s,ED ws sp d s
def HD (d:Dsk) (s:ByteArray) (st:Stp):Prop:=∃ b f,gt d.2 s=some b∧On b=some f∧sle f.1 st=false
def MO (sp:List ByteArray) (d d':Dsk):Prop:=∀ s,s∉sp→∀ st,HD d s st→HD d' s st
def IsW.good {ws:List Wri} (hw:Gia ws) {s:ByteArray} {f:Fil} (h:IsW ws s f):B2 s=true∧F8 f=true∧Ao f.2.2:=by
 obtain⟨x,hx,rfl,rfl⟩:=h
 exact hw x hx
def EO.get {ws:List Wri} {sp:List ByteArray} (hw:Gia ws) {s:ByteArray} {b:List Int} (h:EO ws sp s b) {f:Fil} (hf:On b=some f):IsW ws s f∧b=Mv f:=by
 obtain⟨g,h1,h2⟩:=h
 obtain⟨_,g2,g3⟩:=h1.good hw
 rcases h2 with rfl|⟨_,n,hn,rfl⟩
 ·rw[Ara g2 g3]at hf
  cases hf
  exact⟨h1,rfl⟩
 ·rw[Yna g2 hn]at hf;cases hf
def EO.fine {ws:List Wri} {sp:List ByteArray} (hw:Gia ws) {s:ByteArray} {b:List Int} (h:EO ws sp s b) (hs:s∉sp):∃ f,On b=some f∧IsW ws s f:=by
 obtain⟨g,h1,h2⟩:=h
 obtain⟨_,g2,g3⟩:=h1.good hw
 rcases h2 with rfl|⟨h,_⟩
 ·exact⟨g,Ara g2 g3,h1⟩
 ·exact absurd h hs
def EO.mono {ws ws':List Wri} {sp sp':List ByteArray} (h1:∀ x∈ws,x∈ws') (h2:∀ s∈sp,s∈sp') {s:ByteArray} {b:List Int} (h:EO ws sp s b):EO ws' sp' s b:=by
 obtain⟨g,⟨x,hx,e⟩,h3⟩:=h
 refine⟨g,⟨x,h1 x hx,e⟩,?_⟩
 rcases h3 with h3|⟨h3,h4⟩
 ·exact .inl h3
 ·exact .inr ⟨h2 s h3,h4⟩
def ED.mono {ws ws':List Wri} {sp sp':List ByteArray} (h1:∀ x∈ws,x∈ws') (h2:∀ s∈sp,s∈sp') {d:Dsk} {s:ByteArray} (h:ED ws sp d s):ED ws' sp' d s:=
 ⟨λ b hb=>(h.1 b hb).mono h1 h2,λ b hb=>(h.2.1 b hb).mono h1 h2,λ hs=>h.2.2 (λ c=>hs (h2 s c))⟩
def DI.mono {ws ws':List Wri} {sp sp':List ByteArray} (h1:∀ x∈ws,x∈ws') (h2:∀ s∈sp,s∈sp') {d:Dsk} (h:DI ws sp d):DI ws' sp' d:=λ s=>(h s).mono h1 h2
def ED.same {ws:List Wri} {sp:List ByteArray} {d d':Dsk} {s:ByteArray} (h:ED ws sp d s) (e1:gt d'.1 s=gt d.1 s) (e2:gt d'.2 s=gt d.2 s):ED ws sp d' s:=by
 unfold ED
 rw[e1,e2]
 exact h
def HD.same {d d':Dsk} {s:ByteArray} {st:Stp} (h:HD d s st) (e2:gt d'.2 s=gt d.2 s):HD d' s st:=by
 unfold HD
 rw[e2]
 exact h
def MO.refl (sp:List ByteArray) (d:Dsk):MO sp d d:=λ _ _ _ h=>h
def MO.trans {sp:List ByteArray} {a b c:Dsk} (h1:MO sp a b) (h2:MO sp b c):MO sp a c:=λ s hs st h=>h2 s hs st (h1 s hs st h)
def Vma {s:ByteArray} {st:Stp} {n:Nod}:Lwa s st n=true↔HD n.2.1 s st:=by
 unfold Lwa HD
 cases h:gt n.2.1.2 s with
 |none=>exact⟨λ c=>(by cases c),λ ⟨b,f,c,_⟩=>(by cases c)⟩
 |some b=>
  dsimp only
  cases h2:On b with
  |none=>exact⟨λ c=>(by cases c),λ ⟨b',f,c,c2,_⟩=>(by cases c;rw[h2]at c2;cases c2)⟩
  |some f=>
   dsimp only
   rw[Vw]
   exact⟨λ c=>⟨b,f,rfl,h2,c⟩,λ ⟨b',f',c,c2,c3⟩=>(by cases c;rw[h2]at c2;cases c2;exact c3)⟩
section
variable {ws:List Wri} {sp:List ByteArray} {d:Dsk} {s:ByteArray}
def ED.ge (h:ED ws sp d s) (hs:s∉sp) {st:Stp} (hh:HD d s st):∃ b f,gt d.1 s=some b∧On b=some f∧sle f.1 st=false:=by
 obtain⟨b,f,h1,h2,h3⟩:=hh
 obtain⟨b',f',h4,h5,h6⟩:=h.2.2 hs b f h1 h2
 exact⟨b',f',h4,h5,Efa h6 h3⟩
def Czb (hd:B8 d=true) (h:DI ws sp d):DI ws sp (d.1,sy d s):=by
 intro t
 by_cases ht:s=t
 ·subst ht
  have e:gt (sy d s) s=gt d.1 s:=by rw[Lfa hd,if_pos rfl]
  refine⟨(h s).1,λ b hb=>(h s).1 b (by rw[← e];exact hb),λ hs b f hb hf=>⟨b,f,by rw[← e];exact hb,hf,N1 _⟩⟩
 ·exact(h t).same rfl (by show gt (sy d s) t=_;rw[Lfa hd,if_neg ht])
def Ffb (hd:B8 d=true) (h:DI ws sp d):MO sp d (d.1,sy d s):=by
 intro t ht st hh
 by_cases hst:s=t
 ·subst hst
  obtain⟨b,f,h1,h2,h3⟩:=(h s).ge ht hh
  exact⟨b,f,by show gt (sy d s) s=_;rw[Lfa hd,if_pos rfl,h1],h2,h3⟩
 ·exact hh.same (by show gt (sy d s) t=_;rw[Lfa hd,if_neg hst])
def Glb (hw:Gia ws) (hd:B8 d=true) (h:DI ws sp d) {f:Fil} (hf:IsW ws s f) (hn:∀ o,old d s=some o→sle o.1 f.1=true):DI ws sp (wr d.1 s (Mv f),d.2):=by
 intro t
 by_cases ht:s=t
 ·subst ht
  have e:gt (wr d.1 s (Mv f)) s=some (Mv f):=by rw[Lea (N9 hd),if_pos rfl]
  obtain⟨_,g2,g3⟩:=hf.good hw
  refine⟨λ b hb=>?_,(h s).2.1,λ hs b g hb hg=>⟨Mv f,f,e,Ara g2 g3,?_⟩⟩
  ·rw[show gt (wr d.1 s (Mv f)) s=some b from hb]at e
   cases e
   exact⟨f,hf,.inl rfl⟩
  ·obtain⟨b',f',k1,k2,k3⟩:=(h s).2.2 hs b g hb hg
   have:=hn f' (by unfold old;rw[k1];exact k2)
   exact Efa (X5 this) k3
 ·exact(h t).same (by show gt (wr d.1 s (Mv f)) t=_;rw[Lea (N9 hd),if_neg ht]) rfl
def Vna (hw:Gia ws) (hd:DG d) (h:DI ws sp d) {f:Fil} {sure:Bool} (hf:IsW ws s f):DI ws sp (keep d s f sure).1∧MO sp d (keep d s f sure).1:=by
 obtain⟨g1,g2,g3⟩:=hf.good hw
 rw[Ila hd.1 g1 g2]
 rcases Eca (f:=f) (sure:=sure) hd g1 with k|⟨o,_,_,k,hg,h3⟩|⟨h1,h2,k,hg,h3⟩
 ·rw[k];exact⟨h,MO.refl _ _⟩
 ·rcases h3 with⟨_,h3⟩|⟨_,h3⟩
  ·rw[h3];exact⟨h,MO.refl _ _⟩
  ·rw[h3];exact⟨Czb hd.1 h,Ffb hd.1 h⟩
 ·have hw':=Glb hw hd.1 h hf h1
  rcases h3 with⟨_,h3⟩|⟨_,h3⟩
  ·rw[h3];exact⟨hw',λ t _ st hh=>hh.same rfl⟩
  ·rw[h3];exact⟨Czb h2.1 hw',(show MO sp d (wr d.1 s (Mv f),d.2) from λ t _ st hh=>hh.same rfl).trans (Ffb h2.1 hw')⟩
def Voa (hw:Gia ws) (hd:DG d) {f:Fil} (hf:IsW ws s f) (hc:(keep d s f true).2=0∨(keep d s f true).2=1):HD (keep d s f true).1 s f.1:=by
 obtain⟨g1,g2,g3⟩:=hf.good hw
 rw[Ila hd.1 g1 g2]at hc ⊢
 obtain⟨o,g,b,ho,_,e,h1,h2,h3⟩:=Uba hd g1 g2 g3 hc
 rw[e]
 exact⟨b,g,by show gt (sy o s) s=_;rw[Lfa ho.1,if_pos rfl,h1],h2,h3⟩
def D0b (hd:DG d) (h:DI ws sp d) (kp:List Bool):DI ws sp (Ro d kp):=by
 intro t
 rcases Uua (d:=d) (kp:=kp) t with e|⟨e1,e2⟩
 ·rw[e];exact h t
 ·unfold ED
  rw[e1]
  have eo:∀ b,gt (Ro d kp).1 t=some b→EO ws sp t b:=by
   intro b hb
   rcases e2 with e2|e2
   ·exact(h t).1 b (by rw[← e2];exact hb)
   ·exact(h t).2.1 b (by rw[← e2];exact hb)
  exact⟨eo,eo,λ _ b f hb hf=>⟨b,f,hb,hf,N1 _⟩⟩
def D1b (hd:DG d) (h:DI ws sp d) (kp:List Bool):MO sp d (Ro d kp):=by
 intro t ht st hh
 rcases Uua (d:=d) (kp:=kp) t with e|⟨e1,e2⟩
 ·rw[e];exact hh
 ·unfold HD
  rw[e1]
  rcases e2 with e2|e2
  ·rw[e2];exact(h t).ge ht hh
  ·rw[e2];exact hh
def Z8a (hw:Gia ws) (hd:DG d) (h:DI ws sp d):DI ws sp (Nx d).1∧MO sp d (Nx d).1:=by
 obtain⟨_,hc⟩:=Cha d.1 (d,0) hd
 have hc':∀ t,(t∈Gha d.1→gt (Nx d).1.1 t=none∧gt (Nx d).1.2 t=none)∧(t∉Gha d.1→gt (Nx d).1.1 t=gt d.1 t∧gt (Nx d).1.2 t=gt d.2 t):=hc
 have hb:∀ t,t∈Gha d.1→t∈sp:=by
  intro t ht
  obtain⟨b,h1,h2⟩:=(Yqa hd.1).1 ht
  by_cases hs:t∈sp
  ·exact hs
  ·obtain⟨f,hf,_⟩:=((h t).1 b h1).fine hw hs
   rw[hf]at h2;cases h2
 constructor
 ·intro t
  by_cases ht:t∈Gha d.1
  ·obtain⟨e1,e2⟩:=(hc' t).1 ht
   unfold ED
   rw[e1,e2]
   exact⟨λ b hb=>(by cases hb),λ b hb=>(by cases hb),λ _ b f hb=>(by cases hb)⟩
  ·obtain⟨e1,e2⟩:=(hc' t).2 ht
   exact(h t).same e1 e2
 ·intro t ht st hh
  exact hh.same ((hc' t).2 (λ c=>ht (hb t c))).2
def Fgb (hd:DG d) (h:DI ws sp d) (hs:B2 s=true):DI ws sp (syD (rmD d s).1 s).1∧∀ t,t≠s→∀ st,HD d t st→HD (syD (rmD d s).1 s).1 t st:=by
 have hr:DI ws sp (rmD d s).1∨True := .inr trivial
 unfold rmD
 cases hg:gt d.1 s with
 |none=>
  have e:(bif (none:Option (List Int)).isSome then ((cut d.1 s,d.2),true) else (d,false)).1=d:=rfl
  rw[e]
  unfold syD
  by_cases hl:(sy d s).length≤60
  ·rw[decide_eq_true hl]
   exact⟨Czb hd.1 h,λ t ht st hh=>hh.same (by show gt (sy d s) t=_;rw[Lfa hd.1,if_neg (Ivb ht)])⟩
  ·rw[decide_eq_false hl];exact⟨h,λ t ht st hh=>hh⟩
 |some b=>
  have e:(bif (some b:Option (List Int)).isSome then ((cut d.1 s,d.2),true) else (d,false)).1=(cut d.1 s,d.2):=rfl
  rw[e]
  have hd':B8 (cut d.1 s,d.2)=true:=E8.2 ⟨Z4 (E8.1 hd.1).1,(E8.1 hd.1).2⟩
  have e1:∀ t,gt (cut d.1 s) t=if s=t then none else gt d.1 t:=λ t=>Wu (N9 hd.1)
  have e2:∀ t,gt (sy (cut d.1 s,d.2) s) t=if s=t then none else gt d.2 t:=λ t=>by
   rw[Lfa hd']
   by_cases hst:s=t
   ·rw[if_pos hst,if_pos hst];show gt (cut d.1 s) s=none;rw[e1,if_pos rfl]
   ·rw[if_neg hst,if_neg hst]
  have hlen:(sy (cut d.1 s,d.2) s).length≤60:=by
   have:sy (cut d.1 s,d.2) s=cut d.2 s:=by
    unfold sy
    have:=e1 s
    rw[if_pos rfl]at this
    rw[show gt (cut d.1 s,d.2).1 s=none from this]
   rw[this]
   exact Zl Pt.length_le (Am.1 (E8.1 hd.1).2).2.2
  unfold syD
  rw[decide_eq_true hlen]
  constructor
  ·intro t
   show ED ws sp (cut d.1 s,sy (cut d.1 s,d.2) s) t
   by_cases hst:s=t
   ·unfold ED
    dsimp only
    rw[e1,e2,if_pos hst,if_pos hst]
    exact⟨λ b hb=>(by cases hb),λ b hb=>(by cases hb),λ _ b f hb=>(by cases hb)⟩
   ·exact(h t).same (by show gt (cut d.1 s) t=_;rw[e1,if_neg hst]) (by show gt (sy (cut d.1 s,d.2) s) t=_;rw[e2,if_neg hst])
  ·intro t ht st hh
   exact hh.same (by show gt (sy (cut d.1 s,d.2) s) t=_;rw[e2,if_neg (Ivb ht)])
def Fhb (hw:Gia ws) (hd:DG d) (h:DI ws sp d) {n:Int} (hl:(lkD d s).2=0) (hr:(Cya d s n).2=true) (sp':List ByteArray) (hsp:∀ t,t∈sp'↔t=s∨t∈sp):DI ws sp' (Cya d s n).1∧MO sp' d (Cya d s n).1∧∃ f,IsW ws s f:=by
 obtain⟨b,hb,hf⟩:=Qw.1 (show lkD d s=((lkD d s).1,0) by rw[← hl])
 obtain⟨hW,e⟩:=((h s).1 b hb).get hw hf
 have hsub:∀ t∈sp,t∈sp':=λ t ht=>(hsp t).2 (.inr ht)
 generalize (lkD d s).1=f at *
 unfold Cya at hr ⊢
 rw[hb]at hr ⊢
 dsimp only at hr ⊢
 cases hin:inR n 0 (8*(b.length:Int)-1)
 ·rw[hin]at hr;cases hr
 rw[cond_true]
 obtain⟨n0,n1⟩:=Cf.1 hin
 have hn:n.toNat<8*(Mv f).length:=by rw[← e];omega
 have e1:∀ t,gt (wr d.1 s (O3 b n.toNat)) t=if s=t then some (O3 b n.toNat) else gt d.1 t:=λ t=>Lea (N9 hd.1)
 have e2:∀ t,gt (bif decide (gt d.2 s=some b) then wr d.2 s (O3 b n.toNat) else d.2) t=if s=t∧gt d.2 s=some b then some (O3 b n.toNat) else gt d.2 t:=by
  intro t
  by_cases hg:gt d.2 s=some b
  ·rw[decide_eq_true hg,cond_true,Lea (Pu hd.1)]
   by_cases hst:s=t
   ·rw[if_pos hst,if_pos ⟨hst,hg⟩]
   ·rw[if_neg hst,if_neg (λ c=>hst c.1)]
  ·rw[decide_eq_false hg,cond_false,if_neg (λ c=>hg c.2)]
 have hflip:EO ws sp' s (O3 b n.toNat):=⟨f,hW,.inr ⟨(hsp s).2 (.inl rfl),n.toNat,hn,by rw[e]⟩⟩
 refine⟨λ t=>?_,λ t ht st hh=>?_,f,hW⟩
 ·by_cases hst:s=t
  ·subst hst
   refine⟨λ x hx=>?_,λ x hx=>?_,λ c=>absurd ((hsp s).2 (.inl rfl)) c⟩
   ·have:=e1 s
    rw[if_pos rfl]at this
    rw[show gt (wr d.1 s (O3 b n.toNat)) s=some x from hx]at this
    cases this
    exact hflip
   ·have:=e2 s
    rw[show gt (bif decide (gt d.2 s=some b) then wr d.2 s (O3 b n.toNat) else d.2) s=some x from hx]at this
    by_cases hg:gt d.2 s=some b
    ·rw[if_pos ⟨rfl,hg⟩]at this
     cases this
     exact hflip
    ·rw[if_neg (λ c=>hg c.2)]at this
     exact((h s).2.1 x this.symm).mono (λ _ h=>h) hsub
  ·refine((h t).mono (λ _ h=>h) hsub).same ?_ ?_
   ·show gt (wr d.1 s (O3 b n.toNat)) t=_
    rw[e1,if_neg hst]
   ·show gt (bif decide (gt d.2 s=some b) then wr d.2 s (O3 b n.toNat) else d.2) t=_
    rw[e2,if_neg (λ c=>hst c.1)]
 ·have hst:s≠t:=λ c=>ht ((hsp t).2 (.inl c.symm))
  exact hh.same (by show gt (bif decide (gt d.2 s=some b) then wr d.2 s (O3 b n.toNat) else d.2) t=_;rw[e2,if_neg (λ c=>hst c.1)])
end

def NI (ws:List Wri) (sp:List ByteArray) (n:Nod):Prop:=NG n∧DI ws sp n.2.1∧(∀ r∈n.2.2.1,Qe ws r=true)∧∀ r∈n.2.2.2,Qe ws r=true
def KN (ns:List Nod) (s:ByteArray) (st:Stp):Prop:=∃ i,i<ns.length∧HD (ns.getD i Bb).2.1 s st
def MS (sp:List ByteArray) (ns ns':List Nod):Prop:=∀ s,s∉sp→∀ st,KN ns s st→KN ns' s st
def Cra {ws:List Wri} {r:Row}:Qe ws r=true↔∃ x∈ws,Ww x.1 x.2.1=r:=by
 unfold Qe
 rw[Hkb]
 exact⟨λ ⟨x,h1,h2⟩=>⟨x,h1,J5a.1 h2⟩,λ ⟨x,h1,h2⟩=>⟨x,h1,J5a.2 h2⟩⟩
def Ega {ws ws':List Wri} (h:∀ x∈ws,x∈ws') {r:Row} (hr:Qe ws r=true):Qe ws' r=true:=by
 obtain⟨x,h1,h2⟩:=Cra.1 hr
 exact Cra.2 ⟨x,h x h1,h2⟩
def Z9a {ws:List Wri} {s:ByteArray} {f:Fil} (h:IsW ws s f):Qe ws (Ww s f)=true:=by
 obtain⟨x,h1,rfl,rfl⟩:=h
 exact Cra.2 ⟨x,h1,rfl⟩
def NI.mono {ws ws':List Wri} {sp sp':List ByteArray} (h1:∀ x∈ws,x∈ws') (h2:∀ s∈sp,s∈sp') {n:Nod} (h:NI ws sp n):NI ws' sp' n:=
 ⟨h.1,h.2.1.mono h1 h2,λ r hr=>Ega h1 (h.2.2.1 r hr),λ r hr=>Ega h1 (h.2.2.2 r hr)⟩
def NR (ws:List Wri) (sp:List ByteArray) (ns ns':List Nod):Prop:=(∀ n∈ns',NI ws sp n)∧ns'.map (·.1)=ns.map (·.1)∧MS sp ns ns'
def NR.refl {ws:List Wri} {sp:List ByteArray} {ns:List Nod} (h:∀ n∈ns,NI ws sp n):NR ws sp ns ns:=⟨h,rfl,λ _ _ _ h=>h⟩
def NR.len {ws:List Wri} {sp:List ByteArray} {ns ns':List Nod} (h:NR ws sp ns ns'):ns'.length=ns.length:=by
 have:=congrArg length h.2.1
 rwa [Wf,Wf]at this
def Ol {α:Type} {l:List α} {i j:Nat} {x d:α} (hj:j<l.length):(l.set i x).getD j d=if i=j then x else l.getD j d:=by
 rw[Vc,List.getElem?_set]
 by_cases h:i=j
 ·subst h
  rw[if_pos rfl,if_pos rfl,if_pos hj]
  rfl
 ·rw[if_neg h,if_neg h,Vc]
def Lza {ns:List Nod} {i:Nat} {n:Nod} (hi:i<ns.length) (h:n.1=(ns.getD i Bb).1):(ns.set i n).map (·.1)=ns.map (·.1):=by
 refine K5b (by simp) (λ j h1 h2=>?_)
 rw[Wf,Wb]at h1
 rw[Jfb,Jfb,K6b]
 by_cases hij:i=j
 ·subst hij
  rw[if_pos rfl,h,Vc,Vk hi]
  rfl
 ·rw[if_neg hij]
def NR.set {ws:List Wri} {sp:List ByteArray} {ns ns':List Nod} (h:NR ws sp ns ns') {i:Nat} (hi:i<ns'.length) {n:Nod} (h1:NI ws sp n) (h2:n.1=(ns'.getD i Bb).1) (h3:MO sp (ns'.getD i Bb).2.1 n.2.1):NR ws sp ns (ns'.set i n):=by
 obtain⟨g1,g2,g3⟩:=h
 refine⟨λ m hm=>?_,by rw[Lza hi h2,g2],λ s hs st hk=>?_⟩
 ·rcases Yk hm with hm|rfl
  ·exact g1 m hm
  ·exact h1
 ·obtain⟨j,hj,hd⟩:=g3 s hs st hk
  refine⟨j,by rw[Wb];exact hj,?_⟩
  rw[Ol hj]
  by_cases hij:i=j
  ·subst hij;rw[if_pos rfl];exact h3 s hs st hd
  ·rw[if_neg hij];exact hd
section
variable {ws:List Wri} {sp:List ByteArray} {n:Nod} {s:ByteArray} {f:Fil}
def D2b (hw:Gia ws) (h:NI ws sp n) (hf:IsW ws s f) (sure:Bool):NI ws sp (Tz n s f sure).1∧(Tz n s f sure).1.1=n.1∧MO sp n.2.1 (Tz n s f sure).1.2.1:=by
 obtain⟨g1,g2,g3⟩:=hf.good hw
 obtain⟨h1,h2,h3,h4⟩:=h
 have hg:=Uca (sure:=sure) h1 g1 g2
 obtain⟨k1,k2⟩:=Vna (sure:=sure) hw h1.g h2 hf
 unfold Tz at hg ⊢
 cases hq:(n.2.2.2.length:Int)==60
 case true=>exact⟨⟨h1,h2,h3,h4⟩,rfl,MO.refl _ _⟩
 rw[hq]at hg
 refine⟨⟨hg,k1,h3,?_⟩,rfl,k2⟩
 show ∀ r∈bif (keep n.2.1 s f sure).2==0&&sure then n.2.2.2++[Ww s f] else n.2.2.2,Qe ws r=true
 cases (keep n.2.1 s f sure).2==0&&sure
 ·exact h4
 intro r hr
 rcases Vq.1 hr with hr|hr
 ·exact h4 r hr
 ·rw[Vu.1 hr];exact Z9a hf
def D3b (hw:Gia ws) (h:NI ws sp n) (hf:IsW ws s f) (hc:(Tz n s f true).2=0∨(Tz n s f true).2=1):HD (Tz n s f true).1.2.1 s f.1:=by
 unfold Tz at hc ⊢
 cases hq:((n.2.2.2.length:Int)==60) with
 |true=>rw[hq]at hc;rcases hc with hc|hc<;>cases hc
 |false=>rw[hq]at hc;exact Voa hw h.1.g hf hc
def Gmb (h:NI ws sp n) {l:List Row} (hl:M8 l=true) (hr:∀ r∈l,Qe ws r=true):NI ws sp (tk n l).2∧(tk n l).2.1=n.1∧(tk n l).2.2.1=n.2.1:=by
 obtain⟨h1,h2,h3,h4⟩:=h
 have hg:=Gjb h1 hl
 unfold tk at hg ⊢
 cases hq:decide ((X8 n.2.2.1 l).length > 60)
 case true=>exact⟨⟨h1,h2,h3,h4⟩,rfl,rfl⟩
 rw[hq]at hg
 exact⟨⟨hg,h2,λ r hr'=>(Nna hr').elim (h3 r) (hr r),h4⟩,rfl,rfl⟩
end
def Fib {ws:List Wri} {sp:List ByteArray} {ns:List Nod} {R:Int} {rc:List Int} {s:ByteArray} {f:Fil} {cs:List Int} {a:List Nod×Int×Int} {j:Nat} (hw:Gia ws) (hf:IsW ws s f)
  (h:NR ws sp ns a.1∧(s∉sp→a.2.2≥1→KN a.1 s f.1)∧a.2.2≥0) (hc:(cs.getD j 0).toNat<ns.length):
  NR ws sp ns (wst R rc s f cs a j).1∧(s∉sp→(wst R rc s f cs a j).2.2≥1→KN (wst R rc s f cs a j).1 s f.1)∧(wst R rc s f cs a j).2.2≥0:=by
 obtain⟨h1,h2,h3⟩:=h
 unfold wst
 cases decide (a.2.1<R)
 ·exact⟨h1,h2,h3⟩
 cases rch rc j==0
 case true=>exact⟨h1,h2,h3⟩
 rw[cond_true,cond_false]
 have hi:(cs.getD j 0).toNat<a.1.length:=by rw[h1.len];exact hc
 generalize (cs.getD j 0).toNat=i at *
 have hn:=h1.1 _ (A3 (d:=Bb) hi)
 obtain⟨p1,p2,p3⟩:=D2b hw hn hf (rch rc j != 3)
 refine⟨h1.set hi p1 p2 p3,λ hs hg=>?_,?_⟩
 ·cases hr:rch rc j==1&&((Tz (a.1.getD i Bb) s f (rch rc j != 3)).2==0||(Tz (a.1.getD i Bb) s f (rch rc j != 3)).2==1) with
  |true=>
   rw[Vb,Zz,beq_iff_eq,beq_iff_eq,beq_iff_eq]at hr
   have e:(rch rc j != 3)=true:=by rw[hr.1];rfl
   rw[e]at hr ⊢
   refine⟨i,by rw[Wb];exact hi,?_⟩
   rw[Ol hi,if_pos rfl]
   exact D3b hw hn hf hr.2
  |false=>
   rw[hr]at hg
   obtain⟨m,hm,hd⟩:=h2 hs hg
   refine⟨m,by rw[Wb];exact hm,?_⟩
   rw[Ol hm]
   by_cases hij:i=m
   ·subst hij;rw[if_pos rfl];exact p3 s hs _ hd
   ·rw[if_neg hij];exact hd
 ·dsimp only
  cases rch rc j==1&&((Tz (a.1.getD i Bb) s f (rch rc j != 3)).2==0||(Tz (a.1.getD i Bb) s f (rch rc j != 3)).2==1)
  ·exact h3
  ·rw[cond_true];omega
def Fjb {ws:List Wri} {sp:List ByteArray} {w:Wld} {rc:List Int} {s:ByteArray} {f:Fil} (hw:Gia ws) (hf:IsW ws s f) (hn:∀ n∈w.2.2.1,NI ws sp n):
  NR ws sp w.2.2.1 (wrN w s f rc).1∧(s∉sp→(wrN w s f rc).2.2≥1→KN (wrN w s f rc).1 s f.1)∧(wrN w s f rc).2.2≥0:=
 Np (λ _ (a:List Nod×Int×Int)=>NR ws sp w.2.2.1 a.1∧(s∉sp→a.2.2≥1→KN a.1 s f.1)∧a.2.2≥0) ⟨NR.refl hn,λ _ h=>absurd h (show ¬ (0:Int)≥1 by omega),Zr _⟩
  (λ j b hj hb=>Fib hw hf hb (by have:=Rp (A3 (d:=0) hj);omega))
def Fkb {ws:List Wri} {sp:List ByteArray} {ns:List Nod} {rc:List Int} {s:ByteArray} {f:Fil} {ps:List Int} {a:List Nod×Bool×Bool} {src j:Nat} (hw:Gia ws) (hf:IsW ws s f) (hsrc:src<ns.length)
  (h:NR ws sp ns a.1∧(a.2.1=false→a.1.getD src Bb=ns.getD src Bb∧(a.2.2=true→0<j→∃ i,i≠src∧i<ns.length∧HD (a.1.getD i Bb).2.1 s f.1))) (hc:(ps.getD j 0).toNat<ns.length) (hc0:0≤ps.getD j 0):
  NR ws sp ns (pst (src:Int) s f rc ps a j).1∧((pst (src:Int) s f rc ps a j).2.1=false→(pst (src:Int) s f rc ps a j).1.getD src Bb=ns.getD src Bb∧((pst (src:Int) s f rc ps a j).2.2=true→0<j+1→∃ i,i≠src∧i<ns.length∧HD ((pst (src:Int) s f rc ps a j).1.getD i Bb).2.1 s f.1)):=by
 obtain⟨h1,h2⟩:=h
 unfold pst
 cases hz:ps.getD j 0==(src:Int)
 case true=>exact⟨h1,λ c=>by cases c⟩
 have hne:(ps.getD j 0).toNat≠src:=by
  have:=beq_eq_false_iff_ne.1 hz
  omega
 cases hr:rch rc j != 1
 case true=>exact⟨h1,λ c=>⟨(h2 c).1,λ c'=>by cases c'⟩⟩
 rw[cond_false,cond_false]
 have hi:(ps.getD j 0).toNat<a.1.length:=by rw[h1.len];exact hc
 generalize (ps.getD j 0).toNat=i at *
 have hn:=h1.1 _ (A3 (d:=Bb) hi)
 obtain⟨k1,k2⟩:=Vna (sure:=true) hw hn.1.g hn.2.1 hf
 refine⟨h1.set hi ⟨Lya hn.1,k1,hn.2.2⟩ rfl k2,λ c=>⟨?_,λ c' _=>?_⟩⟩
 ·show (a.1.set i _).getD src Bb=_
  rw[Ol (by rw[h1.len];exact hsrc),if_neg hne]
  exact(h2 c).1
 ·refine⟨i,hne,hc,?_⟩
  show HD ((a.1.set i _).getD i Bb).2.1 s f.1
  rw[Ol hi,if_pos rfl]
  refine Voa hw hn.1.g hf ?_
  cases hk:(keep (a.1.getD i Bb).2.1 s f true).2 != 0&&(keep (a.1.getD i Bb).2.1 s f true).2 != 1 with
  |true=>
   have:(bif (keep (a.1.getD i Bb).2.1 s f true).2 != 0&&(keep (a.1.getD i Bb).2.1 s f true).2 != 1 then false else a.2.2)=true:=c'
   rw[hk]at this
   cases this
  |false=>
   rw[Kab,bne,bne,Wo,Wo,beq_iff_eq,beq_iff_eq]at hk
   exact hk
def Flb {ws:List Wri} {sp:List ByteArray} {w:Wld} {rc:List Int} {s:ByteArray} {i:Nat} (hw:Gia ws) (hn:∀ n∈w.2.2.1,NI ws sp n) (hi:i<w.2.2.1.length) (hf:IsW ws s (lkD (w.2.2.1.getD i Bb).2.1 s).1):
  NR ws sp w.2.2.1 (puN w i s rc).1∧((puN w i s rc).2.1=false→(puN w i s rc).1.getD i Bb=w.2.2.1.getD i Bb∧((puN w i s rc).2.2=true→0<(Ph w s).length→∃ j,j≠i∧j<w.2.2.1.length∧HD ((puN w i s rc).1.getD j Bb).2.1 s (lkD (w.2.2.1.getD i Bb).2.1 s).1.1)):=
 Np (λ n (a:List Nod×Bool×Bool)=>NR ws sp w.2.2.1 a.1∧(a.2.1=false→a.1.getD i Bb=w.2.2.1.getD i Bb∧(a.2.2=true→0<n→∃ j,j≠i∧j<w.2.2.1.length∧HD (a.1.getD j Bb).2.1 s (lkD (w.2.2.1.getD i Bb).2.1 s).1.1))) ⟨NR.refl hn,λ _=>⟨rfl,λ _ c=>absurd c (Nat.lt_irrefl _)⟩⟩
  (λ j b hj hb=>Fkb hw hf hi hb (by have:=Tn (A3 (d:=0) hj);omega) (Tn (A3 (d:=0) hj)).1)
def Vpa {w:Wld} {s:ByteArray} (hr:Il w.2.1 w.1=true) (hid:w.2.2.1.map (·.1)=w.1.map (·.1)):0<(Ph w s).length:=by
 obtain⟨_,p2,p3⟩:=Uk hr s
 have h5:=(B1.1 hr).2.1
 obtain⟨id,hidm⟩:=Jcb (l:=Wz w.2.1 s) (by omega)
 have:=Sy.1 (p3 id hidm)
 rw[← hid]at this
 obtain⟨n,hn,rfl⟩:=Zc.1 this
 obtain⟨j,hj,rfl⟩:=Zx.1 hn
 have hm:(j:Int)∈Ph w s:=Gaa.2 ⟨j,hj,by rw[Vc,Vk hj];exact hidm,rfl⟩
 exact Igb hm
def Zaa {ws:List Wri} {sp:List ByteArray} {w:Wld} {rc:List Int} {s:ByteArray} {i:Nat} (hw:Gia ws) (hn:∀ n∈w.2.2.1,NI ws sp n) (hi:i<w.2.2.1.length) (hr:Il w.2.1 w.1=true) (hid:w.2.2.1.map (·.1)=w.1.map (·.1)):
  ∃ ns,(Cna w i s rc).2=wN w ns∧NR ws sp w.2.2.1 ns:=by
 have hni:=hn _ (A3 (d:=Bb) hi)
 unfold Cna
 cases hl:(lkD (w.2.2.1.getD i Bb).2.1 s).2 != 0
 case true=>exact⟨w.2.2.1,rfl,NR.refl hn⟩
 rw[bne,Wo,beq_iff_eq]at hl
 obtain⟨b,hb,hg⟩:=Qw.1 (show lkD (w.2.2.1.getD i Bb).2.1 s=((lkD (w.2.2.1.getD i Bb).2.1 s).1,0) from by rw[← hl])
 have hf:IsW ws s (lkD (w.2.2.1.getD i Bb).2.1 s).1:=(((hni.2.1 s).1 b hb).get hw hg).1
 obtain⟨h1,h2⟩:=Flb (rc:=rc) hw hn hi hf
 refine⟨_,rfl,?_⟩
 cases hc:(puN w i s rc).2.2&&!(puN w i s rc).2.1
 ·exact h1
 rw[Vb,Vw]at hc
 obtain⟨h3,h4⟩:=h2 hc.2
 obtain⟨j,hj,hjl,hd⟩:=h4 hc.1 (Vpa hr hid)
 rw[cond_true,h3]
 obtain⟨g1,_,_⟩:=hf.good hw
 have hi':i<(puN w i s rc).1.length:=by rw[h1.len];exact hi
 obtain⟨o1,o2⟩:=Fgb (s:=s) hni.1.g hni.2.1 g1
 refine⟨λ m hm=>?_,by rw[Lza hi' (by rw[h3];rfl),h1.2.1],λ t ht st hk=>?_⟩
 ·rcases Yk hm with hm|rfl
  ·exact h1.1 m hm
  ·exact⟨Aqb hni.1 g1,o1,hni.2.2⟩
 ·obtain⟨m,hm,hh⟩:=h1.2.2 t ht st hk
  by_cases hmi:m=i
  ·subst hmi
   rw[h3]at hh
   by_cases hts:t=s
   ·subst hts
    obtain⟨b',f',e1,e2,e3⟩:=(hni.2.1 t).ge ht hh
    rw[hb]at e1
    cases e1
    rw[hg]at e2
    cases e2
    obtain⟨c,g,k1,k2,k3⟩:=hd
    refine⟨j,by rw[Wb,h1.len];exact hjl,?_⟩
    rw[Ol (by rw[h1.len];exact hjl),if_neg (Ivb hj)]
    exact⟨c,g,k1,k2,Efa k3 e3⟩
   ·refine⟨m,by rw[Wb];exact hm,?_⟩
    rw[Ol hm,if_pos rfl]
    exact o2 t hts st hh
  ·refine⟨m,by rw[Wb];exact hm,?_⟩
   rw[Ol hm,if_neg (Ivb hmi)]
   exact hh
def Oma {ws:List Wri} {sp:List ByteArray} {w:Wld} {src:Int} {l:List Row} {self:Bool} {rc:List Int} (hn:∀ n∈w.2.2.1,NI ws sp n) (hl:M8 l=true) (hr:∀ r∈l,Qe ws r=true):NR ws sp w.2.2.1 (Nc w src l self rc).1:=by
 refine Np (λ _ (a:List Nod×Bool)=>NR ws sp w.2.2.1 a.1) (NR.refl hn) (λ j b hj hb=>?_)
 have hc:=Pl (A3 (d:=0) hj)
 unfold gst
 cases (Im w).getD j 0==src&&!self
 case true=>exact hb
 cases rch rc j != 1
 case true=>exact hb
 have hi:((Im w).getD j 0).toNat<b.1.length:=by rw[hb.len];omega
 obtain⟨t1,t2,t3⟩:=Gmb (hb.1 _ (A3 (d:=Bb) hi)) hl hr
 exact hb.set hi t1 t2 (by rw[t3];exact MO.refl _ _)
def Zba {ws:List Wri} {sp:List ByteArray} {w:Wld} {rc:List Int} {i:Nat} (hn:∀ n∈w.2.2.1,NI ws sp n) (hi:i<w.2.2.1.length):∃ ns,(Coa w i rc).2=wN w ns∧NR ws sp w.2.2.1 ns:=by
 have hni:=hn _ (A3 (d:=Bb) hi)
 have hl:=(Dv.1 hni.1.1).2.2.2.1
 unfold Coa
 cases ((w.2.2.1.getD i Bb).2.2.1.length:Int)==0
 case true=>exact⟨w.2.2.1,rfl,NR.refl hn⟩
 refine⟨_,rfl,?_⟩
 have hg:NR ws sp w.2.2.1 (Ry w i rc).1:=Oma hn hl hni.2.2.1
 cases (Ry w i rc).2&&!(Oj (Im (wN w (Ry w i rc).1)) (i:Int))
 ·exact hg
 have hi':i<(Ry w i rc).1.length:=by rw[hg.len];exact hi
 have hm:=hg.1 _ (A3 (d:=Bb) hi')
 exact hg.set hi' ⟨Ola hm.1,hm.2.1,(λ _ h=>nomatch h),hm.2.2.2⟩ rfl (MO.refl _ _)
def Zca {ws:List Wri} {sp:List ByteArray} {w:Wld} {rc:List Int} {i:Nat} (hn:∀ n∈w.2.2.1,NI ws sp n) (hi:i<w.2.2.1.length):∃ ns,(Cpa w i rc).2=wN w ns∧NR ws sp w.2.2.1 ns:=by
 have hni:=hn _ (A3 (d:=Bb) hi)
 obtain⟨hq,_,_,_,hq60⟩:=Dv.1 hni.1.1
 unfold Cpa
 cases ((w.2.2.1.getD i Bb).2.2.2.length:Int)==0
 case true=>exact⟨w.2.2.1,rfl,NR.refl hn⟩
 refine⟨_,rfl,?_⟩
 have hg:NR ws sp w.2.2.1 (T0 w i rc).1:=Oma hn (Rr hq) (λ r hr=>hni.2.2.2 r (Htb hr))
 cases (T0 w i rc).2
 ·exact hg
 have hi':i<(T0 w i rc).1.length:=by rw[hg.len];exact hi
 have hm:=hg.1 _ (A3 (d:=Bb) hi')
 exact hg.set hi' ⟨Asb hm.1 (λ r hr=>hq r (Zm hr)) (by rw[We];omega),hm.2.1,hm.2.2.1,λ r hr=>hni.2.2.2 r (Zm hr)⟩ rfl (MO.refl _ _)

structure WI (w:Wld):Prop where
 ring:Il w.2.1 w.1=true
 ids:w.2.2.1.map (·.1)=w.1.map (·.1)
 nodes:∀ n∈w.2.2.1,NI w.2.2.2.2.1 w.2.2.2.2.2 n
 clk:Ga w.2.2.2.1=true
 wlen:w.2.2.2.2.1.length≤200
 wok:Gia w.2.2.2.2.1
 wge:∀ x∈w.2.2.2.2.1,sle w.2.2.2.1 x.2.1.1=false
 asc:w.2.2.2.2.1.Pairwise (λ a b=>sle a.2.1.1 b.2.1.1=true)
 kept:∀ x∈w.2.2.2.2.1,x.2.2=true→x.1∉w.2.2.2.2.2→KN w.2.2.1 x.1 x.2.1.1
 sps:TS w.2.2.2.2.2
 spw:∀ s∈w.2.2.2.2.2,∃ x∈w.2.2.2.2.1,x.1=s
theorem Gnb:LawfulBEq ByteArray := { eq_of_beq:=λ {a b} h=>Iw.1 (by rw[← Aoa];exact h),rfl:=λ {a}=>by rw[Aoa];exact Iw.2 rfl }
def J8a:∀ (p q:List ByteArray),p.Nodup→(∀ x∈p,x∈q)→p.length≤q.length
 |[],_,_,_=>Vo _
 |x::p,q,h,hs=>by
  haveI:=Gnb
  obtain⟨h1,h2⟩:=Yu.1 h
  have hx:=hs x Yb
  have hlen:(q.erase x).length=q.length-1:=Isb hx
  have hpos:=Igb hx
  have:=J8a p (q.erase x) h2 (λ y hy=>(Jhb (λ c=>by subst c;exact h1 hy)).2 (hs y (Vh _ hy)))
  rw[Vd]
  omega
namespace WI
variable {w:Wld}
def splen (h:WI w):w.2.2.2.2.2.length≤200:=by
 have hn:w.2.2.2.2.2.Nodup:=h.sps.imp (λ {a b} hab e=>by subst e;rw[Lh]at hab;cases hab)
 have:=J8a _ (w.2.2.2.2.1.map (·.1)) hn (λ s hs=>by
  obtain⟨x,hx,e⟩:=h.spw s hs
  exact Zc.2 ⟨x,hx,e⟩)
 rw[Wf]at this
 have:=h.wlen
 omega
def nlen (h:WI w):w.2.2.1.length=w.1.length:=by
 have:=congrArg length h.ids
 rwa [Wf,Wf]at this
def dlen (h:WI w):1≤w.1.length∧w.1.length≤12:=(Cu.1 (B1.1 h.ring).1).2.2
def ns (h:WI w):NS w.2.2.1:=⟨by have:=h.nlen;have:=h.dlen;omega,λ n hn=>(h.nodes n hn).1⟩
def win (h:WI w):WIn w:=by
 have h1:=h.nlen
 have h2:=h.dlen
 have h3:=h.wlen
 have h4:=h.splen
 refine⟨Mn h.ring,by omega,⟨by omega,λ n hn=>Ug (h.nodes n hn).1⟩,⟨by omega,λ x hx=>J5 (h.wok x hx).1⟩,by omega,λ s hs=>?_⟩
 obtain⟨x,hx,e⟩:=h.spw s hs
 rw[← e]
 exact J5 (h.wok x hx).1
def other (h:WI w) {ns:List Nod} (hn:NR w.2.2.2.2.1 w.2.2.2.2.2 w.2.2.1 ns):WI (wN w ns):=
 ⟨h.ring,hn.2.1.trans h.ids,hn.1,h.clk,h.wlen,h.wok,h.wge,h.asc,λ x hx hk hs=>hn.2.2 _ hs _ (h.kept x hx hk hs),h.sps,h.spw⟩
def other' (h:WI w) {r:Bool×Wld} (hr:∃ ns,r.2=wN w ns∧NR w.2.2.2.2.1 w.2.2.2.2.2 w.2.2.1 ns):WI r.2:=by
 obtain⟨ns,e,hn⟩:=hr
 rw[e]
 exact h.other hn
def write (h:WI w) {s:ByteArray} {f:Fil} {rc:List Int} (hs:B2 s=true) (hf:F8 f=true) (hb:Ao f.2.2) (hc:sle w.2.2.2.1 f.1=true) (hl:w.2.2.2.2.1.length<200):WI (X4 (w.1,w.2.1,w.2.2.1,f.1,w.2.2.2.2) s f rc).2:=by
 obtain⟨g1,g2,g3⟩:=Fjb (ws:=w.2.2.2.2.1++[(s,f,decide ((wrN (w.1,w.2.1,w.2.2.1,f.1,w.2.2.2.2) s f rc).2.2≥quo w.2.1.1))]) (sp:=w.2.2.2.2.2) (w:=(w.1,w.2.1,w.2.2.1,f.1,w.2.2.2.2)) (rc:=rc) (s:=s) (f:=f)
  (λ x hx=>by
   rcases Vq.1 hx with hx|hx
   ·exact h.wok x hx
   ·rw[Vu.1 hx];exact⟨hs,hf,hb⟩)
  ⟨_,Vq.2 (.inr (Vu.2 rfl)),rfl,rfl⟩
  (λ n hn=>(h.nodes n hn).mono (λ x hx=>Vq.2 (.inl hx)) (λ _ h=>h))
 unfold X4
 generalize wrN (w.1,w.2.1,w.2.2.1,f.1,w.2.2.2.2) s f rc=a at *
 have hq:quo w.2.1.1≥1:=by
  have:=(B1.1 h.ring).2.1
  unfold quo
  omega
 exact {
  ring:=h.ring
  ids:=g1.2.1.trans h.ids
  nodes:=g1.1
  clk:=(K6.1 hf).1
  wlen:=by show (w.2.2.2.2.1++[_]).length≤200;rw[Ve];simp only[Vd,Vj];omega
  wok:=λ x hx=>by
   rcases Vq.1 hx with hx|hx
   ·exact h.wok x hx
   ·rw[Vu.1 hx];exact⟨hs,hf,hb⟩
  wge:=λ x hx=>by
   rcases Vq.1 hx with hx|hx
   ·exact Efa (X5 hc) (h.wge x hx)
   ·rw[Vu.1 hx];exact N1 _
  asc:=Zd.2 ⟨h.asc,J2b _ _,λ x hx y hy=>by
   rw[Vu.1 hy]
   have:=h.wge x hx
   cases hxy:sle x.2.1.1 f.1
   case true=>rfl
   have:=Efa this hxy
   rw[this]at hc
   cases hc⟩
  kept:=λ x hx hk hsp=>by
   rcases Vq.1 hx with hx|hx
   ·exact g1.2.2 _ hsp _ (h.kept x hx hk hsp)
   ·rw[Vu.1 hx]at hk hsp ⊢
    have hk':a.2.2≥quo w.2.1.1:=of_decide_eq_true hk
    exact g2 hsp (by omega)
  sps:=h.sps
  spw:=λ s hs=>by
   obtain⟨x,hx,e⟩:=h.spw s hs
   exact⟨x,Vq.2 (.inl hx),e⟩ }
def ask (h:WI w) {s:ByteArray} {f:Fil} {t:Int} {rc:List Int} (hb:Ao f.2.2) (hd:f.2.1=true→f.2.2=[]):WI (ask w s f t rc).2:=by
 unfold Vf.ask
 cases hs:B2 s
 ·exact h
 rw[Za,cond_false]
 by_cases hl:(f.2.2.length:Int) > 200
 ·rw[decide_eq_true hl];exact h
 ·rw[decide_eq_false hl,cond_false]
  cases inR t 0 1000000000
  ·exact h
  rw[Za,cond_false]
  cases hw:(w.2.2.2.2.1.length:Int)==200
  case true=>exact h
  rw[cond_false]
  have hw':=beq_eq_false_iff_ne.1 hw
  have hwl:=h.wlen
  obtain⟨n1,n2⟩:=X3 h.clk t 0
  cases he:(Kw w.2.2.2.1 t 0).1==w.2.2.2.1.1&&((Kw w.2.2.2.1 t 0).2.1==w.2.2.2.1.2.1&&(Kw w.2.2.2.1 t 0).2.2==w.2.2.2.1.2.2)
  case true=>exact h
  rw[cond_false]
  have hlt:sle w.2.2.2.1 (Kw w.2.2.2.1 t 0)=true:=by
   rcases n2 with n2|n2
   ·rw[n2,beq_self_eq_true,beq_self_eq_true,beq_self_eq_true]at he;cases he
   ·exact n2
  exact h.write (f:=(Kw w.2.2.2.1 t 0,f.2)) hs (K6.2 ⟨n1,by show f.2.2.length≤200;omega,hd⟩) hb hlt (by omega)
def rot (h:WI w) {i:Nat} (hi:i<w.2.2.1.length) {s:ByteArray} {b:Int}:WI (Qha w i s b).2:=by
 have hni:=h.nodes _ (A3 (d:=Bb) hi)
 unfold Qha
 cases hr:(Cza (w.2.2.1.getD i Bb) s b).2
 ·exact h
 have hg:=Ahb (s:=s) (b:=b) hni.1
 unfold Cza at hr hg ⊢
 cases hc:Na (w.2.2.1.getD i Bb)&&((lkD (w.2.2.1.getD i Bb).2.1 s).2==0&&(Cya (w.2.2.1.getD i Bb).2.1 s b).2)
 ·rw[hc]at hr;cases hr
 rw[hc]at hg
 rw[Vb,Vb,beq_iff_eq]at hc
 obtain⟨d1,d2,f,hf⟩:=Fhb h.wok hni.1.g hni.2.1 hc.2.1 hc.2.2 (spl w.2.2.2.2.2 s) (λ t=>Cqa)
 have hsub:∀ t∈w.2.2.2.2.2,t∈spl w.2.2.2.2.2 s:=λ t ht=>Cqa.2 (.inr ht)
 have hN:NR w.2.2.2.2.1 (spl w.2.2.2.2.2 s) w.2.2.1 (w.2.2.1.set i ((w.2.2.1.getD i Bb).1,(Cya (w.2.2.1.getD i Bb).2.1 s b).1,(w.2.2.1.getD i Bb).2.2)):=
  (NR.refl (λ n hn=>(h.nodes n hn).mono (λ _ h=>h) hsub)).set hi ⟨hg,d1,hni.2.2⟩ rfl d2
 exact {
  ring:=h.ring
  ids:=hN.2.1.trans h.ids
  nodes:=hN.1
  clk:=h.clk
  wlen:=h.wlen
  wok:=h.wok
  wge:=h.wge
  asc:=h.asc
  kept:=λ x hx hk hs=>hN.2.2 _ hs _ (h.kept x hx hk (λ c=>hs (hsub _ c)))
  sps:=Y7 h.sps
  spw:=λ t ht=>by
   rcases Cqa.1 ht with rfl|ht
   ·obtain⟨x,hx,e,_⟩:=hf
    exact⟨x,hx,e⟩
   ·exact h.spw t ht }
def node (h:WI w) {i:Nat} (hi:i<w.2.2.1.length) {e:Evt}:WI (Pi w e i).2:=by
 have hni:=h.nodes _ (A3 (d:=Bb) hi)
 unfold Pi
 cases e.1==3
 case true=>exact h.other' (Zaa h.wok h.nodes hi h.ring h.ids)
 cases e.1==4
 case true=>exact h.other' (Zba h.nodes hi)
 cases e.1==5
 case true=>exact h.other' (Zca h.nodes hi)
 cases e.1==6 with
 |true=>
  obtain⟨c1,c2⟩:=Z8a h.wok hni.1.g hni.2.1
  exact h.other ((NR.refl h.nodes).set hi ⟨Aob hni.1,c1,hni.2.2⟩ rfl c2)
 |false=>
  cases e.1==7 with
  |true=>exact h.other ((NR.refl h.nodes).set hi ⟨Fdb hni.1,D0b hni.1.g hni.2.1 _,hni.2.2⟩ rfl (D1b hni.1.g hni.2.1 _))
  |false=>exact h.rot hi
def weigh (h:WI w) {i t:Int}:WI (Un w i t).2:=by
 unfold Un
 cases h1:inR i 0 ((w.1.length:Int)-1)
 ·exact h
 cases h2:inR t 1 1000
 ·exact h
 obtain⟨i0,i1⟩:=Cf.1 h1
 obtain⟨w0,w1⟩:=Cf.1 h2
 exact⟨(Aua (Wy h.ring (by omega) w0 w1)).1,h.ids.trans (G0a _ _ _).symm,h.nodes,h.clk,h.wlen,h.wok,h.wge,h.asc,h.kept,h.sps,h.spw⟩
def ev (h:WI w) {e:Evt} (hb:Ao e.2.2.2.1):WI (doW w e).2:=by
 have ae:∀ {q:Int×Wld},WI q.2→WI (J7a q).2:=λ {q} hq=>by
  unfold J7a
  cases q.1 != 2<;>exact hq
 unfold doW
 cases e.1==1
 case true=>exact ae (h.ask hb (λ c=>by cases c))
 cases e.1==2
 case true=>exact ae (h.ask P4 (λ _=>rfl))
 cases e.1==3||(e.1==4||(e.1==5||(e.1==6||(e.1==7||e.1==8)))) with
 |true=>
  cases hi:inR e.2.1 0 ((w.2.2.1.length:Int)-1)
  ·exact h
  have:=Cf.1 hi
  exact h.node (by omega)
 |false=>
  cases e.1==9 with
  |true=>exact h.weigh
  |false=>exact h
def Vqa {ws:List Wri} (hw:Gia ws) {s:ByteArray} {f:Fil} (hf:Ao f.2.2):V6a ws s f=true↔IsW ws s f:=by
 unfold V6a IsW
 rw[Hkb]
 constructor
 ·rintro⟨x,hx,h⟩
  rw[Vb]at h
  exact⟨x,hx,Iw.1 h.1,(J4a (hw x hx).2.2 hf).1 h.2⟩
 ·rintro⟨x,hx,h1,h2⟩
  exact⟨x,hx,by rw[Vb];exact⟨Iw.2 h1,(J4a (hw x hx).2.2 hf).2 h2⟩⟩
def rightB (h:WI w):Y4 w=true:=by
 have h2:=h.dlen
 have hl:=h.nlen
 unfold Y4
 have a1:U1 w.1 w.2.2.1=true:=by
  unfold U1
  rw[show ((w.2.2.1.length:Int)==(w.1.length:Int))=true by rw[beq_iff_eq];omega,Wd,Wm]
  intro j hj
  have hj':=Zg.1 hj
  rw[Vb,beq_iff_eq]
  refine⟨?_,(h.nodes _ (A3 (d:=Bb) hj')).1.1⟩
  have e1:(w.2.2.1.getD j Bb).1=(w.2.2.1.map (·.1)).getD j 0:=by
   rw[Vc,Vc,Hib,Vk hj'];rfl
  have e2:(w.1.getD j Oc).1=(w.1.map (·.1)).getD j 0:=by
   rw[Vc,Vc,Hib,Vk (by omega)];rfl
  rw[e1,e2,h.ids]
 have a2:Yza w.2.2.2.1 w.2.2.2.2.1=true:=by
  unfold Yza
  rw[Vb,Wm]
  refine⟨λ x hx=>?_,decide_eq_true (by have:=h.wlen;omega)⟩
  unfold Lqa
  rw[(h.wok x hx).1,(h.wok x hx).2.1,h.wge x hx]
  rfl
 have a3:X2 w.2.2.2.2.2=true:=by
  unfold X2
  rw[Wm]
  intro j hj
  have hj':=Zg.1 hj
  rw[Vb,Zz]
  refine⟨?_,?_⟩
  ·obtain⟨x,hx,e⟩:=h.spw _ (A3 (d:=Nm) hj')
   rw[← e]
   exact(h.wok x hx).1
  ·by_cases h0:j=0
   ·exact .inl (decide_eq_true h0)
   ·right
    have:=Zk.1 h.sps (j-1) j (by omega) hj' (by omega)
    rwa [Vc,Vc,Vk hj',Vk (by omega)]
 rw[h.ring,a1,h.clk,a2,a3]
 rfl
def writtenT (h:WI w):Tl w=true:=by
 unfold Tl
 rw[Wm]
 intro j hj
 obtain⟨hg,hd,_⟩:=h.nodes _ (A3 (d:=Bb) (Zg.1 hj))
 rw[Vb,Wm,Wm]
 have one:∀ e:Nmd,EO w.2.2.2.2.1 w.2.2.2.2.2 e.1 e.2→V8a w.2.2.2.2.1 e=true:=by
  intro e he
  unfold V8a
  cases hf:On e.2 with
  |none=>rfl
  |some f=>exact(Vqa h.wok (L9a hf).2.1).2 (he.get h.wok hf).1
 exact⟨λ e he=>one e ((hd e.1).1 e.2 (Lba (N9 hg.g.1) he)),λ e he=>one e ((hd e.1).2.1 e.2 (Lba (Pu hg.g.1) he))⟩
def listedT (h:WI w):Y5 w=true:=by
 unfold Y5
 rw[Wm]
 intro j hj
 obtain⟨_,_,h1,h2⟩:=h.nodes _ (A3 (d:=Bb) (Zg.1 hj))
 rw[Vb,Wm,Wm]
 exact⟨h1,h2⟩
def keptT (h:WI w):Qea w=true:=by
 unfold Qea
 rw[Wm]
 intro x hx
 unfold V9a
 cases hk:x.2.2
 ·rfl
 cases hs:D1a w.2.2.2.2.2 x.1
 case true=>rfl
 obtain⟨i,hi,hh⟩:=h.kept x hx hk (λ c=>by rw[G4a.2 c]at hs;cases hs)
 rw[Hkb.2 ⟨_,A3 hi,Vma.2 hh⟩]
 rfl
def stampedT (h:WI w):Tm w=true:=by
 unfold Tm
 rw[Wm]
 intro j hj
 have hj':=Zg.1 hj
 rw[Vb,Zz,Vw]
 refine⟨h.wge _ (A3 hj'),?_⟩
 by_cases h0:j=0
 ·exact .inl (decide_eq_true h0)
 ·right
  have:=Zk.1 h.asc (j-1) j (by omega) hj' (by omega)
  rwa [Vc,Vc,Vk hj',Vk (by omega)]
def safe (h:WI w):Z4a w=0:=by
 unfold Z4a
 rw[h.rightB,h.writtenT,h.listedT,h.keptT,h.stampedT]
 rfl
end WI

def Gwb (l:List Dev) (last:Int):Prop:=l.Pairwise (λ a b=>a.1<b.1)∧∀ d∈l,(0≤d.1∧d.1≤last)∧(0≤d.2.1∧d.2.1≤20)∧1≤d.2.2∧d.2.2≤1000
def Vra (z:Int) (hz:1≤z∧z≤20):∀ (n:Nat) (i:Int) (l:List Dev) (last:Int) (c:Cur),i=n→n≤6→Mz c→Gwb l last→0≤last→last+2*n≤12→l.length+n≤6→
  Tot (λ k=>Ig k l z last i c) (λ r=>(∃ last,Gwb r.1 last∧last≤20)∧r.1.length=l.length+n∧Mz r.2):=by
 intro n
 induction n with
 |zero=>
  rintro i l last c rfl _ hc h h0 h1 _
  refine Tot.succ ?_
  simp (disch:=omega) only [Ig,dF]
  exact H3b ⟨⟨last,h,by omega⟩,rfl,hc⟩
 |succ n ih=>
  rintro i l last c rfl hn hc h h0 h1 hl
  refine Tot.succ ?_
  simp (disch:=omega) only [Ig,dT]
  obtain⟨x,c1,e1,hx,k1⟩:=Re c hc [1,1,2] (by decide) (by decide)
  obtain⟨y,c2,e2,y0,y1,_,k2⟩:=Lz c1 k1 z (by omega)
  obtain⟨v,c3,e3,hv,k3⟩:=Re c2 k2 [1,1,1,2,10,100] (by decide) (by decide)
  have y1:=y1 (by omega)
  have hx':1≤x∧x≤2:=by
   simp only[Vl,Hlb,or_false]at hx
   omega
  have hv':1≤v∧v≤1000:=by
   simp only[Vl,Hlb,or_false]at hv
   omega
  refine Hfb (Hhb (Q:=λ r=>r=(x,c1)) e1 rfl) ?_
  refine Hfb (Hhb (Q:=λ r=>r=(y,c2)) e2 rfl) ?_
  refine Hfb (Hhb (Q:=λ r=>r=(v,c3)) e3 rfl) ?_
  simp (disch:=omega) only [w64]
  refine Hbb (by simp only[Vd,Vj];omega) ?_
  refine(ih _ (l++[(last+x,y,v)]) (last+x) c3 (by omega) (by omega) k3 ⟨?_,?_⟩ (by omega) (by omega) (by rw[Ve];simp only[Vd,Vj];omega)).mono ?_
  ·refine Zd.2 ⟨h.1,J2b _ _,λ a ha b hb=>?_⟩
   rw[Vu.1 hb]
   have:=(h.2 a ha).1.2
   show a.1<last+x
   omega
  ·intro d hd
   rcases Vq.1 hd with hd|hd
   ·obtain⟨⟨a1,a2⟩,a3⟩:=h.2 d hd
    exact⟨⟨a1,by omega⟩,a3⟩
   ·rw[Vu.1 hd]
    exact⟨⟨by show 0≤last+x;omega,Zr _⟩,⟨y0,by show y≤20;omega⟩,hv'⟩
  ·rintro r ⟨g1,g2,g3⟩
   refine⟨g1,?_,g3⟩
   rw[g2,Ve]
   simp only[Vd,Vj]
   omega
def Qia (c:Cur) (hc:Mz c):Tot (λ k=>Hn k c) (λ r=>Mr r.1=true∧(2≤r.1.length∧r.1.length≤6)∧Mz r.2):=by
 unfold Hn
 obtain⟨x,c1,e1,x0,x1,_,k1⟩:=Lz c hc 4 (by decide)
 obtain⟨y,c2,e2,y0,y1,_,k2⟩:=Lz c1 k1 5 (by decide)
 have x1:=x1 (by decide)
 have y1:=y1 (by decide)
 refine Hfb (Hhb (Q:=λ r=>r=(x,c1)) e1 rfl) ?_
 refine Hfb (Hhb (Q:=λ r=>r=(y,c2)) e2 rfl) ?_
 simp (disch:=omega) only [w64]
 refine H4b (Vra (1+x) (by omega) (2+y).toNat (2+y) [] 0 c2 (by omega) (by omega) k2 ⟨List.Pairwise.nil,λ d hd=>(nomatch hd)⟩ (Zr _) (by omega) (by simp only[Vj];omega)) ?_
 rintro r ⟨⟨last,g1,g2⟩,g3,g4⟩
 rw[Vj]at g3
 exact H3b ⟨Cu.2 ⟨g1.1,λ d hd=>Nw.2 ⟨⟨(g1.2 d hd).1.1,by have:=(g1.2 d hd).1.2;omega⟩,(g1.2 d hd).2⟩,by dsimp only;omega,by dsimp only;omega⟩,⟨by dsimp only;omega,by dsimp only;omega⟩,g4⟩
abbrev Gda:Wld:=(([]:List Dev),((0:Int),([]:List (List Int))),([]:List Nod),((0:Int),((0:Int),(0:Int))),([]:List Wri),([]:List ByteArray))
def Aub (d:Dev):Nod:=(d.1,([],[]),[],[])
def Fwb (l:List Dev) (parts reps:Int):Wld:=(l,(build l parts reps).1,l.map Aub,(0,0,0),[],[])
def D4b {ws:List Wri} {sp:List ByteArray} {l:List Dev} (h:Mr l=true) {d:Dev} (hd:d∈l):NI ws sp (Aub d):=by
 obtain⟨⟨i0,i1⟩,_⟩:=Nw.1 ((Cu.1 h).2.1 d hd)
 refine⟨⟨Dv.2 ⟨(λ r hr=>nomatch hr),⟨i0,i1⟩,dg0.1,Y6,Vo _⟩,dg0.2⟩,λ s=>⟨λ b hb=>?_,λ b hb=>?_,λ _ b f hb=>?_⟩,(λ r hr=>nomatch hr),(λ r hr=>nomatch hr)⟩
 ·rw[show gt (Aub d).2.1.1 s=none from rfl]at hb;cases hb
 ·rw[show gt (Aub d).2.1.2 s=none from rfl]at hb;cases hb
 ·rw[show gt (Aub d).2.1.2 s=none from rfl]at hb;cases hb
def D5b {l:List Dev} {parts reps:Int} (hb:(build l parts reps).2=true):WI (Fwb l parts reps):=by
 obtain⟨h1,h2,_,_⟩:=Oca hb
 exact {
  ring:=h2
  ids:=by show (l.map Aub).map (·.1)=_;rw[Ihb];rfl
  nodes:=λ n hn=>by
   obtain⟨d,hd,rfl⟩:=Zc.1 hn
   exact D4b h1 hd
  clk:=rfl
  wlen:=Vo _
  wok:=λ x hx=>nomatch hx
  wge:=λ x hx=>nomatch hx
  asc:=List.Pairwise.nil
  kept:=λ x hx=>nomatch hx
  sps:=List.Pairwise.nil
  spw:=λ s hs=>nomatch hs }
def J9a (l:List Dev) (parts reps:Int) (hb:(build l parts reps).2=true):Tot (λ k=>Cr k l parts reps) (λ r=>r=Fwb l parts reps):=by
 obtain⟨h1,_,_,_⟩:=Oca hb
 have h12:=(Cu.1 h1).2.2.2
 unfold Cr
 refine Hfb (Uja l parts reps (by omega)) ?_
 refine Hbb (by rw[Vj];omega) (H5b (by rw[hb];rfl) ?_)
 rw[Vx]
 refine H4b (Q:=λ r=>r=(Gda,Fwb l parts reps)) ?_ (by rintro r rfl;exact H3b rfl)
 refine Hcb (L:=λ k i (s:List Nod)=>Fq k l i Gda (l,(build l parts reps).1,s,(0,0,0),[],[])) (Q:=λ r=>r=(Gda,Fwb l parts reps)) l.length (λ j s=>s=(l.take j).map Aub) ?_ ?_ 0 [] (Vo _) rfl
 ·rintro s rfl
  simp (disch:=omega) only [Fq,dF]
  exact H3b (by rw[Yo];rfl)
 ·rintro j s hj rfl next
  have hd:=A3 (d:=Oc) hj
  obtain⟨d,ed⟩:∃ d:Dev,l.getD j Oc=d:=⟨_,rfl⟩
  rw[ed]at hd
  have e0:l.getD j ((0:Int),((0:Int),(0:Int)))=d:=ed
  have e1:l[j]=d:=by rw[← ed,Vc,Vk hj];rfl
  have hid:=(Nw.1 ((Cu.1 h1).2.1 d hd)).1
  simp (disch:=omega) only [Fq,dT,Va,w64,e0,Lia,Vn]
  have hl:((l.take j).map Aub).length=j:=by rw[Wf,Vs];omega
  rw[Cf.2 hid,cond_true]
  refine Hbb (by rw[hl];simp only[Vd,Vj];omega) (next _ ?_)
  rw[Wk hj,Hsb,e1]
  rfl
def WD (w:Wld):Prop:=WI w∧∀ x∈w.2.2.2.2.1,x.1∈O9
def M0a (c:Cur) (hc:Mz c):Tot (λ k=>L7 k c) (λ r=>WD r.1∧Mz r.2):=by
 unfold L7
 refine H4b (Qia c hc) ?_
 rintro⟨l,c1⟩ ⟨hl,hn,k1⟩
 dsimp only at hl hn k1 ⊢
 obtain⟨x,c2,e2,hx,k2⟩:=Re c1 k1 [3,2,3,1] (by decide) (by decide)
 obtain⟨y,c3,e3,hy,k3⟩:=Re c2 k2 [4,2,8] (by decide) (by decide)
 have hx':1≤x∧x≤3:=by
  simp only[Vl,Hlb,or_false]at hx
  omega
 have hy':1≤y∧y≤8:=by
  simp only[Vl,Hlb,or_false]at hy
  omega
 have one:∀ n:Int,1≤n→n≤5→n≤(l.length:Int)→Tot (λ k=>(C6 c2 [4,2,8]).bind λ r3=>(Cr k l r3.1 n).bind λ r4=>some (r4,r3.2)) (λ r=>WD r.1∧Mz r.2):=by
  intro n n0 n5 nl
  have hb:(build l y n).2=true:=by
   unfold build
   rw[hl,Cf.2 (show 1≤y∧y≤64 by omega),Cf.2 (show 1≤n∧n≤5 by omega),decide_eq_false (show ¬ n > (l.length:Int) by omega)]
   rfl
  refine Hfb (Hhb (Q:=λ r=>r=(y,c3)) e3 rfl) ?_
  refine Hfb (J9a l y n hb) ?_
  exact H3b ⟨⟨D5b hb,λ x hx=>nomatch hx⟩,k3⟩
 refine Hfb (Hhb (Q:=λ r=>r=(x,c2)) e2 rfl) ?_
 exact Hab (λ h=>one (l.length:Int) (by omega) (by dsimp only at h;omega) (Int.le_refl _)) (λ h=>one x (by omega) (by omega) (by dsimp only at h;omega))
def Qja (c:Cur) (hc:Mz c):Tot (λ k=>L7 k c) (λ r=>WI r.1∧Mz r.2):=(M0a c hc).mono λ r h=>⟨h.1.1,h.2⟩
def Jaa (c:Cur) (hc:Mz c):Tot (λ k=>F7 k c) (λ r=>r.1.length=6∧Mz r.2):=by
 unfold F7
 refine H4b (Q:=λ r=>r.1.length=6∧Mz r.2) ?_ (λ r h=>H3b h)
 refine Hcb (L:=λ k i (s:List Int×Cur)=>Gj k s.1 i s.2) (Q:=λ r=>r.1.length=6∧Mz r.2) 6 (λ j s=>s.1.length=j∧Mz s.2) ?_ ?_ 0 ([],c) (Vo _) ⟨rfl,hc⟩
 ·rintro s ⟨h1,h2⟩
  simp (disch:=omega) only [Gj,dF]
  exact H3b ⟨h1,h2⟩
 ·rintro j s hj ⟨h1,h2⟩ next
  obtain⟨x,c1,e1,_,k1⟩:=Re s.2 h2 [1,1,1,1,0,2,3] (by decide) (by decide)
  simp (disch:=omega) only [Gj,dT,w64]
  refine Hfb (Hhb (Q:=λ r=>r=(x,c1)) e1 rfl) ?_
  exact Hbb (by simp only[Vd,Vj];omega) (next (s.1++[x],c1) ⟨by rw[Ve,h1];rfl,k1⟩)
def M1a (c:Cur) (hc:Mz c):Tot (λ k=>F7 k c) (λ r=>r.1.length≤6∧Mz r.2):=(Jaa c hc).mono λ r h=>⟨by have:=h.1;omega,h.2⟩
def W6a (r:Evt×Cur×Wld) (w:Wld):Prop:=Atb r.1∧Ao r.1.2.2.2.1∧Mz r.2.1∧r.2.2=w
def D6b {d:Dsk} (hd:DIn d) (hb:DB d):Tot (λ k=>Hi k d) (λ r=>r.length≤2000000∧∀ t∈r,Mo t):=by
 refine(Yta d hd hb).mono ?_
 rintro r rfl
 obtain⟨a1,a2⟩:=Fab d.1 hd.1.2.1 d.1 0 [] (λ x hx=>hx) (λ y hy=>nomatch hy)
 have:=hd.2.1
 rw[Vj]at a1
 exact⟨by unfold Qba;omega,a2⟩
def Zda (e:Evt):Prop:=e.1=1∨e.1=2→e.2.2.1∈O9
def Gea (c:Cur) (w:Wld) (hc:Mz c) (hn1:1≤w.2.2.1.length) (hnl:w.2.2.1.length≤2000000) (hnn:∀ n∈w.2.2.1,NIn n):Tot (λ k=>Df k c w w) (λ r=>W6a r w∧Zda r.1):=by
 unfold Df
 obtain⟨i,c1,e1,i0,i1,_,k1⟩:=Lz c hc (w.2.2.1.length:Int) (by omega)
 have i1:=i1 (by omega)
 obtain⟨s,c2,e2,hs,k2⟩:=Tda c1 k1
 have hsn:=hs
 have hs:=(L0a s hs).1
 refine Hfb (Hhb (Q:=λ r=>r=(i,c1)) e1 rfl) ?_
 refine Hfb (Hhb (Q:=λ r=>r=(s,c2)) e2 rfl) ?_
 refine H4b (M1a c2 k2) ?_
 rintro⟨rc,c3⟩ ⟨hrc,k3⟩
 dsimp only at hrc k3 ⊢
 obtain⟨n,c4,e4,_,_,_,k4⟩:=Lz c3 k3 20 (by decide)
 refine Hfb (Hhb (Q:=λ r=>r=(n,c4)) e4 rfl) ?_
 dsimp only
 have ok:∀ (kd:Int) (s:ByteArray) (l:List Int) (x:Int) (c:Cur),Mo s→Ao l→l.length≤2000000 → -9223372036854775808≤x→x≤9223372036854775807→Mz c→(kd=1∨kd=2→s∈O9)→W6a ((kd,i,s,l,x,rc),c,w) w∧Zda (kd,i,s,l,x,rc):=λ kd s l x c h1 h2 h3 h4 h5 h6 h7=>⟨⟨⟨h1,by show l.length≤_;omega,⟨h4,h5⟩,by show rc.length≤_;omega⟩,h2,h6,rfl⟩,h7⟩
 have plain:∀ kd:Int,Tot (λ _=>some ((kd,i,s,([]:List Int),(0:Int),rc),c4,w)) (λ r=>W6a r w∧Zda r.1):=λ kd=>H3b (ok kd s [] 0 c4 hs P4 (Vo _) (by decide) (by decide) k4 λ _=>hsn)
 have put:Tot (λ k=>(A8 c4 2).bind λ r5=>(Gn k r5.2).bind λ r6=>some ((1,i,s,r6.1,wrap .i64 (w.2.2.2.1.1+r5.1),rc),r6.2,w)) (λ r=>W6a r w∧Zda r.1):=by
  obtain⟨x,c5,e5,x0,x1,_,k5⟩:=Lz c4 k4 2 (by decide)
  have x1:=x1 (by decide)
  refine Hfb (Hhb (Q:=λ r=>r=(x,c5)) e5 rfl) ?_
  refine H4b (Pla c5 k5) ?_
  rintro⟨l,c6⟩ ⟨g1,g2,g3⟩
  dsimp only at g1 g2 g3 ⊢
  have hw:=Dza (w.2.2.2.1.1+x)
  exact H3b (ok 1 s l _ c6 hs g2 (by omega) hw.1 hw.2 g1 λ _=>hsn)
 have drop:Tot (λ k=>(A8 c4 2).bind λ r17=>some ((2,i,s,([]:List Int),wrap .i64 (w.2.2.2.1.1+r17.1),rc),r17.2,w)) (λ r=>W6a r w∧Zda r.1):=by
  obtain⟨x,c5,e5,x0,x1,_,k5⟩:=Lz c4 k4 2 (by decide)
  have x1:=x1 (by decide)
  refine Hfb (Hhb (Q:=λ r=>r=(x,c5)) e5 rfl) ?_
  have hw:=Dza (w.2.2.2.1.1+x)
  exact H3b (ok 2 s [] _ c5 hs P4 (Vo _) hw.1 hw.2 k5 λ _=>hsn)
 have rot:Tot (λ k=>(A8 c4 60).bind λ r31=>some ((8,i,s,([]:List Int),r31.1,rc),r31.2,w)) (λ r=>W6a r w∧Zda r.1):=by
  obtain⟨x,c5,e5,x0,x1,_,k5⟩:=Lz c4 k4 60 (by decide)
  have x1:=x1 (by decide)
  refine Hfb (Hhb (Q:=λ r=>r=(x,c5)) e5 rfl) ?_
  exact H3b (ok 8 s [] x c5 hs P4 (Vo _) (by omega) (by omega) k5 λ _=>hsn)
 have ring:Tot (λ k=>(C6 c4 [1,2,10,1000]).bind λ r33=>some ((9,i,s,([]:List Int),r33.1,rc),r33.2,w)) (λ r=>W6a r w∧Zda r.1):=by
  obtain⟨x,c5,e5,hx,k5⟩:=Re c4 k4 [1,2,10,1000] (by decide) (by decide)
  refine Hfb (Hhb (Q:=λ r=>r=(x,c5)) e5 rfl) ?_
  have hx':1≤x∧x≤1000:=by
   simp only[Vl,Hlb,or_false]at hx
   omega
  exact H3b (ok 9 s [] x c5 hs P4 (Vo _) (by omega) (by omega) k5 λ _=>hsn)
 have push:Tot (λ k=>cond (decide ((0:Int)≤i)) (cond (decide (i<(length w.2.2.1:Int))) ((Hi k (getD w.2.2.1 (toNat i) ((0:Int),(([],[]),([],[])))).2.1).bind λ r20=>cond (decide ((length r20:Int) > 0)) ((A8 c4 (length r20:Int)).bind λ r21=>cond (decide ((0:Int)≤r21.1)) (cond (decide (r21.1<(length r20:Int))) (some ((3,i,(getD r20 (toNat r21.1) (⟨#[]⟩:ByteArray)),([]:List Int),0,rc),r21.2,w)) none) none) (some ((3,i,s,([]:List Int),0,rc),c4,w))) none) none) (λ r=>W6a r w∧Zda r.1):=by
  refine H7b i0 (H7b i1 ?_)
  have hm:=hnn _ (A3 (d:=Bb) (show i.toNat<w.2.2.1.length by omega))
  refine H4b (D6b hm.1.1 hm.1.2) ?_
  rintro l ⟨hl,hl'⟩
  refine Hab (λ h0=>?_) (λ h0=>plain 3)
  obtain⟨x,c5,e5,x0,x1,_,k5⟩:=Lz c4 k4 (l.length:Int) (by omega)
  have x1:=x1 (by omega)
  refine Hfb (Hhb (Q:=λ r=>r=(x,c5)) e5 rfl) ?_
  exact H7b x0 (H7b x1 (H3b (ok 3 _ [] 0 c5 (hl' _ (A3 (d:=Nm) (show x.toNat<l.length by omega))) P4 (Vo _) (by decide) (by decide) k5 (by omega))))
 refine H9b (λ _=>put) (λ _=>?_)
 refine H9b (λ _=>put) (λ _=>?_)
 refine H9b (λ _=>put) (λ _=>?_)
 refine H9b (λ _=>put) (λ _=>?_)
 refine H9b (λ _=>put) (λ _=>?_)
 refine H9b (λ _=>put) (λ _=>?_)
 refine H9b (λ _=>drop) (λ _=>?_)
 refine H9b (λ _=>drop) (λ _=>?_)
 refine H9b (λ _=>push) (λ _=>?_)
 refine H9b (λ _=>push) (λ _=>?_)
 refine H9b (λ _=>push) (λ _=>?_)
 refine H9b (λ _=>plain 5) (λ _=>?_)
 refine H9b (λ _=>plain 5) (λ _=>?_)
 refine H9b (λ _=>plain 4) (λ _=>?_)
 refine H9b (λ _=>plain 6) (λ _=>?_)
 refine H9b (λ _=>plain 7) (λ _=>?_)
 refine H9b (λ _=>plain 7) (λ _=>?_)
 refine H9b (λ _=>rot) (λ _=>?_)
 exact H9b (λ _=>rot) (λ _=>ring)
def Gfa (c:Cur) (w:Wld) (hc:Mz c) (hn1:1≤w.2.2.1.length) (hnl:w.2.2.1.length≤2000000) (hnn:∀ n∈w.2.2.1,NIn n):Tot (λ k=>Df k c w w) (λ r=>W6a r w):=(Gea c w hc hn1 hnl hnn).mono λ r h=>h.1
def Jba (c:Cur) (w:Wld) (hc:Mz c) (h:WI w):Tot (λ k=>Df k c w w) (λ r=>W6a r w):=
 Gfa c w hc (by have:=h.nlen;have:=h.dlen;omega) h.ns.1 h.win.2.2.1.2
def D7b {w:Wld} (h:WI w) {e:Evt} (he:Atb e):Tot (λ k=>Js k w e) (λ r=>r=doW w e):=
 Feb w e he h.ring h.ns h.clk (by have:=h.wlen;omega) (by have:=h.splen;omega)
def Zea (w:Wld) (e:Evt) (i:Nat):(Pi w e i).2.2.2.2.2.1=w.2.2.2.2.1:=by
 unfold Pi Cna Coa Cpa Qha
 cases e.1==3
 case true=>cases (lkD (w.2.2.1.getD i Bb).2.1 e.2.2.1).2 != 0<;>rfl
 cases e.1==4
 case true=>cases ((w.2.2.1.getD i Bb).2.2.1.length:Int)==0<;>rfl
 cases e.1==5
 case true=>cases ((w.2.2.1.getD i Bb).2.2.2.length:Int)==0<;>rfl
 cases e.1==6
 case true=>rfl
 cases e.1==7
 case true=>rfl
 rw[cond_false,cond_false,cond_false,cond_false,cond_false]
 cases (Cza (w.2.2.1.getD i Bb) e.2.2.1 e.2.2.2.2.1).2<;>rfl
def Avb (w:Wld) (s:ByteArray) (f:Fil) (t:Int) (rc:List Int):∀ x∈(ask w s f t rc).2.2.2.2.2.1,x∈w.2.2.2.2.1∨x.1=s:=by
 intro x
 unfold ask
 cases !(B2 s)
 case true=>exact .inl
 cases decide ((f.2.2.length:Int) > 200)
 case true=>exact .inl
 cases !(inR t 0 1000000000)
 case true=>exact .inl
 cases (w.2.2.2.2.1.length:Int)==200
 case true=>exact .inl
 cases (Kw w.2.2.2.1 t 0).1==w.2.2.2.1.1&&((Kw w.2.2.2.1 t 0).2.1==w.2.2.2.1.2.1&&(Kw w.2.2.2.1 t 0).2.2==w.2.2.2.1.2.2)
 case true=>exact .inl
 intro hx
 rcases Vq.1 hx with h|h
 ·exact .inl h
 ·rw[Vu.1 h];exact .inr rfl
def WD.ev {w:Wld} (h:WD w) {e:Evt} (hb:Ao e.2.2.2.1) (hn:Zda e):WD (doW w e).2:=by
 refine⟨h.1.ev hb,λ x=>?_⟩
 have ae:∀ q:Int×Wld,(J7a q).2=q.2:=λ q=>by
  unfold J7a
  cases q.1 != 2<;>rfl
 unfold doW
 cases h1:e.1==1 with
 |true=>
  rw[cond_true,ae]
  exact λ hx=>(Avb _ _ _ _ _ x hx).elim (h.2 x) (λ c=>by rw[c];exact hn (.inl (eq_of_beq h1)))
 |false=>
  cases h2:e.1==2 with
  |true=>
   rw[cond_false,cond_true,ae]
   exact λ hx=>(Avb _ _ _ _ _ x hx).elim (h.2 x) (λ c=>by rw[c];exact hn (.inr (eq_of_beq h2)))
  |false=>
   rw[cond_false,cond_false]
   cases e.1==3||(e.1==4||(e.1==5||(e.1==6||(e.1==7||e.1==8)))) with
   |true=>
    rw[cond_true]
    cases inR e.2.1 0 ((w.2.2.1.length:Int)-1) with
    |true=>rw[cond_true,Zea];exact h.2 x
    |false=>exact h.2 x
   |false=>
    rw[cond_false]
    unfold Un
    cases e.1==9
    case false=>exact h.2 x
    cases !(inR e.2.1 0 ((w.1.length:Int)-1))
    case true=>exact h.2 x
    cases !(inR e.2.2.2.2.1 1 1000)<;>exact h.2 x
def Zfa (a:List Int) (hb:(a.length:Int)≤1048576) (m:Int) (hm:3≤m∧m≤1000):∃ n,Lo a m=some n∧3≤n∧n≤m:=by
 unfold Lo
 rw[Hob (by omega),w64 (n:=(a.length:Int)/12) (by omega) (by omega),w64 (n:=3+(a.length:Int)/12) (by omega) (by omega)]
 by_cases h:3+(a.length:Int)/12 > m
 ·exact⟨m,by rw[decide_eq_true h];rfl,hm.1,Zr _⟩
 ·exact⟨_,by rw[decide_eq_false h];rfl,by omega,by omega⟩

def WIm (m:Nat) (w:Wld):Prop:=RBd w.2.1∧w.1.length≤2000000∧(w.2.2.1.length≤2000000∧∀ n∈w.2.2.1,NIn n)∧(w.2.2.2.2.1.length≤m∧∀ x∈w.2.2.2.2.1,Mo x.1∧x.2.1.2.2.length≤2000000∧Ao x.2.1.2.2)∧(w.2.2.2.2.2.length≤m∧∀ s∈w.2.2.2.2.2,Mo s)
def WIm.win {m:Nat} {w:Wld} (h:WIm m w) (hm:m≤2000000):WIn w:=by
 obtain⟨h1,h2,⟨h3,h4⟩,⟨h5,h6⟩,h7,h8⟩:=h
 exact⟨h1,h2,⟨h3,h4⟩,⟨by omega,λ x hx=>(h6 x hx).1⟩,by omega,h8⟩
def WI.wim {w:Wld} (h:WI w):WIm 200 w:=by
 have hi:=h.win
 have h2:=h.dlen
 have h1:=h.nlen
 exact⟨hi.1,hi.2.1,hi.2.2.1,⟨h.wlen,λ x hx=>⟨J5 (h.wok x hx).1,by have:=(K6.1 (h.wok x hx).2.1).2.1;omega,(h.wok x hx).2.2⟩⟩,h.splen,hi.2.2.2.2.2⟩
def Jca {f:Fil} (h:f.2.2.length≤2000000):Bt f=some f:=by
 unfold Bt
 rw[bT (by simp only[Vj];omega),Vx]
def Vsa {m:Nat} {w:Wld} (h:WIm m w) (hm:m≤2000000):Tot (λ k=>Dy k w) (λ r=>r=w):=by
 obtain⟨h1,h2,⟨h3,h4⟩,⟨h5,h6⟩,h7,h8⟩:=h
 unfold Dy
 refine Hbb (by rw[Vj];omega) (Hfb (Z8 w.2.1 h1) ?_)
 refine Hbb (by rw[Vj];omega) ?_
 rw[Vx,Vx]
 refine H4b (Q:=λ r=>r=(w,Gda,(w.1,w.2.1,w.2.2.1,w.2.2.2.1,[],w.2.2.2.2.2))) ?_ ?_
 ·refine Hcb (L:=λ k i (s:List Nod)=>Gt k i w Gda (w.1,w.2.1,s,w.2.2.2.1,[],w.2.2.2.2.2)) (Q:=λ r=>r=(w,Gda,(w.1,w.2.1,w.2.2.1,w.2.2.2.1,[],w.2.2.2.2.2))) w.2.2.1.length (λ j s=>s=w.2.2.1.take j) ?_ ?_ 0 [] (Vo _) rfl
  ·rintro s rfl
   simp (disch:=omega) only [Gt,dF]
   exact H3b (by rw[Yo])
  ·rintro j s hj rfl next
   have hm:=h4 _ (A3 (d:=Bb) hj)
   have e0:w.2.2.1.getD j ((0:Int),(([],[]),([],[])))=w.2.2.1.getD j Bb:=rfl
   have hl:(w.2.2.1.take j).length=j:=by rw[Vs];omega
   simp (disch:=omega) only [Gt,dT,Va,w64,e0]
   refine Hfb (Z5 _ hm) ?_
   refine Hbb (by rw[hl];simp only[Vd,Vj];omega) (next _ ?_)
   rw[Wk hj,Vc,Vk hj]
   rfl
 ·rintro r rfl
  refine H4b (Q:=λ r=>r=(Gda,w)) ?_ (by rintro r rfl;exact H3b rfl)
  refine Hcb (L:=λ k i (s:List Wri)=>Gr k i w Gda (w.1,w.2.1,w.2.2.1,w.2.2.2.1,s,w.2.2.2.2.2)) (Q:=λ r=>r=(Gda,w)) w.2.2.2.2.1.length (λ j s=>s=w.2.2.2.2.1.take j) ?_ ?_ 0 [] (Vo _) rfl
  ·rintro s rfl
   simp (disch:=omega) only [Gr,dF]
   exact H3b (by rw[Yo])
  ·rintro j s hj rfl next
   have hm:=(h6 _ (A3 (d:=Dca) hj)).2.1
   have e0:w.2.2.2.2.1.getD j ((⟨#[]⟩:ByteArray),((((0:Int),((0:Int),(0:Int))),(false,[])),false))=w.2.2.2.2.1.getD j Dca:=rfl
   have hl:(w.2.2.2.2.1.take j).length=j:=by rw[Vs];omega
   simp (disch:=omega) only [Gr,dT,Va,w64,e0,Jca hm,Vn]
   refine Hbb (by rw[hl];simp only[Vd,Vj];omega) (next _ ?_)
   rw[Wk hj,Vc,Vk hj]
   rfl

def Vta {c:Stp} (hc:Ga c=true) (t d:Int):I0 c t d=some (Kw c t d):=by
 have h2:0≤c.2.1∧c.2.1≤1000000:=by
  unfold Ga at hc
  rw[Vb,Vb,Cf,Cf]at hc
  exact hc.2.1
 unfold I0 Kw
 rw[w64 (n:=c.2.1+1) (by omega) (by omega)]
 simp only[W5,Vn]
 cases decide (t≤c.1) with
 |true=>cases Ga (c.1,c.2.1+1,d)<;>rfl
 |false=>cases Ga (t,0,d)<;>rfl
def A0a {f:Fil} (h:f.2.2.length≤1000000000):G6 f=some f:=by
 unfold G6
 rw[Nk _ (by omega)]
 rfl
def Vua {n:Nod} {s:ByteArray} {f:Fil} {sure:Bool} (hn:NG n) (hs:B2 s=true) (hf:F8 f=true):Fub n s f sure=Tz n s f sure:=by
 unfold Fub
 rw[hn.1,hs,hf]
 rfl
def Qka {n:Nod} (r:Int) (s:ByteArray) (f:Fil) (g:Int) (hn:NG n) (hs:B2 s=true) (hf:F8 f=true) (h0:0≤g) (h1:g≤9000000000000):
  Tot (λ k=>Dn k n r s f g) (λ x=>x=((Tz n s f (r != 3)).1,s,f,bif r==1&&((Tz n s f (r != 3)).2==0||(Tz n s f (r != 3)).2==1) then g+1 else g)):=by
 unfold Dn
 refine Hfb (Lna n s f (r != 3) (Ug hn) (J5 hs)) ?_
 rw[Vua hn hs hf,w64 (n:=g+1) (by omega) (by omega)]
 generalize Tz n s f (r != 3)=p
 cases r==1
 ·exact H5b rfl (H3b rfl)
 refine H6b rfl ?_
 cases p.2==0
 case true=>exact H6b rfl (H3b rfl)
 refine H5b rfl ?_
 cases p.2==1 with
 |true=>exact H6b rfl (H3b rfl)
 |false=>exact H5b rfl (H3b rfl)
def Zga (w:Wld) (s:ByteArray) (f:Fil) (rc:List Int) (hr:Il w.2.1 w.1=true) (hn:NS w.2.2.1) (hs:B2 s=true) (hf:F8 f=true):
  Tot (λ k=>Aa k w s rc true s f 0) (λ r=>r=(wN w (wrN w s f rc).1,s,f,(wrN w s f rc).2.2)):=by
 have hsz:s.size≤1000000000:=by
  have:=Cf.1 (Vb _ _ ▸ hs:_∧_).2
  omega
 obtain⟨_,hR,_⟩:=B1.1 hr
 unfold Aa
 refine Hfb (J2a w s hr hn.1 hsz) ?_
 have hc:=λ x=>Rp (w:=w) (s:=s) (x:=x)
 have hcl:(E9 w s).length≤4000000000000:=by
  unfold E9
  refine Q7 hn.1 ?_
  have h5:=(B1.1 hr).2.1
  have p2:=(Uk hr s).2.1
  have h12:=(Cu.1 (B1.1 hr).1).2.2.2
  have hh:=Q8 w.2.1 w.1 s
  rw[Ve];omega
 have hrun:wrN w s f rc=run (wst w.2.1.1 rc s f (E9 w s)) (E9 w s).length (w.2.2.1,0,0):=rfl
 have inv:∀ n,n≤(E9 w s).length→NS (run (wst w.2.1.1 rc s f (E9 w s)) n (w.2.2.1,0,0)).1∧(run (wst w.2.1.1 rc s f (E9 w s)) n (w.2.2.1,0,0)).1.length=w.2.2.1.length∧(0≤(run (wst w.2.1.1 rc s f (E9 w s)) n (w.2.2.1,0,0)).2.1∧(run (wst w.2.1.1 rc s f (E9 w s)) n (w.2.2.1,0,0)).2.1≤n)∧0≤(run (wst w.2.1.1 rc s f (E9 w s)) n (w.2.2.1,0,0)).2.2∧(run (wst w.2.1.1 rc s f (E9 w s)) n (w.2.2.1,0,0)).2.2≤n:=by
  intro n hn'
  refine Np (λ j (b:List Nod×Int×Int)=>NS b.1∧b.1.length=w.2.2.1.length∧(0≤b.2.1∧b.2.1≤(j:Int))∧0≤b.2.2∧b.2.2≤(j:Int)) ⟨hn,rfl,⟨Zr _,Zr _⟩,Zr _,Zr _⟩ (λ j b hj hb=>Apb hs hf hb ?_)
  have:=hc _ (A3 (d:=0) (show j<(E9 w s).length by omega))
  omega
 generalize hcs:E9 w s=cs at *
 refine H4b (Q:=λ r=>r=(wN w (wrN w s f rc).1,s,f,(wrN w s f rc).2.2)) ?_ (by rintro r rfl;exact H3b rfl)
 refine Hcb (L:=λ k i (a:List Nod×Int×Int)=>Ae k rc a.2.1 cs (cs.length:Int) i (wN w a.1) s f a.2.2) (Q:=λ r=>r=(wN w (wrN w s f rc).1,s,f,(wrN w s f rc).2.2)) cs.length (λ j a=>a=run (wst w.2.1.1 rc s f cs) j (w.2.2.1,0,0)) ?_ ?_ 0 (w.2.2.1,0,0) (Vo _) rfl
 ·rintro a rfl
  simp (disch:=omega) only [Ae,dF]
  exact H3b (by rw[hrun])
 ·rintro j a hj rfl next
  obtain⟨i1,i2,i3,i4,i5⟩:=inv j (by omega)
  rw[Pg]at next
  generalize run (wst w.2.1.1 rc s f cs) j (w.2.2.1,0,0)=a at *
  obtain⟨ns,o,g⟩:=a
  dsimp only at i1 i2 i3 i4 i5
  have hci:=hc _ (A3 (d:=0) hj)
  obtain⟨i,ei⟩:∃ i:Nat,cs.getD j 0=(i:Int):=⟨(cs.getD j 0).toNat,by omega⟩
  rw[ei]at hci
  unfold wst at next
  rw[ei,Va]at next
  dsimp only at next
  have e0:ns.getD i ((0:Int),(([],[]),([],[])))=ns.getD i Bb:=rfl
  simp (disch:=omega) only [Ae,dT,wN,Va,w64,ei,e0,Lta,Vn]
  cases h0:rch rc j==0 with
  |true=>
   refine H5b (by rw[bne,h0];rfl) ?_
   rw[h0]at next
   refine next (ns,o,g) ?_
   cases decide (o<w.2.1.1)<;>rfl
  |false=>
   refine H6b (by rw[bne,h0];rfl) ?_
   rw[h0]at next
   refine Hab (λ hR'=>?_) (λ hR'=>?_)
   ·rw[decide_eq_true hR']at next
    refine Hfb (Qka (rch rc j) s f g (i1.get (by omega)) hs hf i4 (by omega)) ?_
    exact next _ rfl
   ·rw[decide_eq_false hR']at next
    exact next _ rfl
def Vva (w:Wld) (s:ByteArray) (f:Fil) (t:Int) (rc:List Int) (hr:Il w.2.1 w.1=true) (hn:NS w.2.2.1) (hst:Ga w.2.2.2.1=true) (hs:Mo s) (hd:f.2.1=true→f.2.2=[]) (hw:w.2.2.2.2.1.length≤200):
  Tot (λ k=>Cg k w s f t rc) (λ r=>r=ask w s f t rc):=by
 unfold Cg ask
 refine Hfb (Pc s hs) ?_
 cases hs':B2 s
 ·exact H6b rfl (H3b rfl)
 refine H5b rfl ?_
 rw[Za,cond_false]
 by_cases hl:(f.2.2.length:Int) > 200
 ·rw[decide_eq_true hl];exact H6b rfl (H3b rfl)
 ·rw[decide_eq_false hl,cond_false]
  refine H5b rfl ?_
  simp only[Ru,Vta hst,Vn]
  cases inR t 0 1000000000
  ·exact H6b rfl (H3b rfl)
  refine H5b rfl ?_
  rw[Za,cond_false]
  by_cases h200:w.2.2.2.2.1.length=200
  ·rw[show ((w.2.2.2.2.1.length:Int)==200)=true by rw[beq_iff_eq];omega]
   exact H7b (by omega) (H3b rfl)
  ·rw[show ((w.2.2.2.2.1.length:Int)==200)=false by rw[beq_eq_false_iff_ne];omega,cond_false]
   refine H8b (by omega) ?_
   cases (Kw w.2.2.2.1 t 0).1==w.2.2.2.1.1&&((Kw w.2.2.2.1 t 0).2.1==w.2.2.2.1.2.1&&(Kw w.2.2.2.1 t 0).2.2==w.2.2.2.1.2.2)
   case true=>exact H6b rfl (H3b rfl)
   rw[cond_false]
   have hfo:F8 (Kw w.2.2.2.1 t 0,f.2)=true:=K6.2 ⟨(X3 hst t 0).1,by show f.2.2.length≤200;omega,hd⟩
   refine H5b rfl (Hfb (Zga (w.1,w.2.1,w.2.2.1,Kw w.2.2.2.1 t 0,w.2.2.2.2) s (Kw w.2.2.2.1 t 0,f.2) rc hr hn hs' hfo) ?_)
   have h5:=(B1.1 hr).2.1
   dsimp only[wN]
   rw[Cwb (by omega) (by omega),A0a (f:=(Kw w.2.2.2.1 t 0,f.2)) (show f.2.2.length≤_ by omega)]
   simp only[Vn]
   refine Hbb (by simp only[Vd,Vj];omega) ?_
   unfold X4
   cases decide ((wrN (w.1,w.2.1,w.2.2.1,Kw w.2.2.2.1 t 0,w.2.2.2.2) s (Kw w.2.2.2.1 t 0,f.2) rc).2.2≥quo w.2.1.1) with
   |true=>exact H3b rfl
   |false=>exact H3b rfl

def Zha (w:Wld) (i:Nat) (s:ByteArray) (rc:List Int) (hr:Il w.2.1 w.1=true) (hn:NS w.2.2.1) (hi:i<w.2.2.1.length):Tot (λ k=>Al k w (i:Int) s rc) (λ r=>r=Cna w i s rc):=by
 have hni:=hn.get hi
 unfold Al Cna
 have e0:w.2.2.1.getD i ((0:Int),(([],[]),([],[])))=w.2.2.1.getD i Bb:=rfl
 simp (disch:=omega) only [dT,Va,e0]
 have hin:=(Ug hni).1
 refine Hfb (O3a hin.1.1.1.1 hin.2.1 s) ?_
 cases hl:(lkD (w.2.2.1.getD i Bb).2.1 s).2 != 0
 case true=>exact H6b rfl (H3b rfl)
 refine H5b rfl ?_
 rw[cond_false]
 have hlk:∃ b,gt (w.2.2.1.getD i Bb).2.1.1 s=some b:=by
  rw[bne,Wo,beq_iff_eq]at hl
  obtain⟨b,hb,_⟩:=Qw.1 (show lkD (w.2.2.1.getD i Bb).2.1 s=((lkD (w.2.2.1.getD i Bb).2.1 s).1,0) from by rw[← hl])
  exact⟨b,hb⟩
 have hs:B2 s=true:=Q1a hni.g.1 (by obtain⟨b,hb⟩:=hlk;rw[hb];rfl)
 have hsz:s.size≤1000000000:=by
  have:=Cf.1 (Vb _ _ ▸ hs:_∧_).2
  omega
 refine Hfb (Ava _ s (Mn hr) hsz) ?_
 refine Hfb (Ul w _ hn.1 (Tk (Mn hr) s)) ?_
 have hpl:=J6a (s:=s) hr hn.1
 have hc:=λ x=>Tn (w:=w) (s:=s) (x:=x)
 have hrun:puN w i s rc=run (pst (i:Int) s (lkD (w.2.2.1.getD i Bb).2.1 s).1 rc (Ph w s)) (Ph w s).length (w.2.2.1,false,true):=rfl
 obtain⟨p1,p2⟩:=Arb (w:=w) (i:=i) (s:=s) (rc:=rc) hn
 have inv:∀ n,n≤(Ph w s).length→NS (run (pst (i:Int) s (lkD (w.2.2.1.getD i Bb).2.1 s).1 rc (Ph w s)) n (w.2.2.1,false,true)).1∧(run (pst (i:Int) s (lkD (w.2.2.1.getD i Bb).2.1 s).1 rc (Ph w s)) n (w.2.2.1,false,true)).1.length=w.2.2.1.length:=λ n hn'=>
  Np (λ _ (b:List Nod×Bool×Bool)=>NS b.1∧b.1.length=w.2.2.1.length) ⟨hn,rfl⟩ (λ j b hj hb=>Vda hb (by have:=hc _ (A3 (d:=0) (show j<(Ph w s).length by omega));omega))
 rw[show whr w.2.2.1 (Wz w.2.1 s)=Ph w s from rfl]
 generalize (lkD (w.2.2.1.getD i Bb).2.1 s).1=f at *
 generalize Ph w s=ps at *
 refine H4b (Q:=λ r=>r=((i:Int),s,(puN w i s rc).2.2,(puN w i s rc).2.1,wN w (puN w i s rc).1)) ?_ ?_
 ·refine Hcb (L:=λ k j (a:List Nod×Bool×Bool)=>Ah k (i:Int) s rc a.2.2 a.2.1 ps (ps.length:Int) j (wN w a.1) f) (Q:=λ r=>r=((i:Int),s,(puN w i s rc).2.2,(puN w i s rc).2.1,wN w (puN w i s rc).1)) ps.length (λ j a=>a=run (pst (i:Int) s f rc ps) j (w.2.2.1,false,true)) ?_ ?_ 0 (w.2.2.1,false,true) (Vo _) rfl
  ·rintro a rfl
   simp (disch:=omega) only [Ah,dF]
   exact H3b (by rw[hrun])
  ·rintro j a hj rfl next
   obtain⟨i1,i2⟩:=inv j (by omega)
   rw[Pg]at next
   generalize run (pst (i:Int) s f rc ps) j (w.2.2.1,false,true)=a at *
   obtain⟨ns,o,g⟩:=a
   dsimp only at i1 i2
   have hci:=hc _ (A3 (d:=0) hj)
   obtain⟨m,em⟩:∃ m:Nat,ps.getD j 0=(m:Int):=⟨(ps.getD j 0).toNat,by omega⟩
   rw[em]at hci
   unfold pst at next
   rw[em,Va]at next
   have e0:ns.getD m ((0:Int),(([],[]),([],[])))=ns.getD m Bb:=rfl
   simp (disch:=omega) only [Ah,dT,Va,w64,em,wN,e0]
   cases hz:(m:Int)==(i:Int) with
   |true=>
    rw[hz]at next
    exact H6b rfl (next _ rfl)
   |false=>
    rw[hz]at next
    refine H5b rfl ?_
    simp only[Lta,Vn]
    cases h1:rch rc j != 1 with
    |true=>
     rw[h1]at next
     exact H6b rfl (next _ rfl)
    |false=>
     rw[h1]at next
     refine H5b rfl ?_
     have hm:=Ug (i1.get (i:=m) (by omega))
     refine Hfb (O4a (ns.getD m Bb).2.1 s f true hm.1.1 hm.1.2.1 (J5 hs)) ?_
     dsimp only at next ⊢
     generalize keep (ns.getD m Bb).2.1 s f true=q at *
     cases g with
     |false=>
      refine H5b rfl (next (ns.set m ((ns.getD m Bb).1,q.1,(ns.getD m Bb).2.2),o,false) ?_)
      cases q.2 != 0&&q.2 != 1<;>rfl
     |true=>
      refine H6b rfl ?_
      cases h2:q.2==0
      case true=>rw[bne,h2]at next;exact H6b rfl (next _ rfl)
      rw[bne,h2]at next
      refine H5b rfl ?_
      cases h3:q.2==1 with
      |true=>rw[bne,h3]at next;exact next _ rfl
      |false=>rw[bne,h3]at next;exact next _ rfl
 ·rintro r rfl
  dsimp only[wN]
  generalize puN w i s rc=a at *
  obtain⟨ns,o,g⟩:=a
  dsimp only at p1 p2 ⊢
  cases o with
  |true=>
   refine H5b rfl (H3b ?_)
   rw[Za,Yt]
   rfl
  |false=>
   refine H6b rfl ?_
   cases g
   ·exact H5b rfl (H3b rfl)
   refine H6b rfl ?_
   have e0:ns.getD i ((0:Int),(([],[]),([],[])))=ns.getD i Bb:=rfl
   simp (disch:=omega) only [dT,Va,e0]
   have hg:=(p1.get (i:=i) (by omega)).g
   refine Hfb (Lca hg.1) ?_
   refine Hfb (Iha (Y8a hg).1 hs) ?_
   exact H3b rfl
def Zia {n:Nod} {l:List Row} (hn:NG n) (hl:M8 l=true):Yca n l=((tk n l).2,(tk n l).1):=by
 unfold Yca tk
 rw[hn.1,hl]
 cases decide ((X8 n.2.2.1 l).length > 60)<;>rfl
def Jda (w:Wld) (src:Int) (l:List Row) (rc:List Int) (hr:RBd w.2.1) (hn:NS w.2.2.1) (hl:M8 l=true):
  Tot (λ k=>Ar k w l rc src) (λ r=>r=((Nc w src l false rc).2,wN w (Nc w src l false rc).1)):=by
 have hll:=Fqa hl
 unfold Ar
 refine Hfb (Cla w hr hn.1) ?_
 have hpl:=Rq hr hn.1
 have hc:=λ x=>Pl (w:=w) (x:=x)
 have hrun:Nc w src l false rc=run (gst src l false rc (Im w)) (Im w).length (w.2.2.1,true):=rfl
 have inv:∀ n,n≤(Im w).length→NS (run (gst src l false rc (Im w)) n (w.2.2.1,true)).1∧(run (gst src l false rc (Im w)) n (w.2.2.1,true)).1.length=w.2.2.1.length:=λ n hn'=>
  Np (λ _ (b:List Nod×Bool)=>NS b.1∧b.1.length=w.2.2.1.length) ⟨hn,rfl⟩ (λ j b hj hb=>Vea hl hb (by have:=hc _ (A3 (d:=0) (show j<(Im w).length by omega));omega))
 generalize Im w=ls at *
 refine H4b (Q:=λ r=>r=((Nc w src l false rc).2,wN w (Nc w src l false rc).1)) ?_ (by rintro r rfl;exact H3b rfl)
 refine Hcb (L:=λ k j (a:List Nod×Bool)=>B3 k l rc src a.2 ls (ls.length:Int) j (wN w a.1)) (Q:=λ r=>r=((Nc w src l false rc).2,wN w (Nc w src l false rc).1)) ls.length (λ j a=>a=run (gst src l false rc ls) j (w.2.2.1,true)) ?_ ?_ 0 (w.2.2.1,true) (Vo _) rfl
 ·rintro a rfl
  simp (disch:=omega) only [B3,dF]
  exact H3b (by rw[hrun])
 ·rintro j a hj rfl next
  obtain⟨i1,i2⟩:=inv j (by omega)
  rw[Pg]at next
  generalize run (gst src l false rc ls) j (w.2.2.1,true)=a at *
  obtain⟨ns,g⟩:=a
  dsimp only at i1 i2
  have hci:=hc _ (A3 (d:=0) hj)
  obtain⟨m,em⟩:∃ m:Nat,ls.getD j 0=(m:Int):=⟨(ls.getD j 0).toNat,by omega⟩
  rw[em]at hci
  unfold gst at next
  rw[em,Va,I7b,Ijb]at next
  have e0:ns.getD m ((0:Int),(([],[]),([],[])))=ns.getD m Bb:=rfl
  have hm:=i1.get (i:=m) (by omega)
  simp (disch:=omega) only [B3,dT,Va,w64,em,e0,wN]
  cases hz:(m:Int)==src with
  |true=>
   rw[hz]at next
   exact H6b rfl (next _ rfl)
  |false=>
   rw[hz]at next
   refine H5b rfl ?_
   simp only[Lta,Vn]
   cases h1:rch rc j != 1 with
   |true=>
    rw[h1]at next
    exact H6b rfl (next _ rfl)
   |false=>
    rw[h1]at next
    refine H5b rfl (Hfb (Yda (ns.getD m Bb) l (Ug hm) hll) ?_)
    rw[Zia hm hl]
    dsimp only at next ⊢
    generalize tk (ns.getD m Bb) l=q at *
    cases g with
    |false=>
     refine H5b rfl (next (ns.set m q.2,false) ?_)
     cases q.1<;>rfl
    |true=>
     refine H6b rfl (next (ns.set m q.2,q.1) ?_)
     cases q.1<;>rfl

def Awb:∀ {l m:List ByteArray},TS l→TS m→(∀ y,y∈l↔y∈m)→l=m
 |[],[],_,_,_=>rfl
 |[],y::m,_,_,h=>absurd ((h y).2 Yb) (by simp)
 |x::l,[],_,_,h=>absurd ((h x).1 Yb) (by simp)
 |x::l,y::m,hl,hm,h=>by
  obtain⟨l1,l2⟩:=Wj.1 hl
  obtain⟨m1,m2⟩:=Wj.1 hm
  have e:x=y:=by
   rcases Vl.1 ((h x).1 Yb) with e|hx
   ·exact e
   ·rcases Vl.1 ((h y).2 Yb) with e|hy
    ·exact e.symm
    ·have:=W0 (m1 x hx)
     rw[l1 y hy]at this
     cases this
  subst e
  refine congrArg _ (Awb l2 m2 λ z=>⟨λ hz=>?_,λ hz=>?_⟩)
  ·rcases Vl.1 ((h z).1 (Vh _ hz)) with e|hz'
   ·subst e;have:=l1 z hz;rw[Lh]at this;cases this
   ·exact hz'
  ·rcases Vl.1 ((h z).2 (Vh _ hz)) with e|hz'
   ·subst e;have:=m1 z hz;rw[Lh]at this;cases this
   ·exact hz'
def Fmb {l:List ByteArray} (h:TS l) (s:ByteArray):wt l s=spl l s:=Awb (Qu h) (Y7 h) λ y=>by rw[Ifa,Cqa]
def T1 {l:List Row} (h:l.length≤2000000000):Af l=some l:=by
 unfold Af
 rw[bT (by simp only[Vj];omega),Vx]
def Qla (w:Wld) (src:Int) (l:List Row) (rc:List Int):Nc w (-1) l false rc=Nc w src l true rc:=by
 unfold Nc
 refine Np (λ n (a:List Nod×Bool)=>a=run (gst src l true rc (Im w)) n (w.2.2.1,true)) rfl (λ j b hj hb=>?_)
 rw[Pg,← hb]
 have:=(Pl (A3 (d:=0) hj)).1
 unfold gst
 rw[show ((Im w).getD j 0 == -1)=false by rw[beq_eq_false_iff_ne];omega,Za,Yt,Zt]
def M2a (w:Wld) (src:Int) (l:List Row) (self:Bool) (rc:List Int) (m:Nat):((Nc w src l self rc).1.getD m Bb).2.2.2=(w.2.2.1.getD m Bb).2.2.2:=by
 unfold Nc
 refine Np (λ n (a:List Nod×Bool)=>(a.1.getD m Bb).2.2.2=(w.2.2.1.getD m Bb).2.2.2) rfl (λ j b hj hb=>?_)
 unfold gst
 cases (Im w).getD j 0==src&&!self
 case true=>exact hb
 cases rch rc j != 1
 case true=>exact hb
 rw[cond_false,cond_false]
 generalize ((Im w).getD j 0).toNat=i
 show ((b.1.set i (tk (b.1.getD i Bb) l).2).getD m Bb).2.2.2=_
 by_cases hm:m<b.1.length
 ·rw[Ol hm]
  by_cases hi:i=m
  ·subst hi
   rw[if_pos rfl,← hb]
   unfold tk
   cases decide ((X8 (b.1.getD i Bb).2.2.1 l).length > 60)<;>rfl
  ·rw[if_neg hi];exact hb
 ·rw[Vc,Zf (by rw[Wb];omega)]
  rw[Vc,Zf (by omega)]at hb
  exact hb
def Vwa (w:Wld) (i:Nat) (rc:List Int) (hr:RBd w.2.1) (hn:NS w.2.2.1) (hi:i<w.2.2.1.length):Tot (λ k=>C0 k w (i:Int) rc) (λ r=>r=Coa w i rc):=by
 have hni:=hn.get hi
 have e0:w.2.2.1.getD i ((0:Int),(([],[]),([],[])))=w.2.2.1.getD i Bb:=rfl
 have hl:=(Dv.1 hni.1).2.2.2.1
 have hll:=(Fqa hl).1
 unfold C0 Coa
 simp (disch:=omega) only [dT,Va,e0,T1 (show (w.2.2.1.getD i Bb).2.2.1.length≤2000000000 by omega),Vn]
 cases hz:((w.2.2.1.getD i Bb).2.2.1.length:Int)==0
 case true=>exact H6b rfl (H3b rfl)
 refine H5b rfl (Hfb (Jda w (i:Int) _ rc hr hn hl) ?_)
 obtain⟨p1,p2⟩:=Axa (w:=w) (src:=(i:Int)) (self:=false) (rc:=rc) hl hn
 rw[show Nc w (i:Int) (w.2.2.1.getD i Bb).2.2.1 false rc=Ry w i rc from rfl]at p1 p2 ⊢
 generalize Ry w i rc=a at *
 obtain⟨ns,g⟩:=a
 dsimp only at p1 p2 ⊢
 cases g
 ·exact H5b rfl (H3b rfl)
 refine H6b rfl (Hfb (Cla (wN w ns) hr p1.1) ?_)
 refine Hfb (Uh _ _ (by have:=Rq (w:=wN w ns) hr p1.1;omega)) ?_
 cases Oj (Im (wN w ns)) (i:Int)
 case true=>exact H5b rfl (H3b rfl)
 have e1:ns.getD i ((0:Int),(([],[]),([],[])))=ns.getD i Bb:=rfl
 refine H6b rfl ?_
 simp (disch:=omega) only [dT,Va,e1]
 exact H3b rfl
def Vxa (w:Wld) (i:Nat) (rc:List Int) (hr:RBd w.2.1) (hn:NS w.2.2.1) (hi:i<w.2.2.1.length):Tot (λ k=>C4 k w (i:Int) rc) (λ r=>r=Cpa w i rc):=by
 have hni:=hn.get hi
 have e0:w.2.2.1.getD i ((0:Int),(([],[]),([],[])))=w.2.2.1.getD i Bb:=rfl
 obtain⟨hq,_,_,_,hq60⟩:=Dv.1 hni.1
 have hl:=Rr hq
 unfold C4 Cpa
 simp (disch:=omega) only [dT,Va,e0]
 cases hz:((w.2.2.1.getD i Bb).2.2.2.length:Int)==0
 case true=>exact H6b rfl (H3b rfl)
 have h1:=beq_eq_false_iff_ne.1 hz
 refine H5b rfl (H7b (by omega) ?_)
 rw[show List.take (toNat 1) (w.2.2.1.getD i Bb).2.2.2=List.take 1 (w.2.2.1.getD i Bb).2.2.2 from rfl,T1 (by rw[Vs];omega)]
 simp only[Vn]
 refine Hfb (Jda w (-1) _ rc hr hn hl) ?_
 rw[Qla w (i:Int)]
 obtain⟨p1,p2⟩:=Axa (w:=w) (src:=(i:Int)) (self:=true) (rc:=rc) hl hn
 have hqu:=M2a w (i:Int) ((w.2.2.1.getD i Bb).2.2.2.take 1) true rc i
 rw[show Nc w (i:Int) ((w.2.2.1.getD i Bb).2.2.2.take 1) true rc=T0 w i rc from rfl]at p1 p2 hqu ⊢
 generalize T0 w i rc=a at *
 obtain⟨ns,g⟩:=a
 dsimp only at p1 p2 hqu ⊢
 cases g
 ·exact H5b rfl (H3b rfl)
 have e1:ns.getD i ((0:Int),(([],[]),([],[])))=ns.getD i Bb:=rfl
 refine H6b rfl ?_
 simp (disch:=omega) only [dT,Va,e1,hqu]
 rw[show List.drop (toNat 1) (w.2.2.1.getD i Bb).2.2.2=List.drop 1 (w.2.2.1.getD i Bb).2.2.2 from rfl,T1 (by rw[We];omega)]
 exact H3b rfl

end Go.Proofs.YtmhhjceoinoekaaGreat.Vf
