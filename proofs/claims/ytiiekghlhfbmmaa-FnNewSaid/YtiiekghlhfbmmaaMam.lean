import Derived.Test.YtiiekghlhfbmmaaMal
set_option linter.all false
namespace Go.Proofs.Ytiiekghlhfbmmaa.Vf
open Go
open List (length getD)
open Int (toNat)
open Go.IntKind (wrap)
open BitVec (ofInt)
def Zia:=@List.pairwise_singleton
def Zva:=@List.drop_append_of_le_length
def Zwa:=@List.take_append_of_le_length
def Zxa:=@List.getElem_map

def run {α:Type} (st:α→Nat→α) (n:Nat) (a:α):α:=(List.range n).foldl st a
def P9a {α:Type} (st:α→Nat→α) (n:Nat) (a:α):run st (n+1) a=st (run st n a) n:=by
 unfold run
 rw[A6b,Z3a]
 rfl
def Jm {α:Type} {st:α→Nat→α} (P:Nat→α→Prop) {n:Nat} {a:α} (h0:P 0 a) (hs:∀ j b,j<n→P j b→P (j+1) (st b j)):P n (run st n a):=by
 have:∀ m,m≤n→P m (run st m a):=by
  intro m
  induction m with
  |zero=>intro _;exact h0
  |succ m ih=>intro hm;rw[P9a];exact hs m _ (by omega) (ih (by omega))
 exact this n (Vv _)
def NS (ns:List Nod):Prop:=ns.length≤2000000∧∀ n∈ns,NG n
def NS.set {ns:List Nod} (h:NS ns) {i:Nat} {n:Nod} (hn:NG n):NS (ns.set i n):=⟨by rw[Wc];exact h.1,λ m hm=>by
 rcases Yq hm with hm|rfl
 ·exact h.2 m hm
 ·exact hn⟩
def NS.get {ns:List Nod} (h:NS ns) {i:Nat} (hi:i<ns.length):NG (ns.getD i A7):=h.2 _ (A3 hi)
abbrev wN (w:Wld) (ns:List Nod):Wld:=(w.1,w.2.1,ns,w.2.2.2)
def J5 (c:Stp) (t d:Int):Stp:=bif decide (t≤c.1) then (bif Gg (c.1,c.2.1+1,d) then (c.1,c.2.1+1,d) else c) else (bif Gg (t,0,d) then (t,0,d) else c)
def Foa {c:Stp} (hc:Gg c=true) (t d:Int):Gg (J5 c t d)=true∧(J5 c t d=c∨sle c (J5 c t d)=true):=by
 unfold J5
 by_cases h:t≤c.1
 ·rw[decide_eq_true h,cond_true]
  cases hs:Gg (c.1,c.2.1+1,d) with
  |true=>exact⟨hs,.inr (Iv.2 (.inr ⟨rfl,.inl (by show c.2.1<c.2.1+1;omega)⟩))⟩
  |false=>exact⟨hc,.inl rfl⟩
 ·rw[decide_eq_false h,cond_false]
  cases hs:Gg (t,0,d) with
  |true=>exact⟨hs,.inr (Iv.2 (.inl (by show c.1<t;omega)))⟩
  |false=>exact⟨hc,.inl rfl⟩
def wst (R:Int) (rc:List Int) (s:ByteArray) (f:Fil) (cs:List Int) (a:List Nod×Int×Int) (j:Nat):List Nod×Int×Int:=
 bif decide (a.2.1<R) then (bif rch rc j==0 then a else
  (a.1.set (cs.getD j 0).toNat (Ww (a.1.getD (cs.getD j 0).toNat A7) s f (rch rc j != 3)).1,a.2.1+1,
   bif rch rc j==1&&((Ww (a.1.getD (cs.getD j 0).toNat A7) s f (rch rc j != 3)).2==0||(Ww (a.1.getD (cs.getD j 0).toNat A7) s f (rch rc j != 3)).2==1) then a.2.2+1 else a.2.2))
 else a
def wrN (w:Wld) (s:ByteArray) (f:Fil) (rc:List Int):List Nod×Int×Int:=run (wst w.2.1.1 rc s f (X6 w s)) (X6 w s).length (w.2.2.1,0,0)
def B4a (w:Wld) (s:ByteArray) (f:Fil) (rc:List Int):Int×Wld:=
 (bif decide ((wrN w s f rc).2.2≥quo w.2.1.1) then 0 else 1,(w.1,w.2.1,(wrN w s f rc).1,w.2.2.2.1,w.2.2.2.2.1++[(s,f,decide ((wrN w s f rc).2.2≥quo w.2.1.1))],w.2.2.2.2.2))
def Si {w:Wld} {s:ByteArray} {x:Int} (h:x∈X6 w s):0≤x∧x<(w.2.2.1.length:Int):=by
 obtain⟨j,h1,_,rfl⟩:=Pk.1 h
 omega
def ask (w:Wld) (s:ByteArray) (f:Fil) (t:Int) (rc:List Int):Int×Wld:=
 bif !(Cg s) then (2,w) else bif decide ((f.2.2.length:Int) > 200) then (2,w) else bif !(inR t 0 1000000000) then (2,w) else
 bif (w.2.2.2.2.1.length:Int)==200 then (3,w) else
 bif (J5 w.2.2.2.1 t 0).1==w.2.2.2.1.1&&((J5 w.2.2.2.1 t 0).2.1==w.2.2.2.1.2.1&&(J5 w.2.2.2.1 t 0).2.2==w.2.2.2.1.2.2) then (3,w) else
 B4a (w.1,w.2.1,w.2.2.1,J5 w.2.2.2.1 t 0,w.2.2.2.2) s (J5 w.2.2.2.1 t 0,f.2) rc
def pst (src:Int) (s:ByteArray) (f:Fil) (rc ps:List Int) (a:List Nod×Bool×Bool) (j:Nat):List Nod×Bool×Bool:=
 bif ps.getD j 0==src then (a.1,true,a.2.2) else bif rch rc j != 1 then (a.1,a.2.1,false) else
  (a.1.set (ps.getD j 0).toNat ((a.1.getD (ps.getD j 0).toNat A7).1,(keep (a.1.getD (ps.getD j 0).toNat A7).2.1 s f true).1,(a.1.getD (ps.getD j 0).toNat A7).2.2),a.2.1,
   bif (keep (a.1.getD (ps.getD j 0).toNat A7).2.1 s f true).2 != 0&&(keep (a.1.getD (ps.getD j 0).toNat A7).2.1 s f true).2 != 1 then false else a.2.2)
def Nd (w:Wld) (s:ByteArray):List Int:=whr w.2.2.1 (Pj w.2.1 s)
def puN (w:Wld) (i:Nat) (s:ByteArray) (rc:List Int):List Nod×Bool×Bool:=run (pst (i:Int) s (lkD (w.2.2.1.getD i A7).2.1 s).1 rc (Nd w s)) (Nd w s).length (w.2.2.1,false,true)
def Wda (n:Nod) (s:ByteArray):Nod:=(n.1,(syD (rmD n.2.1 s).1 s).1,n.2.2)
def Ob (w:Wld) (i:Nat) (s:ByteArray) (rc:List Int):Bool×Wld:=bif (lkD (w.2.2.1.getD i A7).2.1 s).2 != 0 then (false,w) else
 (true,wN w (bif (puN w i s rc).2.2&&!(puN w i s rc).2.1 then (puN w i s rc).1.set i (Wda ((puN w i s rc).1.getD i A7) s) else (puN w i s rc).1))
def Qua {n:Nod} (hn:NG n) {s:ByteArray} (hs:Cg s=true):NG (Wda n s):=X4 hn (V8a (Wwa hn.g) hs)
def Dda {n:Nod} (hn:NG n) {s:ByteArray} {f:Fil} {sure:Bool}:NG (n.1,(keep n.2.1 s f sure).1,n.2.2):=X4 hn (Qla hn.g)
def Qn {w:Wld} {s:ByteArray} {x:Int} (h:x∈Nd w s):0≤x∧x<(w.2.2.1.length:Int):=by
 obtain⟨j,h1,_,rfl⟩:=Pk.1 h
 omega

def tk (n:Nod) (l:List Row):Bool×Nod:=bif decide ((Oi n.2.2.1 l).length > 60) then (false,n) else (true,(n.1,n.2.1,Oi n.2.2.1 l,n.2.2.2))
def X0a {n:Nod} {l:List Row} (hn:NG n) (hl:Hm l=true):NG (tk n l).2:=by
 obtain⟨h1,h2,h3,h4,h5⟩:=Bl.1 hn.1
 unfold tk
 by_cases h:(Oi n.2.2.1 l).length > 60
 ·rw[decide_eq_true h];exact hn
 ·rw[decide_eq_false h]
  exact⟨Bl.2 ⟨h1,h2,h3,D2a h4 hl (by omega),h5⟩,hn.2⟩
def gst (src:Int) (l:List Row) (self:Bool) (rc ls:List Int) (a:List Nod×Bool) (j:Nat):List Nod×Bool:=
 bif ls.getD j 0==src&&!self then a else bif rch rc j != 1 then (a.1,false) else
  (a.1.set (ls.getD j 0).toNat (tk (a.1.getD (ls.getD j 0).toNat A7) l).2,bif (tk (a.1.getD (ls.getD j 0).toNat A7) l).1 then a.2 else false)
def Nf (w:Wld) (src:Int) (l:List Row) (self:Bool) (rc:List Int):List Nod×Bool:=run (gst src l self rc (Em w)) (Em w).length (w.2.2.1,true)
def Vka {src:Int} {l:List Row} {self:Bool} {rc ls:List Int} {a:List Nod×Bool} {j m:Nat} (hl:Hm l=true) (h:NS a.1∧a.1.length=m) (hc:(ls.getD j 0).toNat<m):NS (gst src l self rc ls a j).1∧(gst src l self rc ls a j).1.length=m:=by
 unfold gst
 cases ls.getD j 0==src&&!self
 case true=>exact h
 cases rch rc j != 1 with
 |true=>exact h
 |false=>exact⟨h.1.set (X0a (h.1.get (by have:=h.2;omega)) hl),by rw[cond_false,cond_false,Wc];exact h.2⟩
def Ml {w:Wld} {x:Int} (h:x∈Em w):0≤x∧x<(w.2.2.1.length:Int):=by
 obtain⟨j,h1,_,rfl⟩:=Pk.1 h
 omega
def Paa {w:Wld} {src:Int} {l:List Row} {self:Bool} {rc:List Int} (hl:Hm l=true) (hn:NS w.2.2.1):NS (Nf w src l self rc).1∧(Nf w src l self rc).1.length=w.2.2.1.length:=
 Jm (λ _ (b:List Nod×Bool)=>NS b.1∧b.1.length=w.2.2.1.length) ⟨hn,rfl⟩ (λ j b hj hb=>Vka hl hb (by have:=Ml (A3 (d:=0) hj);omega))
def Hda {r:Row} (h:Jj r=true):Hm [r]=true:=Ha.2 ⟨Zia _ _,λ x hx=>by rw[Vp.1 hx];exact h,by simp⟩
def Pm:Hm []=true:=Ha.2 ⟨List.Pairwise.nil,(λ _ hx=>nomatch hx),Vw _⟩
def Pv (n:Nod):Nod:=(n.1,n.2.1,[],n.2.2.2)
def Tpa (n:Nod) (q:List Row):Nod:=(n.1,n.2.1,n.2.2.1,q)
def Fpa {n:Nod} (hn:NG n):NG (Pv n):=by
 obtain⟨h1,h2,h3,h4,h5⟩:=Bl.1 hn.1
 exact⟨Bl.2 ⟨h1,h2,h3,Pm,h5⟩,hn.2⟩
def Qva {n:Nod} {q:List Row} (hn:NG n) (h:∀ r∈q,Jj r=true) (hl:q.length≤60):NG (Tpa n q):=by
 obtain⟨h1,h2,h3,h4,h5⟩:=Bl.1 hn.1
 exact⟨Bl.2 ⟨h,h2,h3,h4,hl⟩,hn.2⟩
def J2 (w:Wld) (i:Nat) (rc:List Int):List Nod×Bool:=Nf w (i:Int) (w.2.2.1.getD i A7).2.2.1 false rc
def Oc (w:Wld) (i:Nat) (rc:List Int):Bool×Wld:=bif ((w.2.2.1.getD i A7).2.2.1.length:Int)==0 then (false,w) else
 (true,wN w (bif (J2 w i rc).2&&!(Gx (Em (wN w (J2 w i rc).1)) (i:Int)) then (J2 w i rc).1.set i (Pv ((J2 w i rc).1.getD i A7)) else (J2 w i rc).1))
def Lb (w:Wld) (i:Nat) (rc:List Int):List Nod×Bool:=Nf w (i:Int) ((w.2.2.1.getD i A7).2.2.2.take 1) true rc
def Sj (w:Wld) (i:Nat) (rc:List Int):Bool×Wld:=bif ((w.2.2.1.getD i A7).2.2.2.length:Int)==0 then (false,w) else
 (true,wN w (bif (Lb w i rc).2 then (Lb w i rc).1.set i (Tpa ((Lb w i rc).1.getD i A7) ((w.2.2.1.getD i A7).2.2.2.drop 1)) else (Lb w i rc).1))
def Ky {q:List Row} (h:∀ r∈q,Jj r=true):Hm (q.take 1)=true:=by
 cases q with
 |nil=>exact Pm
 |cons r q=>exact Hda (h r Yc)
def Loa:∀ (k:Nat) (l:List ByteArray) (s:ByteArray),k<l.length→∃ j,j≤k∧(Toa l k s).2=j∧(Toa l k s).1.set j s=l.take j++s::((l.take k).drop j++l.drop (k+1))∧(∀ y∈(l.take k).drop j,tlt s y=true)∧(0<j→tlt s (l.getD (j-1) Jk)=false)
 |0,l,s,hk=>by
  refine⟨0,Vv _,rfl,?_,λ y hy=>by simp at hy,λ h=>by omega⟩
  cases l with
  |nil=>simp at hk
  |cons x l=>rfl
 |k+1,l,s,hk=>by
  unfold Toa
  cases hc:tlt s (l.getD k Jk) with
  |false=>
   rw[cond_false]
   refine⟨k+1,Vv _,rfl,?_,λ y hy=>?_,λ _=>hc⟩
   ·rw[Z6a,Ywa,Yaa,Wn]
    exact Yia .. |>.trans (if_pos hk)
   ·rw[Z6a,Ywa,Yaa]at hy;cases hy
  |true=>
   rw[cond_true]
   obtain⟨j,h1,h2,h3,h4,h5⟩:=Loa k (l.set (k+1) (l.getD k Jk)) s (by rw[Wc];omega)
   have t1:(l.set (k+1) (l.getD k Jk)).take j=l.take j:=by rw[A2b (by omega)]
   have t2:(l.set (k+1) (l.getD k Jk)).take k=l.take k:=by rw[A2b (by omega)]
   have t3:(l.set (k+1) (l.getD k Jk)).drop (k+1)=l.getD k Jk::l.drop (k+2):=by
    rw[Zf (by rw[Wc];exact hk),List.getElem_set_self,List.drop_set_of_lt (by omega)]
   have t4:l.take (k+1)=l.take k++[l.getD k Jk]:=by
    rw[Za (by omega),Vb,Vg (by omega),Yv]
   have hlk:(l.take k).length=k:=by rw[Vs];omega
   rw[t1,t2,t3]at h3
   rw[t2]at h4
   refine⟨j,by omega,h2,?_,λ y hy=>?_,λ h=>?_⟩
   ·rw[h3,t4,Zva (by omega),Vo]
    rfl
   ·rw[t4,Zva (by omega)]at hy
    rcases Vm.1 hy with hy|hy
    ·exact h4 y hy
    ·rw[Vp.1 hy];exact hc
   ·have:=h5 h
    rwa [Vb,Z4a (by omega),← Vb]at this
def Ua {l:List ByteArray} {s:ByteArray}:∃ j,j≤l.length∧Wca l s=l.take j++s::l.drop j∧(∀ y∈l.drop j,tlt s y=true)∧(0<j→tlt s (l.getD (j-1) Jk)=false):=by
 obtain⟨j,h1,h2,h3,h4,h5⟩:=Loa l.length (l++[s]) s (by simp)
 have t1:(l++[s]).take l.length=l:=by rw[Zwa (Vv _),Zs]
 have t2:(l++[s]).drop (l.length+1)=[]:=Zja (by simp)
 have t3:(l++[s]).take j=l.take j:=Zwa h1
 rw[t1]at h4
 rw[t1,t2,t3,Ym]at h3
 refine⟨j,h1,?_,h4,λ h=>?_⟩
 ·unfold Wca
  rw[h2,h3]
 ·have:=h5 h
  rwa [Vb,Yf (by omega),← Vb]at this
def spl (l:List ByteArray) (s:ByteArray):List ByteArray:=bif H8a l s then l else Wca l s
def X8 {l:List ByteArray} {s y:ByteArray}:y∈spl l s↔y=s∨y∈l:=by
 unfold spl
 cases h:H8a l s with
 |true=>
  have:=Jf.1 h
  exact⟨.inr,λ h=>h.elim (λ e=>e ▸ this) id⟩
 |false=>
  obtain⟨j,_,e,_⟩:=Ua (l:=l) (s:=s)
  rw[cond_false,e,Vm,Vk]
  conv=>rhs;rw[← Wh j l,Vm]
  constructor
  ·rintro (h|h|h)
   ·exact .inr (.inl h)
   ·exact .inl h
   ·exact .inr (.inr h)
  ·rintro (h|h|h)
   ·exact .inr (.inl h)
   ·exact .inl h
   ·exact .inr (.inr h)
def Ub {l:List ByteArray} {s:ByteArray} (h:TS l):TS (spl l s):=by
 unfold spl
 cases hh:H8a l s
 case true=>exact h
 have hn:s∉l:=λ c=>by rw[Jf.2 c]at hh;cases hh
 obtain⟨j,h1,e,h4,h5⟩:=Ua (l:=l) (s:=s)
 rw[cond_false,e]
 have hs:∀ y∈l.take j,tlt y s=true:=by
  intro y hy
  by_cases hj:0<j
  ·have hlast:l.getD (j-1) Jk∈l:=A3 (by omega)
   have hlt:tlt (l.getD (j-1) Jk) s=true:=by
    cases hc:tlt (l.getD (j-1) Jk) s with
    |true=>rfl
    |false=>exact absurd (W6 hc (h5 hj) ▸ hlast) hn
   obtain⟨i,hi,rfl⟩:=Yx.1 hy
   rw[Vs]at hi
   rw[List.getElem_take]
   by_cases hij:i=j-1
   ·subst hij
    rwa [Vb,Vg (by omega),Yv]at hlt
   ·have:=Zg.1 h i (j-1) (by omega) (by omega) (by omega)
    rw[Vb,Vg (by omega),Yv]at hlt
    exact Hl this hlt
  ·rw[show j=0 by omega,Yaa]at hy;cases hy
 have hd:TS (l.drop j):=h.sublist (List.drop_sublist _ _)
 have ht:TS (l.take j):=h.sublist (Afb _ _)
 exact Zc.2 ⟨ht,Wb.2 ⟨h4,hd⟩,λ a ha b hb=>by
  rcases Vk.1 hb with rfl|hb
  ·exact hs a ha
  ·exact Hl (hs a ha) (h4 b hb)⟩

abbrev Evt:=Int×Int×ByteArray×List Int×Int×List Int
def X1a (l:List Int):List Bool:=l.map (· == 1)
def crN (n:Nod) (kp:List Bool):Nod:=(n.1,Q4 n.2.1 kp,n.2.2)
def Vla {n:Nod} {kp:List Bool} (hn:NG n):NG (crN n kp):=X4 hn (Sva hn.g)
def Tqa (w:Wld) (i:Nat) (s:ByteArray) (b:Int):Bool×Wld:=bif (Hra (w.2.2.1.getD i A7) s b).2 then (true,(w.1,w.2.1,w.2.2.1.set i (Hra (w.2.2.1.getD i A7) s b).1,w.2.2.2.1,w.2.2.2.2.1,spl w.2.2.2.2.2 s)) else (false,w)
def Dea (w:Wld) (e:Evt) (i:Nat):Bool×Wld:=
 bif e.1==3 then Ob w i e.2.2.1 e.2.2.2.2.2 else bif e.1==4 then Oc w i e.2.2.2.2.2 else bif e.1==5 then Sj w i e.2.2.2.2.2 else
 bif e.1==6 then (true,wN w (w.2.2.1.set i (Vja (w.2.2.1.getD i A7)).1)) else
 bif e.1==7 then (true,wN w (w.2.2.1.set i (crN (w.2.2.1.getD i A7) (X1a e.2.2.2.2.2)))) else Tqa w i e.2.2.1 e.2.2.2.2.1
def Hea (w:Wld) (i wt:Int):Bool×Wld:=bif !(inR i 0 ((w.1.length:Int)-1)) then (false,w) else bif !(inR wt 1 1000) then (false,w) else
 (decide ((H4a w.2.1 (wgt w.1 i.toNat wt)).2≥0),(wgt w.1 i.toNat wt,(H4a w.2.1 (wgt w.1 i.toNat wt)).1,w.2.2))
def Qwa (r:Int×Wld):Bool×Wld:=bif r.1 != 2 then (r.1 != 3,r.2) else (false,r.2)
def doW (w:Wld) (e:Evt):Bool×Wld:=
 bif e.1==1 then Qwa (ask w e.2.2.1 ((0,0,0),false,e.2.2.2.1) e.2.2.2.2.1 e.2.2.2.2.2) else
 bif e.1==2 then Qwa (ask w e.2.2.1 ((0,0,0),true,[]) e.2.2.2.2.1 e.2.2.2.2.2) else
 bif e.1==3||(e.1==4||(e.1==5||(e.1==6||(e.1==7||e.1==8)))) then (bif inR e.2.1 0 ((w.2.2.1.length:Int)-1) then Dea w e e.2.1.toNat else (false,w)) else
 bif e.1==9 then Hea w e.2.1 e.2.2.2.2.1 else (false,w)

def Pw {a b c:Stp} (h1:sle a b=false) (h2:sle b c=false):sle a c=false:=by
 cases h:sle a c
 ·rfl
 have n1:¬ _:=λ k=>by rw[Iv.2 k]at h1;cases h1
 have n2:¬ _:=λ k=>by rw[Iv.2 k]at h2;cases h2
 have h3:=Iv.1 h
 omega
def Od {a b:Stp} (h:sle a b=true):sle b a=false:=by
 cases h':sle b a
 ·rfl
 have h1:=Iv.1 h
 have h2:=Iv.1 h'
 omega
def Uc (ws:List Wri):Prop:=∀ x∈ws,Cg x.1=true∧Fq x.2.1=true∧Al x.2.1.2.2
def IsW (ws:List Wri) (s:ByteArray) (f:Fil):Prop:=∃ x∈ws,x.1=s∧x.2.1=f
def EO (ws:List Wri) (sp:List ByteArray) (s:ByteArray) (b:List Int):Prop:=∃ f,IsW ws s f∧(b=H3 f∨(s∈sp∧∃ n,n<8*(H3 f).length∧b=J0 (H3 f) n))
def ED (ws:List Wri) (sp:List ByteArray) (d:Dsk) (s:ByteArray):Prop:=
 (∀ b,gt d.1 s=some b→EO ws sp s b)∧(∀ b,gt d.2 s=some b→EO ws sp s b)∧
 (s∉sp→∀ b f,gt d.2 s=some b→Iw b=some f→∃ b' f',gt d.1 s=some b'∧Iw b'=some f'∧sle f'.1 f.1=false)
def DI (ws:List Wri) (sp:List ByteArray) (d:Dsk):Prop:=∀ s,ED ws sp d s
def HD (d:Dsk) (s:ByteArray) (st:Stp):Prop:=∃ b f,gt d.2 s=some b∧Iw b=some f∧sle f.1 st=false
def MO (sp:List ByteArray) (d d':Dsk):Prop:=∀ s,s∉sp→∀ st,HD d s st→HD d' s st
def IsW.good {ws:List Wri} (hw:Uc ws) {s:ByteArray} {f:Fil} (h:IsW ws s f):Cg s=true∧Fq f=true∧Al f.2.2:=by
 obtain⟨x,hx,rfl,rfl⟩:=h
 exact hw x hx
def EO.get {ws:List Wri} {sp:List ByteArray} (hw:Uc ws) {s:ByteArray} {b:List Int} (h:EO ws sp s b) {f:Fil} (hf:Iw b=some f):IsW ws s f∧b=H3 f:=by
 obtain⟨g,h1,h2⟩:=h
 obtain⟨_,g2,g3⟩:=h1.good hw
 rcases h2 with rfl|⟨_,n,hn,rfl⟩
 ·rw[O7 g2 g3]at hf
  cases hf
  exact⟨h1,rfl⟩
 ·rw[Oua g2 hn]at hf;cases hf
def EO.fine {ws:List Wri} {sp:List ByteArray} (hw:Uc ws) {s:ByteArray} {b:List Int} (h:EO ws sp s b) (hs:s∉sp):∃ f,Iw b=some f∧IsW ws s f:=by
 obtain⟨g,h1,h2⟩:=h
 obtain⟨_,g2,g3⟩:=h1.good hw
 rcases h2 with rfl|⟨h,_⟩
 ·exact⟨g,O7 g2 g3,h1⟩
 ·exact absurd h hs
def EO.mono {ws ws':List Wri} {sp sp':List ByteArray} (h1:∀ x∈ws,x∈ws') (h2:∀ s∈sp,s∈sp') {s:ByteArray} {b:List Int} (h:EO ws sp s b):EO ws' sp' s b:=by
 obtain⟨g,⟨x,hx,e⟩,h3⟩:=h
 refine⟨g,⟨x,h1 x hx,e⟩,?_⟩
 rcases h3 with h3|⟨h3,h4⟩
 ·exact .inl h3
 ·exact .inr ⟨h2 s h3,h4⟩
def ED.mono {ws ws':List Wri} {sp sp':List ByteArray} (h1:∀ x∈ws,x∈ws') (h2:∀ s∈sp,s∈sp') {d:Dsk} {s:ByteArray} (h:ED ws sp d s):ED ws' sp' d s:=
 ⟨λ b hb=>(h.1 b hb).mono h1 h2,λ b hb=>(h.2.1 b hb).mono h1 h2,λ hs=>h.2.2 (λ c=>hs (h2 s c))⟩
def DI.mono {ws ws':List Wri} {sp sp':List ByteArray} (h1:∀ x∈ws,x∈ws') (h2:∀ s∈sp,s∈sp') {d:Dsk} (h:DI ws sp d):DI ws' sp' d:=λ s=>(h s).mono h1 h2
def ED.same {ws:List Wri} {sp:List ByteArray} {d d':Dsk} {s:ByteArray} (h:ED ws sp d s) (e1:gt d'.1 s=gt d.1 s) (e2:gt d'.2 s=gt d.2 s):ED ws sp d' s:=by
 unfold ED
 rw[e1,e2]
 exact h
def HD.same {d d':Dsk} {s:ByteArray} {st:Stp} (h:HD d s st) (e2:gt d'.2 s=gt d.2 s):HD d' s st:=by
 unfold HD
 rw[e2]
 exact h
def MO.refl (sp:List ByteArray) (d:Dsk):MO sp d d:=λ _ _ _ h=>h
def MO.trans {sp:List ByteArray} {a b c:Dsk} (h1:MO sp a b) (h2:MO sp b c):MO sp a c:=λ s hs st h=>h2 s hs st (h1 s hs st h)
def Lpa {s:ByteArray} {st:Stp} {n:Nod}:Dba s st n=true↔HD n.2.1 s st:=by
 unfold Dba HD
 cases h:gt n.2.1.2 s with
 |none=>exact⟨λ c=>(by cases c),λ ⟨b,f,c,_⟩=>(by cases c)⟩
 |some b=>
  dsimp only
  cases h2:Iw b with
  |none=>exact⟨λ c=>(by cases c),λ ⟨b',f,c,c2,_⟩=>(by cases c;rw[h2]at c2;cases c2)⟩
  |some f=>
   dsimp only
   rw[Vu]
   exact⟨λ c=>⟨b,f,rfl,h2,c⟩,λ ⟨b',f',c,c2,c3⟩=>(by cases c;rw[h2]at c2;cases c2;exact c3)⟩
section
variable {ws:List Wri} {sp:List ByteArray} {d:Dsk} {s:ByteArray}
def ED.now (hw:Uc ws) (h:ED ws sp d s) {f:Fil} (ho:old d s=some f):IsW ws s f:=by
 unfold old at ho
 cases hg:gt d.1 s with
 |none=>rw[hg]at ho;cases ho
 |some b=>rw[hg]at ho;exact((h.1 b hg).get hw ho).1
def ED.ge (h:ED ws sp d s) (hs:s∉sp) {st:Stp} (hh:HD d s st):∃ b f,gt d.1 s=some b∧Iw b=some f∧sle f.1 st=false:=by
 obtain⟨b,f,h1,h2,h3⟩:=hh
 obtain⟨b',f',h4,h5,h6⟩:=h.2.2 hs b f h1 h2
 exact⟨b',f',h4,h5,Pw h6 h3⟩
def Sza (hd:Ci d=true) (h:DI ws sp d):DI ws sp (d.1,sy d s):=by
 intro t
 by_cases ht:s=t
 ·subst ht
  have e:gt (sy d s) s=gt d.1 s:=by rw[D1a hd,if_pos rfl]
  refine⟨(h s).1,λ b hb=>(h s).1 b (by rw[← e];exact hb),λ hs b f hb hf=>⟨b,f,by rw[← e];exact hb,hf,G3 _⟩⟩
 ·exact(h t).same rfl (by show gt (sy d s) t=_;rw[D1a hd,if_neg ht])
def Vma (hd:Ci d=true) (h:DI ws sp d):MO sp d (d.1,sy d s):=by
 intro t ht st hh
 by_cases hst:s=t
 ·subst hst
  obtain⟨b,f,h1,h2,h3⟩:=(h s).ge ht hh
  exact⟨b,f,by show gt (sy d s) s=_;rw[D1a hd,if_pos rfl,h1],h2,h3⟩
 ·exact hh.same (by show gt (sy d s) t=_;rw[D1a hd,if_neg hst])
def X2a (hw:Uc ws) (hd:Ci d=true) (h:DI ws sp d) {f:Fil} (hf:IsW ws s f) (hn:∀ o,old d s=some o→sle o.1 f.1=true):DI ws sp (wr d.1 s (H3 f),d.2):=by
 intro t
 by_cases ht:s=t
 ·subst ht
  have e:gt (wr d.1 s (H3 f)) s=some (H3 f):=by rw[Apa (H4 hd),if_pos rfl]
  obtain⟨_,g2,g3⟩:=hf.good hw
  refine⟨λ b hb=>?_,(h s).2.1,λ hs b g hb hg=>⟨H3 f,f,e,O7 g2 g3,?_⟩⟩
  ·rw[show gt (wr d.1 s (H3 f)) s=some b from hb]at e
   cases e
   exact⟨f,hf,.inl rfl⟩
  ·obtain⟨b',f',k1,k2,k3⟩:=(h s).2.2 hs b g hb hg
   have:=hn f' (by unfold old;rw[k1];exact k2)
   exact Pw (Od this) k3
 ·exact(h t).same (by show gt (wr d.1 s (H3 f)) t=_;rw[Apa (H4 hd),if_neg ht]) rfl
def Dfa (hw:Uc ws) (hd:DG d) (h:DI ws sp d) {f:Fil} {sure:Bool} (hf:IsW ws s f):DI ws sp (keep d s f sure).1∧MO sp d (keep d s f sure).1:=by
 obtain⟨g1,g2,g3⟩:=hf.good hw
 rw[S4 hd.1 g1 g2]
 rcases Pg (f:=f) (sure:=sure) hd g1 with k|⟨o,_,_,k,hg,h3⟩|⟨h1,h2,k,hg,h3⟩
 ·rw[k];exact⟨h,MO.refl _ _⟩
 ·rcases h3 with⟨_,h3⟩|⟨_,h3⟩
  ·rw[h3];exact⟨h,MO.refl _ _⟩
  ·rw[h3];exact⟨Sza hd.1 h,Vma hd.1 h⟩
 ·have hw':=X2a hw hd.1 h hf h1
  rcases h3 with⟨_,h3⟩|⟨_,h3⟩
  ·rw[h3];exact⟨hw',λ t _ st hh=>hh.same rfl⟩
  ·rw[h3];exact⟨Sza h2.1 hw',(show MO sp d (wr d.1 s (H3 f),d.2) from λ t _ st hh=>hh.same rfl).trans (Vma h2.1 hw')⟩
def Lqa (hw:Uc ws) (hd:DG d) {f:Fil} (hf:IsW ws s f) (hc:(keep d s f true).2=0∨(keep d s f true).2=1):HD (keep d s f true).1 s f.1:=by
 obtain⟨g1,g2,g3⟩:=hf.good hw
 rw[S4 hd.1 g1 g2]at hc ⊢
 obtain⟨o,g,b,ho,_,e,h1,h2,h3⟩:=L1a hd g1 g2 g3 hc
 rw[e]
 exact⟨b,g,by show gt (sy o s) s=_;rw[D1a ho.1,if_pos rfl,h1],h2,h3⟩
def T0a (hd:DG d) (h:DI ws sp d) (kp:List Bool):DI ws sp (Q4 d kp):=by
 intro t
 rcases Lfa (d:=d) (kp:=kp) t with e|⟨e1,e2⟩
 ·rw[e];exact h t
 ·unfold ED
  rw[e1]
  have eo:∀ b,gt (Q4 d kp).1 t=some b→EO ws sp t b:=by
   intro b hb
   rcases e2 with e2|e2
   ·exact(h t).1 b (by rw[← e2];exact hb)
   ·exact(h t).2.1 b (by rw[← e2];exact hb)
  exact⟨eo,eo,λ _ b f hb hf=>⟨b,f,hb,hf,G3 _⟩⟩
def T1a (hd:DG d) (h:DI ws sp d) (kp:List Bool):MO sp d (Q4 d kp):=by
 intro t ht st hh
 rcases Lfa (d:=d) (kp:=kp) t with e|⟨e1,e2⟩
 ·rw[e];exact hh
 ·unfold HD
  rw[e1]
  rcases e2 with e2|e2
  ·rw[e2];exact(h t).ge ht hh
  ·rw[e2];exact hh
def Fqa (hw:Uc ws) (hd:DG d) (h:DI ws sp d):DI ws sp (L7 d).1∧MO sp d (L7 d).1:=by
 obtain⟨_,hc⟩:=Nc d.1 (d,0) hd
 have hc':∀ t,(t∈X3 d.1→gt (L7 d).1.1 t=none∧gt (L7 d).1.2 t=none)∧(t∉X3 d.1→gt (L7 d).1.1 t=gt d.1 t∧gt (L7 d).1.2 t=gt d.2 t):=hc
 have hb:∀ t,t∈X3 d.1→t∈sp:=by
  intro t ht
  obtain⟨b,h1,h2⟩:=(Fia hd.1).1 ht
  by_cases hs:t∈sp
  ·exact hs
  ·obtain⟨f,hf,_⟩:=((h t).1 b h1).fine hw hs
   rw[hf]at h2;cases h2
 constructor
 ·intro t
  by_cases ht:t∈X3 d.1
  ·obtain⟨e1,e2⟩:=(hc' t).1 ht
   unfold ED
   rw[e1,e2]
   exact⟨λ b hb=>(by cases hb),λ b hb=>(by cases hb),λ _ b f hb=>(by cases hb)⟩
  ·obtain⟨e1,e2⟩:=(hc' t).2 ht
   exact(h t).same e1 e2
 ·intro t ht st hh
  exact hh.same ((hc' t).2 (λ c=>ht (hb t c))).2
def Vna (hd:DG d) (h:DI ws sp d) (hs:Cg s=true):DI ws sp (syD (rmD d s).1 s).1∧∀ t,t≠s→∀ st,HD d t st→HD (syD (rmD d s).1 s).1 t st:=by
 have hr:DI ws sp (rmD d s).1∨True := .inr trivial
 unfold rmD
 cases hg:gt d.1 s with
 |none=>
  have e:(bif (none:Option (List Int)).isSome then ((cut d.1 s,d.2),true) else (d,false)).1=d:=rfl
  rw[e]
  unfold syD
  by_cases hl:(sy d s).length≤60
  ·rw[decide_eq_true hl]
   exact⟨Sza hd.1 h,λ t ht st hh=>hh.same (by show gt (sy d s) t=_;rw[D1a hd.1,if_neg (Z8a ht)])⟩
  ·rw[decide_eq_false hl];exact⟨h,λ t ht st hh=>hh⟩
 |some b=>
  have e:(bif (some b:Option (List Int)).isSome then ((cut d.1 s,d.2),true) else (d,false)).1=(cut d.1 s,d.2):=rfl
  rw[e]
  have hd':Ci (cut d.1 s,d.2)=true:=Ds.2 ⟨Pu (Ds.1 hd.1).1,(Ds.1 hd.1).2⟩
  have e1:∀ t,gt (cut d.1 s) t=if s=t then none else gt d.1 t:=λ t=>O8 (H4 hd.1)
  have e2:∀ t,gt (sy (cut d.1 s,d.2) s) t=if s=t then none else gt d.2 t:=λ t=>by
   rw[D1a hd']
   by_cases hst:s=t
   ·rw[if_pos hst,if_pos hst];show gt (cut d.1 s) s=none;rw[e1,if_pos rfl]
   ·rw[if_neg hst,if_neg hst]
  have hlen:(sy (cut d.1 s,d.2) s).length≤60:=by
   have:sy (cut d.1 s,d.2) s=cut d.2 s:=by
    unfold sy
    have:=e1 s
    rw[if_pos rfl]at this
    rw[show gt (cut d.1 s,d.2).1 s=none from this]
   rw[this]
   exact Zu Rx.length_le (Ap.1 (Ds.1 hd.1).2).2.2
  unfold syD
  rw[decide_eq_true hlen]
  constructor
  ·intro t
   show ED ws sp (cut d.1 s,sy (cut d.1 s,d.2) s) t
   by_cases hst:s=t
   ·unfold ED
    dsimp only
    rw[e1,e2,if_pos hst,if_pos hst]
    exact⟨λ b hb=>(by cases hb),λ b hb=>(by cases hb),λ _ b f hb=>(by cases hb)⟩
   ·exact(h t).same (by show gt (cut d.1 s) t=_;rw[e1,if_neg hst]) (by show gt (sy (cut d.1 s,d.2) s) t=_;rw[e2,if_neg hst])
  ·intro t ht st hh
   exact hh.same (by show gt (sy (cut d.1 s,d.2) s) t=_;rw[e2,if_neg (Z8a ht)])
def Voa (hw:Uc ws) (hd:DG d) (h:DI ws sp d) {n:Int} (hl:(lkD d s).2=0) (hr:(Gza d s n).2=true) (sp':List ByteArray) (hsp:∀ t,t∈sp'↔t=s∨t∈sp):DI ws sp' (Gza d s n).1∧MO sp' d (Gza d s n).1∧∃ f,IsW ws s f:=by
 obtain⟨b,hb,hf⟩:=Ly.1 (show lkD d s=((lkD d s).1,0) by rw[← hl])
 obtain⟨hW,e⟩:=((h s).1 b hb).get hw hf
 have hsub:∀ t∈sp,t∈sp':=λ t ht=>(hsp t).2 (.inr ht)
 generalize (lkD d s).1=f at *
 unfold Gza at hr ⊢
 rw[hb]at hr ⊢
 dsimp only at hr ⊢
 cases hin:inR n 0 (8*(b.length:Int)-1)
 ·rw[hin]at hr;cases hr
 rw[cond_true]
 obtain⟨n0,n1⟩:=Fk.1 hin
 have hn:n.toNat<8*(H3 f).length:=by rw[← e];omega
 have e1:∀ t,gt (wr d.1 s (J0 b n.toNat)) t=if s=t then some (J0 b n.toNat) else gt d.1 t:=λ t=>Apa (H4 hd.1)
 have e2:∀ t,gt (bif decide (gt d.2 s=some b) then wr d.2 s (J0 b n.toNat) else d.2) t=if s=t∧gt d.2 s=some b then some (J0 b n.toNat) else gt d.2 t:=by
  intro t
  by_cases hg:gt d.2 s=some b
  ·rw[decide_eq_true hg,cond_true,Apa (Jl hd.1)]
   by_cases hst:s=t
   ·rw[if_pos hst,if_pos ⟨hst,hg⟩]
   ·rw[if_neg hst,if_neg (λ c=>hst c.1)]
  ·rw[decide_eq_false hg,cond_false,if_neg (λ c=>hg c.2)]
 have hflip:EO ws sp' s (J0 b n.toNat):=⟨f,hW,.inr ⟨(hsp s).2 (.inl rfl),n.toNat,hn,by rw[e]⟩⟩
 refine⟨λ t=>?_,λ t ht st hh=>?_,f,hW⟩
 ·by_cases hst:s=t
  ·subst hst
   refine⟨λ x hx=>?_,λ x hx=>?_,λ c=>absurd ((hsp s).2 (.inl rfl)) c⟩
   ·have:=e1 s
    rw[if_pos rfl]at this
    rw[show gt (wr d.1 s (J0 b n.toNat)) s=some x from hx]at this
    cases this
    exact hflip
   ·have:=e2 s
    rw[show gt (bif decide (gt d.2 s=some b) then wr d.2 s (J0 b n.toNat) else d.2) s=some x from hx]at this
    by_cases hg:gt d.2 s=some b
    ·rw[if_pos ⟨rfl,hg⟩]at this
     cases this
     exact hflip
    ·rw[if_neg (λ c=>hg c.2)]at this
     exact((h s).2.1 x this.symm).mono (λ _ h=>h) hsub
  ·refine((h t).mono (λ _ h=>h) hsub).same ?_ ?_
   ·show gt (wr d.1 s (J0 b n.toNat)) t=_
    rw[e1,if_neg hst]
   ·show gt (bif decide (gt d.2 s=some b) then wr d.2 s (J0 b n.toNat) else d.2) t=_
    rw[e2,if_neg (λ c=>hst c.1)]
 ·have hst:s≠t:=λ c=>ht ((hsp t).2 (.inl c.symm))
  exact hh.same (by show gt (bif decide (gt d.2 s=some b) then wr d.2 s (J0 b n.toNat) else d.2) t=_;rw[e2,if_neg (λ c=>hst c.1)])
end

def NI (ws:List Wri) (sp:List ByteArray) (n:Nod):Prop:=NG n∧DI ws sp n.2.1∧(∀ r∈n.2.2.1,Im ws r=true)∧∀ r∈n.2.2.2,Im ws r=true
def KN (ns:List Nod) (s:ByteArray) (st:Stp):Prop:=∃ i,i<ns.length∧HD (ns.getD i A7).2.1 s st
def MS (sp:List ByteArray) (ns ns':List Nod):Prop:=∀ s,s∉sp→∀ st,KN ns s st→KN ns' s st
def Oe {ws:List Wri} {r:Row}:Im ws r=true↔∃ x∈ws,T3 x.1 x.2.1=r:=by
 unfold Im
 rw[Y4a]
 exact⟨λ ⟨x,h1,h2⟩=>⟨x,h1,B3a.1 h2⟩,λ ⟨x,h1,h2⟩=>⟨x,h1,B3a.2 h2⟩⟩
def Ud {ws ws':List Wri} (h:∀ x∈ws,x∈ws') {r:Row} (hr:Im ws r=true):Im ws' r=true:=by
 obtain⟨x,h1,h2⟩:=Oe.1 hr
 exact Oe.2 ⟨x,h x h1,h2⟩
def Pba {ws:List Wri} {s:ByteArray} {f:Fil} (h:IsW ws s f):Im ws (T3 s f)=true:=by
 obtain⟨x,h1,rfl,rfl⟩:=h
 exact Oe.2 ⟨x,h1,rfl⟩
def NI.mono {ws ws':List Wri} {sp sp':List ByteArray} (h1:∀ x∈ws,x∈ws') (h2:∀ s∈sp,s∈sp') {n:Nod} (h:NI ws sp n):NI ws' sp' n:=
 ⟨h.1,h.2.1.mono h1 h2,λ r hr=>Ud h1 (h.2.2.1 r hr),λ r hr=>Ud h1 (h.2.2.2 r hr)⟩
def NR (ws:List Wri) (sp:List ByteArray) (ns ns':List Nod):Prop:=(∀ n∈ns',NI ws sp n)∧ns'.map (·.1)=ns.map (·.1)∧MS sp ns ns'
def NR.refl {ws:List Wri} {sp:List ByteArray} {ns:List Nod} (h:∀ n∈ns,NI ws sp n):NR ws sp ns ns:=⟨h,rfl,λ _ _ _ h=>h⟩
def NR.len {ws:List Wri} {sp:List ByteArray} {ns ns':List Nod} (h:NR ws sp ns ns'):ns'.length=ns.length:=by
 have:=congrArg length h.2.1
 rwa [Wf,Wf]at this
def Fh {α:Type} {l:List α} {i j:Nat} {x d:α} (hj:j<l.length):(l.set i x).getD j d=if i=j then x else l.getD j d:=by
 rw[Vb,List.getElem?_set]
 by_cases h:i=j
 ·subst h
  rw[if_pos rfl,if_pos rfl,if_pos hj]
  rfl
 ·rw[if_neg h,if_neg h,Vb]
def Dga {ns:List Nod} {i:Nat} {n:Nod} (hi:i<ns.length) (h:n.1=(ns.getD i A7).1):(ns.set i n).map (·.1)=ns.map (·.1):=by
 refine Akb (by simp) (λ j h1 h2=>?_)
 rw[Wf,Wc]at h1
 rw[Zxa,Zxa,Alb]
 by_cases hij:i=j
 ·subst hij
  rw[if_pos rfl,h,Vb,Vg hi]
  rfl
 ·rw[if_neg hij]
def NR.set {ws:List Wri} {sp:List ByteArray} {ns ns':List Nod} (h:NR ws sp ns ns') {i:Nat} (hi:i<ns'.length) {n:Nod} (h1:NI ws sp n) (h2:n.1=(ns'.getD i A7).1) (h3:MO sp (ns'.getD i A7).2.1 n.2.1):NR ws sp ns (ns'.set i n):=by
 obtain⟨g1,g2,g3⟩:=h
 refine⟨λ m hm=>?_,by rw[Dga hi h2,g2],λ s hs st hk=>?_⟩
 ·rcases Yq hm with hm|rfl
  ·exact g1 m hm
  ·exact h1
 ·obtain⟨j,hj,hd⟩:=g3 s hs st hk
  refine⟨j,by rw[Wc];exact hj,?_⟩
  rw[Fh hj]
  by_cases hij:i=j
  ·subst hij;rw[if_pos rfl];exact h3 s hs st hd
  ·rw[if_neg hij];exact hd
section
variable {ws:List Wri} {sp:List ByteArray} {n:Nod} {s:ByteArray} {f:Fil}
def T2a (hw:Uc ws) (h:NI ws sp n) (hf:IsW ws s f) (sure:Bool):NI ws sp (Ww n s f sure).1∧(Ww n s f sure).1.1=n.1∧MO sp n.2.1 (Ww n s f sure).1.2.1:=by
 obtain⟨g1,g2,g3⟩:=hf.good hw
 obtain⟨h1,h2,h3,h4⟩:=h
 have hg:=Qma (sure:=sure) h1 g1 g2
 obtain⟨k1,k2⟩:=Dfa (sure:=sure) hw h1.g h2 hf
 unfold Ww at hg ⊢
 cases hq:(n.2.2.2.length:Int)==60
 case true=>exact⟨⟨h1,h2,h3,h4⟩,rfl,MO.refl _ _⟩
 rw[hq]at hg
 refine⟨⟨hg,k1,h3,?_⟩,rfl,k2⟩
 show ∀ r∈bif (keep n.2.1 s f sure).2==0&&sure then n.2.2.2++[T3 s f] else n.2.2.2,Im ws r=true
 cases (keep n.2.1 s f sure).2==0&&sure
 ·exact h4
 intro r hr
 rcases Vm.1 hr with hr|hr
 ·exact h4 r hr
 ·rw[Vp.1 hr];exact Pba hf
def T3a (hw:Uc ws) (h:NI ws sp n) (hf:IsW ws s f) (hc:(Ww n s f true).2=0∨(Ww n s f true).2=1):HD (Ww n s f true).1.2.1 s f.1:=by
 unfold Ww at hc ⊢
 cases hq:((n.2.2.2.length:Int)==60) with
 |true=>rw[hq]at hc;rcases hc with hc|hc<;>cases hc
 |false=>rw[hq]at hc;exact Lqa hw h.1.g hf hc
def Vpa (h:NI ws sp n) {l:List Row} (hl:Hm l=true) (hr:∀ r∈l,Im ws r=true):NI ws sp (tk n l).2∧(tk n l).2.1=n.1∧(tk n l).2.2.1=n.2.1:=by
 obtain⟨h1,h2,h3,h4⟩:=h
 have hg:=X0a h1 hl
 unfold tk at hg ⊢
 cases hq:decide ((Oi n.2.2.1 l).length > 60)
 case true=>exact⟨⟨h1,h2,h3,h4⟩,rfl,rfl⟩
 rw[hq]at hg
 exact⟨⟨hg,h2,λ r hr'=>(W8 hr').elim (h3 r) (hr r),h4⟩,rfl,rfl⟩
end
def Vqa {ws:List Wri} {sp:List ByteArray} {ns:List Nod} {R:Int} {rc:List Int} {s:ByteArray} {f:Fil} {cs:List Int} {a:List Nod×Int×Int} {j:Nat} (hw:Uc ws) (hf:IsW ws s f)
  (h:NR ws sp ns a.1∧(s∉sp→a.2.2≥1→KN a.1 s f.1)∧a.2.2≥0) (hc:(cs.getD j 0).toNat<ns.length):
  NR ws sp ns (wst R rc s f cs a j).1∧(s∉sp→(wst R rc s f cs a j).2.2≥1→KN (wst R rc s f cs a j).1 s f.1)∧(wst R rc s f cs a j).2.2≥0:=by
 obtain⟨h1,h2,h3⟩:=h
 unfold wst
 cases decide (a.2.1<R)
 ·exact⟨h1,h2,h3⟩
 cases rch rc j==0
 case true=>exact⟨h1,h2,h3⟩
 rw[cond_true,cond_false]
 have hi:(cs.getD j 0).toNat<a.1.length:=by rw[h1.len];exact hc
 generalize (cs.getD j 0).toNat=i at *
 have hn:=h1.1 _ (A3 (d:=A7) hi)
 obtain⟨p1,p2,p3⟩:=T2a hw hn hf (rch rc j != 3)
 refine⟨h1.set hi p1 p2 p3,λ hs hg=>?_,?_⟩
 ·cases hr:rch rc j==1&&((Ww (a.1.getD i A7) s f (rch rc j != 3)).2==0||(Ww (a.1.getD i A7) s f (rch rc j != 3)).2==1) with
  |true=>
   rw[Va,Zx,beq_iff_eq,beq_iff_eq,beq_iff_eq]at hr
   have e:(rch rc j != 3)=true:=by rw[hr.1];rfl
   rw[e]at hr ⊢
   refine⟨i,by rw[Wc];exact hi,?_⟩
   rw[Fh hi,if_pos rfl]
   exact T3a hw hn hf hr.2
  |false=>
   rw[hr]at hg
   obtain⟨m,hm,hd⟩:=h2 hs hg
   refine⟨m,by rw[Wc];exact hm,?_⟩
   rw[Fh hm]
   by_cases hij:i=m
   ·subst hij;rw[if_pos rfl];exact p3 s hs _ hd
   ·rw[if_neg hij];exact hd
 ·dsimp only
  cases rch rc j==1&&((Ww (a.1.getD i A7) s f (rch rc j != 3)).2==0||(Ww (a.1.getD i A7) s f (rch rc j != 3)).2==1)
  ·exact h3
  ·rw[cond_true];omega
def Vra {ws:List Wri} {sp:List ByteArray} {w:Wld} {rc:List Int} {s:ByteArray} {f:Fil} (hw:Uc ws) (hf:IsW ws s f) (hn:∀ n∈w.2.2.1,NI ws sp n):
  NR ws sp w.2.2.1 (wrN w s f rc).1∧(s∉sp→(wrN w s f rc).2.2≥1→KN (wrN w s f rc).1 s f.1)∧(wrN w s f rc).2.2≥0:=
 Jm (λ _ (a:List Nod×Int×Int)=>NR ws sp w.2.2.1 a.1∧(s∉sp→a.2.2≥1→KN a.1 s f.1)∧a.2.2≥0) ⟨NR.refl hn,λ _ h=>absurd h (show ¬ (0:Int)≥1 by omega),Zna _⟩
  (λ j b hj hb=>Vqa hw hf hb (by have:=Si (A3 (d:=0) hj);omega))
def Vsa {ws:List Wri} {sp:List ByteArray} {ns:List Nod} {rc:List Int} {s:ByteArray} {f:Fil} {ps:List Int} {a:List Nod×Bool×Bool} {src j:Nat} (hw:Uc ws) (hf:IsW ws s f) (hsrc:src<ns.length)
  (h:NR ws sp ns a.1∧(a.2.1=false→a.1.getD src A7=ns.getD src A7∧(a.2.2=true→0<j→∃ i,i≠src∧i<ns.length∧HD (a.1.getD i A7).2.1 s f.1))) (hc:(ps.getD j 0).toNat<ns.length) (hc0:0≤ps.getD j 0):
  NR ws sp ns (pst (src:Int) s f rc ps a j).1∧((pst (src:Int) s f rc ps a j).2.1=false→(pst (src:Int) s f rc ps a j).1.getD src A7=ns.getD src A7∧((pst (src:Int) s f rc ps a j).2.2=true→0<j+1→∃ i,i≠src∧i<ns.length∧HD ((pst (src:Int) s f rc ps a j).1.getD i A7).2.1 s f.1)):=by
 obtain⟨h1,h2⟩:=h
 unfold pst
 cases hz:ps.getD j 0==(src:Int)
 case true=>exact⟨h1,λ c=>by cases c⟩
 have hne:(ps.getD j 0).toNat≠src:=by
  have:=beq_eq_false_iff_ne.1 hz
  omega
 cases hr:rch rc j != 1
 case true=>exact⟨h1,λ c=>⟨(h2 c).1,λ c'=>by cases c'⟩⟩
 rw[cond_false,cond_false]
 have hi:(ps.getD j 0).toNat<a.1.length:=by rw[h1.len];exact hc
 generalize (ps.getD j 0).toNat=i at *
 have hn:=h1.1 _ (A3 (d:=A7) hi)
 obtain⟨k1,k2⟩:=Dfa (sure:=true) hw hn.1.g hn.2.1 hf
 refine⟨h1.set hi ⟨Dda hn.1,k1,hn.2.2⟩ rfl k2,λ c=>⟨?_,λ c' _=>?_⟩⟩
 ·show (a.1.set i _).getD src A7=_
  rw[Fh (by rw[h1.len];exact hsrc),if_neg hne]
  exact(h2 c).1
 ·refine⟨i,hne,hc,?_⟩
  show HD ((a.1.set i _).getD i A7).2.1 s f.1
  rw[Fh hi,if_pos rfl]
  refine Lqa hw hn.1.g hf ?_
  cases hk:(keep (a.1.getD i A7).2.1 s f true).2 != 0&&(keep (a.1.getD i A7).2.1 s f true).2 != 1 with
  |true=>
   have:(bif (keep (a.1.getD i A7).2.1 s f true).2 != 0&&(keep (a.1.getD i A7).2.1 s f true).2 != 1 then false else a.2.2)=true:=c'
   rw[hk]at this
   cases this
  |false=>
   rw[Aob,bne,bne,Wm,Wm,beq_iff_eq,beq_iff_eq]at hk
   exact hk
def Vta {ws:List Wri} {sp:List ByteArray} {w:Wld} {rc:List Int} {s:ByteArray} {i:Nat} (hw:Uc ws) (hn:∀ n∈w.2.2.1,NI ws sp n) (hi:i<w.2.2.1.length) (hf:IsW ws s (lkD (w.2.2.1.getD i A7).2.1 s).1):
  NR ws sp w.2.2.1 (puN w i s rc).1∧((puN w i s rc).2.1=false→(puN w i s rc).1.getD i A7=w.2.2.1.getD i A7∧((puN w i s rc).2.2=true→0<(Nd w s).length→∃ j,j≠i∧j<w.2.2.1.length∧HD ((puN w i s rc).1.getD j A7).2.1 s (lkD (w.2.2.1.getD i A7).2.1 s).1.1)):=
 Jm (λ n (a:List Nod×Bool×Bool)=>NR ws sp w.2.2.1 a.1∧(a.2.1=false→a.1.getD i A7=w.2.2.1.getD i A7∧(a.2.2=true→0<n→∃ j,j≠i∧j<w.2.2.1.length∧HD (a.1.getD j A7).2.1 s (lkD (w.2.2.1.getD i A7).2.1 s).1.1))) ⟨NR.refl hn,λ _=>⟨rfl,λ _ c=>absurd c (Nat.lt_irrefl _)⟩⟩
  (λ j b hj hb=>Vsa hw hf hi hb (by have:=Qn (A3 (d:=0) hj);omega) (Qn (A3 (d:=0) hj)).1)
def Lra {w:Wld} {s:ByteArray} (hr:Hd w.2.1 w.1=true) (hid:w.2.2.1.map (·.1)=w.1.map (·.1)):0<(Nd w s).length:=by
 obtain⟨_,p2,p3⟩:=Lha hr s
 have h5:=(F7.1 hr).2.1
 obtain⟨id,hidm⟩:=List.exists_mem_of_length_pos (l:=Pj w.2.1 s) (by omega)
 have:=Lz.1 (p3 id hidm)
 rw[← hid]at this
 obtain⟨n,hn,rfl⟩:=Yr.1 this
 obtain⟨j,hj,rfl⟩:=Yx.1 hn
 have hm:(j:Int)∈Nd w s:=Pk.2 ⟨j,hj,by rw[Vb,Vg hj];exact hidm,rfl⟩
 exact Yva hm
def X9 {ws:List Wri} {sp:List ByteArray} {w:Wld} {rc:List Int} {s:ByteArray} {i:Nat} (hw:Uc ws) (hn:∀ n∈w.2.2.1,NI ws sp n) (hi:i<w.2.2.1.length) (hr:Hd w.2.1 w.1=true) (hid:w.2.2.1.map (·.1)=w.1.map (·.1)):
  ∃ ns,(Ob w i s rc).2=wN w ns∧NR ws sp w.2.2.1 ns:=by
 have hni:=hn _ (A3 (d:=A7) hi)
 unfold Ob
 cases hl:(lkD (w.2.2.1.getD i A7).2.1 s).2 != 0
 case true=>exact⟨w.2.2.1,rfl,NR.refl hn⟩
 rw[bne,Wm,beq_iff_eq]at hl
 obtain⟨b,hb,hg⟩:=Ly.1 (show lkD (w.2.2.1.getD i A7).2.1 s=((lkD (w.2.2.1.getD i A7).2.1 s).1,0) from by rw[← hl])
 have hf:IsW ws s (lkD (w.2.2.1.getD i A7).2.1 s).1:=(((hni.2.1 s).1 b hb).get hw hg).1
 obtain⟨h1,h2⟩:=Vta (rc:=rc) hw hn hi hf
 refine⟨_,rfl,?_⟩
 cases hc:(puN w i s rc).2.2&&!(puN w i s rc).2.1
 ·exact h1
 rw[Va,Vu]at hc
 obtain⟨h3,h4⟩:=h2 hc.2
 obtain⟨j,hj,hjl,hd⟩:=h4 hc.1 (Lra hr hid)
 rw[cond_true,h3]
 obtain⟨g1,_,_⟩:=hf.good hw
 have hi':i<(puN w i s rc).1.length:=by rw[h1.len];exact hi
 obtain⟨o1,o2⟩:=Vna (s:=s) hni.1.g hni.2.1 g1
 refine⟨λ m hm=>?_,by rw[Dga hi' (by rw[h3];rfl),h1.2.1],λ t ht st hk=>?_⟩
 ·rcases Yq hm with hm|rfl
  ·exact h1.1 m hm
  ·exact⟨Qua hni.1 g1,o1,hni.2.2⟩
 ·obtain⟨m,hm,hh⟩:=h1.2.2 t ht st hk
  by_cases hmi:m=i
  ·subst hmi
   rw[h3]at hh
   by_cases hts:t=s
   ·subst hts
    obtain⟨b',f',e1,e2,e3⟩:=(hni.2.1 t).ge ht hh
    rw[hb]at e1
    cases e1
    rw[hg]at e2
    cases e2
    obtain⟨c,g,k1,k2,k3⟩:=hd
    refine⟨j,by rw[Wc,h1.len];exact hjl,?_⟩
    rw[Fh (by rw[h1.len];exact hjl),if_neg (Z8a hj)]
    exact⟨c,g,k1,k2,Pw k3 e3⟩
   ·refine⟨m,by rw[Wc];exact hm,?_⟩
    rw[Fh hm,if_pos rfl]
    exact o2 t hts st hh
  ·refine⟨m,by rw[Wc];exact hm,?_⟩
   rw[Fh hm,if_neg (Z8a hmi)]
   exact hh
def Xa {ws:List Wri} {sp:List ByteArray} {w:Wld} {src:Int} {l:List Row} {self:Bool} {rc:List Int} (hn:∀ n∈w.2.2.1,NI ws sp n) (hl:Hm l=true) (hr:∀ r∈l,Im ws r=true):NR ws sp w.2.2.1 (Nf w src l self rc).1:=by
 refine Jm (λ _ (a:List Nod×Bool)=>NR ws sp w.2.2.1 a.1) (NR.refl hn) (λ j b hj hb=>?_)
 have hc:=Ml (A3 (d:=0) hj)
 unfold gst
 cases (Em w).getD j 0==src&&!self
 case true=>exact hb
 cases rch rc j != 1
 case true=>exact hb
 have hi:((Em w).getD j 0).toNat<b.1.length:=by rw[hb.len];omega
 obtain⟨t1,t2,t3⟩:=Vpa (hb.1 _ (A3 (d:=A7) hi)) hl hr
 exact hb.set hi t1 t2 (by rw[t3];exact MO.refl _ _)
def Fra {ws:List Wri} {sp:List ByteArray} {w:Wld} {rc:List Int} {i:Nat} (hn:∀ n∈w.2.2.1,NI ws sp n) (hi:i<w.2.2.1.length):∃ ns,(Oc w i rc).2=wN w ns∧NR ws sp w.2.2.1 ns:=by
 have hni:=hn _ (A3 (d:=A7) hi)
 have hl:=(Bl.1 hni.1.1).2.2.2.1
 unfold Oc
 cases ((w.2.2.1.getD i A7).2.2.1.length:Int)==0
 case true=>exact⟨w.2.2.1,rfl,NR.refl hn⟩
 refine⟨_,rfl,?_⟩
 have hg:NR ws sp w.2.2.1 (J2 w i rc).1:=Xa hn hl hni.2.2.1
 cases (J2 w i rc).2&&!(Gx (Em (wN w (J2 w i rc).1)) (i:Int))
 ·exact hg
 have hi':i<(J2 w i rc).1.length:=by rw[hg.len];exact hi
 have hm:=hg.1 _ (A3 (d:=A7) hi')
 exact hg.set hi' ⟨Fpa hm.1,hm.2.1,(λ _ h=>nomatch h),hm.2.2.2⟩ rfl (MO.refl _ _)
def Fsa {ws:List Wri} {sp:List ByteArray} {w:Wld} {rc:List Int} {i:Nat} (hn:∀ n∈w.2.2.1,NI ws sp n) (hi:i<w.2.2.1.length):∃ ns,(Sj w i rc).2=wN w ns∧NR ws sp w.2.2.1 ns:=by
 have hni:=hn _ (A3 (d:=A7) hi)
 obtain⟨hq,_,_,_,hq60⟩:=Bl.1 hni.1.1
 unfold Sj
 cases ((w.2.2.1.getD i A7).2.2.2.length:Int)==0
 case true=>exact⟨w.2.2.1,rfl,NR.refl hn⟩
 refine⟨_,rfl,?_⟩
 have hg:NR ws sp w.2.2.1 (Lb w i rc).1:=Xa hn (Ky hq) (λ r hr=>hni.2.2.2 r (Y8a hr))
 cases (Lb w i rc).2
 ·exact hg
 have hi':i<(Lb w i rc).1.length:=by rw[hg.len];exact hi
 have hm:=hg.1 _ (A3 (d:=A7) hi')
 exact hg.set hi' ⟨Qva hm.1 (λ r hr=>hq r (Zn hr)) (by rw[Wi];omega),hm.2.1,hm.2.2.1,λ r hr=>hni.2.2.2 r (Zn hr)⟩ rfl (MO.refl _ _)

structure WI (w:Wld):Prop where
 ring:Hd w.2.1 w.1=true
 ids:w.2.2.1.map (·.1)=w.1.map (·.1)
 nodes:∀ n∈w.2.2.1,NI w.2.2.2.2.1 w.2.2.2.2.2 n
 clk:Gg w.2.2.2.1=true
 wlen:w.2.2.2.2.1.length≤200
 wok:Uc w.2.2.2.2.1
 wge:∀ x∈w.2.2.2.2.1,sle w.2.2.2.1 x.2.1.1=false
 asc:w.2.2.2.2.1.Pairwise (λ a b=>sle a.2.1.1 b.2.1.1=true)
 kept:∀ x∈w.2.2.2.2.1,x.2.2=true→x.1∉w.2.2.2.2.2→KN w.2.2.1 x.1 x.2.1.1
 sps:TS w.2.2.2.2.2
 spw:∀ s∈w.2.2.2.2.2,∃ x∈w.2.2.2.2.1,x.1=s
theorem X3a:LawfulBEq ByteArray := { eq_of_beq:=λ {a b} h=>B9.1 (by rw[← Qi];exact h),rfl:=λ {a}=>by rw[Qi];exact B9.2 rfl }
def Of:∀ (p q:List ByteArray),p.Nodup→(∀ x∈p,x∈q)→p.length≤q.length
 |[],_,_,_=>Vw _
 |x::p,q,h,hs=>by
  haveI:=X3a
  obtain⟨h1,h2⟩:=Yn.1 h
  have hx:=hs x Yc
  have hlen:(q.erase x).length=q.length-1:=Ahb hx
  have hpos:=Yva hx
  have:=Of p (q.erase x) h2 (λ y hy=>(List.mem_erase_of_ne (λ c=>by subst c;exact h1 hy)).2 (hs y (Vd _ hy)))
  rw[Vh]
  omega
namespace WI
variable {w:Wld}
def splen (h:WI w):w.2.2.2.2.2.length≤200:=by
 have hn:w.2.2.2.2.2.Nodup:=h.sps.imp (λ {a b} hab e=>by subst e;rw[Es]at hab;cases hab)
 have:=Of _ (w.2.2.2.2.1.map (·.1)) hn (λ s hs=>by
  obtain⟨x,hx,e⟩:=h.spw s hs
  exact Yr.2 ⟨x,hx,e⟩)
 rw[Wf]at this
 have:=h.wlen
 omega
def nlen (h:WI w):w.2.2.1.length=w.1.length:=by
 have:=congrArg length h.ids
 rwa [Wf,Wf]at this
def dlen (h:WI w):1≤w.1.length∧w.1.length≤12:=(Cv.1 (F7.1 h.ring).1).2.2
def ns (h:WI w):NS w.2.2.1:=⟨by have:=h.nlen;have:=h.dlen;omega,λ n hn=>(h.nodes n hn).1⟩
def win (h:WI w):WIn w:=by
 have h1:=h.nlen
 have h2:=h.dlen
 have h3:=h.wlen
 have h4:=h.splen
 refine⟨Spa h.ring,by omega,⟨by omega,λ n hn=>Vca (h.nodes n hn).1⟩,⟨by omega,λ x hx=>Mh (h.wok x hx).1⟩,by omega,λ s hs=>?_⟩
 obtain⟨x,hx,e⟩:=h.spw s hs
 rw[← e]
 exact Mh (h.wok x hx).1
def other (h:WI w) {ns:List Nod} (hn:NR w.2.2.2.2.1 w.2.2.2.2.2 w.2.2.1 ns):WI (wN w ns):=
 ⟨h.ring,hn.2.1.trans h.ids,hn.1,h.clk,h.wlen,h.wok,h.wge,h.asc,λ x hx hk hs=>hn.2.2 _ hs _ (h.kept x hx hk hs),h.sps,h.spw⟩
def other' (h:WI w) {r:Bool×Wld} (hr:∃ ns,r.2=wN w ns∧NR w.2.2.2.2.1 w.2.2.2.2.2 w.2.2.1 ns):WI r.2:=by
 obtain⟨ns,e,hn⟩:=hr
 rw[e]
 exact h.other hn
def write (h:WI w) {s:ByteArray} {f:Fil} {rc:List Int} (hs:Cg s=true) (hf:Fq f=true) (hb:Al f.2.2) (hc:sle w.2.2.2.1 f.1=true) (hl:w.2.2.2.2.1.length<200):WI (B4a (w.1,w.2.1,w.2.2.1,f.1,w.2.2.2.2) s f rc).2:=by
 obtain⟨g1,g2,g3⟩:=Vra (ws:=w.2.2.2.2.1++[(s,f,decide ((wrN (w.1,w.2.1,w.2.2.1,f.1,w.2.2.2.2) s f rc).2.2≥quo w.2.1.1))]) (sp:=w.2.2.2.2.2) (w:=(w.1,w.2.1,w.2.2.1,f.1,w.2.2.2.2)) (rc:=rc) (s:=s) (f:=f)
  (λ x hx=>by
   rcases Vm.1 hx with hx|hx
   ·exact h.wok x hx
   ·rw[Vp.1 hx];exact⟨hs,hf,hb⟩)
  ⟨_,Vm.2 (.inr (Vp.2 rfl)),rfl,rfl⟩
  (λ n hn=>(h.nodes n hn).mono (λ x hx=>Vm.2 (.inl hx)) (λ _ h=>h))
 unfold B4a
 generalize wrN (w.1,w.2.1,w.2.2.1,f.1,w.2.2.2.2) s f rc=a at *
 have hq:quo w.2.1.1≥1:=by
  have:=(F7.1 h.ring).2.1
  unfold quo
  omega
 exact {
  ring:=h.ring
  ids:=g1.2.1.trans h.ids
  nodes:=g1.1
  clk:=(Hv.1 hf).1
  wlen:=by show (w.2.2.2.2.1++[_]).length≤200;rw[Vi];simp only[Vh,Vq];omega
  wok:=λ x hx=>by
   rcases Vm.1 hx with hx|hx
   ·exact h.wok x hx
   ·rw[Vp.1 hx];exact⟨hs,hf,hb⟩
  wge:=λ x hx=>by
   rcases Vm.1 hx with hx|hx
   ·exact Pw (Od hc) (h.wge x hx)
   ·rw[Vp.1 hx];exact G3 _
  asc:=Zc.2 ⟨h.asc,Zia _ _,λ x hx y hy=>by
   rw[Vp.1 hy]
   have:=h.wge x hx
   cases hxy:sle x.2.1.1 f.1
   case true=>rfl
   have:=Pw this hxy
   rw[this]at hc
   cases hc⟩
  kept:=λ x hx hk hsp=>by
   rcases Vm.1 hx with hx|hx
   ·exact g1.2.2 _ hsp _ (h.kept x hx hk hsp)
   ·rw[Vp.1 hx]at hk hsp ⊢
    have hk':a.2.2≥quo w.2.1.1:=of_decide_eq_true hk
    exact g2 hsp (by omega)
  sps:=h.sps
  spw:=λ s hs=>by
   obtain⟨x,hx,e⟩:=h.spw s hs
   exact⟨x,Vm.2 (.inl hx),e⟩ }
def ask (h:WI w) {s:ByteArray} {f:Fil} {t:Int} {rc:List Int} (hb:Al f.2.2) (hd:f.2.1=true→f.2.2=[]):WI (ask w s f t rc).2:=by
 unfold Vf.ask
 cases hs:Cg s
 ·exact h
 rw[Zb,cond_false]
 by_cases hl:(f.2.2.length:Int) > 200
 ·rw[decide_eq_true hl];exact h
 ·rw[decide_eq_false hl,cond_false]
  cases inR t 0 1000000000
  ·exact h
  rw[Zb,cond_false]
  cases hw:(w.2.2.2.2.1.length:Int)==200
  case true=>exact h
  rw[cond_false]
  have hw':=beq_eq_false_iff_ne.1 hw
  have hwl:=h.wlen
  obtain⟨n1,n2⟩:=Foa h.clk t 0
  cases he:(J5 w.2.2.2.1 t 0).1==w.2.2.2.1.1&&((J5 w.2.2.2.1 t 0).2.1==w.2.2.2.1.2.1&&(J5 w.2.2.2.1 t 0).2.2==w.2.2.2.1.2.2)
  case true=>exact h
  rw[cond_false]
  have hlt:sle w.2.2.2.1 (J5 w.2.2.2.1 t 0)=true:=by
   rcases n2 with n2|n2
   ·rw[n2,beq_self_eq_true,beq_self_eq_true,beq_self_eq_true]at he;cases he
   ·exact n2
  exact h.write (f:=(J5 w.2.2.2.1 t 0,f.2)) hs (Hv.2 ⟨n1,by show f.2.2.length≤200;omega,hd⟩) hb hlt (by omega)
def rot (h:WI w) {i:Nat} (hi:i<w.2.2.1.length) {s:ByteArray} {b:Int}:WI (Tqa w i s b).2:=by
 have hni:=h.nodes _ (A3 (d:=A7) hi)
 unfold Tqa
 cases hr:(Hra (w.2.2.1.getD i A7) s b).2
 ·exact h
 have hg:=Qna (s:=s) (b:=b) hni.1
 unfold Hra at hr hg ⊢
 cases hc:L6 (w.2.2.1.getD i A7)&&((lkD (w.2.2.1.getD i A7).2.1 s).2==0&&(Gza (w.2.2.1.getD i A7).2.1 s b).2)
 ·rw[hc]at hr;cases hr
 rw[hc]at hg
 rw[Va,Va,beq_iff_eq]at hc
 obtain⟨d1,d2,f,hf⟩:=Voa h.wok hni.1.g hni.2.1 hc.2.1 hc.2.2 (spl w.2.2.2.2.2 s) (λ t=>X8)
 have hsub:∀ t∈w.2.2.2.2.2,t∈spl w.2.2.2.2.2 s:=λ t ht=>X8.2 (.inr ht)
 have hN:NR w.2.2.2.2.1 (spl w.2.2.2.2.2 s) w.2.2.1 (w.2.2.1.set i ((w.2.2.1.getD i A7).1,(Gza (w.2.2.1.getD i A7).2.1 s b).1,(w.2.2.1.getD i A7).2.2)):=
  (NR.refl (λ n hn=>(h.nodes n hn).mono (λ _ h=>h) hsub)).set hi ⟨hg,d1,hni.2.2⟩ rfl d2
 exact {
  ring:=h.ring
  ids:=hN.2.1.trans h.ids
  nodes:=hN.1
  clk:=h.clk
  wlen:=h.wlen
  wok:=h.wok
  wge:=h.wge
  asc:=h.asc
  kept:=λ x hx hk hs=>hN.2.2 _ hs _ (h.kept x hx hk (λ c=>hs (hsub _ c)))
  sps:=Ub h.sps
  spw:=λ t ht=>by
   rcases X8.1 ht with rfl|ht
   ·obtain⟨x,hx,e,_⟩:=hf
    exact⟨x,hx,e⟩
   ·exact h.spw t ht }
def node (h:WI w) {i:Nat} (hi:i<w.2.2.1.length) {e:Evt}:WI (Dea w e i).2:=by
 have hni:=h.nodes _ (A3 (d:=A7) hi)
 unfold Dea
 cases e.1==3
 case true=>exact h.other' (X9 h.wok h.nodes hi h.ring h.ids)
 cases e.1==4
 case true=>exact h.other' (Fra h.nodes hi)
 cases e.1==5
 case true=>exact h.other' (Fsa h.nodes hi)
 cases e.1==6 with
 |true=>
  obtain⟨c1,c2⟩:=Fqa h.wok hni.1.g hni.2.1
  exact h.other ((NR.refl h.nodes).set hi ⟨Lga hni.1,c1,hni.2.2⟩ rfl c2)
 |false=>
  cases e.1==7 with
  |true=>exact h.other ((NR.refl h.nodes).set hi ⟨Vla hni.1,T0a hni.1.g hni.2.1 _,hni.2.2⟩ rfl (T1a hni.1.g hni.2.1 _))
  |false=>exact h.rot hi
def weigh (h:WI w) {i t:Int}:WI (Hea w i t).2:=by
 unfold Hea
 cases h1:inR i 0 ((w.1.length:Int)-1)
 ·exact h
 cases h2:inR t 1 1000
 ·exact h
 obtain⟨i0,i1⟩:=Fk.1 h1
 obtain⟨w0,w1⟩:=Fk.1 h2
 exact⟨(Fda (Fea h.ring (by omega) w0 w1)).1,h.ids.trans (X2 _ _ _).symm,h.nodes,h.clk,h.wlen,h.wok,h.wge,h.asc,h.kept,h.sps,h.spw⟩
def ev (h:WI w) {e:Evt} (hb:Al e.2.2.2.1):WI (doW w e).2:=by
 have ae:∀ {q:Int×Wld},WI q.2→WI (Qwa q).2:=λ {q} hq=>by
  unfold Qwa
  cases q.1 != 2<;>exact hq
 unfold doW
 cases e.1==1
 case true=>exact ae (h.ask hb (λ c=>by cases c))
 cases e.1==2
 case true=>exact ae (h.ask Ala (λ _=>rfl))
 cases e.1==3||(e.1==4||(e.1==5||(e.1==6||(e.1==7||e.1==8)))) with
 |true=>
  cases hi:inR e.2.1 0 ((w.2.2.1.length:Int)-1)
  ·exact h
  have:=Fk.1 hi
  exact h.node (by omega)
 |false=>
  cases e.1==9 with
  |true=>exact h.weigh
  |false=>exact h
def Lsa {ws:List Wri} (hw:Uc ws) {s:ByteArray} {f:Fil} (hf:Al f.2.2):Lja ws s f=true↔IsW ws s f:=by
 unfold Lja IsW
 rw[Y4a]
 constructor
 ·rintro⟨x,hx,h⟩
  rw[Va]at h
  exact⟨x,hx,B9.1 h.1,(Sh (hw x hx).2.2 hf).1 h.2⟩
 ·rintro⟨x,hx,h1,h2⟩
  exact⟨x,hx,by rw[Va];exact⟨B9.2 h1,(Sh (hw x hx).2.2 hf).2 h2⟩⟩
def rightB (h:WI w):Se w=true:=by
 have h2:=h.dlen
 have hl:=h.nlen
 unfold Se
 have a1:Mu w.1 w.2.2.1=true:=by
  unfold Mu
  rw[show ((w.2.2.1.length:Int)==(w.1.length:Int))=true by rw[beq_iff_eq];omega,Wd,We]
  intro j hj
  have hj':=Yt.1 hj
  rw[Va,beq_iff_eq]
  refine⟨?_,(h.nodes _ (A3 (d:=A7) hj')).1.1⟩
  have e1:(w.2.2.1.getD j A7).1=(w.2.2.1.map (·.1)).getD j 0:=by
   rw[Vb,Vb,Zy,Vg hj'];rfl
  have e2:(w.1.getD j Hn).1=(w.1.map (·.1)).getD j 0:=by
   rw[Vb,Vb,Zy,Vg (by omega)];rfl
  rw[e1,e2,h.ids]
 have a2:P2a w.2.2.2.1 w.2.2.2.2.1=true:=by
  unfold P2a
  rw[Va,We]
  refine⟨λ x hx=>?_,decide_eq_true (by have:=h.wlen;omega)⟩
  unfold D5a
  rw[(h.wok x hx).1,(h.wok x hx).2.1,h.wge x hx]
  rfl
 have a3:Oa w.2.2.2.2.2=true:=by
  unfold Oa
  rw[We]
  intro j hj
  have hj':=Yt.1 hj
  rw[Va,Zx]
  refine⟨?_,?_⟩
  ·obtain⟨x,hx,e⟩:=h.spw _ (A3 (d:=Jk) hj')
   rw[← e]
   exact(h.wok x hx).1
  ·by_cases h0:j=0
   ·exact .inl (decide_eq_true h0)
   ·right
    have:=Zg.1 h.sps (j-1) j (by omega) hj' (by omega)
    rwa [Vb,Vb,Vg hj',Vg (by omega)]
 rw[h.ring,a1,h.clk,a2,a3]
 rfl
def writtenT (h:WI w):Mi w=true:=by
 unfold Mi
 rw[We]
 intro j hj
 obtain⟨hg,hd,_⟩:=h.nodes _ (A3 (d:=A7) (Yt.1 hj))
 rw[Va,We,We]
 have one:∀ e:Nmd,EO w.2.2.2.2.1 w.2.2.2.2.2 e.1 e.2→Lla w.2.2.2.2.1 e=true:=by
  intro e he
  unfold Lla
  cases hf:Iw e.2 with
  |none=>rfl
  |some f=>exact(Lsa h.wok (Kwa hf).2.1).2 (he.get h.wok hf).1
 exact⟨λ e he=>one e ((hd e.1).1 e.2 (Wu (H4 hg.g.1) he)),λ e he=>one e ((hd e.1).2.1 e.2 (Wu (Jl hg.g.1) he))⟩
def listedT (h:WI w):Pl w=true:=by
 unfold Pl
 rw[We]
 intro j hj
 obtain⟨_,_,h1,h2⟩:=h.nodes _ (A3 (d:=A7) (Yt.1 hj))
 rw[Va,We,We]
 exact⟨h1,h2⟩
def keptT (h:WI w):Hca w=true:=by
 unfold Hca
 rw[We]
 intro x hx
 unfold Lma
 cases hk:x.2.2
 ·rfl
 cases hs:H8a w.2.2.2.2.2 x.1
 case true=>rfl
 obtain⟨i,hi,hh⟩:=h.kept x hx hk (λ c=>by rw[Jf.2 c]at hs;cases hs)
 rw[Y4a.2 ⟨_,A3 hi,Lpa.2 hh⟩]
 rfl
def stampedT (h:WI w):Mj w=true:=by
 unfold Mj
 rw[We]
 intro j hj
 have hj':=Yt.1 hj
 rw[Va,Zx,Vu]
 refine⟨h.wge _ (A3 hj'),?_⟩
 by_cases h0:j=0
 ·exact .inl (decide_eq_true h0)
 ·right
  have:=Zg.1 h.asc (j-1) j (by omega) hj' (by omega)
  rwa [Vb,Vb,Vg hj',Vg (by omega)]
def safe (h:WI w):P7a w=0:=by
 unfold P7a
 rw[h.rightB,h.writtenT,h.listedT,h.keptT,h.stampedT]
 rfl
end WI

def Xda (l:List Dev) (last:Int):Prop:=l.Pairwise (λ a b=>a.1<b.1)∧∀ d∈l,(0≤d.1∧d.1≤last)∧(0≤d.2.1∧d.2.1≤20)∧1≤d.2.2∧d.2.2≤1000
def Lta (z:Int) (hz:1≤z∧z≤20):∀ (n:Nat) (i:Int) (l:List Dev) (last:Int) (c:Cur),i=n→n≤6→Pa c→Xda l last→0≤last→last+2*n≤12→l.length+n≤6→
  Tot (λ k=>D9 k l z last i c) (λ r=>(∃ last,Xda r.1 last∧last≤20)∧r.1.length=l.length+n∧Pa r.2):=by
 intro n
 induction n with
 |zero=>
  rintro i l last c rfl _ hc h h0 h1 _
  refine Tot.succ ?_
  simp (disch:=omega) only [D9,dF]
  exact Xoa ⟨⟨last,h,by omega⟩,rfl,hc⟩
 |succ n ih=>
  rintro i l last c rfl hn hc h h0 h1 hl
  refine Tot.succ ?_
  simp (disch:=omega) only [D9,dT]
  obtain⟨x,c1,e1,hx,k1⟩:=Ku c hc [1,1,2] (by decide) (by decide)
  obtain⟨y,c2,e2,y0,y1,_,k2⟩:=Io c1 k1 z (by omega)
  obtain⟨v,c3,e3,hv,k3⟩:=Ku c2 k2 [1,1,1,2,10,100] (by decide) (by decide)
  have y1:=y1 (by omega)
  have hx':1≤x∧x≤2:=by
   simp only[Vk,Zua,or_false]at hx
   omega
  have hv':1≤v∧v≤1000:=by
   simp only[Vk,Zua,or_false]at hv
   omega
  refine Y0a (Y2a (Q:=λ r=>r=(x,c1)) e1 rfl) ?_
  refine Y0a (Y2a (Q:=λ r=>r=(y,c2)) e2 rfl) ?_
  refine Y0a (Y2a (Q:=λ r=>r=(v,c3)) e3 rfl) ?_
  simp (disch:=omega) only [w64]
  refine Xwa (by simp only[Vh,Vq];omega) ?_
  refine(ih _ (l++[(last+x,y,v)]) (last+x) c3 (by omega) (by omega) k3 ⟨?_,?_⟩ (by omega) (by omega) (by rw[Vi];simp only[Vh,Vq];omega)).mono ?_
  ·refine Zc.2 ⟨h.1,Zia _ _,λ a ha b hb=>?_⟩
   rw[Vp.1 hb]
   have:=(h.2 a ha).1.2
   show a.1<last+x
   omega
  ·intro d hd
   rcases Vm.1 hd with hd|hd
   ·obtain⟨⟨a1,a2⟩,a3⟩:=h.2 d hd
    exact⟨⟨a1,by omega⟩,a3⟩
   ·rw[Vp.1 hd]
    exact⟨⟨by show 0≤last+x;omega,Zna _⟩,⟨y0,by show y≤20;omega⟩,hv'⟩
  ·rintro r ⟨g1,g2,g3⟩
   refine⟨g1,?_,g3⟩
   rw[g2,Vi]
   simp only[Vh,Vq]
   omega
def Hfa (c:Cur) (hc:Pa c):Tot (λ k=>Cw k c) (λ r=>Gi r.1=true∧(2≤r.1.length∧r.1.length≤6)∧Pa r.2):=by
 unfold Cw
 obtain⟨x,c1,e1,x0,x1,_,k1⟩:=Io c hc 4 (by decide)
 obtain⟨y,c2,e2,y0,y1,_,k2⟩:=Io c1 k1 5 (by decide)
 have x1:=x1 (by decide)
 have y1:=y1 (by decide)
 refine Y0a (Y2a (Q:=λ r=>r=(x,c1)) e1 rfl) ?_
 refine Y0a (Y2a (Q:=λ r=>r=(y,c2)) e2 rfl) ?_
 simp (disch:=omega) only [w64]
 refine Xpa (Lta (1+x) (by omega) (2+y).toNat (2+y) [] 0 c2 (by omega) (by omega) k2 ⟨List.Pairwise.nil,λ d hd=>(nomatch hd)⟩ (Zna _) (by omega) (by simp only[Vq];omega)) ?_
 rintro r ⟨⟨last,g1,g2⟩,g3,g4⟩
 rw[Vq]at g3
 exact Xoa ⟨Cv.2 ⟨g1.1,λ d hd=>Gt.2 ⟨⟨(g1.2 d hd).1.1,by have:=(g1.2 d hd).1.2;omega⟩,(g1.2 d hd).2⟩,by dsimp only;omega,by dsimp only;omega⟩,⟨by dsimp only;omega,by dsimp only;omega⟩,g4⟩
abbrev Mga:Wld:=(([]:List Dev),((0:Int),([]:List (List Int))),([]:List Nod),((0:Int),((0:Int),(0:Int))),([]:List Wri),([]:List ByteArray))
def Dha (d:Dev):Nod:=(d.1,([],[]),[],[])
def Sw (l:List Dev) (parts reps:Int):Wld:=(l,(build l parts reps).1,l.map Dha,(0,0,0),[],[])
def Lua {ws:List Wri} {sp:List ByteArray} {l:List Dev} (h:Gi l=true) {d:Dev} (hd:d∈l):NI ws sp (Dha d):=by
 obtain⟨⟨i0,i1⟩,_⟩:=Gt.1 ((Cv.1 h).2.1 d hd)
 refine⟨⟨Bl.2 ⟨(λ r hr=>nomatch hr),⟨i0,i1⟩,dg0.1,Pm,Vw _⟩,dg0.2⟩,λ s=>⟨λ b hb=>?_,λ b hb=>?_,λ _ b f hb=>?_⟩,(λ r hr=>nomatch hr),(λ r hr=>nomatch hr)⟩
 ·rw[show gt (Dha d).2.1.1 s=none from rfl]at hb;cases hb
 ·rw[show gt (Dha d).2.1.2 s=none from rfl]at hb;cases hb
 ·rw[show gt (Dha d).2.1.2 s=none from rfl]at hb;cases hb
def T4a {l:List Dev} {parts reps:Int} (hb:(build l parts reps).2=true):WI (Sw l parts reps):=by
 obtain⟨h1,h2,_,_⟩:=Qm hb
 exact {
  ring:=h2
  ids:=by show (l.map Dha).map (·.1)=_;rw[Yxa];rfl
  nodes:=λ n hn=>by
   obtain⟨d,hd,rfl⟩:=Yr.1 hn
   exact Lua h1 hd
  clk:=rfl
  wlen:=Vw _
  wok:=λ x hx=>nomatch hx
  wge:=λ x hx=>nomatch hx
  asc:=List.Pairwise.nil
  kept:=λ x hx=>nomatch hx
  sps:=List.Pairwise.nil
  spw:=λ s hs=>nomatch hs }
def B5a (l:List Dev) (parts reps:Int) (hb:(build l parts reps).2=true):Tot (λ k=>Aw k l parts reps) (λ r=>r=Sw l parts reps):=by
 obtain⟨h1,_,_,_⟩:=Qm hb
 have h12:=(Cv.1 h1).2.2.2
 unfold Aw
 refine Y0a (Axa l parts reps (by omega)) ?_
 refine Xwa (by rw[Vq];omega) (Xqa (by rw[hb];rfl) ?_)
 rw[Wn]
 refine Xpa (Q:=λ r=>r=(Mga,Sw l parts reps)) ?_ (by rintro r rfl;exact Xoa rfl)
 refine Xxa (L:=λ k i (s:List Nod)=>Bz k l i Mga (l,(build l parts reps).1,s,(0,0,0),[],[])) (Q:=λ r=>r=(Mga,Sw l parts reps)) l.length (λ j s=>s=(l.take j).map Dha) ?_ ?_ 0 [] (Vw _) rfl
 ·rintro s rfl
  simp (disch:=omega) only [Bz,dF]
  exact Xoa (by rw[Zs];rfl)
 ·rintro j s hj rfl next
  have hd:=A3 (d:=Hn) hj
  obtain⟨d,ed⟩:∃ d:Dev,l.getD j Hn=d:=⟨_,rfl⟩
  rw[ed]at hd
  have e0:l.getD j ((0:Int),((0:Int),(0:Int)))=d:=ed
  have e1:l[j]=d:=by rw[← ed,Vb,Vg hj];rfl
  have hid:=(Gt.1 ((Cv.1 h1).2.1 d hd)).1
  simp (disch:=omega) only [Bz,dT,Vl,w64,e0,D3a,Vt]
  have hl:((l.take j).map Dha).length=j:=by rw[Wf,Vs];omega
  rw[Fk.2 hid,cond_true]
  refine Xwa (by rw[hl];simp only[Vh,Vq];omega) (next _ ?_)
  rw[Za hj,Yca,e1]
  rfl
def WD (w:Wld):Prop:=WI w∧∀ x∈w.2.2.2.2.1,x.1∈Tx
def Xna (e:Evt):Prop:=e.1=1∨e.1=2→e.2.2.1∈Tx
def Pca (w:Wld) (e:Evt) (i:Nat):(Dea w e i).2.2.2.2.2.1=w.2.2.2.2.1:=by
 unfold Dea Ob Oc Sj Tqa
 cases e.1==3
 case true=>cases (lkD (w.2.2.1.getD i A7).2.1 e.2.2.1).2 != 0<;>rfl
 cases e.1==4
 case true=>cases ((w.2.2.1.getD i A7).2.2.1.length:Int)==0<;>rfl
 cases e.1==5
 case true=>cases ((w.2.2.1.getD i A7).2.2.2.length:Int)==0<;>rfl
 cases e.1==6
 case true=>rfl
 cases e.1==7
 case true=>rfl
 rw[cond_false,cond_false,cond_false,cond_false,cond_false]
 cases (Hra (w.2.2.1.getD i A7) e.2.2.1 e.2.2.2.2.1).2<;>rfl
def Qxa (w:Wld) (s:ByteArray) (f:Fil) (t:Int) (rc:List Int):∀ x∈(ask w s f t rc).2.2.2.2.2.1,x∈w.2.2.2.2.1∨x.1=s:=by
 intro x
 unfold ask
 cases !(Cg s)
 case true=>exact .inl
 cases decide ((f.2.2.length:Int) > 200)
 case true=>exact .inl
 cases !(inR t 0 1000000000)
 case true=>exact .inl
 cases (w.2.2.2.2.1.length:Int)==200
 case true=>exact .inl
 cases (J5 w.2.2.2.1 t 0).1==w.2.2.2.1.1&&((J5 w.2.2.2.1 t 0).2.1==w.2.2.2.1.2.1&&(J5 w.2.2.2.1 t 0).2.2==w.2.2.2.1.2.2)
 case true=>exact .inl
 intro hx
 rcases Vm.1 hx with h|h
 ·exact .inl h
 ·rw[Vp.1 h];exact .inr rfl
def WD.ev {w:Wld} (h:WD w) {e:Evt} (hb:Al e.2.2.2.1) (hn:Xna e):WD (doW w e).2:=by
 refine⟨h.1.ev hb,λ x=>?_⟩
 have ae:∀ q:Int×Wld,(Qwa q).2=q.2:=λ q=>by
  unfold Qwa
  cases q.1 != 2<;>rfl
 unfold doW
 cases h1:e.1==1 with
 |true=>
  rw[cond_true,ae]
  exact λ hx=>(Qxa _ _ _ _ _ x hx).elim (h.2 x) (λ c=>by rw[c];exact hn (.inl (eq_of_beq h1)))
 |false=>
  cases h2:e.1==2 with
  |true=>
   rw[cond_false,cond_true,ae]
   exact λ hx=>(Qxa _ _ _ _ _ x hx).elim (h.2 x) (λ c=>by rw[c];exact hn (.inr (eq_of_beq h2)))
  |false=>
   rw[cond_false,cond_false]
   cases e.1==3||(e.1==4||(e.1==5||(e.1==6||(e.1==7||e.1==8)))) with
   |true=>
    rw[cond_true]
    cases inR e.2.1 0 ((w.2.2.1.length:Int)-1) with
    |true=>rw[cond_true,Pca];exact h.2 x
    |false=>exact h.2 x
   |false=>
    rw[cond_false]
    unfold Hea
    cases e.1==9
    case false=>exact h.2 x
    cases !(inR e.2.1 0 ((w.1.length:Int)-1))
    case true=>exact h.2 x
    cases !(inR e.2.2.2.2.1 1 1000)<;>exact h.2 x

def WIm (m:Nat) (w:Wld):Prop:=RBd w.2.1∧w.1.length≤2000000∧(w.2.2.1.length≤2000000∧∀ n∈w.2.2.1,NIn n)∧(w.2.2.2.2.1.length≤m∧∀ x∈w.2.2.2.2.1,Pc x.1∧x.2.1.2.2.length≤2000000∧Al x.2.1.2.2)∧(w.2.2.2.2.2.length≤m∧∀ s∈w.2.2.2.2.2,Pc s)
def WIm.win {m:Nat} {w:Wld} (h:WIm m w) (hm:m≤2000000):WIn w:=by
 obtain⟨h1,h2,⟨h3,h4⟩,⟨h5,h6⟩,h7,h8⟩:=h
 exact⟨h1,h2,⟨h3,h4⟩,⟨by omega,λ x hx=>(h6 x hx).1⟩,by omega,h8⟩

section
open Go
end

section
open Go
end

section
open Go
end

def NO (ns ms:List Nod):Prop:=NS ms∧ms.map (·.1)=ns.map (·.1)
def NO.len {ns ms:List Nod} (h:NO ns ms):ms.length=ns.length:=by
 have:=congrArg length h.2
 rwa [Wf,Wf]at this
def NO.set {ns ms:List Nod} (h:NO ns ms) {i:Nat} {n:Nod} (hi:i<ms.length) (hn:NG n) (e:n.1=(ms.getD i A7).1):NO ns (ms.set i n):=⟨h.1.set hn,(Dga hi e).trans h.2⟩
def T5a (n:Nod) (s:ByteArray) (f:Fil) (sure:Bool):(Ww n s f sure).1.1=n.1:=by
 unfold Ww
 cases (n.2.2.2.length:Int)==60 with
 |true=>rfl
 |false=>rfl
def X4a (n:Nod) (l:List Row):(tk n l).2.1=n.1:=by
 unfold tk
 cases decide ((Oi n.2.2.1 l).length > 60)<;>rfl
def T6a (n:Nod) (s:ByteArray) (b:Int):(Hra n s b).1.1=n.1:=by
 unfold Hra
 cases L6 n&&((lkD n.2.1 s).2==0&&(Gza n.2.1 s b).2)<;>rfl
def Vua {w:Wld} {s:ByteArray} {f:Fil} {rc:List Int} (hn:NS w.2.2.1) (hs:Cg s=true) (hf:Fq f=true):NO w.2.2.1 (wrN w s f rc).1:=by
 unfold wrN
 refine Jm (λ _ (a:List Nod×Int×Int)=>NO w.2.2.1 a.1) ⟨hn,rfl⟩ (λ j a hj h=>?_)
 have hc:=Si (A3 (d:=0) hj)
 have hl:=h.len
 unfold wst
 cases decide (a.2.1<w.2.1.1)
 ·exact h
 rw[cond_true]
 cases rch rc j==0 with
 |true=>exact h
 |false=>exact h.set (by omega) (Qma (h.1.get (by omega)) hs hf) (T5a _ _ _ _)
def Vva {w:Wld} {i:Nat} {s:ByteArray} {rc:List Int} (hn:NS w.2.2.1):NO w.2.2.1 (puN w i s rc).1:=by
 unfold puN
 refine Jm (λ _ (a:List Nod×Bool×Bool)=>NO w.2.2.1 a.1) ⟨hn,rfl⟩ (λ j a hj h=>?_)
 have hc:=Qn (A3 (d:=0) hj)
 have hl:=h.len
 unfold pst
 cases (Nd w s).getD j 0==(i:Int)
 case true=>exact h
 rw[cond_false]
 cases rch rc j != 1 with
 |true=>exact h
 |false=>exact h.set (by omega) (Dda (h.1.get (by omega))) rfl
def Pda {w:Wld} {i:Nat} {s:ByteArray} {rc:List Int} (hn:NS w.2.2.1) (hi:i<w.2.2.1.length):∃ ns,(Ob w i s rc).2=wN w ns∧NO w.2.2.1 ns:=by
 unfold Ob
 cases hl:(lkD (w.2.2.1.getD i A7).2.1 s).2 != 0
 case true=>exact⟨w.2.2.1,rfl,hn,rfl⟩
 have h:=Vva (i:=i) (s:=s) (rc:=rc) hn
 have hlen:=h.len
 have hs:Cg s=true:=by
  rw[bne,Wm,beq_iff_eq]at hl
  obtain⟨b,hb,_⟩:=Ly.1 (show lkD (w.2.2.1.getD i A7).2.1 s=((lkD (w.2.2.1.getD i A7).2.1 s).1,0) from by rw[← hl])
  exact Sna (hn.get hi).g.1 (by rw[hb];rfl)
 refine⟨_,rfl,?_⟩
 cases (puN w i s rc).2.2&&!(puN w i s rc).2.1 with
 |false=>exact h
 |true=>exact h.set (by omega) (Qua (h.1.get (by omega)) hs) rfl
def Fta {w:Wld} {src:Int} {l:List Row} {self:Bool} {rc:List Int} (hl:Hm l=true) (hn:NS w.2.2.1):NO w.2.2.1 (Nf w src l self rc).1:=by
 unfold Nf
 refine Jm (λ _ (a:List Nod×Bool)=>NO w.2.2.1 a.1) ⟨hn,rfl⟩ (λ j a hj h=>?_)
 have hc:=Ml (A3 (d:=0) hj)
 have hlen:=h.len
 unfold gst
 cases (Em w).getD j 0==src&&!self
 case true=>exact h
 rw[cond_false]
 cases rch rc j != 1 with
 |true=>exact h
 |false=>exact h.set (by omega) (X0a (h.1.get (by omega)) hl) (X4a _ _)
def Pea {w:Wld} {i:Nat} {rc:List Int} (hn:NS w.2.2.1) (hi:i<w.2.2.1.length):∃ ns,(Oc w i rc).2=wN w ns∧NO w.2.2.1 ns:=by
 have h:=Fta (w:=w) (src:=(i:Int)) (self:=false) (rc:=rc) (Bl.1 (hn.get hi).1).2.2.2.1 hn
 have hlen:=h.len
 unfold Oc
 cases ((w.2.2.1.getD i A7).2.2.1.length:Int)==0
 case true=>exact⟨w.2.2.1,rfl,hn,rfl⟩
 refine⟨_,rfl,?_⟩
 show NO w.2.2.1 (bif (J2 w i rc).2&&_ then (J2 w i rc).1.set i (Pv ((J2 w i rc).1.getD i A7)) else (J2 w i rc).1)
 unfold J2
 cases (Nf w (i:Int) (w.2.2.1.getD i A7).2.2.1 false rc).2&&_ with
 |false=>exact h
 |true=>exact h.set (by omega) (Fpa (h.1.get (by omega))) rfl
def Pfa {w:Wld} {i:Nat} {rc:List Int} (hn:NS w.2.2.1) (hi:i<w.2.2.1.length):∃ ns,(Sj w i rc).2=wN w ns∧NO w.2.2.1 ns:=by
 have hq:=Bl.1 (hn.get hi).1
 have h:=Fta (w:=w) (src:=(i:Int)) (self:=true) (rc:=rc) (Ky hq.1) hn
 have hlen:=h.len
 unfold Sj
 cases ((w.2.2.1.getD i A7).2.2.2.length:Int)==0
 case true=>exact⟨w.2.2.1,rfl,hn,rfl⟩
 refine⟨_,rfl,?_⟩
 show NO w.2.2.1 (bif (Lb w i rc).2 then (Lb w i rc).1.set i (Tpa ((Lb w i rc).1.getD i A7) ((w.2.2.1.getD i A7).2.2.2.drop 1)) else (Lb w i rc).1)
 unfold Lb
 cases (Nf w (i:Int) ((w.2.2.1.getD i A7).2.2.2.take 1) true rc).2 with
 |false=>exact h
 |true=>exact h.set (by omega) (Qva (h.1.get (by omega)) (λ r hr=>hq.1 r (Zn hr)) (by rw[Wi];omega)) rfl
structure WO (w:Wld):Prop where
 ring:Hd w.2.1 w.1=true
 ids:w.2.2.1.map (·.1)=w.1.map (·.1)
 ns:NS w.2.2.1
 clk:Gg w.2.2.2.1=true
 wlen:w.2.2.2.2.1.length≤200
 wok:Uc w.2.2.2.2.1
 wge:∀ x∈w.2.2.2.2.1,sle w.2.2.2.1 x.2.1.1=false
 sps:TS w.2.2.2.2.2
 spn:∀ s∈w.2.2.2.2.2,Cg s=true
def WI.wo {w:Wld} (h:WI w):WO w:=⟨h.ring,h.ids,h.ns,h.clk,h.wlen,h.wok,h.wge,h.sps,λ s hs=>by
 obtain⟨x,hx,e⟩:=h.spw s hs
 rw[← e]
 exact(h.wok x hx).1⟩
namespace WO
variable {w:Wld}
def nlen (h:WO w):w.2.2.1.length=w.1.length:=by
 have:=congrArg length h.ids
 rwa [Wf,Wf]at this
def dlen (h:WO w):1≤w.1.length∧w.1.length≤12:=(Cv.1 (F7.1 h.ring).1).2.2
def other (h:WO w) {ns:List Nod} (hn:NO w.2.2.1 ns):WO (wN w ns):=⟨h.ring,hn.2.trans h.ids,hn.1,h.clk,h.wlen,h.wok,h.wge,h.sps,h.spn⟩
def other' (h:WO w) {r:Bool×Wld} (hr:∃ ns,r.2=wN w ns∧NO w.2.2.1 ns):WO r.2:=by
 obtain⟨ns,e,hn⟩:=hr
 rw[e]
 exact h.other hn
def write (h:WO w) {s:ByteArray} {f:Fil} {rc:List Int} (hs:Cg s=true) (hf:Fq f=true) (hb:Al f.2.2) (hc:sle w.2.2.2.1 f.1=true) (hl:w.2.2.2.2.1.length<200):WO (B4a (w.1,w.2.1,w.2.2.1,f.1,w.2.2.2.2) s f rc).2:=by
 have g:=Vua (w:=(w.1,w.2.1,w.2.2.1,f.1,w.2.2.2.2)) (rc:=rc) h.ns hs hf
 unfold B4a
 generalize wrN (w.1,w.2.1,w.2.2.1,f.1,w.2.2.2.2) s f rc=a at *
 exact {
  ring:=h.ring
  ids:=g.2.trans h.ids
  ns:=g.1
  clk:=(Hv.1 hf).1
  wlen:=by show (w.2.2.2.2.1++[_]).length≤200;rw[Vi];simp only[Vh,Vq];omega
  wok:=λ x hx=>by
   rcases Vm.1 hx with hx|hx
   ·exact h.wok x hx
   ·rw[Vp.1 hx];exact⟨hs,hf,hb⟩
  wge:=λ x hx=>by
   rcases Vm.1 hx with hx|hx
   ·exact Pw (Od hc) (h.wge x hx)
   ·rw[Vp.1 hx];exact G3 _
  sps:=h.sps
  spn:=h.spn }
def ask (h:WO w) {s:ByteArray} {f:Fil} {t:Int} {rc:List Int} (hb:Al f.2.2) (hd:f.2.1=true→f.2.2=[]):WO (ask w s f t rc).2:=by
 unfold Vf.ask
 cases hs:Cg s
 ·exact h
 rw[Zb,cond_false]
 by_cases hl:(f.2.2.length:Int) > 200
 ·rw[decide_eq_true hl];exact h
 ·rw[decide_eq_false hl,cond_false]
  cases inR t 0 1000000000
  ·exact h
  rw[Zb,cond_false]
  cases hw:(w.2.2.2.2.1.length:Int)==200
  case true=>exact h
  rw[cond_false]
  have hw':=beq_eq_false_iff_ne.1 hw
  have hwl:=h.wlen
  obtain⟨n1,n2⟩:=Foa h.clk t 0
  cases he:(J5 w.2.2.2.1 t 0).1==w.2.2.2.1.1&&((J5 w.2.2.2.1 t 0).2.1==w.2.2.2.1.2.1&&(J5 w.2.2.2.1 t 0).2.2==w.2.2.2.1.2.2)
  case true=>exact h
  rw[cond_false]
  have hlt:sle w.2.2.2.1 (J5 w.2.2.2.1 t 0)=true:=by
   rcases n2 with n2|n2
   ·rw[n2,beq_self_eq_true,beq_self_eq_true,beq_self_eq_true]at he;cases he
   ·exact n2
  exact h.write (f:=(J5 w.2.2.2.1 t 0,f.2)) hs (Hv.2 ⟨n1,by show f.2.2.length≤200;omega,hd⟩) hb hlt (by omega)
def rot (h:WO w) {i:Nat} (hi:i<w.2.2.1.length) {s:ByteArray} {b:Int}:WO (Tqa w i s b).2:=by
 have hg:=h.ns.get hi
 unfold Tqa
 cases hr:(Hra (w.2.2.1.getD i A7) s b).2
 ·exact h
 have hn:NO w.2.2.1 (w.2.2.1.set i (Hra (w.2.2.1.getD i A7) s b).1):=NO.set ⟨h.ns,rfl⟩ hi (Qna hg) (T6a _ _ _)
 have hs:Cg s=true:=by
  unfold Hra at hr
  cases hc:L6 (w.2.2.1.getD i A7)&&((lkD (w.2.2.1.getD i A7).2.1 s).2==0&&(Gza (w.2.2.1.getD i A7).2.1 s b).2)
  ·rw[hc]at hr;cases hr
  rw[Va,Va,beq_iff_eq]at hc
  obtain⟨b,hb,_⟩:=Ly.1 (show lkD (w.2.2.1.getD i A7).2.1 s=((lkD (w.2.2.1.getD i A7).2.1 s).1,0) from by rw[← hc.2.1])
  exact Sna hg.g.1 (by rw[hb];rfl)
 exact⟨h.ring,hn.2.trans h.ids,hn.1,h.clk,h.wlen,h.wok,h.wge,Ub h.sps,λ t ht=>by
  rcases X8.1 ht with rfl|ht
  ·exact hs
  ·exact h.spn t ht⟩
def node (h:WO w) {i:Nat} (hi:i<w.2.2.1.length) {e:Evt}:WO (Dea w e i).2:=by
 have hg:=h.ns.get hi
 unfold Dea
 cases e.1==3
 case true=>exact h.other' (Pda h.ns hi)
 cases e.1==4
 case true=>exact h.other' (Pea h.ns hi)
 cases e.1==5
 case true=>exact h.other' (Pfa h.ns hi)
 cases e.1==6
 case true=>exact h.other (NO.set ⟨h.ns,rfl⟩ hi (Lga hg) rfl)
 cases e.1==7 with
 |true=>exact h.other (NO.set ⟨h.ns,rfl⟩ hi (Vla hg) rfl)
 |false=>exact h.rot hi
def weigh (h:WO w) {i t:Int}:WO (Hea w i t).2:=by
 unfold Hea
 cases h1:inR i 0 ((w.1.length:Int)-1)
 ·exact h
 cases h2:inR t 1 1000
 ·exact h
 obtain⟨i0,i1⟩:=Fk.1 h1
 obtain⟨w0,w1⟩:=Fk.1 h2
 exact⟨(Fda (Fea h.ring (by omega) w0 w1)).1,h.ids.trans (X2 _ _ _).symm,h.ns,h.clk,h.wlen,h.wok,h.wge,h.sps,h.spn⟩
def ev (h:WO w) {e:Evt} (hb:Al e.2.2.2.1):WO (doW w e).2:=by
 have ae:∀ {q:Int×Wld},WO q.2→WO (Qwa q).2:=λ {q} hq=>by
  unfold Qwa
  cases q.1 != 2<;>exact hq
 unfold doW
 cases e.1==1
 case true=>exact ae (h.ask hb (λ c=>by cases c))
 cases e.1==2
 case true=>exact ae (h.ask Ala (λ _=>rfl))
 cases e.1==3||(e.1==4||(e.1==5||(e.1==6||(e.1==7||e.1==8)))) with
 |true=>
  cases hi:inR e.2.1 0 ((w.2.2.1.length:Int)-1)
  ·exact h
  have:=Fk.1 hi
  exact h.node (by omega)
 |false=>
  cases e.1==9 with
  |true=>exact h.weigh
  |false=>exact h
def nods (h:WO w):Mu w.1 w.2.2.1=true:=by
 have hl:=h.nlen
 unfold Mu
 rw[show ((w.2.2.1.length:Int)==(w.1.length:Int))=true by rw[beq_iff_eq];omega,Wd,We]
 intro j hj
 have hj':=Yt.1 hj
 rw[Va,beq_iff_eq]
 refine⟨?_,(h.ns.get hj').1⟩
 have e1:(w.2.2.1.getD j A7).1=(w.2.2.1.map (·.1)).getD j 0:=by
  rw[Vb,Vb,Zy,Vg hj'];rfl
 have e2:(w.1.getD j Hn).1=(w.1.map (·.1)).getD j 0:=by
  rw[Vb,Vb,Zy,Vg (by omega)];rfl
 rw[e1,e2,h.ids]
def ok (h:WO w):Se w=true:=by
 unfold Se
 have a2:P2a w.2.2.2.1 w.2.2.2.2.1=true:=by
  unfold P2a
  rw[Va,We]
  refine⟨λ x hx=>?_,decide_eq_true (by have:=h.wlen;omega)⟩
  unfold D5a
  rw[(h.wok x hx).1,(h.wok x hx).2.1,h.wge x hx]
  rfl
 have a3:Oa w.2.2.2.2.2=true:=by
  unfold Oa
  rw[We]
  intro j hj
  have hj':=Yt.1 hj
  rw[Va,Zx]
  refine⟨h.spn _ (A3 hj'),?_⟩
  by_cases h0:j=0
  ·exact .inl (decide_eq_true h0)
  ·right
   have:=Zg.1 h.sps (j-1) j (by omega) hj' (by omega)
   rwa [Vb,Vb,Vg hj',Vg (by omega)]
 rw[h.ring,h.nods,h.clk,a2,a3]
 rfl
end WO
def X5a {l:List ByteArray} (h:∀ j,0<j→j<l.length→tlt (l.getD (j-1) Jk) (l.getD j Jk)=true):TS l:=by
 induction l with
 |nil=>exact List.Pairwise.nil
 |cons x l ih=>
  have ht:TS l:=ih (λ j h0 hj=>by
   have:=h (j+1) (by omega) (by simpa using hj)
   obtain⟨m,rfl⟩:∃ m,j=m+1:=⟨j-1,by omega⟩
   simpa using this)
  refine Wb.2 ⟨λ y hy=>?_,ht⟩
  cases l with
  |nil=>cases hy
  |cons z l=>
   have hz:tlt x z=true:=by have:=h 1 (by omega) (by simp);simpa using this
   rcases Vk.1 hy with rfl|hy
   ·exact hz
   ·exact Hl hz ((Wb.1 ht).1 y hy)
def X6a {w:Wld} (h:Se w=true) (hn:∀ n∈w.2.2.1,DB n.2.1) (hb:∀ x∈w.2.2.2.2.1,Al x.2.1.2.2):WO w:=by
 unfold Se at h
 simp only[Va]at h
 obtain⟨h1,h2,h3,h4,h5⟩:=h
 unfold Mu at h2
 rw[Va,beq_iff_eq,We]at h2
 obtain⟨hl,h2⟩:=h2
 have hd:=(Cv.1 (F7.1 h1).1).2.2
 have hnode:∀ j,j<w.2.2.1.length→(w.2.2.1.getD j A7).1=(w.1.getD j Hn).1∧L6 (w.2.2.1.getD j A7)=true:=λ j hj=>by
  have:=h2 j (Yt.2 hj)
  rwa [Va,beq_iff_eq]at this
 unfold P2a at h4
 rw[Va,We,decide_eq_true_iff]at h4
 unfold Oa at h5
 rw[We]at h5
 have hsp:∀ j,j<w.2.2.2.2.2.length→Cg (w.2.2.2.2.2.getD j Jk)=true∧(j=0∨tlt (w.2.2.2.2.2.getD (j-1) Jk) (w.2.2.2.2.2.getD j Jk)=true):=λ j hj=>by
  have:=h5 j (Yt.2 hj)
  rwa [Va,Zx,decide_eq_true_iff]at this
 have hx:∀ x∈w.2.2.2.2.1,Cg x.1=true∧Fq x.2.1=true∧sle w.2.2.2.1 x.2.1.1=false:=λ x hx=>by
  have:=h4.1 x hx
  unfold D5a at this
  rwa [Va,Va,Vu]at this
 refine⟨h1,?_,⟨by omega,λ n hm=>?_⟩,h3,by omega,λ x hm=>⟨(hx x hm).1,(hx x hm).2.1,hb x hm⟩,λ x hm=>(hx x hm).2.2,X5a (λ j h0 hj=>?_),λ s hs=>?_⟩
 ·refine Akb (by rw[Wf,Wf];omega) (λ j a b=>?_)
  rw[Wf]at a b
  have:=(hnode j a).1
  rw[Vb,Vb,Vg a,Vg b]at this
  rw[Zxa,Zxa]
  exact this
 ·obtain⟨j,hj,rfl⟩:=Yx.1 hm
  have:=(hnode j hj).2
  rw[Vb,Vg hj]at this
  exact⟨this,hn _ hm⟩
 ·rcases (hsp j hj).2 with h|h
  ·omega
  ·exact h
 ·obtain⟨j,hj,rfl⟩:=Yx.1 hs
  have:=(hsp j hj).1
  rwa [Vb,Vg hj]at this

section
open Go
end

section
open Go
end

def WIm.wo {m:Nat} {w:Wld} (h:WIm m w) (hk:Se w=true):WO w:=X6a hk (λ n hn=>(h.2.2.1.2 n hn).1.2) (λ x hx=>(h.2.2.2.1.2 x hx).2.2)
def Xea (w v:Wld):Prop:=v.2.2.1.length=w.2.2.1.length∧w.2.2.2.2.1.length≤v.2.2.2.2.1.length∧sle v.2.2.2.1 w.2.2.2.1=false
def Xea.nodes {w:Wld} {ns:List Nod} (h:ns.length=w.2.2.1.length):Xea w (wN w ns):=⟨h,Vv _,G3 _⟩

def Pga (s:ByteArray) (a:Bool×Fil) (n:Nod):Bool×Fil:=bif (lkD n.2.1 s).2==0 then (bif !a.1||sle a.2.1 (lkD n.2.1 s).1.1 then (true,(lkD n.2.1 s).1) else a) else a
def lat (ns:List Nod) (s:ByteArray):Bool×Fil:=ns.foldl (Pga s) (false,Oga)
def B6a {s:ByteArray} {a:Bool×Fil} {n:Nod} (h:a.1=true∨((lkD n.2.1 s).2==0)=true):(Pga s a n).1=true:=by
 unfold Pga
 cases hc:(lkD n.2.1 s).2==0 with
 |false=>
  rw[hc]at h
  rcases h with h|h
  ·exact h
  ·cases h
 |true=>
  rw[cond_true]
  cases ha:a.1 with
  |false=>rfl
  |true=>cases hs:sle a.2.1 (lkD n.2.1 s).1.1<;>simp[ha]
def Fua {s:ByteArray}:∀ (ns:List Nod) (a:Bool×Fil),(a.1=true∨∃ n∈ns,((lkD n.2.1 s).2==0)=true)→(ns.foldl (Pga s) a).1=true
 |[],a,h=>by
  rcases h with h|⟨n,hn,_⟩
  ·exact h
  ·cases hn
 |n::ns,a,h=>by
  rw[Yl]
  refine Fua ns _ ?_
  rcases h with h|⟨m,hm,hg⟩
  ·exact .inl (B6a (.inl h))
  ·rcases Vk.1 hm with rfl|hm
   ·exact .inl (B6a (.inr hg))
   ·exact .inr ⟨m,hm,hg⟩
def Hga (w:Wld) (hw:WIn w) (s:ByteArray):Tot (λ k=>Bd k w s) (λ r=>r=((lat w.2.2.1 s).2,(lat w.2.2.1 s).1)):=by
 obtain⟨_,_,⟨h1,h2⟩,_⟩:=hw
 unfold Bd
 refine Xpa (Q:=λ r=>r=((lat w.2.2.1 s).1,Oga,(lat w.2.2.1 s).2)) ?_ (by rintro r rfl;exact Xoa rfl)
 refine Xxa (L:=λ k i (a:Bool×Fil)=>Av k s a.1 w.2.2.1 (w.2.2.1.length:Int) i Oga a.2) (Q:=λ r=>r=((lat w.2.2.1 s).1,Oga,(lat w.2.2.1 s).2)) w.2.2.1.length (λ j a=>(w.2.2.1.drop j).foldl (Pga s) a=lat w.2.2.1 s) ?_ ?_ 0 (false,Oga) (Vw _) rfl
 ·rintro a h
  rw[Wl]at h
  simp (disch:=omega) only [Av,dF]
  exact Xoa (by rw[← h];rfl)
 ·rintro j ⟨b,f⟩ hj h next
  rw[B8 (d:=A7) hj,Yl]at h
  have nx:=next _ h
  have hm:=h2 _ (A3 (d:=A7) hj)
  obtain⟨n,en⟩:∃ n:Nod,w.2.2.1.getD j A7=n:=⟨_,rfl⟩
  rw[en]at hm nx
  have e0:w.2.2.1.getD j ((0:Int),(([],[]),([],[])))=n:=en
  simp (disch:=omega) only [Av,dT,Vl,w64,e0]
  refine Y0a (Wv hm.1.1.1.1.1 hm.1.2.1 s) ?_
  unfold Pga at nx
  cases hc:(lkD n.2.1 s).2==0
  ·rw[hc]at nx;exact Xqa rfl nx
  rw[hc]at nx
  refine Xra rfl ?_
  cases b
  ·exact Xra rfl nx
  refine Xqa rfl ?_
  simp only[Kta,Vt]
  dsimp only at nx ⊢
  cases hs:sle f.1 (lkD n.2.1 s).1.1 with
  |true=>rw[hs]at nx;exact Xra rfl nx
  |false=>rw[hs]at nx;exact Xqa rfl nx
def lvE (s:ByteArray) (p:List Int) (f:Fil) (n:Nod):Bool:=bif Gx p n.1 then ((lkD n.2.1 s).2==0)&&Sg (lkD n.2.1 s).1 f else !((lkD n.2.1 s).2==0)
def lvN (w:Wld) (s:ByteArray):Bool:=w.2.2.1.all (lvE s (Pj w.2.1 s) (lat w.2.2.1 s).2)
def Hha (w:Wld) (hw:WIn w) (s:ByteArray) (hs:s.size≤1000000000):Tot (λ k=>Az k w s) (λ r=>r=lvN w s):=by
 have hw':=hw
 obtain⟨hr,_,⟨h1,h2⟩,_⟩:=hw'
 unfold Az lvN
 refine Y0a (Hga w hw s) ?_
 refine Xpa (Q:=λ r=>r=bif w.2.2.1.all (lvE s (Pj w.2.1 s) (lat w.2.2.1 s).2) then .inr () else .inl false) ?_ (by
  rintro r rfl
  cases w.2.2.1.all (lvE s (Pj w.2.1 s) (lat w.2.2.1 s).2)<;>exact Xoa rfl)
 generalize (lat w.2.2.1 s).2=f
 rw[J1 _ A7]
 refine Xya (L:=λ k i=>B5 k s w.2.2.1 (w.2.2.1.length:Int) i w f) _ _ () ?_ ?_
 ·simp (disch:=omega) only [B5,dF]
  exact Xoa rfl
 ·intro j hj Q no yes
  have hm:=h2 _ (A3 (d:=A7) hj)
  obtain⟨n,en⟩:∃ n:Nod,w.2.2.1.getD j A7=n:=⟨_,rfl⟩
  rw[en]at hm no yes
  have e0:w.2.2.1.getD j ((0:Int),(([],[]),([],[])))=n:=en
  simp (disch:=omega) only [B5,dT,Vl,w64,e0]
  refine Y0a (Wv hm.1.1.1.1.1 hm.1.2.1 s) ?_
  refine Y0a (Haa _ s _ hr hs) ?_
  unfold lvE at no yes
  cases hp:Gx (Pj w.2.1 s) n.1 with
  |false=>
   rw[hp]at no yes
   refine Xra rfl ?_
   cases hc:(lkD n.2.1 s).2==0 with
   |true=>rw[hc]at no;exact Xra rfl (Xoa (no rfl))
   |false=>rw[hc]at yes;exact Xqa rfl (yes rfl)
  |true=>
   rw[hp]at no yes
   refine Xqa rfl ?_
   cases hc:(lkD n.2.1 s).2==0
   ·rw[hc]at no;exact Xra (by rw[bne,hc];rfl) (Xoa (no rfl))
   rw[hc]at no yes
   refine Xqa (by rw[bne,hc];rfl) ?_
   simp only[B2a,Vt]
   cases hf:Sg (lkD n.2.1 s).1 f with
   |false=>rw[hf]at no;exact Xra rfl (Xoa (no rfl))
   |true=>rw[hf]at yes;exact Xqa rfl (yes rfl)
def Pha {ns:List Nod} {p:List Int} {j:Nat} (hj:j<ns.length):Gx (whr ns p) (j:Int)=Gx p (ns.getD j A7).1:=by
 rw[Zha,Je,Je,Pk]
 constructor
 ·rintro⟨i,h1,h2,h3⟩
  obtain rfl:j=i:=by omega
  exact h2
 ·intro h
  exact⟨j,hj,h,rfl⟩
def T9 (d:Dsk) (s:ByteArray):Prop:=((lkD d s).2==0)=true
def Fva {d:Dsk} {s:ByteArray}:T9 d s↔∃ i,fnd d.1 s=some i∧(Iw (d.1.getD i Jd).2).isSome=true:=by
 unfold T9 lkD gt
 cases h:fnd d.1 s with
 |none=>simp
 |some i=>
  simp only[Vc]
  constructor
  ·intro hg
   refine⟨i,rfl,?_⟩
   cases hf:Iw (d.1.getD i Jd).2 with
   |none=>simp only[hf]at hg;cases hg
   |some f=>rfl
  ·rintro⟨j,rfl,hg⟩
   cases hf:Iw (d.1.getD i Jd).2 with
   |none=>rw[hf]at hg;cases hg
   |some f=>rfl
def Sk {d:Dsk} {s:ByteArray}:s∈La d↔T9 d s:=by
 have key:∀ (l:List Nmd) (out:List ByteArray),s∈l.foldl (hI d) out↔s∈out∨∃ x∈l,x.1=s∧T9 d s:=by
  intro l
  induction l with
  |nil=>intro out;simp
  |cons x l ih=>
   intro out
   rw[Yl,ih]
   have hx:s∈hI d out x↔s∈out∨(x.1=s∧T9 d s):=by
    unfold hI
    cases hc:(lkD d x.1).2==0 with
    |false=>
     rw[cond_false]
     refine⟨.inl,?_⟩
     rintro (h|⟨rfl,h⟩)
     ·exact h
     ·unfold T9 at h;rw[hc]at h;cases h
    |true=>
     rw[cond_true,Qha]
     constructor
     ·rintro (rfl|h)
      ·exact .inr ⟨rfl,hc⟩
      ·exact .inl h
     ·rintro (h|⟨h,_⟩)
      ·exact .inr h
      ·exact .inl h.symm
   rw[hx]
   constructor
   ·rintro ((h|h)|⟨y,hy,h⟩)
    ·exact .inl h
    ·exact .inr ⟨x,Yc,h⟩
    ·exact .inr ⟨y,Vd _ hy,h⟩
   ·rintro (h|⟨y,hy,h⟩)
    ·exact .inl (.inl h)
    ·rcases Vk.1 hy with rfl|hy
     ·exact .inl (.inr h)
     ·exact .inr ⟨y,hy,h⟩
 unfold La
 rw[key]
 constructor
 ·rintro (h|⟨x,_,_,h⟩)
  ·cases h
  ·exact h
 ·intro h
  obtain⟨i,hi,_⟩:=Fva.1 h
  have:=U5 hi
  exact .inr ⟨_,A3 (d:=Jd) this.1,this.2,h⟩
def Vwa (a b:Row):Bool:=(a.1==b.1)&&((a.2.1.1==b.2.1.1)&&((a.2.1.2.1==b.2.1.2.1)&&((a.2.1.2.2==b.2.1.2.2)&&((a.2.2.1==b.2.2.1)&&(a.2.2.2==b.2.2.2)))))
def Dia (a b:List Row):Bool:=((a.length:Int)==(b.length:Int))&&(List.range a.length).all λ j=>Vwa (a.getD j Mfa) (b.getD j Mfa)
def B7a (a b:List Row) (ha:a.length≤1000000000):Tot (λ k=>Dq k a b) (λ r=>r=Dia a b):=by
 unfold Dq Dia
 cases hl:(a.length:Int)==(b.length:Int)
 ·exact Xra (by rw[bne,hl];rfl) (Xoa rfl)
 have hl':=eq_of_beq hl
 rw[Wd]
 refine Xqa (by rw[bne,hl];rfl) (Xpa (Q:=λ r=>r=bif (List.range a.length).all (λ j=>Vwa (a.getD j Mfa) (b.getD j Mfa)) then .inr () else .inl false) ?_ (by
  rintro r rfl
  cases (List.range a.length).all (λ j=>Vwa (a.getD j Mfa) (b.getD j Mfa))<;>exact Xoa rfl))
 refine Xya (L:=λ k i=>C6 k a b (a.length:Int) i) _ _ () ?_ ?_
 ·simp (disch:=omega) only [C6,dF]
  exact Xoa rfl
 ·intro j hj Q no yes
  have e0:∀ l:List Row,l.getD j ((⟨#[]⟩:ByteArray),(((0:Int),((0:Int),(0:Int))),(false,(0:Int))))=l.getD j Mfa:=λ _=>rfl
  simp (disch:=omega) only [C6,dT,Vl,w64,e0]
  unfold Vwa at no yes
  refine Xua (λ hc=>Xoa (no ?_)) (λ hc=>yes ?_)
  ·rw[Vu]at hc;exact hc
  ·rw[Wm]at hc;exact hc
def Lva (w:Wld) (j:Nat):List Row:=bif Gx (Em w) (j:Int) then (w.2.2.1.getD ((Em w).getD 0 0).toNat A7).2.2.1 else []
def T7a (w:Wld) (j:Nat):Bool := !(decide (((w.2.2.1.getD j A7).2.2.2.length:Int) > 0))&&Dia (w.2.2.1.getD j A7).2.2.1 (Lva w j)
def Vxa (w:Wld) (j:Nat):Bool:=(La (w.2.2.1.getD j A7).2.1).all (lvN w)
def Wea (w:Wld):Bool:=(List.range w.2.2.1.length).all (Vxa w)&&(List.range w.2.2.1.length).all (T7a w)
def B8a (a:List Row):Dia a [] = !(decide ((a.length:Int) > 0)):=by
 unfold Dia
 cases a with
 |nil=>rfl
 |cons x l=>
  rw[decide_eq_true (show ((x::l).length:Int) > 0 by rw[Vh];omega),show (((x::l).length:Int)==(([]:List Row).length:Int))=false by rw[beq_eq_false_iff_ne,Vh,Vq];omega]
  rfl
def B9a {w:Wld} {j:Int} (h:Gx (Em w) j=true):0<(Em w).length∧0≤(Em w).getD 0 0∧(Em w).getD 0 0<(w.2.2.1.length:Int):=by
 have hm:=Je.1 h
 have h0:=Yva hm
 obtain⟨i,h1,_,h3⟩:=Pk.1 (show (Em w).getD 0 0∈whr w.2.2.1 (Pj w.2.1 J4) from A3 h0)
 exact⟨h0,by omega,by omega⟩
def Xfa (w:Wld):Prop:=∀ n∈w.2.2.1,∀ x∈n.2.1.1,x.1.size≤1000000000
def Hia {w:Wld} (hn:Xfa w) {n:Nod} (hm:n∈w.2.2.1) {s:ByteArray} (hs:T9 n.2.1 s):s.size≤1000000000:=by
 obtain⟨i,h1,_⟩:=Fva.1 hs
 obtain⟨h2,h3⟩:=U5 h1
 rw[← h3]
 exact hn n hm _ (A3 h2)
def Xb (w:Wld) (hw:WIn w):Tot (λ k=>B0 k w) (λ r=>r=(List.range w.2.2.1.length).all (T7a w)):=by
 have hw':=hw
 obtain⟨hr,_,⟨h1,h2⟩,_⟩:=hw'
 have hwl:=Fla h1 (Fna hr J4)
 rw[show whr w.2.2.1 (Pj w.2.1 J4)=Em w from rfl]at hwl
 unfold B0
 refine Y0a (D9a w hr h1) ?_
 refine Xpa (Q:=λ r=>r=bif (List.range w.2.2.1.length).all (T7a w) then .inr () else .inl false) ?_ (by
  rintro r rfl
  cases (List.range w.2.2.1.length).all (T7a w)<;>exact Xoa rfl)
 refine Xya (L:=λ k i=>B6 k (Em w) w.2.2.1 (w.2.2.1.length:Int) i w) _ _ () ?_ ?_
 ·simp (disch:=omega) only [B6,dF]
  exact Xoa rfl
 ·intro j hj Q no yes
  have hm:=h2 _ (A3 (d:=A7) hj)
  have e1:∀ i,w.2.2.1.getD i ((0:Int),(([],[]),([],[])))=w.2.2.1.getD i A7:=λ _=>rfl
  simp (disch:=omega) only [B6,dT,Vl,w64,e1]
  unfold T7a Lva at no yes
  refine Xua (λ hc=>Xoa (no (by rw[hc];rfl))) (λ hc=>?_)
  rw[hc,Zk,Wd]at no yes
  refine Y0a (Ph _ (j:Int) (by omega)) ?_
  cases hh:Gx (Em w) (j:Int) with
  |false=>
   rw[hh,cond_false,B8a]at no yes
   refine Xra rfl (Xua (λ hc=>Xoa (no (by rw[hc];rfl))) (λ hc=>yes (by rw[hc];rfl)))
  |true=>
   rw[hh,cond_true]at no yes
   obtain⟨l0,l1,l2⟩:=B9a hh
   refine Xqa rfl (Xsa (by omega) ?_)
   rw[show toNat 0=0 from rfl]
   refine Xsa l1 (Xsa l2 (Y0a (B7a _ _ (by have:=hm.2.1.1;omega)) ?_))
   refine Xua (λ hc=>Xoa (no ?_)) (λ hc=>yes ?_)
   ·rw[Vu]at hc;exact hc
   ·rw[Wm]at hc;exact hc
def Lwa (w:Wld) (hw:WIn w) (hn:Xfa w):Tot (λ k=>D7 k w) (λ r=>r=Wea w):=by
 have hw':=hw
 obtain⟨hr,_,⟨h1,h2⟩,_⟩:=hw'
 unfold D7 Wea
 refine Xpa (Q:=λ r=>r=bif (List.range w.2.2.1.length).all (Vxa w) then .inr w else .inl false) ?_ ?_
 ·refine Xya (L:=λ k i=>Ej k w.2.2.1 (w.2.2.1.length:Int) i w) _ _ w ?_ ?_
  ·simp (disch:=omega) only [Ej,dF]
   exact Xoa rfl
  ·intro j hj Q no yes
   have hmem:=A3 (d:=A7) hj
   have hm:=h2 _ hmem
   have e1:∀ i,w.2.2.1.getD i ((0:Int),(([],[]),([],[])))=w.2.2.1.getD i A7:=λ _=>rfl
   simp (disch:=omega) only [Ej,dT,Vl,w64,e1]
   refine Y0a (Owa _ hm.1.1 hm.1.2) ?_
   unfold Vxa at no yes
   have hlen:(La (w.2.2.1.getD j A7).2.1).length≤2000000:=by
    have:=Qta (w.2.2.1.getD j A7).2.1 (w.2.2.1.getD j A7).2.1.1 []
    rw[Vq]at this
    have:=hm.1.1.2.1
    unfold La
    omega
   have hsm:∀ s∈La (w.2.2.1.getD j A7).2.1,s.size≤1000000000:=λ s hs=>Hia hn hmem (Sk.1 hs)
   generalize La (w.2.2.1.getD j A7).2.1=l at *
   refine Xpa (Q:=λ r=>r=bif l.all (lvN w) then .inr (w.2.2.1,(w.2.2.1.length:Int),(j:Int),w) else .inl false) ?_ ?_
   ·rw[J1 _ Jk]
    refine Xya (L:=λ k i=>Ei k w.2.2.1 (w.2.2.1.length:Int) (j:Int) l (l.length:Int) i w) _ _ (w.2.2.1,(w.2.2.1.length:Int),(j:Int),w) ?_ ?_
    ·simp (disch:=omega) only [Ei,dF]
     exact Xoa rfl
    ·intro i hi Q no yes
     have e0:l.getD i (⟨#[]⟩:ByteArray)=l.getD i Jk:=rfl
     simp (disch:=omega) only [Ei,dT,Vl,w64,e0]
     refine Y0a (Hha w hw _ (hsm _ (A3 hi))) ?_
     exact Y1a (λ hc=>Xoa (no hc)) yes
   ·rintro r rfl
    cases hc:l.all (lvN w)
    ·exact Xoa (no hc)
    simp (disch:=omega) only [cond_true,Yya,w64]
    exact yes hc
 ·rintro r rfl
  cases (List.range w.2.2.1.length).all (Vxa w)
  ·exact Xoa rfl
  refine Y0a (Xb w hw) ?_
  exact Xoa rfl

section
open Go
end

section
open Go
end

def Ey:List Int:=[1,1,1,1,1,1,1,1,1,1,1,1]
def Pn (w:Wld) (i:Nat) (l:List ByteArray):Wld:=l.foldl (λ w s=>(Ob w i s Ey).2) w
def Po (w:Wld) (i:Nat):Nat→Wld
 |0=>w
 |n+1=>(Sj (Po w i n) i Ey).2
def qtA (w:Wld) (i:Nat):Wld:=wN w (w.2.2.1.set i (Vja (w.2.2.1.getD i A7)).1)
def qtP (w:Wld) (i:Nat):Wld:=Pn (qtA w i) i (La ((qtA w i).2.2.1.getD i A7).2.1)
def qtT (w:Wld) (i:Nat):Wld:=Po (qtP w i) i ((qtP w i).2.2.1.getD i A7).2.2.2.length
def qtN (w:Wld) (i:Nat):Wld:=(Oc (qtT w i) i Ey).2
def NW (w v:Wld):Prop:=∃ ns,v=wN w ns∧NO w.2.2.1 ns
def NW.refl {w:Wld} (h:WO w):NW w w:=⟨w.2.2.1,rfl,h.ns,rfl⟩
def NW.trans {u v w:Wld} (h1:NW u v) (h2:NW v w):NW u w:=by
 obtain⟨a,rfl,ha⟩:=h1
 obtain⟨b,rfl,hb⟩:=h2
 exact⟨b,rfl,hb.1,hb.2.trans ha.2⟩
def NW.wo {w v:Wld} (h:NW w v) (hw:WO w):WO v:=by
 obtain⟨ns,rfl,hn⟩:=h
 exact hw.other hn
def NW.len {w v:Wld} (h:NW w v):v.2.2.1.length=w.2.2.1.length:=by
 obtain⟨ns,rfl,hn⟩:=h
 exact hn.len
def NW.sp {w v:Wld} (h:NW w v):v.2.2.2.2.2=w.2.2.2.2.2:=by obtain⟨ns,rfl,_⟩:=h;rfl

end Go.Proofs.Ytiiekghlhfbmmaa.Vf
