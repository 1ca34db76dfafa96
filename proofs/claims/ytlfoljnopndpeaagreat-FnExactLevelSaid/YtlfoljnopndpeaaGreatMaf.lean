import Derived.Test.YtlfoljnopndpeaaGreatMae
import Derived.Laws.MakeOwn
import Derived.Laws.OwnMore
import Derived.Laws.IdiomStrings
import Derived.Lib.AppendStr
set_option linter.unusedVariables false
set_option linter.unusedSimpArgs false
namespace Go.Proofs.YtlfoljnopndpeaaGreat.Vf
open Go

section
attribute [local irreducible] C H
section
variable {X:Cx} {S S':Sit} {a:Act} {E:En} {A:Ab} {o:Oper} {R:Type} {Kc:List Up→Option R} {r:R}
theorem Ah.names (K:Ah X S a) (h:Nat→List Nat→Option Lab) (hno:∀ n q,h n q≠some .no):Ah X { S with O:=atO S.O h } a∧Es S { S with O:=atO S.O h }:=by
 have L:Es S { S with O:=atO S.O h }:=⟨λ _=>Nat.le_refl _,λ _ _=>rfl,λ p v e r xs' h _=>⟨xs',h,rfl⟩,λ _ _=>rfl,λ k hk=>⟨Aj hk (by simp),rfl⟩,Es.box_of (λ _ _ _ h=>h) (λ k b h=>⟨Aj h (by simp),rfl⟩),λ p _ hd=>⟨hd,λ _ _ _ h=>h,λ k hk=>⟨.inl (Aj hk (by simp)),rfl⟩⟩⟩
 exact ⟨K.ghost _ _ (λ k e=>Aj e (by simp)) (λ k e1 e2=>e1 (Aj e2 (by simp))) (λ k e=>Aj e (by simp)) (λ k b e=>Aj e (by simp)) (λ _ _ e=>e)
  (λ l=>(K.at_ l).later L (λ p k e=>⟨Aj e (by simp),rfl⟩)),L⟩
def Cya (i:Nat):Nat→List Nat→Option Lab:=λ n _=>if n=i then some .fz else none
theorem Pm {P:Program} {S:Sit} {i:Nat} {q:Nat→List Nat}:∀ {l:List Lf} {j:Nat} {us:List Value},A3 l=true→A5 P S (λ n => .tm i (q n)) j l us→Lk (Km P (λ k=>atO S.O (Cya i) k = .fz) S.w) (l.map Lx) us
 |[],_,[],_,_ => .nil
 |[],_,_::_,_,h=>h.elim
 |_::_,_,[],_,h=>h.elim
 |x::l,j,u::us,hst,h=>by
  have hfz:∀ k,S.O k = .fz→atO S.O (Cya i) k = .fz:=λ k hk=>Aj hk (by simp)
  cases x with
  |sc v=>exact .cons h.1 (Pm (by simpa [A3] using hst) h.2)
  |fz e r xs=>exact .cons (Ty.rep_mono (t := .sl e r) hfz (λ _ _=>rfl) _ _ h.1) (Pm (by simpa [A3] using hst) h.2)
  |own e r xs=>
   refine .cons ?_ (Pm (by simpa [A3] using hst) h.2)
   have h1:F7 P S.O S.w (.tm i (q j)) e r xs u:=h.1
   exact h1.reads (O':=λ k=>atO S.O (Cya i) k) hfz (λ k hk=>Jw hk (by simp [Cya]))
  |_=>simp [A3] at hst
theorem Ma:∀ {m:List Lf},Nc m=true→A3 m=true
 |[],_=>rfl
 |x::m,h=>by
  cases x<;>first|(simp [Nc] at h; done)|(simp only [Nc] at h; simp only [A3]; exact Ma h)
theorem Np {P:Program} {f:Nat→Lab}:∀ {l:List Lf} {j:Nat} {us:List Value},A3 l=true→A5 P S f j l us→∀ u∈us,u.oneCell'=true
 |[],_,[],_,_=>by simp
 |[],_,_::_,_,h=>h.elim
 |_::_,_,[],_,h=>h.elim
 |x::l,j,u::us,hst,h=>by
  intro v hv
  rcases List.mem_cons.1 hv with rfl|hv
  ·cases x with
   |sc w=>
    obtain ⟨rfl,h2⟩:=h.1
    unfold Cla at h2
    split at h2<;>first|rfl|cases h2
   |fz e r xs=>
    obtain ⟨ad,cap,e1⟩:=Rx (X:=⟨P,λ _ => .no,S.w,λ _=>(0,0),0,0⟩) h.1
    rw [e1]; rfl
   |own e r xs=>
    obtain ⟨ad,cap,e1⟩:=Qd (X:=⟨P,λ _ => .no,S.w,λ _=>(0,0),0,0⟩) h.1
    rw [e1]; rfl
   |_=>simp [A3] at hst
  ·refine Np (l:=l) (us:=us) ?_ h.2 v hv
   cases x<;>first|(simp [A3] at hst; done)|simpa [A3] using hst
theorem H3a {X:Cx} {S:Sit} {A:Ab} (hg:S.g=get A) {f:Nat→Lab}:∀ {l:List Lf} {j:Nat} {us:List Value},Gk A l=true→A5 X.P S f j l us→(∀ u∈us,u.oneCell'=true)∧∀ k,.hd k∉l
 |[],_,[],_,_=>by simp
 |[],_,_::_,_,h=>h.elim
 |_::_,_,[],_,h=>h.elim
 |x::l,j,u::us,hst,h=>by
  have rest:Gk A l=true:=by
   cases x<;>first|(simp [Gk] at hst; done)|(simp only [Gk,Bool.and_eq_true] at hst; exact hst.2)|simpa [Gk] using hst
  obtain ⟨r1,r2⟩:=H3a hg rest h.2
  refine ⟨λ v hv=>?_,λ k hk=>?_⟩
  ·rcases List.mem_cons.1 hv with hv|hv
   ·rw [hv]
    have one:A3 [x]=true→u.oneCell'=true:=λ hs=>Np (P:=X.P) (S:=S) (f:=f) (l:=[x]) (j:=j) (us:=[u]) hs ⟨h.1,trivial⟩ u (by simp)
    cases x with
    |da p v pi e r xs=>
     simp only [Gk,Bool.and_eq_true] at hst
     obtain ⟨ad,cap,e1⟩:=Xu (X:=X) h.1 (by rw [hg]; exact Nat.eq_of_beq_eq_true hst.1)
     rw [e1]; rfl
    |sc w=>exact one rfl
    |fz e r xs=>exact one rfl
    |own e r xs=>exact one rfl
    |_=>simp [Gk] at hst
   ·exact r1 v hv
  ·rcases List.mem_cons.1 hk with rfl|hk
   ·simp [Gk] at hst
   ·exact r2 k hk
theorem Jj {s:Sv} {u:Value} {us:List Value} (hs:R5 s u us) (hnt:∀ vs,s ≠ .tup vs) (h1:∀ v∈us,v.oneCell'=true):u.cells=us.toArray:=by
 cases s with
 |agg l=>have:u = .agg us.toArray:=hs; rw [this]; rfl
 |one x=>
  have:us=[u]:=hs
  subst this
  have:=h1 u (by simp)
  cases u<;>first|(simp [Value.oneCell'] at this; done)|rfl
 |tup vs=>exact absurd rfl (hnt vs)
theorem O9 {s:Sv} {T:TypeId} {t:TI} {l:List Lf} (hl:l.length=(parts s).length) (h:l.length=t.ty.sz) (ht:TOk X.P T t):∀ vs,s ≠ .tup vs:=by
 intro vs e
 subst e
 have:∀ t:Ty,0<t.sz:=by intro t; induction t<;>simp [Ty.sz]<;>omega
 have:=this t.ty
 simp [parts] at hl
 simp [hl] at h
 omega
theorem N0 {P:Program} {w:World} {T:TypeId} {t:TI} {x y:Operand} {k o':Nat} {us:List Value} {c:Array Value} {e:TypeId} {u:Value} (ht:TOk P T t) (ho:o.op = .store T x y) (hx:a.eval x = .pointer (some ⟨k,o',none⟩)) (hy:a.eval y=u) (hu:u.cells=us.toArray)
  (hl:us.length=t.ty.sz) (hc:w.heap[k]? = some (.cells c e (0,0))) (hle:o'+us.length≤c.size) (h1:∀ v∈us,v.oneCell'=true):
  (execOp a.eval o).run P w = .ok .skip (w.setRow k (c.toList.take o'++us++c.toList.drop (o'+us.length)).toArray):=by
 have hst:=run_storeCells_at P k o' e us 0 c w hc (by simpa using hle) h1
 simp only [Nat.add_zero] at hst
 unfold execOp
 simp only [ho,hx,hy,Instr.storeAt,Instr.sureAddr,Sem.run_bind,Sem.run_pure,Result.andThen_ok,storeVar,hu,Ko (O6 ht),List.size_toArray]
 rw [if_neg (by simp [hl])]
 simp [hst]
theorem Cza {s:Sv} {b off:Nat} {m:List Lf} (hm:m.length=(parts s).length) (hnt:∀ vs,s ≠ .tup vs):∀ j,j<m.length→Ta b off 0 (pth s j)=some (.pl (C b (off+j)) []):=by
 intro j hj
 cases s with
 |one x=>
  have:j=0:=by simp [parts] at hm; omega
  subst this
  rfl
 |agg l=>rfl
 |tup vs=>exact absurd rfl (hnt vs)
theorem Y5 {y:Operand} {s:Sv} {ts:List Ty} {m:List Lf} {us:List Up} (h:Q6 A y s ts=some (m,us)):m.length=(parts s).length:=by
 unfold Q6 at h
 split at h
 ·rename_i m0 vs0 ht
  cases hst:A3 m0 with
  |false=>rw [hst] at h; simp at h
  |true=>
   rw [hst] at h
   simp only [cond_true,Option.some.injEq,Prod.mk.injEq] at h
   obtain ⟨rfl,_⟩:=h
   exact (Ml _ _ ht).1
 ·cases h
theorem Lw {m:List Lf} (h:A3 m=true):∀ k,.hd k∉m:=by
 induction m with
 |nil=>simp
 |cons x l ih=>
  intro k hk
  rcases List.mem_cons.1 hk with rfl|hk
  ·simp [A3] at h
  ·exact ih (by cases x<;>first|(simp [A3] at h; done)|simpa [A3] using h) k hk
theorem Baa {p:Nat}:∀ (U:List Up) (A0:Ab),Ur p U=true→get (ups A0 U) p=get A0 p
 |[],A0,_=>rfl
 |u::U,A0,hU=>by
  simp only [Ur,Bool.and_eq_true,Bool.not_eq_true'] at hU
  show get (ups (up A0 u) U) p=_
  rw [Baa U _ hU.2,M5,Ad]
  intro e2
  rw [e2] at hU
  simp at hU
theorem Qea.setAll {P:Program} {G:Nat→Prop} {w:World} {l m:List Lf} {cs us:List Value} {off:Nat} (h:Lk (Km P G w) l cs) (hm:Lk (Km P G w) m us):
  Lk (Km P G w) (Vf.setAll l off m) (cs.take off++us++cs.drop (off+us.length)):=by
 unfold Vf.setAll
 rw [hm.len]
 exact ((h.take off).append hm).append (h.drop _)
theorem H4a {P:Program} {O:Nat→Lab} {w:World} {p:Nat} {e:TypeId} {r':Ty} {xs:List r'.den} {u:Value} {k cap i off:Nat} {cur:Array Value} {m:List Lf} {us:List Value} {z:r'.den}
  (hno:Js r'=true) (h:F7 P O w (.pl p []) e r' xs u) (hu:u = .slice (some ⟨k,0,none⟩) xs.length cap) (hc:w.heap[k]? = some (.cells cur e (0,0))) (hk:O k = .pl p []) (hi:i<xs.length) (hm:Lk (Km P (λ k=>O k = .fz) w) m us)
  (hz:mkW r' (Vf.setAll (lvs r' (xs.getD i r'.dflt)) off m)=some z) (hle:off+us.length≤r'.sz):
  i * r'.sz+off+us.length≤cur.size∧F7 P O (w.setRow k (cur.toList.take (i * r'.sz+off)++us++cur.toList.drop (i * r'.sz+off+us.length)).toArray) (.pl p []) e r' (xs.set i z) u:=by
 rw [F7.flat hno]
 obtain ⟨hs,cs,hrow,hrows,hb⟩:=(F7.flat hno).1 h
 rcases F6 hrow with ⟨e1,_⟩|⟨k',cap',cur',e1,hcur,h1,h2,h3,h4⟩
 ·rw [hu] at e1; cases e1
 ·rw [hu] at e1
  cases e1
  rw [hc] at hcur
  cases hcur
  have hlt:(i+1) * r'.sz≤xs.length * r'.sz:=Nat.mul_le_mul_right _ hi
  have hcl:cs.length=xs.length * r'.sz:=hrow.1
  have hcap:xs.length * r'.sz≤cap * r'.sz:=Nat.mul_le_mul_right _ h1
  rw [Nat.add_mul,Nat.one_mul] at hlt
  have hget:=hrows.get (Ty.rep_len r') i (xs.getD i r'.dflt) (by rw [List.getD_eq_getElem?_getD,List.getElem?_eq_getElem hi]; rfl)
  have hnew:=Ru hz (Qea.setAll (off:=off) (Mw _ _ _ hget) hm)
  have hrows2:=hrows.set (Ty.rep_len r') i z _ hi hnew
  rw [← Mza (by omega) (by omega)] at hrows2
  refine ⟨by omega,hs,_,⟨?_,.inr ⟨k,cap,_,by rw [List.length_set]; exact hu,Nat.zero_le _,setRow_heap _ _ _ _ _ _ hc,by rw [List.length_set]; exact h1,h2,?_,?_⟩⟩,hrows2.mono (λ x c=>Ty.rep_mono (λ _ h=>h) (λ j hj=>setRow_other _ _ _ _ (λ e=>by have:O k = .fz:=e ▸ hj; rw [hk] at this; cases this)) r' x c),hb⟩
  ·simp only [List.length_append,List.length_take,List.length_drop,List.length_set]
   omega
  ·simp only [List.size_toArray,List.length_append,List.length_take,List.length_drop,Array.length_toList]
   omega
  ·rw [List.length_set,← h4]
   exact S5 (n:=xs.length * r'.sz) (by omega) (by have h9:cur.toList.length=cur.size:=Array.length_toList; omega)
theorem Ah.rewrite (K:Ah X S a) {p n k:Nat} {e:TypeId} {r':Ty} {xs ys:List r'.den} {w':World} (hno:Js r'=true) (hp:S.g p=(n,.one (.own e r' xs))) (hk:S.O k = .pl p []) (hold:∀ j o',S.O j=o'→o' ≠ .pl p []→w'.heap[j]? = S.w.heap[j]?)
  (hsz:w'.heap.size=S.w.heap.size) (h1:w'.os=S.w.os) (h2:w'.tape=S.w.tape) (h3:w'.output=S.w.output) (hown:F7 X.P S.O w' (.pl p []) e r' ys (S.ph p)) (hlen:ys.length=xs.length):
  Ah X { S with g:=upd S.g p (n,.one (.own e r' ys)),w:=w' } a∧({ S with g:=upd S.g p (n,.one (.own e r' ys)),w:=w' }:Sit).g=upd S.g p (n,.one (.own e r' ys)):=by
 have L:Es S { S with g:=upd S.g p (n,.one (.own e r' ys)),w:=w' }:=by
  refine ⟨λ q=>?_,λ _ _=>rfl,λ q v e2 r2 xs' hq hv=>?_,λ _ _=>rfl,λ j hj=>⟨hj,hold j _ hj (by simp)⟩,Es.box_of (λ b m hv hh=>?_) (λ j b h=>⟨h,hold j _ h (by simp)⟩),λ q hv hd=>?_⟩
  ·show _≤(upd S.g p _ q).1
   by_cases h:q=p
   ·subst h; rw [A6,hp]; exact Nat.le_refl _
   ·rw [Ad _ _ h]; exact Nat.le_refl _
  ·have hq':upd S.g p (n,.one (.own e r' ys)) q=(v,.one (.own e2 r2 xs')):=hq
   by_cases h:q=p
   ·subst h
    rw [A6] at hq'
    cases hq'
    exact ⟨xs,hp,hlen.symm⟩
   ·rw [Ad _ _ h] at hq'
    exact ⟨xs',hq',rfl⟩
  ·have hb:H b≠p:=λ e=>by subst e; rw [hp] at hh; cases hh
   exact (congrArg Prod.snd (Ad _ _ hb)).trans hh
  ·have h:q≠p:=λ e=>by subst e; rw [hp] at hd; simp [B1a,Kja,hno] at hd
   have e1:({ S with g:=upd S.g p (n,.one (.own e r' ys)),w:=w' }:Sit).g q=S.g q:=Ad _ _ h
   rw [e1]
   exact ⟨hd,λ _ _ _ h=>h,λ k hk=>⟨.inl hk,hold k _ hk (by simp [h])⟩⟩
 have F:=K.fr
 refine ⟨⟨K.nt,λ j hj=>by rw [show ({ S with g:=upd S.g p (n,.one (.own e r' ys)),w:=w' }:Sit).w=w' from rfl,hsz]; exact K.lt j hj,λ l=>?_,λ b m hb=>?_,λ b m hb=>?_,K.sl,K.sz,K.df,⟨h1.trans F.os,h2.trans F.tape,h3.trans F.out,by rw [show ({ S with g:=upd S.g p (n,.one (.own e r' ys)),w:=w' }:Sit).w=w' from rfl,hsz]; exact F.size,λ j hj h0=>?_,λ j hj h0=>?_,λ j b hj h0=>?_⟩⟩,rfl⟩
 ·show Ka X.P _ l (upd S.g p _ l).2 _
  by_cases h:l=p
  ·subst h; rw [A6]; exact hown
  ·rw [Ad _ _ h]
   exact (K.at_ l).later L (λ q j hj=>⟨hj,hold j _ hj (by simp [h])⟩)
 ·have hne:H b≠p:=by
   intro e2
   have:(upd S.g p (n,.one (.own e r' ys)) (H b)).2 = .one (.hd m):=hb
   rw [e2,A6] at this
   cases this
  have hb':(S.g (H b)).2 = .one (.hd m):=by
   have:(upd S.g p (n,.one (.own e r' ys)) (H b)).2 = .one (.hd m):=hb
   rwa [Ad _ _ hne] at this
  obtain ⟨hn,c,e1,e2,e3,e4⟩:=K.box b m hb'
  exact ⟨hn,c,e1,(hold _ _ e3 (by simp)).trans e2,e3,e4⟩
 ·have hne:H b≠p:=by
   intro e2
   have:(upd S.g p (n,.one (.own e r' ys)) (H b)).2 = .one (.hd m):=hb
   rw [e2,A6] at this
   cases this
  have hb':(S.g (H b)).2 = .one (.hd m):=by
   have:(upd S.g p (n,.one (.own e r' ys)) (H b)).2 = .one (.hd m):=hb
   rwa [Ad _ _ hne] at this
  exact K.rgn b m hb'
 ·obtain ⟨f1,f2⟩:=F.no j hj h0
  exact ⟨f1,(hold j _ f1 (by simp)).trans f2⟩
 ·obtain ⟨f1,f2⟩:=F.fz j hj h0
  exact ⟨f1,(hold j _ f1 (by simp)).trans f2⟩
 ·obtain ⟨f1,c,c',e1,f,f2,f3,f4,f5⟩:=F.bx j b hj h0
  exact ⟨f1,c,c',e1,f,f2,(hold j _ f1 (by simp)).trans f3,f4,f5⟩
theorem Kza (hE:Ks X E) (K:Ah X S a) (hg:S.g=get A) {T:TypeId} {x y:Operand} (ho:o.op = .store T x y) (hod:o.dst=none) (h:Ac E o A Kc=some r):Ja X o a S.w A Kc r:=by
 unfold Ac at h
 rw [ho,hod] at h
 simp only at h
 have skip:∀ {S2:Sit} {w:World} {A':Ab},(execOp a.eval o).run X.P w = .ok .skip S2.w→Ah X S2 a→S2.g=get A'→Kma X o a w A':=by
  intro S2 w A' hr K2 hg2
  refine Goa hr ?_ hg2
  rw [hod]
  exact K2
 split at h
 ·rename_i ti b v off s hti hsx hsy
  obtain ⟨pl,hsv⟩:=Ii hE K hg hsx
  have hlf:Al X.P S (.pl pl []) (.bp b v off) (a.eval x):=hsv
  cases hmv:mvO E y with
  |true=>
   rw [hmv,cond_true] at h
   split at h
   ·rename_i m vs hgive
    split at h
    ·rename_i n hd hp
     cases hq:(Nat.beq n v&&Nat.beq m.length ti.ty.sz&&Nat.ble (off+ti.ty.sz) hd) with
     |false=>rw [hq] at h; simp at h
     |true=>
      rw [hq,cond_true] at h
      simp only [Bool.and_eq_true] at hq
      obtain ⟨⟨q1,q3⟩,q4⟩:=hq
      have hnv:n=v:=by simpa using q1
      have hle:off+ti.ty.sz≤hd:=Nat.le_of_ble_eq_true q4
      have hlen:m.length=ti.ty.sz:=Nat.eq_of_beq_eq_true q3
      subst hnv
      have ht:=hE.ti _ _ hti
      have hnt:=O9 (X:=X) (s:=s) (Y5 hgive) hlen ht
      have hh:(S.g (H b)).2 = .one (.hd hd):=by rw [hg,hp]
      obtain ⟨S1,K1,g1,G1,q2,_,us,hsh,hls⟩:=Cva hE K hg (.inl hsy) hnt hgive 0
      have hh1:(S1.g (H b)).2 = .one (.hd hd):=by rw [G1.heads b hd hh]; exact hh
      obtain ⟨_,c,e,c1,c2,c3,c4⟩:=K1.box b hd hh1
      have hpt:a.eval x = .pointer (some ⟨(S1.bb b).1,(S1.bb b).2+off,none⟩):=by rw [G1.bb]; exact hlf.2 (by rw [hg,hp])
      have hul:=hls.len
      have hone:=Np q2 hls
      obtain ⟨K2,L2⟩:=K1.cells (b:=b) (off:=off) hh1 (by rw [hlen]; exact hle) c1 hls (Cza (Y5 hgive) hnt) (Lw q2)
      have hr:=N0 (w:=S1.w) ht ho hpt rfl (Jj hsh hnt hone) (hul.trans hlen) c1 (by omega) hone
      refine ⟨_,h,skip (by rw [← G1.w]; exact hr) K2 ?_⟩
      show My S1.g b off _=_
      rw [Af,K7,← g1]
    ·cases h
   ·cases h
  |false=>
  rw [hmv,cond_false] at h
  split at h
  ·rename_i n hd hp
   cases hq:(Nat.beq n v&&Gk (ups A (Jt A (parts s)++gone y s)) ((parts s).map (Jy A))&&Nat.beq ((parts s).map (Jy A)).length ti.ty.sz&&Nat.ble (off+ti.ty.sz) hd) with
   |false=>rw [hq] at h; simp at h
   |true=>
    rw [hq,cond_true] at h
    simp only [Bool.and_eq_true] at hq
    obtain ⟨⟨⟨q1,q2⟩,q3⟩,q4⟩:=hq
    have hnv:n=v:=by simpa using q1
    have hle:off+ti.ty.sz≤hd:=Nat.le_of_ble_eq_true q4
    have hlen:((parts s).map (Jy A)).length=ti.ty.sz:=Nat.eq_of_beq_eq_true q3
    subst hnv
    have ht:=hE.ti _ _ hti
    have hnt:=O9 (X:=X) (s:=s) (by simp) hlen ht
    have hh:(S.g (H b)).2 = .one (.hd hd):=by rw [hg,hp]
    obtain ⟨S1,K1,g1,w1,b1,p1,L1,x1,heads,_,us,hsh,hls⟩:=Gva hE K hg hsy hnt 0
    have hh1:(S1.g (H b)).2 = .one (.hd hd):=by rw [(heads b).2 hd hh]; exact hh
    obtain ⟨_,c,e,c1,c2,c3,c4⟩:=K1.box b hd hh1
    have hpt:a.eval x = .pointer (some ⟨(S1.bb b).1,(S1.bb b).2+off,none⟩):=by rw [b1]; exact hlf.2 (by rw [hg,hp])
    have hul:=hls.len
    obtain ⟨hone,hnohd⟩:=H3a g1 q2 hls
    obtain ⟨K2,L2⟩:=K1.cells (b:=b) (off:=off) hh1 (by rw [hlen]; exact hle) c1 hls (Cza (by simp) hnt) hnohd
    have hr:=N0 (w:=S1.w) ht ho hpt rfl (Jj hsh hnt hone) (hul.trans hlen) c1 (by omega) hone
    refine ⟨_,h,skip (by rw [← w1]; exact hr) K2 ?_⟩
    show My S1.g b off _=_
    rw [Af,K7,← g1]
  ·cases h
 ·rename_i ti p v i off s hti hsx hsy
  obtain ⟨pl,hsv⟩:=Ii hE K hg hsx
  have hlf:Al X.P S (.pl pl []) (.ep p v i off) (a.eval x):=hsv
  split at h
  ·rename_i n e r' xs hp
   cases hq:(Nat.beq n v&&Js r'&&A3 ((parts s).map (Jy A))&&Nat.beq ((parts s).map λ x=>Lx (Jy A x)).length ti.ty.sz&&Nat.ble (off+((parts s).map λ x=>Lx (Jy A x)).length) r'.sz&&Ur p (Jt A (parts s)++gone y s)) with
   |false=>rw [hq] at h; simp at h
   |true=>
    rw [hq,cond_true] at h
    simp only [Bool.and_eq_true] at hq
    obtain ⟨⟨⟨⟨⟨q1,hno⟩,q2⟩,q3⟩,q4⟩,q5⟩:=hq
    have hnv:n=v:=by simpa using q1
    have hlen:((parts s).map λ x=>Lx (Jy A x)).length=ti.ty.sz:=Nat.eq_of_beq_eq_true q3
    have hle:off+((parts s).map λ x=>Lx (Jy A x)).length≤r'.sz:=Nat.le_of_ble_eq_true q4
    subst hnv
    split at h
    ·rename_i z hz
     have ht:=hE.ti _ _ hti
     have hnt:=O9 (X:=X) (s:=s) (by simp) hlen ht
     obtain ⟨S1,K1,g1,w1,b1,p1,L1,x1,heads,_,us,hsh,hls⟩:=Gva hE K hg hsy hnt 0
     have hul:=hls.len
     have hone:=Np q2 hls
     have hrep:=Pm q2 hls
     rw [List.map_map] at hrep
     rw [List.length_map] at hul hlen hle
     obtain ⟨K2,L2⟩:=K1.names (Cya 0) (by intro n q; unfold Cya; split<;>simp)
     have L12:=L1.trans L2
     have hp2:({ S1 with O:=atO S1.O (Cya 0) }:Sit).g p=(n,.one (.own e r' xs)):=by
      show S1.g p=_
      rw [g1,Baa _ _ q5,hp]
     have hlf2:Al X.P { S1 with O:=atO S1.O (Cya 0) } .fz (.ep p n i off) (a.eval x):=(Al.relab (lab' := .fz) rfl hlf).later L12 (λ k hk=>L12.fz k hk)
     obtain ⟨k,_,cur,cap,e1,_,_,hi,e4,e5,e6⟩:=Csa K2 hno hp2 hlf2
     have hown:F7 X.P (atO S1.O (Cya 0)) S1.w (.pl p []) e r' xs (S1.ph p):=by
      have h0:=K2.at_ p
      rw [hp2] at h0
      exact h0
     obtain ⟨hsz,hown3⟩:=H4a (us:=us) hno hown e4 e5 e6 hi hrep hz (by omega)
     have hr:=N0 (w:=S1.w) ht ho e1 rfl (Jj hsh hnt hone) (by omega) e5 hsz hone
     have hold:∀ j,j≠k→(S1.w.setRow k (cur.toList.take (i.toNat * r'.sz+off)++us++cur.toList.drop (i.toNat * r'.sz+off+us.length)).toArray).heap[j]? = S1.w.heap[j]? := λ j hj=>setRow_other _ _ _ _ hj
     have hne:∀ j o',atO S1.O (Cya 0) j=o'→o' ≠ .pl p []→(S1.w.setRow k (cur.toList.take (i.toNat * r'.sz+off)++us++cur.toList.drop (i.toNat * r'.sz+off+us.length)).toArray).heap[j]? = S1.w.heap[j]? := λ j o' hj ho'=>hold j (λ e=>ho' (by rw [← hj,e]; exact e6))
     obtain ⟨K3,g3⟩:=K2.rewrite hno hp2 e6 hne (by simp [World.setRow]) rfl rfl rfl hown3 (by simp)
     refine ⟨_,h,skip (by rw [← w1]; exact hr) K3 ?_⟩
     rw [g3,Af,O3,← g1]
     show upd S1.g p _=_
     congr 1
     have:S1.g p=(n,.one (.own e r' xs)):=hp2
     rw [this]
    ·cases h
  ·cases h
 ·rename_i ti p v q e r1 xs i off s hti hsx hsy
  obtain ⟨pl,hsv⟩:=Ii hE K hg hsx
  obtain ⟨hd',hda,hdp⟩:Al X.P S (.pl pl []) (.dp p v (some q) e r1 xs i off) (a.eval x):=hsv
  split at h
  ·rename_i m us hgive
   split at h
   ·rename_i n E0 R0 XS hp
    cases hq:(Nat.beq n v&&Nc m&&Nat.beq m.length ti.ty.sz&&Nat.ble (off+m.length) r1.sz&&Ur p us&&Eu R0) with
    |false=>rw [hq] at h; simp at h
    |true=>
     rw [hq,cond_true] at h
     simp only [Bool.and_eq_true] at hq
     obtain ⟨⟨⟨⟨⟨q1,q2⟩,q3⟩,q4⟩,q5⟩,q6⟩:=hq
     have hnv:n=v:=Nat.eq_of_beq_eq_true q1
     have hlen:m.length=ti.ty.sz:=Nat.eq_of_beq_eq_true q3
     have hle:off+m.length≤r1.sz:=Nat.le_of_ble_eq_true q4
     subst hnv
     split at h
     ·rename_i z hz
      split at h
      ·rename_i XS' hput
       have ht:=hE.ti _ _ hti
       have hnt:=O9 (X:=X) (s:=s) (Rf hgive) hlen ht
       obtain ⟨S1,K1,g1,G1,uv,hsh,hl⟩:=H0a hE K hg hsy hnt hgive 0
       have hp0:S.g p=(n,.one (.own E0 R0 XS)):=by rw [hg,hp]
       have hp1:S1.g p=(n,.one (.own E0 R0 XS)):=by rw [g1,Baa _ _ q5,hp]
       obtain ⟨k,j,cur,e0,e1,e2,e3,K3⟩:=Epa (u:=a.eval x) K1 hp1 (hda.later G1.later) (hdp (by rw [hp0])) q6 q2 hl (H1a hnt (Rf hgive)) hz hle hput
       have hone:=Np (Ma q2) hl
       have hul:=hl.len
       have hr:=N0 (w:=S1.w) ht ho e1 rfl (Jj hsh hnt hone) (hul.trans hlen) e2 e3 hone
       refine ⟨_,h,skip (by rw [← G1.w]; exact hr) K3 ?_⟩
       show upd S1.g p _=_
       rw [Af,A7,← g1,hp1]
      ·cases h
     ·cases h
   ·cases h
  ·cases h
 ·cases h
end
end

section
attribute [local irreducible] C H
section
variable {X:Cx} {S S':Sit} {a:Act} {E:En} {A:Ab} {o:Oper} {R:Type} {Kc:List Up→Option R} {r:R}
theorem Pn:∀ t:Ty,(Te t).length=t.sz
 |.i _=>rfl
 |.b=>rfl
 |.s=>rfl
 |.sl _ _=>rfl
 |.ow _ _=>rfl
 |.pr x y=>by show (Te x++Te y).length=x.sz+y.sz; rw [List.length_append,Pn x,Pn y]
theorem Kq:∀ t:Ty,A3 (Te t)=true
 |.i _=>rfl
 |.b=>rfl
 |.s=>rfl
 |.sl _ _=>rfl
 |.ow _ _=>rfl
 |.pr x y=>by
  have app:∀ l m,A3 l=true→A3 m=true→A3 (l++m)=true:=by
   intro l m hl hm
   induction l with
   |nil=>exact hm
   |cons x l ih=>cases x<;>first|(simp [A3] at hl; done)|exact ih (by simpa [A3] using hl)
  exact app _ _ (Kq x) (Kq y)
theorem Po {P:Program}:∀ (t:Ty),szB P t=true→∀ (f:Nat→Lab) (j:Nat),A5 P S f j (Te t) (Ej t)
 |.i _,_,_,_=>⟨⟨rfl,rfl⟩,trivial⟩
 |.b,_,_,_=>⟨⟨rfl,rfl⟩,trivial⟩
 |.s,_,_,_=>⟨⟨rfl,rfl⟩,trivial⟩
 |.sl e r,h,f,j=>⟨Uw (by simp only [szB,Bool.and_eq_true,beq_iff_eq] at h; exact h.1),trivial⟩
 |.ow e r,h,f,j=>⟨Uw (by simp only [szB,Bool.and_eq_true,beq_iff_eq] at h; exact h.1),trivial⟩
 |.pr x y,h,f,j=>by
  simp [szB] at h
  exact A5.app (Po x h.1 f j) (Po y h.2 f _)
theorem Pp {P:Program} {w:World} {T:TypeId} {t:TI} (h:TOk P T t):∃ v,(zeroValue T).run P w = .ok v w∧v.cells=(Ej t.ty).toArray∧(if t.ag then v = .agg (Ej t.ty).toArray else Ej t.ty=[v]):=by
 obtain ⟨i,h1,h2,h3,h4,h5⟩:=h.info
 refine ⟨if t.ag then .agg (Ej t.ty).toArray else (Ej t.ty).headD undef,?_,?_,?_⟩
 ·simp [zeroValue,typeInfo,h1,h4]
 ·cases ha:t.ag with
  |true=>rfl
  |false=>
   rw [if_neg (by simp)]
   have h6:=h5 ha
   have hone:=Np (S:=⟨λ _ => .no,λ _=>(0,0),λ _=>(0,.one .dead),λ _=>undef,w⟩) (Kq t.ty) (Po t.ty h.sz (λ _ => .no) 0)
   generalize (Ej t.ty).headD undef=v at h6
   rw [h6] at hone ⊢
   have:=hone v (by simp)
   cases v<;>first|(simp [Value.oneCell'] at this; done)|rfl
 ·cases ha:t.ag with
  |true=>rfl
  |false=>exact h5 ha
theorem H5a (K:Ah X S a) {A1:Ab} (hg:S.g=get A1) {T:TypeId} {m:List Lf} {us:List Value} {q:Nat→List Nat} {d:Nat} (hd:d<X.nt) (hl:A5 X.P S (λ j => .tm 0 (q j)) 0 m us)
  (hq:∀ j,j<m.length→Ta d 0 0 (q j)=some (.pl (C d (0+j)) [])) (hm:m.length<999) (hst:∀ k,.hd k∉m) (hnp:X.np≤d):
  ∃ S',Ah X S' (a.put (some d) (.pointer (some ⟨S.w.heap.size,0,none⟩)))∧S'.w=S.w.alloc (.cells us.toArray T)∧
   S'.g=get (ups A1 (⟨H d,false,.one (.hd m.length)⟩::Bm d 0 m++[⟨d,false,.one (.bp d ((get A1 (H d)).1+1) 0)⟩])):=by
 have hlen:=hl.len
 have hd1:d<1000:=Nat.lt_of_lt_of_le hd K.nt
 obtain ⟨K1,L1⟩:=K.grow (w':=S.w.alloc (.cells us.toArray T)) (row:=none) (O':=λ k=>if k=S.w.heap.size then .tm 1 [] else S.O k) (World.grownBy_alloc _ _ _) (by simp)
  (λ k hk _=>by show (if k=S.w.heap.size then _ else _)=_; rw [if_neg (by omega)])
  (λ k hk=>by
   show k<(S.w.heap.push _).size
   rw [Array.size_push]
   by_cases h:k=S.w.heap.size
   ·omega
   ·simp only [h,if_false] at hk
    have:=K.lt k hk
    omega)
 have hl1:A5 X.P (Th S (S.w.alloc (.cells us.toArray T)) (λ k=>if k=S.w.heap.size then .tm 1 [] else S.O k)) (λ j => .tm 0 (q j)) 0 m us:=by
  refine hl.imp (λ j x u hx=>hx.later L1 (λ k hk=>?_))
  have hkl:k<S.w.heap.size:=K.lt k (by simp [hk])
  refine ⟨?_,heap_alloc_old _ _ _ hkl⟩
  show (if k=S.w.heap.size then _ else _)=_
  rw [if_neg (by omega)]
  exact hk
 obtain ⟨K2,L2⟩:=K1.newbox (d:=d) (k:=S.w.heap.size) (o:=0) (n0:=1) (l0:=[]) (by show (if _ then _ else _)=_; rw [if_pos rfl]) (by decide) K.fr.size (heap_alloc_new _ _) (by simp [hlen]) (by intro j hj; simp) hl1 hq hm hst hnp hd1
 have hv:((Aoa (Th S (S.w.alloc (.cells us.toArray T)) (λ k=>if k=S.w.heap.size then .tm 1 [] else S.O k)) d S.w.heap.size 0 m us).g (H d)).1=(S.g (H d)).1+1:=by
  show (My (upd S.g (H d) _) d 0 m (H d)).1=_
  unfold My
  rw [if_neg (Fz (by omega)),A6]
  rfl
 have K3:=K2.put0 hd (.one (.bp d ((S.g (H d)).1+1) 0)) (.pointer (some ⟨S.w.heap.size,0,none⟩)) 0 rfl ⟨by rw [hv]; exact Nat.le_refl _,λ _=>by
  show Value.pointer _ = .pointer (some ⟨(upd S.bb d (S.w.heap.size,0) d).1,(upd S.bb d (S.w.heap.size,0) d).2+0,none⟩)
  rw [A6]⟩
 have e1:(Aoa (Th S (S.w.alloc (.cells us.toArray T)) (λ k=>if k=S.w.heap.size then .tm 1 [] else S.O k)) d S.w.heap.size 0 m us).g=get (ups A1 (⟨H d,false,.one (.hd m.length)⟩::Bm d 0 m)):=by
  show My (upd S.g (H d) ((S.g (H d)).1+1,.one (.hd m.length))) d 0 m=get (ups (up A1 ⟨H d,false,.one (.hd m.length)⟩) (Bm d 0 m))
  rw [K7,M5,← hg]
  rfl
 refine ⟨_,K3,rfl,?_⟩
 show upd (Aoa (Th S (S.w.alloc (.cells us.toArray T)) (λ k=>if k=S.w.heap.size then .tm 1 [] else S.O k)) d S.w.heap.size 0 m us).g d _=_
 rw [Af,A7,← e1,← hg]
theorem L0a (hE:Ks X E) (K:Ah X S a) (hg:S.g=get A) {T:TypeId} {d:Nat} (ho:o.op = .alloc T) (hod:o.dst=some d) (hd:d<X.nt) (h:Ac E o A Kc=some r):Ja X o a S.w A Kc r:=by
 unfold Ac at h
 rw [ho,hod] at h
 simp only at h
 split at h
 ·rename_i ti hti
  cases hq:(Nat.blt ti.ty.sz 999&&Nat.ble E.np d) with
  |false=>rw [hq] at h; simp at h
  |true=>
   rw [hq,cond_true] at h
   simp only [Bool.and_eq_true] at hq
   have hlt:ti.ty.sz<999:=Nat.le_of_ble_eq_true hq.1
   have hnp:X.np≤d:=hE.np ▸ (Nat.le_of_ble_eq_true hq.2)
   have ht:=hE.ti _ _ hti
   obtain ⟨v,h1,h2,_⟩:=Pp (w:=S.w) ht
   obtain ⟨S',K',w',g'⟩:=H5a K hg (T:=T) (m:=Te ti.ty) (us:=Ej ti.ty) (q:=λ j=>[j]) hd (Po ti.ty ht.sz _ 0) (λ j hj=>rfl) (by rw [Pn]; exact hlt) (Lw (Kq _)) hnp
   rw [Pn] at g'
   refine ⟨_,h,A8 (S:=S') (v := .pointer (some ⟨S.w.heap.size,0,none⟩)) ?_ (by rw [hod]; exact K') g'⟩
   rw [w']
   unfold execOp
   simp [ho,Instr.alloc,h1,newVar,newRow,h2]
 ·cases h
theorem Pq:∀ {l:List Lf},Cp A l=true→Ev l=false
 |[],_=>rfl
 |x::l,h=>by
  have rest:Cp A l=true:=by
   cases x<;>first|(simp [Cp] at h; done)|(simp only [Cp,Bool.and_eq_true] at h; exact h.2)|simpa [Cp] using h
  cases x<;>first|(simp [Cp] at h; done)|exact Pq (l:=l) rest
theorem H6a (K:Ah X S a) (hg:S.g=get A) {f:Nat→Lab}:∀ {l:List Lf} {j:Nat} {us:List Value},Cp A l=true→A5 X.P S f j l us→(∀ u∈us,u.oneCell'=true)∧∀ k,.hd k∉l
 |[],_,[],_,_=>by simp
 |[],_,_::_,_,h=>h.elim
 |_::_,_,[],_,h=>h.elim
 |x::l,j,u::us,hst,h=>by
  have rest:Cp A l=true:=by
   cases x<;>first|(simp [Cp] at hst; done)|(simp only [Cp,Bool.and_eq_true] at hst; exact hst.2)|simpa [Cp] using hst
  obtain ⟨r1,r2⟩:=H6a K hg rest h.2
  refine ⟨λ v hv=>?_,λ k hk=>?_⟩
  ·rcases List.mem_cons.1 hv with hv|hv
   ·rw [hv]
    have one:A3 [x]=true→u.oneCell'=true:=λ hs=>Np (P:=X.P) (S:=S) (f:=f) (l:=[x]) (j:=j) (us:=[u]) hs ⟨h.1,trivial⟩ u (by simp)
    cases x with
    |al p v=>
     simp only [Cp,Bool.and_eq_true] at hst
     obtain ⟨lab',h4⟩:=Oy K hg h.1
     have h3:=hst.1
     split at h3
     ·rename_i hs
      rw [hs] at h4
      obtain ⟨ad,cap,e1⟩:=Qd (X:=X) h4
      rw [e1]; rfl
     ·rename_i hs
      rw [hs] at h4
      obtain ⟨ad,cap,e1⟩:=Rx (X:=X) h4
      rw [e1]; rfl
     ·cases h3
    |sc w=>exact one rfl
    |fz e r xs=>exact one rfl
    |_=>simp [Cp] at hst
   ·exact r1 v hv
  ·rcases List.mem_cons.1 hk with rfl|hk
   ·simp [Cp] at hst
   ·exact r2 k hk
theorem Qfa (hE:Ks X E) (K:Ah X S a) (hg:S.g=get A) {T:TypeId} {x:Operand} {d:Nat} (ho:o.op = .box T x) (hod:o.dst=some d) (hd:d<X.nt) (h:Ac E o A Kc=some r):Ja X o a S.w A Kc r:=by
 unfold Ac at h
 rw [ho,hod] at h
 simp only at h
 split at h
 ·rename_i ti s hti hs
  cases hmv:mvO E x with
  |true=>
   rw [hmv,cond_true] at h
   cases hq:(Cp A (parts s)&&Nat.beq (parts s).length ti.ty.sz&&Nat.blt ti.ty.sz 999&&Nat.ble E.np d) with
   |false=>rw [hq] at h; simp at h
   |true=>
    rw [hq,cond_true] at h
    simp only [Bool.and_eq_true] at hq
    obtain ⟨⟨⟨q1,q2⟩,q3⟩,q4⟩:=hq
    have hnp:X.np≤d:=hE.np ▸ (Nat.le_of_ble_eq_true q4)
    have hlt:ti.ty.sz<999:=Nat.le_of_ble_eq_true q3
    have hlen:(parts s).length=ti.ty.sz:=Nat.eq_of_beq_eq_true q2
    have ht:=hE.ti _ _ hti
    have hnt:=O9 (X:=X) (s:=s) rfl hlen ht
    obtain ⟨pl,hsv⟩:=Ii hE K hg hs
    have hown:=Pq q1
    obtain ⟨us,hsh,hls⟩:∃ us,R5 s (a.eval x) us∧A5 X.P S (λ n => .tm 0 (pth s n)) 0 (parts s) us:=by
     cases s with
     |one y=>exact ⟨[_],rfl,A5.relab (f:=λ _ => .pl pl []) (xs:=[y]) hown ⟨hsv,trivial⟩⟩
     |agg l=>
      obtain ⟨us,e1,e2⟩:=hsv
      exact ⟨us,e1,e2.relab hown⟩
     |tup vs=>exact absurd rfl (hnt vs)
    obtain ⟨hone,hnohd⟩:=H6a K hg q1 hls
    obtain ⟨S',K',w',g'⟩:=H5a K hg (T:=T) hd hls (Cza rfl hnt) (by rw [hlen]; exact hlt) hnohd hnp
    rw [hlen] at g'
    refine ⟨_,h,A8 (S:=S') (v := .pointer (some ⟨S.w.heap.size,0,none⟩)) ?_ (by rw [hod]; exact K') g'⟩
    rw [w']
    unfold execOp
    simp [ho,Instr.box,newVar,newRow,Jj hsh hnt hone]
  |false=>
  rw [hmv,cond_false] at h
  cases hq:(A3 ((parts s).map (Jy A))&&Nat.beq ((parts s).map (Jy A)).length ti.ty.sz&&Nat.blt ti.ty.sz 999&&Nat.ble E.np d) with
  |false=>rw [hq] at h; simp at h
  |true=>
   rw [hq,cond_true] at h
   simp only [Bool.and_eq_true] at hq
   obtain ⟨⟨⟨q1,q2⟩,q3⟩,q4⟩:=hq
   have hnp:X.np≤d:=hE.np ▸ (Nat.le_of_ble_eq_true q4)
   have hlt:ti.ty.sz<999:=Nat.le_of_ble_eq_true q3
   have hlen:((parts s).map (Jy A)).length=ti.ty.sz:=Nat.eq_of_beq_eq_true q2
   have ht:=hE.ti _ _ hti
   have hnt:=O9 (X:=X) (s:=s) (by simp) hlen ht
   obtain ⟨S1,K1,g1,w1,b1,p1,L1,x1,heads,_,us,hsh,hls⟩:=Gva hE K hg hs hnt 0
   obtain ⟨S',K',w',g'⟩:=H5a K1 g1 (T:=T) hd hls (Cza (by simp) hnt) (by rw [hlen]; exact hlt) (Lw q1) hnp
   have hv:(get (ups A (Jt A (parts s)++gone x s)) (H d)).1=(get A (H d)).1:=by rw [← g1,← hg]; exact (heads d).1
   rw [hv,hlen,← Af] at g'
   refine ⟨_,h,A8 (S:=S') (v := .pointer (some ⟨S1.w.heap.size,0,none⟩)) ?_ (by rw [hod]; exact K') g'⟩
   rw [w',w1]
   unfold execOp
   simp [ho,Instr.box,newVar,newRow,Jj hsh hnt (Np q1 hls)]
 ·cases h
theorem D0a:∀ (us:List Value) (n off:Nat) (cells:Array Value),off+n+us.length≤cells.size→
  (us.zipIdx n).foldl (λ cs (x:Value×Nat)=>cs.setIfInBounds (off+x.2) x.1) cells=(cells.toList.take (off+n)++us++cells.toList.drop (off+n+us.length)).toArray
 |[],n,off,cells,h=>by simp
 |c::us,n,off,cells,h=>by
  simp only [List.length_cons] at h
  simp only [List.zipIdx_cons,List.foldl_cons]
  rw [D0a us (n+1) off _ (by simp; omega)]
  have hlt:off+n<cells.toList.length:=by rw [Array.length_toList]; omega
  congr 1
  rw [Array.toList_setIfInBounds]
  have e1:(cells.toList.set (off+n) c).take (off+(n+1))=cells.toList.take (off+n)++[c]:=by
   rw [← Nat.add_assoc,List.take_add_one,List.getElem?_set_self hlt,List.take_set_of_le (Nat.le_refl _)]
   rfl
  have e2:(cells.toList.set (off+n) c).drop (off+(n+1)+us.length)=cells.toList.drop (off+n+(c::us).length):=by
   rw [List.drop_set_of_lt (by omega)]
   congr 1
   simp only [List.length_cons]
   omega
  rw [e1,e2]
  simp
theorem Pr {place:Nat→Option (Nat×Nat)} {cells:Array Value} {i off z:Nat} {v:Value} {us:List Value} {rest:List (Nat×Value)} (hp:place i=some (off,z)) (hv:v.cells=us.toArray) (hz:us.length=z) (hle:off+z≤cells.size):
  Instr.fill place cells ((i,v)::rest)=Instr.fill place (cells.toList.take off++us++cells.toList.drop (off+z)).toArray rest:=by
 subst hz
 have hf:=D0a us 0 off cells (by omega)
 simp only [Nat.add_zero] at hf
 simp only [Instr.fill,hp,hv,List.size_toArray]
 rw [if_neg (by simp; omega)]
 congr 1
 rw [← hf]
 simp
def S8 (off:Nat):Nat→List Nat→Option Lab:=λ n q=>if n=1 then (match q with
 |[]=>some (.tm 0 [off])
 |[j]=>some (.tm 0 [off+j])
 |_=>none) else none
theorem L1a (off:Nat):∀ n q,S8 off n q≠some .no:=by
 intro n q
 unfold S8
 split
 ·split<;>simp
 ·simp
theorem Oda {s:Sv} {off:Nat} {m:List Lf} (hm:m.length=(parts s).length) (hnt:∀ vs,s ≠ .tup vs):∀ j,j<m.length→S8 off 1 (pth s j)=some (.tm 0 [off+j]):=by
 intro j hj
 cases s with
 |one x=>
  have:j=0:=by simp [parts] at hm; omega
  subst this
  rfl
 |agg l=>rfl
 |tup vs=>exact absurd rfl (hnt vs)
theorem H7a {s:Sv} {m:List Lf} {z:Nat} (hm:m.length=(parts s).length) (h:m.length=z) (hz:0<z):∀ vs,s ≠ .tup vs:=by
 intro vs e
 subst e
 simp [parts] at hm
 simp [hm] at h
 omega
theorem S9 (hE:Ks X E) {T:TypeId} {t:TI} (ht:TOk X.P T t) {fs:Array Field} (hfs:Lr X.P fs.toList t.fo=true) (places:List (Nat×Nat)) (hpl:∀ i o,nth t.fo i=some o→places[i]? = some (o.1,o.2.1)):
  ∀ (ps:List (Nat×Operand)) {S:Sit} {A:Ab} {l:List Lf} {us0:List Up} {cs:List Value} {l':List Lf} {us':List Up},Ah X S a→S.g=get A→A5 X.P S (λ j => .tm 0 [j]) 0 l cs→A3 l=true→Me E A t l us0 ps=some (l',us')→
  ∃ S' U cs',us'=us0++U∧Ah X S' a∧S'.g=get (ups A U)∧S'.w=S.w∧A5 X.P S' (λ j => .tm 0 [j]) 0 l' cs'∧l'.length=l.length∧
   Instr.fill (places.toArray[·]?) cs.toArray (ps.map λ p=>(p.1,a.eval p.2))=some cs'.toArray
 |[],S,A,l,us0,cs,l',us',K,hg,hl,hst,h=>by
  simp only [Me,Option.some.injEq,Prod.mk.injEq] at h
  obtain ⟨rfl,rfl⟩:=h
  exact ⟨S,[],cs,by simp,K,hg,rfl,hl,rfl,rfl⟩
 |(i,x)::ps,S,A,l,us0,cs,l',us',K,hg,hl,hst,h=>by
  simp only [Me] at h
  split at h
  ·cases h
  ·rename_i off z ag hn
   have hpi:=hpl i _ hn
   obtain ⟨fd,_,_,_,hz0,_⟩:=O4 hfs hn
   simp only at hz0
   have hlen:=hl.len
   split at h
   ·-- the literal nil
    cases hb:Nat.beq z 1 with
    |false=>rw [hb] at h; simp at h
    |true=>
     rw [hb,cond_true] at h
     have hz1:z=1:=Nat.eq_of_beq_eq_true hb
     subst hz1
     split at h
     ·rename_i e r' hleaf
      rw [Jf] at hleaf
      have hoff:off<l.length:=(List.getElem?_eq_some_iff.1 hleaf).1
      have hl2:A5 X.P S (λ j => .tm 0 [j]) 0 l (cs.take off++[.slice none 0 0]++cs.drop (off+1)):=by
       have hsz:T9 X.P e r'.sz:=by
        obtain ⟨x',u',e1,_,_,e4⟩:=hl.at off hoff
        rw [List.getD_eq_getElem?_getD,hleaf] at e1
        simp only [Option.getD_some] at e1
        subst e1
        exact F7.top e4 |>.1
       have h1:=A5.setAll (P:=X.P) (S:=S) (f:=λ j => .tm 0 [j]) (l:=l) (us:=cs) (m:=[.own e r' []]) (ms:=[.slice none 0 0]) (off:=off) (hl.take off) ⟨Uw hsz,trivial⟩ (by have:=hl.drop (off+1); rwa [Nat.zero_add] at this) (by simp only [List.length_singleton]; omega)
       have h2:Vf.setAll l off [.own e r' []]=l:=by
        unfold Vf.setAll
        rw [List.getElem?_eq_getElem hoff] at hleaf
        simp only [Option.some.injEq] at hleaf
        rw [← hleaf]
        simp only [List.length_singleton,List.append_assoc,List.singleton_append]
        rw [← List.drop_eq_getElem_cons hoff,List.take_append_drop]
       rw [h2] at h1
       exact h1
      obtain ⟨S',U,cs',e1,K',g',w',l1,l2,hf⟩:=S9 hE ht hfs places hpl ps K hg hl2 hst h
      refine ⟨S',U,cs',e1,K',g',w',l1,l2,?_⟩
      rw [List.map_cons,Pr (us:=[.slice none 0 0]) (off:=off) (z:=1) (by simpa using hpi) rfl rfl (by simp; omega)]
      exact hf
     ·cases h
   ·split at h
    ·rename_i s hs
     cases hq:(A3 ((parts s).map (Jy A))&&Nat.beq ((parts s).map (Jy A)).length z&&Nat.ble (off+z) l.length) with
     |false=>rw [hq] at h; simp at h
     |true=>
      rw [hq,cond_true] at h
      simp only [Bool.and_eq_true] at hq
      obtain ⟨⟨q1,q2⟩,q3⟩:=hq
      have hmz:((parts s).map (Jy A)).length=z:=Nat.eq_of_beq_eq_true q2
      have hle:off+z≤l.length:=Nat.le_of_ble_eq_true q3
      have hnt:=H7a (s:=s) (by simp) hmz hz0
      obtain ⟨S1,K1,g1,w1,b1,p1,L1,x1,heads,tms,us,hsh,hls⟩:=Gva hE K hg hs hnt 1
      obtain ⟨K2,L2⟩:=K1.names (S8 off) (L1a off)
      have hone:=Np q1 hls
      have hul:=hls.len
      have old:∀ j x u,Al X.P S (.tm 0 [j]) x u→Al X.P { S1 with O:=atO S1.O (S8 off) } (.tm 0 [j]) x u:=λ j x u hx=>
       (tms 0 [j] x u hx).later L2 (λ k hk=>⟨M6 hk (by simp [S8]),rfl⟩)
      have hl2:=A5.setAll (P:=X.P) (S := { S1 with O:=atO S1.O (S8 off) }) (f:=λ j => .tm 0 [j]) (l:=l) (us:=cs) (m:=(parts s).map (Jy A)) (ms:=us) (off:=off)
       ((hl.take off).imp (λ j x u hx=>old j x u hx))
       (by
        have h1:A5 X.P { S1 with O:=atO S1.O (S8 off) } (λ j => .tm 0 [off+j]) 0 ((parts s).map (Jy A)) us:=by
         refine A5.impAt (λ n _ n2 x u hx=>?_) hls
         exact hx.later L2 (λ k hk=>⟨Jw hk (Oda (m:=(parts s).map (Jy A)) (by simp) hnt n (by omega)),rfl⟩)
        have shiftBack:∀ (m:List Lf) (us:List Value) (i:Nat),A5 X.P { S1 with O:=atO S1.O (S8 off) } (λ j => .tm 0 [off+j]) i m us→A5 X.P { S1 with O:=atO S1.O (S8 off) } (λ j => .tm 0 [j]) (off+i) m us:=by
         intro m
         induction m with
         |nil=>intro us i h; cases us<;>first|trivial|exact h.elim
         |cons x m ih=>
          intro us i h
          cases us with
          |nil=>exact h.elim
          |cons u us=>exact ⟨h.1,ih us (i+1) h.2⟩
        exact shiftBack _ _ 0 h1)
       (by
        have:=(hl.drop (off+((parts s).map (Jy A)).length)).imp (S' := { S1 with O:=atO S1.O (S8 off) }) (f':=λ j => .tm 0 [j]) (λ j x u hx=>old j x u hx)
        rwa [Nat.zero_add] at this) (by rw [hmz]; exact hle)
      have hst2:A3 (Vf.setAll l off ((parts s).map (Jy A)))=true:=by
       have tk:∀ (l:List Lf) n,A3 l=true→A3 (l.take n)=true:=by
        intro l
        induction l with
        |nil=>intro n _; cases n<;>rfl
        |cons x l ih=>
         intro n h
         cases n with
         |zero=>rfl
         |succ n=>cases x<;>first|(simp [A3] at h; done)|exact ih n (by simpa [A3] using h)
       have dr:∀ (l:List Lf) n,A3 l=true→A3 (l.drop n)=true:=by
        intro l
        induction l with
        |nil=>intro n _; cases n<;>rfl
        |cons x l ih=>
         intro n h
         cases n with
         |zero=>exact h
         |succ n=>cases x<;>first|(simp [A3] at h; done)|exact ih n (by simpa [A3] using h)
       have app:∀ l m,A3 l=true→A3 m=true→A3 (l++m)=true:=by
        intro l m hl hm
        induction l with
        |nil=>exact hm
        |cons x l ih=>cases x<;>first|(simp [A3] at hl; done)|exact ih (by simpa [A3] using hl)
       exact app _ _ (app _ _ (tk _ _ hst) q1) (dr _ _ hst)
      obtain ⟨S',U,cs',e1,K',g',w',l1,l2,hf⟩:=S9 hE ht hfs places hpl ps K2 g1 hl2 hst2 h
      refine ⟨S',(Jt A (parts s)++gone x s)++U,cs',by rw [e1,List.append_assoc],K',by rw [Af]; exact g',w'.trans w1,l1,l2.trans ?_,?_⟩
      ·unfold Vf.setAll
       simp only [List.length_append,List.length_take,List.length_drop]
       omega
      ·rw [List.map_cons,Pr (us:=us) (off:=off) (z:=z) (by simpa using hpi) (Jj hsh hnt hone) (hul.trans hmz) (by simp; omega)]
       rw [hmz] at hf
       exact hf
    ·cases h
theorem Tw {P:Program} {w:World}:∀ (fs:List Field) (os:List (Nat×Nat×Bool)),Lr P fs os=true→(fs.mapM (λ f=>do pure (f.offset,← sizeOf f.type):Field→Sem (Nat×Nat))).run P w = .ok (os.map λ o=>(o.1,o.2.1)) w
 |[],[],_=>rfl
 |[],_::_,h=>by simp [Lr] at h
 |_::_,[],h=>by simp [Lr] at h
 |f::fs,o::os,h=>by
  simp only [Lr,Bool.and_eq_true] at h
  obtain ⟨⟨⟨⟨⟨h1,h2⟩,_⟩,_⟩,_⟩,h5⟩:=h
  have e1:f.offset=o.1:=by simpa using h1
  have e2:(P.info? f.type).map (λ i=>i.size)=some o.2.1:=by simpa using h2
  rw [List.mapM_cons]
  simp only [Sem.run_bind,Ko e2,Result.andThen_ok,Sem.run_pure,Tw fs os h5,e1,List.map_cons]
theorem L2a (hE:Ks X E) (K:Ah X S a) (hg:S.g=get A) {T:TypeId} {ps:Array (Nat×Operand)} {d:Nat} (ho:o.op = .build T ps) (hod:o.dst=some d) (hd:d<X.nt) (h:Ac E o A Kc=some r):Ja X o a S.w A Kc r:=by
 unfold Ac at h
 rw [ho,hod] at h
 simp only at h
 split at h
 ·rename_i ti hti
  split at h
  ·rename_i l us hb
   cases hag:ti.ag with
   |false=>rw [hag] at h; simp at h
   |true=>
    rw [hag,cond_true] at h
    have ht:=hE.ti _ _ hti
    obtain ⟨fs,hu,hfs⟩:=Ry ht hag
    obtain ⟨v,z1,z2,z3⟩:=Pp (w:=S.w) ht
    obtain ⟨S1,U,cs',e1,K1,g1,w1,l1,_,hf⟩:=S9 hE ht hfs (ti.fo.map λ o=>(o.1,o.2.1)) (λ i o' hi=>by rw [Jf] at hi; rw [List.getElem?_map,hi]; rfl) ps.toList K hg (Po ti.ty ht.sz (λ j => .tm 0 [j]) 0) (Kq _) hb
    simp only [List.nil_append] at e1
    subst e1
    let hh:Nat→List Nat→Option Lab:=λ n q=>if n=0 then some (.pl d q) else none
    have L2:=Gb S1 hh d (.agg l) (.agg cs'.toArray)
    have hsv:Ka X.P (Lu S1 hh d (.agg l) (.agg cs'.toArray)) d (.agg l) (.agg cs'.toArray):=⟨cs',rfl,l1.imp (λ j x u hx=>hx.later L2 (λ k hk=>⟨Jw hk (by simp [hh]),rfl⟩))⟩
    have K2:=K1.put hd hh (by intro n q p hp; simp only [hh] at hp; split at hp<;>first|(cases hp; exact ⟨q,rfl⟩)|cases hp) _ _ hsv
    refine ⟨_,h,A8 (S:=Lu S1 hh d (.agg l) (.agg cs'.toArray)) ?_ (by rw [hod]; exact K2) ?_⟩
    ·show _=Result.ok _ S1.w
     rw [w1]
     unfold execOp
     simp only [ho,Sem.run_bind]
     unfold Instr.build
     simp only [Sem.run_bind,z1,Result.andThen_ok,run_underlying hu,z2]
     have hm:=Tw (P:=X.P) (w:=S.w) fs.toList ti.fo hfs
     have hm2:(fs.mapM (λ f=>do pure (f.offset,← sizeOf f.type):Field→Sem (Nat×Nat))).run X.P S.w = .ok (ti.fo.map λ o=>(o.1,o.2.1)).toArray S.w:=by
      rw [Array.mapM_eq_mapM_toList,Sem.run_map,hm]
      rfl
     simp only [Sem.run_bind,Sem.run_pure] at hm2 ⊢
     rw [hm2]
     simp only [Result.andThen_ok]
     have e2:(ps.map λ x=>(x.1,a.eval x.2)).toList=ps.toList.map λ p=>(p.1,a.eval p.2):=by simp
     rw [e2,hf]
     rfl
    ·show upd S1.g d _=_
     rw [Af,A7,← g1]
  ·cases h
 ·cases h
end
end

section
attribute [local irreducible] C H
section
variable {X:Cx} {S S':Sit} {a:Act} {E:En} {A:Ab} {o:Oper} {R:Type} {Kc:List Up→Option R} {r:R}
theorem Nb:∀ t:Ty,0<t.sz
 |.i _=>Nat.one_pos
 |.b=>Nat.one_pos
 |.s=>Nat.one_pos
 |.sl _ _=>Nat.one_pos
 |.ow _ _=>Nat.one_pos
 |.pr x y=>by have:=Nb x; show 0<x.sz+y.sz; omega
theorem V5 {P:Program} {G:Nat→Prop} {w:World}:∀ (t:Ty) (x:t.den) (vs:List Value),t.rep P G w x vs→∀ u∈vs,u.oneCell'=true
 |.i _,_,_,h=>by subst h; simp [Value.oneCell']
 |.b,_,_,h=>by subst h; simp [Value.oneCell']
 |.s,_,_,h=>by subst h; simp [Value.oneCell']
 |.sl _ _,_,_,⟨v,e,_,ad,cap,cs,e2,_⟩=>by subst e e2; simp [Value.oneCell']
 |.ow _ _,_,_,⟨v,e,_,ad,cap,cs,e2,_⟩=>by subst e e2; simp [Value.oneCell']
 |.pr x y,p,_,⟨c,d,e,h1,h2⟩=>by
  subst e
  intro u hu
  rcases List.mem_append.1 hu with h|h
  ·exact V5 x p.1 c h1 u h
  ·exact V5 y p.2 d h2 u h
theorem Rows.all {α:Type} {R':α→List Value→Prop} {Q:Value→Prop} (hR:∀ x c,R' x c→∀ u∈c,Q u):∀ {xs:List α} {cs:List Value},Rows R' xs cs→∀ u∈cs,Q u
 |[],_,h=>by simp only [Rows] at h; subst h; simp
 |_::_,_,⟨c,d,e,h1,h2⟩=>by
  subst e
  intro u hu
  rcases List.mem_append.1 hu with h|h
  ·exact hR _ _ h1 u h
  ·exact h2.all hR u h
theorem Ri (K:Ah X S a) {A1:Ab} (hg:S.g=get A1) {d:Nat} (hd:d<X.nt) {w':World} {row:Option Nat} {e:TypeId} {r':Ty} {xs:List r'.den} {v:Value} {cs:List Value} {b2:List Nat} (hw:S.w.grownBy w' row) (hrow:∀ k,row=some k→∃ n q,S.O k = .tm n q)
  (hsz:T9 X.P e r'.sz) (hown:w'.ownsRow 0 e r'.sz v xs.length cs) (hrows:Dp (λ x c b=>r'.dep X.P (λ k=>S.O k = .fz) S.w x c b) xs cs b2) (hn:b2.Nodup) (hb:∀ k∈b2,∃ q,S.O k = .tm 0 q) (hb2:∀ k∈b2,row≠some k∧v.ownBlock≠some k)
  (hv:∀ k,v.ownBlock=some k→row=some k∨S.w.heap.size≤k):
  ∃ S',Ah X S' (a.put (some d) v)∧S'.w=w'∧S'.g=get (ups A1 [⟨d,false,.one (.own e r' xs)⟩]):=by
 obtain ⟨K1,L1⟩:=K.grow (w':=w') (row:=row) (O':=λ k=>if v.ownBlock=some k then .tm 0 [] else S.O k) hw hrow
  (λ k hk hnt=>by
   show (if v.ownBlock=some k then _ else _)=_
   rw [if_neg]
   intro e1
   rcases hv k e1 with h|h
   ·obtain ⟨n,q,h2⟩:=hrow k h
    exact hnt n q h2
   ·omega)
  (λ k hk=>by
   by_cases h:v.ownBlock=some k
   ·exact (hown.lt k h).2
   ·simp only [h,if_false] at hk
    exact Nat.lt_of_lt_of_le (K.lt k hk) hw.size)
 let O1:Nat→Lab:=λ k=>if v.ownBlock=some k then .tm 0 [] else S.O k
 let hh:Nat→List Nat→Option Lab:=λ n q=>if n=0 then some (.pl d []) else none
 have L2:=Gb (Th S w' O1) hh d (.one (.own e r' xs)) v
 have hlab:∀ k∈v.ownBlock.toList++b2,(Lu (Th S w' O1) hh d (.one (.own e r' xs)) v).O k = .pl d []:=λ k hk=>by
  have h1:∃ q,O1 k = .tm 0 q:=by
   rcases List.mem_append.1 hk with hk|hk
   ·refine ⟨[],if_pos ?_⟩
    cases hvb:v.ownBlock with
    |none=>rw [hvb] at hk; simp at hk
    |some j=>rw [hvb] at hk; simp at hk; rw [hk]
   ·obtain ⟨q,hq⟩:=hb k hk
    exact ⟨q,(if_neg (hb2 k hk).2).trans hq⟩
  obtain ⟨q,hq⟩:=h1
  exact Jw (h:=hh) hq (by simp [hh])
 have hown1:F7 X.P (Lu (Th S w' O1) hh d (.one (.own e r' xs)) v).O w' (.pl d []) e r' xs v:=by
  refine ⟨v.ownBlock.toList++b2,⟨v,cs,b2,rfl,hsz,hown,hrows.mono (λ x c b hbb h=>Ty.dep_mono (λ k hk=>(L2.fz k (L1.fz k hk).1).1) (λ k hk=>(L1.fz k hk).2) r' x c b (λ k hk=>?_) h),rfl⟩,?_,hlab⟩
  ·have hk2:=hbb k hk
   obtain ⟨q,hq⟩:=hb k hk2
   exact hw.block k (K.lt k (by rw [hq]; simp)) (λ e=>(hb2 k hk2).1 e.symm)
  ·rw [List.nodup_append]
   refine ⟨by cases v.ownBlock<;>simp,hn,λ k hk k' hk' e=>?_⟩
   subst e
   cases hvb:v.ownBlock with
   |none=>rw [hvb] at hk; simp at hk
   |some j=>
    rw [hvb] at hk
    simp at hk
    exact (hb2 k hk').2 (by rw [hvb,hk])
 have K2:=K1.put hd hh (by intro n q p hp; simp only [hh] at hp; split at hp<;>first|(cases hp; exact ⟨[],rfl⟩)|cases hp) (.one (.own e r' xs)) v hown1
 refine ⟨_,K2,rfl,?_⟩
 show upd S.g d _=_
 rw [A7,← hg]
 rfl
theorem H8a (K:Ah X S a) {A1:Ab} (hg:S.g=get A1) {d:Nat} (hd:d<X.nt) {w':World} {row:Option Nat} {e:TypeId} {r':Ty} {xs:List r'.den} {v:Value} {cs:List Value} (hno:Js r'=true) (hw:S.w.grownBy w' row) (hrow:∀ k,row=some k→∃ n q,S.O k = .tm n q)
  (hsz:T9 X.P e r'.sz) (hown:w'.ownsRow 0 e r'.sz v xs.length cs) (hrows:Rows (λ x c=>r'.rep X.P (λ k=>S.O k = .fz) S.w x c) xs cs) (hv:∀ k,v.ownBlock=some k→row=some k∨S.w.heap.size≤k):
  ∃ S',Ah X S' (a.put (some d) v)∧S'.w=w'∧S'.g=get (ups A1 [⟨d,false,.one (.own e r' xs)⟩]):=
 Ri K hg hd hw hrow hsz hown ((Dp.flat (λ x c b=>Ty.dep_flat r' x c b hno)).2 ⟨hrows,rfl⟩) (by simp) (by simp) (by simp) hv
theorem P4:∀ (t t':Ty),Pb t t'=true→Ej t=Ej t'
 |.i k,.i k',h=>by simp [Pb] at h; subst h; rfl
 |.b,.b,_=>rfl
 |.s,.s,_=>rfl
 |.sl _ _,.sl _ _,_=>rfl
 |.sl _ _,.ow _ _,_=>rfl
 |.ow _ _,.sl _ _,_=>rfl
 |.ow _ _,.ow _ _,_=>rfl
 |.pr x y,.pr x' y',h=>by
  simp only [Pb,Bool.and_eq_true] at h
  show Ej x++Ej y=_
  rw [P4 x x' h.1,P4 y y' h.2]
  rfl
 |.i _,.b,h | .i _,.s,h | .i _,.sl _ _,h | .i _,.ow _ _,h | .i _,.pr _ _,h=>by simp [Pb] at h
 |.b,.i _,h | .b,.s,h | .b,.sl _ _,h | .b,.ow _ _,h | .b,.pr _ _,h=>by simp [Pb] at h
 |.s,.i _,h | .s,.b,h | .s,.sl _ _,h | .s,.ow _ _,h | .s,.pr _ _,h=>by simp [Pb] at h
 |.sl _ _,.i _,h | .sl _ _,.b,h | .sl _ _,.s,h | .sl _ _,.pr _ _,h=>by simp [Pb] at h
 |.ow _ _,.i _,h | .ow _ _,.b,h | .ow _ _,.s,h | .ow _ _,.pr _ _,h=>by simp [Pb] at h
 |.pr _ _,.i _,h | .pr _ _,.b,h | .pr _ _,.s,h | .pr _ _,.sl _ _,h | .pr _ _,.ow _ _,h=>by simp [Pb] at h
theorem V6 {P:Program} {G:Nat→Prop} {w:World}:∀ (t:Ty),szB P t=true→t.rep P G w t.dflt (Ej t)
 |.i _,_=>rfl
 |.b,_=>rfl
 |.s,_=>rfl
 |.sl e r,h=>by
  simp only [szB,Bool.and_eq_true,beq_iff_eq] at h
  exact ⟨_,rfl,h.1,none,0,[],rfl,Nat.le_refl _,rfl,λ h=>absurd rfl h⟩
 |.ow e r,h=>by
  simp only [szB,Bool.and_eq_true,beq_iff_eq] at h
  exact ⟨_,rfl,h.1,none,0,[],rfl,Nat.le_refl _,rfl,λ h=>absurd rfl h⟩
 |.pr x y,h=>by
  simp only [szB,Bool.and_eq_true] at h
  exact ⟨_,_,rfl,V6 x h.1,V6 y h.2⟩
theorem Oa:∀ t:Ty,Ej (shp t)=Ej t
 |.i _=>rfl
 |.b=>rfl
 |.s=>rfl
 |.sl _ _=>rfl
 |.ow _ _=>rfl
 |.pr x y=>by show Ej (shp x)++Ej (shp y)=Ej x++Ej y; rw [Oa x,Oa y]
theorem Qg {P:Program}:∀ t:Ty,szB P (shp t)=szB P t
 |.i _=>rfl
 |.b=>rfl
 |.s=>rfl
 |.sl e r=>by show (_&&szB P (shp r))=(_&&szB P r); rw [Qg r,Ld r]
 |.ow e r=>by show (_&&szB P (shp r))=(_&&szB P r); rw [Qg r,Ld r]
 |.pr x y=>by show (szB P (shp x)&&szB P (shp y))=_; rw [Qg x,Qg y]; rfl
theorem V7 {P:Program} {G:Nat→Prop} {w:World}:∀ (t:Ty),szB P t=true→t.dep P G w t.dflt (Ej t) []
 |.i _,_=>⟨rfl,rfl⟩
 |.b,_=>⟨rfl,rfl⟩
 |.s,_=>⟨rfl,rfl⟩
 |.sl e r,h=>⟨V6 (.sl e r) h,rfl⟩
 |.ow e r,h=>by
  simp only [szB,Bool.and_eq_true,beq_iff_eq] at h
  exact ⟨_,[],[],rfl,h.1,World.ownsRow_nil _ _ _ _,⟨rfl,rfl⟩,rfl⟩
 |.pr x y,h=>by
  simp only [szB,Bool.and_eq_true] at h
  exact ⟨_,_,[],[],rfl,rfl,V7 x h.1,V7 y h.2⟩
theorem Dp.replicate {α:Type} {R:α→List Value→List Nat→Prop} {x:α} {c:List Value} (h:R x c []):∀ n,Dp R (List.replicate n x) (List.replicate n c).flatten []
 |0=>by simp [Dp]
 |n+1=>⟨c,_,[],[],by simp [List.replicate_succ],rfl,h,Dp.replicate h n⟩
theorem H9a (l:List Value) (hl:0<l.length):∀ n,(madeCells l.toArray (n * l.length)).toList=(List.replicate n l).flatten:=by
 have key:∀ n,(List.range (n * l.length)).map (λ j=>l.toArray[j % l.toArray.size]!)=(List.replicate n l).flatten:=by
  intro n
  induction n with
  |zero=>simp
  |succ n ih=>
   rw [Nat.add_mul,Nat.one_mul,Nat.add_comm,List.range_add,List.map_append,List.map_map,List.replicate_succ,List.flatten_cons,← ih]
   congr 1
   ·apply List.ext_getElem
    ·simp
    ·intro i h1 h2
     simp at h1
     simp [Nat.mod_eq_of_lt h1,h1]
   ·apply List.map_congr_left
    intro j _
    simp
 intro n
 rw [← key n]
 simp [madeCells]
theorem Y6 (hE:Ks X E) (K:Ah X S a) (hg:S.g=get A) {T:TypeId} {x y:Operand} {d:Nat} (ho:o.op = .makeSlice T x y) (hod:o.dst=some d) (hd:d<X.nt) (h:Ac E o A Kc=some r):Ja X o a S.w A Kc r:=by
 unfold Ac at h
 rw [ho,hod] at h
 simp only at h
 split at h
 ·rename_i e r' by_ fo n m hT hx hy
  have ex:=(M7 hE K hg hx).1
  have ey:=(M7 hE K hg hy).1
  split at h
  ·rename_i te hte
   cases hq:(Pb te.ty r'&&decide (n=m)) with
   |false=>rw [hq] at h; simp at h
   |true=>
    rw [hq,cond_true] at h
    simp only [Bool.and_eq_true,decide_eq_true_eq] at hq
    obtain ⟨hz,rfl⟩:=hq
    by_cases h0:0≤n
    ·by_cases hb:n * te.by_≤140737488355328
     ·simp only [h0,hb,decide_true,cond_true] at h
      have hTk:=hE.ti _ _ hT
      have hek:=hE.ti _ _ hte
      have hu:X.P.underlying T=some (.slice e):=by
       have:=hTk.desc
       unfold Qc at this
       split at this<;>simp_all
      have hszs:=hTk.sz
      simp only [szB,Bool.and_eq_true,beq_iff_eq] at hszs
      obtain ⟨i,i1,i2,i3,i4,i5⟩:=hek.info
      obtain ⟨z,z1,z2,z3⟩:=Pp (w:=S.w) hek
      have iz:i.zero=some z:=by
       simp only [zeroValue,typeInfo,Sem.run_bind,run_program,Result.andThen_ok,i1,Sem.run_pure] at z1
       rw [i4] at z1 ⊢
       simp only [Sem.run_pure,Result.ok.injEq,and_true] at z1
       rw [z1]
      have hsame:=P4 _ _ hz
      have hsz1:i.size=r'.sz:=by
       have:=hszs.1
       rw [i1] at this
       simpa using this
      have hb1:(i.bytes:Int) * n≤281474976710656:=by rw [i3,Int.mul_comm]; omega
      have h63:n≤140737488355328:=by
       have h1:(1:Int)≤te.by_:=by have:=hek.by0; omega
       have:=Int.mul_le_mul_of_nonneg_left h1 h0
       rw [Int.mul_one] at this
       omega
      have hr:=run_make (P:=X.P) S.w T e i z hu i1 iz .i64 .i64 n n h0 (Int.le_refl _) hb1 (by omega)
      have key:∀ r2:Ty,shp r2=shp r'→Kc [⟨d,false,.one (.own e r2 (List.replicate n.toNat r2.dflt))⟩]=some r→Ja X o a S.w A Kc r:=by
       intro r2 hs2 hk
       have hsz2:r2.sz=r'.sz:=by rw [← Ld r2,hs2,Ld r']
       have hzc2:Ej r2=Ej r':=by rw [← Oa r2,hs2,Oa r']
       have hszb2:szB X.P r2=true:=by rw [← Qg r2,hs2,Qg r']; exact hszs.2
       have hcl:(Ej r2).length=r2.sz:=Mi r2
       have hflat:(madeCells z.cells (n.toNat * i.size)).toList=(List.replicate n.toNat (Ej r2)).flatten:=by
        rw [z2,hsame,hsz1,← hzc2,← hsz2,← hcl]
        exact H9a _ (by rw [hcl]; exact Nb r2) _
       obtain ⟨S',K',w',g'⟩:=Ri K hg hd (w':=S.w.alloc (.cells (madeCells z.cells (n.toNat * i.size)) e)) (row:=none) (e:=e) (r':=r2) (xs:=List.replicate n.toNat r2.dflt) (v := .slice (some ⟨S.w.heap.size,0,none⟩) n.toNat n.toNat)
        (cs:=(madeCells z.cells (n.toNat * i.size)).toList) (b2:=[]) (World.grownBy_alloc _ _ _) (by simp) (by rw [hsz2]; exact hszs.1)
        (by rw [List.length_replicate]; exact World.ownsRow_lit S.w _ n.toNat (Nat.zero_le _) (by simp only [maxLen]; omega) (by rw [size_madeCells,hsz1,hsz2]))
        (by rw [hflat]; exact Dp.replicate (V7 r2 hszb2) _) (by simp) (by simp) (by simp) (by
         intro k hk
         simp only [Value.ownBlock,Option.some.injEq] at hk
         exact .inr (Nat.le_of_eq hk))
       refine ⟨_,hk,A8 (S:=S') (v := .slice (some ⟨S.w.heap.size,0,none⟩) n.toNat n.toNat) ?_ (by rw [hod]; exact K') g'⟩
       rw [w']
       unfold execOp
       simp [ho,ex,ey,hr]
      split at h
      ·exact key r' rfl h
      ·rename_i r2 _
       by_cases hs2:shp r2=shp r'
       ·simp only [hs2,decide_true,cond_true] at h
        exact key r2 hs2 h
       ·simp [hs2] at h
     ·simp [h0,hb] at h
    ·simp [h0] at h
  ·cases h
 ·cases h
theorem D1a (hE:Ks X E) {e:TypeId} {r':Ty} (N:Nat):∀ (ps:List (Nat×Operand)) {S:Sit} {A:Ab} {i:Nat} {ys:List r'.den} {us':List Up} {zs:List r'.den} {cs:List Value},Ah X S a→S.g=get A→Xh E A e r' i ps=some (ys,us')→zs.length=i→
  Rows (λ x c=>r'.rep X.P (λ k=>S.O k = .fz) S.w x c) zs (cs.take (i * r'.sz))→cs.length=N * r'.sz→i+ps.length≤N→
  ∃ S',∃ cs':List Value,Ah X S' a∧S'.g=get (ups A us')∧S'.w=S.w∧ys.length=ps.length∧cs'.length=N * r'.sz∧Rows (λ x c=>r'.rep X.P (λ k=>S'.O k = .fz) S'.w x c) (zs++ys) (cs'.take ((i+ps.length) * r'.sz))∧
   Instr.fill (λ j=>some (j * r'.sz,r'.sz)) cs.toArray (ps.map λ p=>(p.1,a.eval p.2))=some cs'.toArray
 |[],S,A,i,ys,us',zs,cs,K,hg,h,hi,hz,hcl,hN=>by
  simp only [Xh,Option.some.injEq,Prod.mk.injEq] at h
  obtain ⟨rfl,rfl⟩:=h
  exact ⟨S,cs,K,hg,rfl,rfl,hcl,by simpa using hz,rfl⟩
 |(j,x)::ps,S,A,i,ys,us',zs,cs,K,hg,h,hi,hz,hcl,hN=>by
  simp only [Xh] at h
  cases hb:Nat.beq i j with
  |false=>rw [hb] at h; simp at h
  |true=>
   rw [hb,cond_true] at h
   have hij:i=j:=Nat.eq_of_beq_eq_true hb
   subst hij
   split at h
   ·rename_i s hs
    cases hst:A3 ((parts s).map (Jy A)) with
    |false=>rw [hst] at h; simp at h
    |true=>
     rw [hst,cond_true] at h
     split at h
     ·rename_i y hy
      split at h
      ·rename_i ys1 us1 hrec
       simp only [Option.some.injEq,Prod.mk.injEq] at h
       obtain ⟨rfl,rfl⟩:=h
       have hnt:∀ vs,s ≠ .tup vs:=by
        intro vs e1
        subst e1
        have:∀ t:Ty,mkT t []=none:=by intro t; induction t<;>simp_all [mkT]
        simp [parts,mkW,this] at hy
       obtain ⟨S1,K1,g1,w1,b1,p1,L1,x1,heads,tms,us,hsh,hls⟩:=Gva hE K hg hs hnt 0
       obtain ⟨K2,L2⟩:=K1.names (Cya 0) (by intro n q; unfold Cya; split<;>simp)
       have hrep:=Pm hst hls
       rw [List.map_map] at hrep
       have hyr:=Ru hy hrep
       have hul:=Ty.rep_len _ _ _ hyr
       have hone:=Np hst hls
       have hle:i * r'.sz+r'.sz≤cs.length:=by
        rw [hcl]
        have:=Nat.mul_le_mul_right r'.sz (show i+1≤N by simp only [List.length_cons] at hN; omega)
        rw [Nat.add_mul,Nat.one_mul] at this
        exact this
       have hz2:Rows (λ x c=>r'.rep X.P (λ k=>({ S1 with O:=atO S1.O (Cya 0) }:Sit).O k = .fz) ({ S1 with O:=atO S1.O (Cya 0) }:Sit).w x c) (zs++[y]) ((cs.take (i * r'.sz)++us++cs.drop (i * r'.sz+r'.sz)).take ((i+1) * r'.sz)):=by
        have e1:(cs.take (i * r'.sz)++us++cs.drop (i * r'.sz+r'.sz)).take ((i+1) * r'.sz)=cs.take (i * r'.sz)++us:=by
         rw [List.take_left' (by rw [List.length_append,List.length_take,hul,Nat.add_mul,Nat.one_mul]; omega)]
        rw [e1]
        refine Rows.append (hz.mono (λ x c=>Ty.rep_mono (λ k hk=>(L2.fz k (L1.fz k hk).1).1) (λ k hk=>by show S1.w.heap[k]? = _; rw [w1]) r' x c)) ⟨us,[],by simp,hyr,rfl⟩
       obtain ⟨S',cs',K',g',w',l1,l2,l3,hf⟩:=D1a hE N ps K2 (by show S1.g=_; exact g1) hrec (by simp [hi]) hz2 (by
        simp only [List.length_append,List.length_take,List.length_drop,hul]; omega) (by simp only [List.length_cons] at hN; omega)
       refine ⟨S',cs',K',by rw [Af]; exact g',w'.trans w1,by simp [l1],l2,?_,?_⟩
       ·rw [List.append_assoc,List.singleton_append] at l3
        rw [List.length_cons,show i+(ps.length+1)=i+1+ps.length by omega]
        exact l3
       ·rw [List.map_cons,Pr (us:=us) (off:=i * r'.sz) (z:=r'.sz) rfl (Jj hsh hnt hone) hul (by simpa using hle)]
        exact hf
      ·cases h
     ·cases h
   ·cases h
theorem D2a (hE:Ks X E) {e:TypeId} {r':Ty} (N:Nat) (hall:Eu r'=true):∀ (ps:List (Nat×Operand)) {S:Sit} {A:Ab} {i:Nat} {ys:List r'.den} {us':List Up} {zs:List r'.den} {cs:List Value} {bz:List Nat},Ah X S a→S.g=get A→Xi E A e r' i ps=some (ys,us')→zs.length=i→
  Dp (λ x c b=>r'.dep X.P (λ k=>S.O k = .fz) S.w x c b) zs (cs.take (i * r'.sz)) bz→bz.Nodup→(∀ k∈bz,∃ n q,1000≤n∧n<1000+i∧S.O k = .tm n q)→cs.length=N * r'.sz→i+ps.length≤N→
  ∃ S',∃ cs':List Value,∃ b2,Ah X S' a∧S'.g=get (ups A us')∧S'.w=S.w∧ys.length=ps.length∧cs'.length=N * r'.sz∧Dp (λ x c b=>r'.dep X.P (λ k=>S'.O k = .fz) S'.w x c b) (zs++ys) (cs'.take ((i+ps.length) * r'.sz)) b2∧
   b2.Nodup∧(∀ k∈b2,∃ n q,1000≤n∧n<1000+(i+ps.length)∧S'.O k = .tm n q)∧Instr.fill (λ j=>some (j * r'.sz,r'.sz)) cs.toArray (ps.map λ p=>(p.1,a.eval p.2))=some cs'.toArray
 |[],S,A,i,ys,us',zs,cs,bz,K,hg,h,hi,hz,hbn,hbl,hcl,hN=>by
  simp only [Xi,Option.some.injEq,Prod.mk.injEq] at h
  obtain ⟨rfl,rfl⟩:=h
  exact ⟨S,cs,bz,K,hg,rfl,rfl,hcl,by simpa using hz,hbn,by simpa using hbl,rfl⟩
 |(j,x)::ps,S,A,i,ys,us',zs,cs,bz,K,hg,h,hi,hz,hbn,hbl,hcl,hN=>by
  simp only [Xi] at h
  cases hb:Nat.beq i j with
  |false=>rw [hb] at h; simp at h
  |true=>
   rw [hb,cond_true] at h
   have hij:i=j:=Nat.eq_of_beq_eq_true hb
   subst hij
   split at h
   ·rename_i s hs
    split at h
    ·rename_i m us0 hgive
     cases hst:Nc m with
     |false=>rw [hst] at h; simp at h
     |true=>
      rw [hst,cond_true] at h
      split at h
      ·rename_i y hy
       split at h
       ·rename_i ys1 us1 hrec
        simp only [Option.some.injEq,Prod.mk.injEq] at h
        obtain ⟨rfl,rfl⟩:=h
        have hnt:∀ vs,s ≠ .tup vs:=by
         intro vs e1
         subst e1
         have h1:∀ t:Ty,mkT t []=none:=by intro t; induction t<;>simp_all [mkT]
         have h2:=Rf hgive
         have:m=[]:=List.eq_nil_of_length_eq_zero (by simpa [parts] using h2)
         subst this
         simp [mkW,h1] at hy
        obtain ⟨S1,K1,g1,G1,us,hsh,hls⟩:=H0a hE K hg hs hnt hgive (1000+i)
        obtain ⟨mb,m1,m2,m3⟩:=O8 hst hls (H1a hnt (Rf hgive))
        have hyr:=V4 hall hy m1
        have hul:=Ty.dep_len _ _ _ _ hyr
        have hone:=Np (Ma hst) hls
        have hle:i * r'.sz+r'.sz≤cs.length:=by
         rw [hcl]
         have:=Nat.mul_le_mul_right r'.sz (show i+1≤N by simp only [List.length_cons] at hN; omega)
         rw [Nat.add_mul,Nat.one_mul] at this
         exact this
        have hbl1:∀ k∈bz,∃ n q,1000≤n∧n<1000+i∧S1.O k = .tm n q:=λ k hk=>by
         obtain ⟨n,q,h1,h2,h3⟩:=hbl k hk
         exact ⟨n,q,h1,h2,G1.tm n q k h3⟩
        have hz1:Dp (λ x c b=>r'.dep X.P (λ k=>S1.O k = .fz) S1.w x c b) zs (cs.take (i * r'.sz)) bz:=hz.mono (λ x c b _ h=>Ty.dep_mono (λ k hk=>(G1.later.fz k hk).1) (λ k _=>by rw [G1.w]) r' x c b (λ k _=>by rw [G1.w]) h)
        have hz2:Dp (λ x c b=>r'.dep X.P (λ k=>S1.O k = .fz) S1.w x c b) (zs++[y]) ((cs.take (i * r'.sz)++us++cs.drop (i * r'.sz+r'.sz)).take ((i+1) * r'.sz)) (bz++mb):=by
         have e1:(cs.take (i * r'.sz)++us++cs.drop (i * r'.sz+r'.sz)).take ((i+1) * r'.sz)=cs.take (i * r'.sz)++us:=by
          rw [List.take_left' (by rw [List.length_append,List.length_take,hul,Nat.add_mul,Nat.one_mul]; omega)]
         rw [e1]
         exact hz1.append ⟨us,[],mb,[],by simp,by simp,hyr,rfl,rfl⟩
        have hbn2:(bz++mb).Nodup:=by
         rw [List.nodup_append]
         refine ⟨hbn,m2,λ k hk k' hk' e=>?_⟩
         subst e
         obtain ⟨n,q,_,h2,h3⟩:=hbl1 k hk
         obtain ⟨n',_,_,h4⟩:=m3 k hk'
         rw [h3] at h4
         cases h4
         omega
        have hbl2:∀ k∈bz++mb,∃ n q,1000≤n∧n<1000+(i+1)∧S1.O k = .tm n q:=λ k hk=>by
         rcases List.mem_append.1 hk with hk|hk
         ·obtain ⟨n,q,h1,h2,h3⟩:=hbl1 k hk
          exact ⟨n,q,h1,by omega,h3⟩
         ·obtain ⟨n',_,_,h4⟩:=m3 k hk
          exact ⟨_,_,by omega,by omega,h4⟩
        obtain ⟨S',cs',b2,K',g',w',l1,l2,l3,l4,l5,hf⟩:=D2a hE N hall ps K1 g1 hrec (by simp [hi]) hz2 hbn2 hbl2 (by
         simp only [List.length_append,List.length_take,List.length_drop,hul]; omega) (by simp only [List.length_cons] at hN; omega)
        refine ⟨S',cs',b2,K',by rw [Af]; exact g',w'.trans G1.w,by simp [l1],l2,?_,l4,?_,?_⟩
        ·rw [List.append_assoc,List.singleton_append] at l3
         rw [List.length_cons,show i+(ps.length+1)=i+1+ps.length by omega]
         exact l3
        ·rw [List.length_cons,show i+(ps.length+1)=i+1+ps.length by omega]
         exact l5
        ·rw [List.map_cons,Pr (us:=us) (off:=i * r'.sz) (z:=r'.sz) rfl (Jj hsh hnt hone) hul (by simpa using hle)]
         exact hf
       ·cases h
      ·cases h
    ·cases h
   ·cases h
theorem V8 (hE:Ks X E) (K:Ah X S a) (hg:S.g=get A) {T:TypeId} {n d:Nat} {ps:Array (Nat×Operand)} (ho:o.op = .buildSlice T n ps) (hod:o.dst=some d) (hd:d<X.nt) (h:Ac E o A Kc=some r):Ja X o a S.w A Kc r:=by
 unfold Ac at h
 rw [ho,hod] at h
 simp only at h
 split at h
 ·rename_i e r' by_ fo hT
  cases hq:(Nat.beq n ps.size&&Nat.ble (n * r'.sz) 16777216&&(E.ti e).isSome) with
  |false=>rw [hq] at h; simp at h
  |true=>
   rw [hq,cond_true] at h
   simp only [Bool.and_eq_true] at hq
   have hn:n=ps.size:=Nat.eq_of_beq_eq_true hq.1.1
   have hle:n * r'.sz≤16777216:=Nat.le_of_ble_eq_true hq.1.2
   obtain ⟨te,hte⟩:=Option.isSome_iff_exists.1 hq.2
   have hTk:=hE.ti _ _ hT
   have hek:=hE.ti _ _ hte
   have hu:X.P.underlying T=some (.slice e):=by
    have:=hTk.desc
    unfold Qc at this
    split at this<;>simp_all
   have hszs:=hTk.sz
   simp only [szB,Bool.and_eq_true,beq_iff_eq] at hszs
   obtain ⟨z,z1,z2,z3⟩:=Pp (w:=S.w) hek
   have hps:ps.toList.length=n:=by rw [hn]; simp
   have fin:∀ {r2:Ty} {ys:List r2.den} {us:List Up},r2.sz=r'.sz→Kc (us++[⟨d,false,.one (.own e r2 ys)⟩])=some r→
     (∀ cs:List Value,cs.length=n * r2.sz→∃ (S1:Sit) (cs':List Value) (b2:List Nat),Ah X S1 a∧S1.g=get (ups A us)∧S1.w=S.w∧ys.length=n∧cs'.length=n * r2.sz∧Dp (λ x c b=>r2.dep X.P (λ k=>S1.O k = .fz) S1.w x c b) ys cs' b2∧
      b2.Nodup∧(∀ k∈b2,∃ q,S1.O k = .tm 0 q)∧Instr.fill (λ j=>some (j * r2.sz,r2.sz)) cs.toArray (ps.toList.map λ p=>(p.1,a.eval p.2))=some cs'.toArray)→Ja X o a S.w A Kc r:=by
    intro r2 ys us hsz2 hk hrows
    rw [← hsz2] at hle hszs
    have run:∀ zero:Array Value,((if n * r2.sz=0 then pure #[] else do pure (← zeroValue e).cells:Sem (Array Value)).run X.P S.w = .ok zero S.w)→Ja X o a S.w A Kc r:=by
     intro zero hzero
     obtain ⟨S1,cs',b2,K1,g1,w1,l1,l2,l3,l4,l5,hf⟩:=hrows ((Array.range (n * r2.sz)).map (zero[· % zero.size]!)).toList (by simp)
     obtain ⟨S',K',w',g'⟩:=Ri K1 g1 hd (w':=S1.w.alloc (.cells cs'.toArray e)) (row:=none) (e:=e) (r':=r2) (xs:=ys) (v := .slice (some ⟨S1.w.heap.size,0,none⟩) n n)
      (cs:=cs'.toArray.toList) (World.grownBy_alloc _ _ _) (by simp) hszs.1
      (by rw [l1]; exact World.ownsRow_lit S1.w _ n (Nat.zero_le _) (by
       have h1:=Nb r2
       have h2:n * 1≤n * r2.sz:=Nat.mul_le_mul_left _ h1
       simp only [maxLen]; omega) (by simpa using l2))
      l3 l4 l5 (by
       intro k hk
       refine ⟨by simp,λ e1=>?_⟩
       simp only [Value.ownBlock,Option.some.injEq] at e1
       obtain ⟨q,hq⟩:=l5 k hk
       have:=K1.lt k (by rw [hq]; simp)
       omega) (by
       intro k hk
       simp only [Value.ownBlock,Option.some.injEq] at hk
       exact .inr (Nat.le_of_eq hk))
     rw [← Af] at g'
     refine ⟨_,hk,A8 (S:=S') (v := .slice (some ⟨S1.w.heap.size,0,none⟩) n n) ?_ (by rw [hod]; exact K') g'⟩
     rw [w',w1]
     unfold execOp
     simp only [ho,Sem.run_bind]
     unfold Instr.buildSlice
     simp only [Sem.run_bind,run_underlying hu,Result.andThen_ok,Ko hszs.1]
     rw [if_neg (by omega)]
     have e2:(ps.map λ x=>(x.1,a.eval x.2)).toList=ps.toList.map λ p=>(p.1,a.eval p.2):=by simp
     simp only [Array.toArray_toList] at hf
     by_cases hz0:n * r2.sz=0
     ·rw [if_pos hz0] at hzero ⊢
      simp only [Sem.run_pure,Result.ok.injEq,and_true] at hzero
      subst hzero
      simp only [Sem.run_bind,Sem.run_pure,Result.andThen_ok,e2,hf]
      simp [newRow]
     ·rw [if_neg hz0] at hzero ⊢
      simp only [Sem.run_bind,Sem.run_pure,z1,Result.andThen_ok,Result.ok.injEq,and_true] at hzero
      subst hzero
      simp only [Sem.run_bind,Sem.run_pure,z1,Result.andThen_ok,e2,hf]
      simp [newRow]
    by_cases hz:n * r2.sz=0
    ·exact run #[] (by rw [if_pos hz]; rfl)
    ·exact run z.cells (by rw [if_neg hz]; simp [z1])
   split at h
   ·cases hno:Js r' with
    |false=>rw [hno] at h; simp at h
    |true=>
     rw [hno,cond_true] at h
     split at h
     ·rename_i ys us hrows
      refine fin rfl h (λ cs hcs=>?_)
      obtain ⟨S1,cs',K1,g1,w1,l1,l2,l3,hf⟩:=D1a hE n ps.toList (zs:=[]) (cs:=cs) K hg hrows rfl (by simp [Rows]) hcs (by simp [hn])
      simp only [List.nil_append,Nat.zero_add] at l3
      rw [hps] at l1 l3
      rw [List.take_of_length_le (by omega)] at l3
      exact ⟨S1,cs',[],K1,g1,w1,l1,l2,(Dp.flat (λ x c b=>Ty.dep_flat r' x c b hno)).2 ⟨l3,rfl⟩,by simp,by simp,hf⟩
     ·cases h
   ·rename_i r2 _
    cases hq2:(decide (shp r2=shp r')&&Eu r2) with
    |false=>rw [hq2] at h; simp at h
    |true=>
     rw [hq2,cond_true] at h
     simp only [Bool.and_eq_true,decide_eq_true_eq] at hq2
     have hsz2:r2.sz=r'.sz:=by rw [← Ld r2,hq2.1,Ld r']
     split at h
     ·rename_i ys us hrows
      refine fin hsz2 h (λ cs hcs=>?_)
      obtain ⟨S1,cs',b2,K1,g1,w1,l1,l2,l3,l4,l5,hf⟩:=D2a hE n hq2.2 ps.toList (zs:=[]) (bz:=[]) (cs:=cs) K hg hrows rfl (by simp [Dp]) (by simp) (by simp) hcs (by simp [hn])
      simp only [List.nil_append,Nat.zero_add] at l3
      rw [hps] at l1 l3
      rw [List.take_of_length_le (by omega)] at l3
      obtain ⟨K2,L2⟩:=K1.names (λ n _=>if 1000≤n then some (.tm 0 []) else none) (by intro n q; split<;>simp)
      refine ⟨_,cs',b2,K2,g1,w1,l1,l2,l3.mono (λ x c b _ h=>Ty.dep_mono (λ k hk=>(L2.fz k hk).1) (λ _ _=>rfl) r2 x c b (λ _ _=>rfl) h),l4,λ k hk=>?_,hf⟩
      obtain ⟨m,q,m1,_,m2⟩:=l5 k hk
      exact ⟨[],Jw m2 (by simp [m1])⟩
     ·cases h
 ·cases h
end
end

section
attribute [local irreducible] C H
section
variable {X:Cx} {S S':Sit} {a:Act} {E:En} {A:Ab} {o:Oper} {R:Type} {Kc:List Up→Option R} {r:R}
theorem Oea {P:Program} {w:World} {t ty e:TypeId} {i:TypeInfo} {z:Value} {size:Nat} (ht:P.underlying t=some (.slice e)) (hi:P.info? e=some i) (hz:i.zero=some z)
  (hsize:i.size=size) {v:Value} {n:Nat} {xs:List Value} (hown:w.ownsRow 0 e size v n xs)
  {ad:Addr} {m c:Nat} {T8:List Value} (hl:T8.length=m * size) (hnews:∀ j u,T8[j]? = some u→w.cell? (ad.add j)=some u) (h1:∀ u∈T8,u.oneCell'=true)
  (h63:n+m≤maxLen) (hbytes:(n+m) * i.bytes≤140737488355328) {v':Value} {w':World} (hr:(Builtin.append_ #[t,t] ty #[v,.slice (some ad) m c]).run P w = .ok v' w')
  (hnil:v' = .slice none 0 0↔v = .slice none 0 0∧m=0):∀ k,v'.ownBlock=some k→v.ownBlock=some k∨w.heap.size≤k:=by
 subst hsize
 have hsmall:n+m≤9223372036854775807:=by simp only [maxLen] at h63; omega
 intro k hk
 rcases F6 hown with ⟨rfl,hn,rfl⟩|⟨k0,cap,cur,rfl,hg,hc1,hc2,hc3,hc4⟩
 ·by_cases hm:m=0
  ·rw [hnil.2 ⟨rfl,hm⟩] at hk
   simp [Value.ownBlock] at hk
  ·subst hn
   have h2:=run_append_nil (P:=P) w t ty e i z ht hi hz ad m c T8 hl hnews (by omega) (by omega) (by have hb:=hbytes; simp only [Nat.zero_add] at hb; omega)
   rw [h2] at hr
   cases hr
   simp only [Value.ownBlock,Option.some.injEq] at hk
   exact .inr (Nat.le_of_eq hk)
 ·by_cases hroom:n+m≤cap
  ·have hfit:n * i.size+T8.length≤cur.size:=by rw [hl,hc3,← Nat.add_mul]; exact Nat.mul_le_mul_right _ hroom
   have h2:=run_append_room (P:=P) w t ty e i ht hi k0 n cap cur hg ad m c T8 hl hnews h1 hroom hfit
   rw [h2] at hr
   cases hr
   exact .inl hk
  ·have holds:∀ j u,xs[j]? = some u→w.cell? ((⟨k0,0,none⟩:Addr).add j)=some u:=hown.cells (g:=k0) rfl
   have h2:=run_append_grow (P:=P) w t ty e i z ht hi hz ⟨k0,0,none⟩ n cap xs hown.1 holds ad m c T8 hl hnews (by omega) (by omega) (growslice_fits (by omega) hbytes)
   rw [h2] at hr
   cases hr
   simp only [Value.ownBlock,Option.some.injEq] at hk
   exact .inr (Nat.le_of_eq hk)
theorem Bba {P:Program} {w:World} {t u ty e:TypeId} {i:TypeInfo} (ht:P.underlying t=some (.slice e)) (hu:P.underlying u=some .string) (hi:P.info? e=some i) (hz:i.zero=some (.int .u8 0))
  (hsize:i.size=1) (hby:i.bytes=1) {v:Value} {n:Nat} {xs:List Value} (hown:w.ownsRow 0 e 1 v n xs) {s:ByteArray}
  (h63:n+s.size≤maxLen) (hbytes:n+s.size≤140737488355328) {v':Value} {w':World} (hr:(Builtin.append_ #[t,u] ty #[v,.string s]).run P w = .ok v' w')
  (hnil:v' = .slice none 0 0↔v = .slice none 0 0∧s.size=0):∀ k,v'.ownBlock=some k→v.ownBlock=some k∨w.heap.size≤k:=by
 have hsmall:n+s.size≤9223372036854775807:=by simp only [maxLen] at h63; omega
 intro k hk
 rcases F6 hown with ⟨rfl,hn,rfl⟩|⟨k0,cap,cur,rfl,hg,hc1,hc2,hc3,hc4⟩
 ·by_cases hm:s.size=0
  ·rw [hnil.2 ⟨rfl,hm⟩] at hk
   simp [Value.ownBlock] at hk
  ·subst hn
   have h2:=run_append_nil_string (P:=P) w t u ty e i _ ht hu hi hz s (by omega) (by omega) (by rw [hby]; omega)
   rw [h2] at hr
   cases hr
   simp only [Value.ownBlock,Option.some.injEq] at hk
   exact .inr (Nat.le_of_eq hk)
 ·by_cases hroom:n+s.size≤cap
  ·have h2:=Go.Lib.run_append_room_string (P:=P) w t u ty e i ht hu hi hsize k0 n cap cur hg s hroom (by rw [hc3]; omega)
   rw [h2] at hr
   cases hr
   exact .inl hk
  ·have holds:∀ j u,xs[j]? = some u→w.cell? ((⟨k0,0,none⟩:Addr).add j)=some u:=hown.cells (g:=k0) rfl
   have h2:=Go.Lib.run_append_grow_string (P:=P) w t u ty e i _ ht hu hi hz ⟨k0,0,none⟩ n cap xs (by rw [hsize]; exact hown.1) holds s (by omega) (by omega) (growslice_fits (by omega) (by rw [hby]; omega))
   rw [h2] at hr
   cases hr
   simp only [Value.ownBlock,Option.some.injEq] at hk
   exact .inr (Nat.le_of_eq hk)
theorem M1 {P:Program} {w w':World} {T T':TypeId} {x y:Operand} {c:Call} (ho:o.op = .call c) (hc:c.callee = .builtin .append) (hT:c.argTypes.toList=[T,T']) (hx:c.args.toList=[x,y]) {v:Value}
  (hr:(Builtin.append_ #[T,T'] o.type #[a.eval x,a.eval y]).run P w = .ok v w'):(execOp a.eval o).run P w = .ok (.value v) w':=by
 have e1:c.args = #[x,y]:=by rw [← hx]
 have e2:c.argTypes = #[T,T']:=by rw [← hT]
 unfold execOp
 simp [ho,resolve,hc,e1,e2,invoke,builtin,hr]
theorem D3a (hE:Ks X E) (K:Ah X S a) (hg:S.g=get A) {T:TypeId} {x:Operand} {u:Lf} {e:TypeId} {r':Ty} {xs:List r'.den} (hs:opT E T A x=some (.one u)) (hu:Ky A u = .own e r' xs):
  ∃ S1,Ah X S1 a∧S1.g=get (ups A (Asa u x))∧S1.w=S.w∧Es S S1∧F7 X.P S1.O S1.w (.tm 0 []) e r' xs (a.eval x)∧(∀ n q z v,Al X.P S (.tm n q) z v→Al X.P S1 (.tm n q) z v)∧S1.bb=S.bb∧S1.ph=S.ph∧(∀ b n,(S.g (H b)).2 = .one (.hd n)→S1.g (H b)=S.g (H b)):=by
 obtain ⟨l,hl⟩:=Ii hE K hg hs
 have hlf:Al X.P S (.pl l []) u (a.eval x):=hl
 by_cases hal:∃ p v,u = .al p v
 ·obtain ⟨p,v,rfl⟩:=hal
  obtain ⟨p',v',e1,hp⟩:=O5 hu (by intro e r xs h; cases h)
  cases e1
  obtain ⟨K1,g1,g2⟩:=On K p 0
  have he:a.eval x=S.ph p:=hlf.2 (by rw [hg,hp])
  refine ⟨_,K1,?_,rfl,Le S p 0,?_,g2,rfl,rfl,λ b n hn=>Ad _ _ (λ e1=>by rw [e1,hg,hp] at hn; cases hn)⟩
  ·show upd S.g p _=_
   rw [show Asa (.al p v) x=[⟨p,false,.one .dead⟩] from rfl,A7,← hg]
  ·have:=K.at_ p
   rw [hg,hp] at this
   rw [he]
   exact g1 [] (.own e r' xs) _ this
 ·have hne:∀ p v,u = .al p v→False:=λ p v h=>hal ⟨p,v,h⟩
  have hu':=Cqa hu hne
  subst hu'
  rcases Mf hE K hg hs with ⟨t,rfl,ht,hst,het,hok⟩|⟨hnt,y',ey,hy'⟩
  ·obtain ⟨K1,g1,g2⟩:=On K t 0
   refine ⟨_,K1,?_,rfl,Le S t 0,g1 [] (.own e r' xs) _ hok,g2,rfl,rfl,λ b n hn=>Ad _ _ (λ e1=>by rw [e1,← hst] at hn; cases hn)⟩
   show upd S.g t _=_
   rw [show Asa (.own e r' xs) (.tmp t)=[⟨t,false,.one .dead⟩] from rfl,A7,← hg]
  ·cases ey
   refine ⟨S,K,?_,rfl,.refl S,hy' (.tm 0 []),λ _ _ _ _ h=>h,rfl,rfl,λ _ _ _=>rfl⟩
   cases x<;>first|exact hg|exact absurd rfl (hnt _)
theorem N0a {lab:Lab} {e':TypeId} {r':Ty} {ys:List r'.den} {u:Value} (h:Al X.P S lab (.fz e' r' ys) u):
  ∃ ad cap cs,u = .slice ad ys.length cap∧Rows (λ x c=>r'.rep X.P (λ k=>S.O k = .fz) S.w x c) ys cs∧(ys≠[]→∃ k o,ad=some ⟨k,o,none⟩∧Ei S.w k o cs):=by
 obtain ⟨v,e1,_,ad,cap,cs,e2,_,hrows,hne⟩:=h
 cases e1
 refine ⟨ad,cap,cs,e2,hrows,λ hn=>?_⟩
 obtain ⟨k,o',e3,_,e4⟩:=hne hn
 exact ⟨k,o',e3,e4⟩
theorem Haa {lab:Lab} {e':TypeId} {r':Ty} {ys:List r'.den} {u:Value} (hno:Js r'=true) (h:F7 X.P S.O S.w lab e' r' ys u):
  ∃ ad cap cs,u = .slice ad ys.length cap∧Rows (λ x c=>r'.rep X.P (λ k=>S.O k = .fz) S.w x c) ys cs∧(ys≠[]→∃ k o,ad=some ⟨k,o,none⟩∧Ei S.w k o cs):=by
 obtain ⟨_,cs,hrow,hrows,_⟩:=(F7.flat hno).1 h
 rcases F6 hrow with ⟨e1,e2,rfl⟩|⟨k,cap,cur,e1,hc,_,_,_,ht⟩
 ·refine ⟨none,0,[],by rw [e1,e2],hrows,λ hn=>absurd (List.eq_nil_of_length_eq_zero e2) hn⟩
 ·exact ⟨_,cap,cs,e1,hrows,λ _=>⟨k,0,rfl,K5 hc ht⟩⟩
theorem N1a {p v:Nat} {pi:Option (List (Int×Nat))} {e':TypeId} {r':Ty} {ys:List r'.den} {u:Value} (hno:Js r'=true) (hv:(S.g p).1=v) (h:G6a X.P S p v pi e' r' ys u):
  ∃ ad cap cs,u = .slice ad ys.length cap∧Rows (λ x c=>r'.rep X.P (λ k=>S.O k = .fz) S.w x c) ys cs∧(ys≠[]→∃ k o,ad=some ⟨k,o,none⟩∧Ei S.w k o cs):=by
 obtain ⟨_,_,h2⟩:=h
 obtain ⟨_,⟨_,ad,cap,cs,bs,e1,_,hrows,_,hne⟩,_⟩:=h2 hv
 refine ⟨ad,cap,cs,e1,((Dp.flat (λ x c b=>Ty.dep_flat r' x c b hno)).1 hrows).1,λ hn=>?_⟩
 obtain ⟨k,o',e3,_,e4⟩:=hne hn
 exact ⟨k,o',e3,e4⟩
theorem Qga (K:Ah X S a) (hg:S.g=get A) {lab:Lab} {x:Lf} {e':TypeId} {r':Ty} {ys:List r'.den} {u:Value} (h:Al X.P S lab x u) (hs:Ara A x=some ⟨e',r',ys⟩):
  ∃ ad cap cs,u = .slice ad ys.length cap∧Rows (λ x c=>r'.rep X.P (λ k=>S.O k = .fz) S.w x c) ys cs∧(ys≠[]→∃ k o,ad=some ⟨k,o,none⟩∧Ei S.w k o cs):=by
 unfold Ara at hs
 split at hs
 ·rename_i p v pi e r xs
  cases hq:(Nat.beq (get A p).1 v&&Js r) with
  |false=>rw [hq] at hs; simp at hs
  |true=>
   rw [hq] at hs
   simp only [cond_true,Option.some.injEq,Sl.mk.injEq] at hs
   obtain ⟨rfl,rfl,h3⟩:=hs
   cases h3
   simp only [Bool.and_eq_true] at hq
   exact N1a hq.2 (by rw [hg]; exact Nat.eq_of_beq_eq_true hq.1) h
 ·obtain ⟨lab',h'⟩:=Oy K hg h
  split at hs
  ·rename_i e r xs hsn
   rw [hsn] at h'
   simp only [Option.some.injEq,Sl.mk.injEq] at hs
   obtain ⟨rfl,rfl,h3⟩:=hs
   cases h3
   exact N0a h'
  ·rename_i e r xs hsn
   rw [hsn] at h'
   cases hq:Js r with
   |false=>rw [hq] at hs; simp at hs
   |true=>
    rw [hq] at hs
    simp only [cond_true,Option.some.injEq,Sl.mk.injEq] at hs
    obtain ⟨rfl,rfl,h3⟩:=hs
    cases h3
    exact Haa hq h'
  ·cases hs
theorem D4a {P:Program} {T:TypeId} {t:TI} (w:World) (h:TOk P T t):∃ i z,P.info? T=some i∧i.zero=some z∧i.size=t.ty.sz∧i.bytes=t.by_∧z.cells=(Ej t.ty).toArray∧(t.ag=false→Ej t.ty=[z]):=by
 obtain ⟨i,i1,i2,i3,i4,i5⟩:=h.info
 obtain ⟨z,z1,z2,z3⟩:=Pp (w:=w) h
 have iz:i.zero=some z:=by
  simp only [zeroValue,typeInfo,Sem.run_bind,run_program,Result.andThen_ok,i1,Sem.run_pure] at z1
  rw [i4] at z1 ⊢
  simp only [Sem.run_pure,Result.ok.injEq,and_true] at z1
  rw [z1]
 exact ⟨i,z,i1,iz,i2,i3,z2,λ ha=>by rw [ha] at z3; simpa using z3⟩
theorem Qh {P:Program} {G:Nat→Prop} {w:World}:∀ l:List UInt8,Rows (λ x c=>Ty.rep P G w (.i .u8) x c) (l.map λ b=>(b.toNat:Int)) (l.map λ b=>Value.int .u8 b.toNat)
 |[]=>rfl
 |b::l=>⟨[_],_,rfl,rfl,Qh l⟩
theorem Hba {P:Program} {w:World} {T ty e:TypeId} {te:TI} {sz:Nat} (hu:P.underlying T=some (.slice e)) (hek:TOk P e te) (hsz:T9 P e sz) {v u:Value} {n m cap:Nat} {cs ds:List Value} {ad:Option Addr} (hrow:w.ownsRow 0 e sz v n cs) (ev:u = .slice ad m cap)
  (hdl:ds.length=m * sz) (hdone:∀ u∈ds,u.oneCell'=true) (hne:m≠0→∃ k o,ad=some ⟨k,o,none⟩∧Ei w k o ds) (hle:(n+m) * te.by_≤140737488355328) (hpos:0<sz):
  ∃ v' w',(Builtin.append_ #[T,T] ty #[v,u]).run P w = .ok v' w'∧w'.ownsRow 0 e sz v' (n+m) (cs++ds)∧w.grownBy w' v.ownBlock∧∀ k,v'.ownBlock=some k→v.ownBlock=some k∨w.heap.size≤k:=by
 obtain ⟨i,z,i1,iz,i2,i3,z2,_⟩:=D4a w hek
 have hsize:i.size=sz:=by
  have:=hsz
  unfold T9 at this
  rw [i1] at this
  simpa using this
 have h63:n+m≤maxLen:=by
  have h1:=hek.by0
  have h2:(n+m) * 1≤(n+m) * te.by_:=Nat.mul_le_mul_left _ h1
  simp only [maxLen]; omega
 subst ev
 cases ad with
 |none=>
  have hm0:m=0:=by
   by_cases hm:m=0
   ·exact hm
   ·obtain ⟨k,o',e1,_⟩:=hne hm
    cases e1
  subst hm0
  have hd0:ds=[]:=List.eq_nil_of_length_eq_zero (by simpa using hdl)
  subst hd0
  have hcap:(Builtin.append_ #[T,T] ty #[v,.slice none 0 cap]).run P w = .ok v w:=by
   rcases F6 hrow with ⟨e1,_⟩|⟨k,cap',cur,e1,_,hle',_⟩
   ·rw [e1]; simp [Builtin.append_,run_underlying hu,sizeOf,typeInfo,i1,Builtin.lenOf,Builtin.firstCells]
   ·rw [e1]; simp [Builtin.append_,run_underlying hu,sizeOf,typeInfo,i1,Builtin.lenOf,Builtin.firstCells,hle',storeCells]
  refine ⟨_,_,hcap,by simpa using hrow,⟨rfl,rfl,rfl,Nat.le_refl _,λ _ _ _=>rfl⟩,λ k hk => .inl hk⟩
 |some ad=>
  have hnews:∀ j u,ds[j]? = some u→w.cell? (ad.add j)=some u:=by
   intro j u hj
   have hm:m≠0:=by
    intro e1
    subst e1
    have:ds=[]:=List.eq_nil_of_length_eq_zero (by simpa using hdl)
    subst this
    simp at hj
   obtain ⟨k,o',e1,e2⟩:=hne hm
   cases e1
   rw [Lv]
   exact e2 j u hj
  obtain ⟨v',w',hr,ho',hgr,hnil⟩:=run_append_own (P:=P) w 0 T ty e i z sz te.by_ hu i1 iz hsize i3 (by rw [z2,List.size_toArray,Mi,← i2,hsize]) hpos v n cs hrow ad m cap ds hdl hnews hdone h63 hle (Nat.zero_le _)
  exact ⟨v',w',hr,ho',hgr,Oea hu i1 iz hsize hrow hdl hnews hdone h63 (by rw [i3]; exact hle) hr hnil⟩
theorem Ofa {P:Program} {G:Nat→Prop} {w:World} (t:Ty) (x:t.den) (c:List Value) (b:List Nat) (h:t.dep P G w x c b):∀ u∈c,u.oneCell'=true:=
 V5 (G:=λ k=>G k∨k∈b) t x c (Ty.dep_rep (λ _ h => .inl h) t x c b (λ _ h => .inr h) h)
theorem Hca (hE:Ks X E) (K:Ah X S a) (hg:S.g=get A) {c:Call} (ho:o.op = .call c) (hc:c.callee = .builtin .append) (hd:∀ d,o.dst=some d→d<X.nt) (h:Ac E o A Kc=some r):Ja X o a S.w A Kc r:=by
 unfold Ac at h
 rw [ho] at h
 simp only [hc] at h
 split at h
 ·rename_i T T' x y d hT hx hod
  have hdl:=hd d hod
  split at h
  ·rename_i u w hsu hsw
   split at h
   ·rename_i e r' xs hsu'
    obtain ⟨S1,K1,g1,w1,L1,hown,tms,_⟩:=D3a hE K hg hsu hsu'
    split at h
    ·-- all that is in it is Nc
     rename_i r2 _
     split at h
     ·rename_i w2 hsw2
      split at h
      ·rename_i e' r3 ys xs2 te hsn hcx hte
       split at h
       ·rename_i ys2 hcy
        cases hq:(Eu r2&&Nat.beq e e'&&Ll E T e&&Nat.beq T T') with
        |false=>rw [hq] at h; simp at h
        |true=>
         rw [hq,cond_true] at h
         cases hq2:Nat.ble ((xs2.length+ys2.length) * te.by_) 140737488355328 with
         |false=>rw [hq2] at h; simp at h
         |true=>
          rw [hq2,cond_true] at h
          simp only [Bool.and_eq_true] at hq
          obtain ⟨⟨⟨q0,q1⟩,q2⟩,q3⟩:=hq
          have he:e=e':=Nat.eq_of_beq_eq_true q1
          have hTT:T=T':=Nat.eq_of_beq_eq_true q3
          subst he hTT
          have hle:(xs2.length+ys2.length) * te.by_≤140737488355328:=Nat.le_of_ble_eq_true hq2
          obtain ⟨K2,L2⟩:=K1.names (λ n _=>if n=0 then some (.tm 1 []) else none) (by intro n q; split<;>simp)
          have hown2:Al X.P { S1 with O:=atO S1.O (λ n _=>if n=0 then some (.tm 1 []) else none) } (.tm 1 []) (.own e r' xs) (a.eval x):=
           Al.later (P:=X.P) (x := .own e r' xs) (lab := .tm 0 []) (lab' := .tm 1 []) L2 hown (λ k hk=>⟨Jw hk (by simp),rfl⟩)
          obtain ⟨S3,K3,g3,w3,L3,hsrc,tms3,_⟩:=D3a hE K2 (by show S1.g=_; exact g1) hsw2 hsn
          have hown3:F7 X.P S3.O S3.w (.tm 1 []) e r' xs (a.eval x):=tms3 1 [] (.own e r' xs) _ hown2
          have hown4:=hown3.cast hcx
          have hsrc2:=hsrc.cast hcy
          obtain ⟨bx,⟨vx,cx,b1,ex,hszx,hrowx,hrowsx,ebx⟩,hnx,hbx⟩:=hown4
          obtain ⟨by_,⟨vy,cy,b2,ey,hszy,hrowy,hrowsy,eby⟩,hny,hby⟩:=hsrc2
          simp only [List.cons.injEq,and_true] at ex ey
          subst ex ey ebx eby
          have hu:=K6 q2 hE.ti
          have hek:=hE.ti _ _ hte
          have hshape:∃ ad cap,a.eval y = .slice ad ys2.length cap∧(ys2.length≠0→∃ k o,ad=some ⟨k,o,none⟩∧Ei S3.w k o cy):=by
           rcases F6 hrowy with ⟨e1,e2,_⟩|⟨k,cap,cur,e1,hc,_,_,_,ht⟩
           ·exact ⟨none,0,by rw [e1,e2],λ h=>absurd e2 h⟩
           ·exact ⟨_,cap,e1,λ _=>⟨k,0,rfl,K5 hc ht⟩⟩
          obtain ⟨ad,cap,ev,hne⟩:=hshape
          have hdone:∀ u∈cy,u.oneCell'=true:=(hrowsy.rows (R':=λ _ c=>∀ u∈c,u.oneCell'=true) (λ x c b _ h=>Ofa r2 x c b h)).all (λ _ _ h=>h)
          obtain ⟨v',w',hr,ho',hgr,hnew⟩:=Hba (ty:=o.type) hu hek hszx hrowx ev (hrowsy.len (Ty.dep_len r2)) hdone hne hle (Nb r2)
          rw [← List.length_append] at ho'
          obtain ⟨K4,L4⟩:=K3.names (λ n _=>if n=1 then some (.tm 0 [1]) else none) (by intro n q; split<;>simp)
          have h1:∀ k∈(a.eval x).ownBlock.toList++b1,atO S3.O (λ n _=>if n=1 then some (.tm 0 [1]) else none) k = .tm 0 [1]:=λ k hk=>Jw (hbx k hk) (by simp)
          have h0:∀ k∈(a.eval y).ownBlock.toList++b2,atO S3.O (λ n _=>if n=1 then some (.tm 0 [1]) else none) k = .tm 0 []:=λ k hk=>M6 (hby k hk) (by simp)
          have hvx:∀ k,(a.eval x).ownBlock=some k→k∈(a.eval x).ownBlock.toList++b1:=λ k hk=>by rw [hk]; simp
          rw [List.nodup_append] at hnx hny
          have hnb:(b1++b2).Nodup:=by
           rw [List.nodup_append]
           refine ⟨hnx.2.1,hny.2.1,λ k hk k' hk' e9=>?_⟩
           subst e9
           have e5:=h1 k (List.mem_append_right _ hk)
           rw [h0 k (List.mem_append_right _ hk')] at e5
           cases e5
          obtain ⟨S',K',ew,g'⟩:=Ri K4 (A1:=ups (ups A (Asa u x)) (Asa w2 y)) (by show S3.g=_; exact g3) hdl (w':=w') (row:=(a.eval x).ownBlock) (e:=e) (r':=r2) (xs:=xs2++ys2) (v:=v') (cs:=cx++cy) (b2:=b1++b2) hgr
           (λ k hk=>⟨0,[1],h1 k (hvx k hk)⟩) hszx ho' ((hrowsx.append hrowsy).mono (λ x c b _ h=>Ty.dep_mono (λ k hk=>(L4.fz k hk).1) (λ _ _=>rfl) r2 x c b (λ _ _=>rfl) h)) hnb
           (λ k hk=>by
            rcases List.mem_append.1 hk with hk|hk
            ·exact ⟨_,h1 k (List.mem_append_right _ hk)⟩
            ·exact ⟨_,h0 k (List.mem_append_right _ hk)⟩)
           (λ k hk=>by
            have hnr:(a.eval x).ownBlock≠some k:=λ e9=>by
             rcases List.mem_append.1 hk with hk|hk
             ·exact hnx.2.2 k (by rw [e9]; simp) k hk rfl
             ·have e5:=h1 k (hvx k e9)
              rw [h0 k (List.mem_append_right _ hk)] at e5
              cases e5
            refine ⟨hnr,λ e9=>?_⟩
            rcases hnew k e9 with h9|h9
            ·exact hnr h9
            ·have hlt:k<S3.w.heap.size:=K4.lt k (by
              rcases List.mem_append.1 hk with hk|hk
              ·show atO S3.O _ k≠_
               rw [h1 k (List.mem_append_right _ hk)]; simp
              ·show atO S3.O _ k≠_
               rw [h0 k (List.mem_append_right _ hk)]; simp)
             omega) hnew
          rw [← Af,← Af] at g'
          have hw3:S3.w=S.w:=w3.trans w1
          exact ⟨_,h,A8 (S:=S') (v:=v') (by rw [ew,← hw3]; exact M1 ho hc hT hx hr) (by rw [hod]; exact K') g'⟩
       ·cases h
      ·cases h
     ·cases h
    ·cases hno:Js r' with
     |false=>rw [hno] at h; simp at h
     |true=>
     rw [hno,cond_true] at h
     obtain ⟨hsz,cs,hrow,hrows,hlab⟩:=(F7.flat hno).1 hown
     obtain ⟨lw,hlw⟩:=Ii hE K hg hsw
     have hlw':Al X.P S (.pl lw []) w (a.eval y):=hlw
     split at h
     ·rename_i e' r'' ys hasl
      split at h
      ·rename_i ys' te hcast hte
       cases hq:(Nat.beq e e'&&Ll E T e&&Nat.beq T T') with
       |false=>rw [hq] at h; simp at h
       |true=>
        rw [hq,cond_true] at h
        cases hq2:Nat.ble ((xs.length+ys'.length) * te.by_) 140737488355328 with
        |false=>rw [hq2] at h; simp at h
        |true=>
         rw [hq2,cond_true] at h
         simp only [Bool.and_eq_true] at hq
         obtain ⟨⟨q1,q2⟩,q3⟩:=hq
         have he:e=e':=Nat.eq_of_beq_eq_true q1
         have hTT:T=T':=Nat.eq_of_beq_eq_true q3
         subst he hTT
         have hle:(xs.length+ys'.length) * te.by_≤140737488355328:=Nat.le_of_ble_eq_true hq2
         have hu:=K6 q2 hE.ti
         have hek:=hE.ti _ _ hte
         obtain ⟨ad,cap,ds,ev,hdrows0,hne0⟩:=Qga K hg hlw' hasl
         obtain ⟨hdrows,hylen⟩:=Tt hcast hdrows0
         have hdl2:=hdrows.len (Ty.rep_len r')
         have hdone:∀ u∈ds,u.oneCell'=true:=hdrows.all (V5 r')
         have hdrows1:Rows (λ x c=>r'.rep X.P (λ k=>S1.O k = .fz) S1.w x c) ys' ds:=hdrows.mono (λ x c=>Ty.rep_mono (λ k hk=>(L1.fz k hk).1) (λ k hk=>(L1.fz k hk).2) r' x c)
         obtain ⟨v',w',hr,ho',hgr,hnew⟩:=Hba (ty:=o.type) (w:=S1.w) (u:=a.eval y) (ad:=ad) (cap:=cap) hu hek hsz hrow (by rw [ev,hylen]) hdl2 hdone (λ hm=>by
          obtain ⟨k,o',e1,e2⟩:=hne0 (λ e3=>hm (by rw [hylen,e3,List.length_nil]))
          exact ⟨k,o',e1,by rw [w1]; exact e2⟩) hle (Nb r')
         rw [← List.length_append] at ho'
         obtain ⟨S',K',ew,g'⟩:=H8a K1 g1 hdl hno hgr (λ k hk=>⟨0,[],hlab k hk⟩) hsz ho' (hrows.append hdrows1) hnew
         rw [← Af] at g'
         exact ⟨_,h,A8 (S:=S') (v:=v') (by rw [ew,← w1]; exact M1 ho hc hT hx hr) (by rw [hod]; exact K') g'⟩
      ·cases h
     ·split at h
      ·rename_i s _
       split at h
       ·rename_i ys fo hcast hte
        cases hq:(Ll E T e&&Pc E T'&&Nat.ble ((xs.length+s.size) * 1) 140737488355328) with
        |false=>rw [hq] at h; simp at h
        |true=>
         rw [hq,cond_true] at h
         simp only [Bool.and_eq_true] at hq
         obtain ⟨⟨q2,q3⟩,q4⟩:=hq
         have hle:(xs.length+s.size) * 1≤140737488355328:=Nat.le_of_ble_eq_true q4
         rw [Nat.mul_one] at hle
         have hu:=K6 q2 hE.ti
         have hus:=Rc q3 hE.ti
         have hek:=hE.ti _ _ hte
         have ev:a.eval y = .string s:=hlw'.1
         obtain ⟨i,z,i1,iz,i2,i3,_,z3⟩:=D4a S.w hek
         have hz:z = .int .u8 0:=by
          have:=z3 rfl
          simp only [Ej,List.cons.injEq,and_true] at this
          exact this.symm
         subst hz
         have h63:xs.length+s.size≤maxLen:=by simp only [maxLen]; omega
         have hsz1:r'.sz=1:=by
          have:=hsz
          unfold T9 at this
          rw [i1] at this
          simp only [Option.map_some,Option.some.injEq] at this
          rw [← this]
          exact i2
         rw [hsz1] at hrow
         obtain ⟨v',w',hr,ho',hgr,hnil⟩:=Go.Lib.run_append_own_string (P:=X.P) S1.w 0 T T' o.type e i hu hus i1 iz i2 i3 (a.eval x) xs.length cs hrow s h63 hle (Nat.zero_le _)
         have hbl:(bytesOf s).length=s.size:=by simp [bytesOf]
         have hnew:=Bba hu hus i1 iz i2 i3 hrow h63 hle hr hnil
         obtain ⟨hrows2,hl2⟩:=Tt (P:=X.P) (G:=λ k=>S1.O k = .fz) (w:=S1.w) hcast (Qh s.data.toList)
         have hlen2:xs.length+s.size=(xs++ys).length:=by rw [List.length_append,hl2,hbl]
         rw [hlen2,← hsz1] at ho'
         obtain ⟨S',K',ew,g'⟩:=H8a K1 g1 hdl hno hgr (λ k hk=>⟨0,[],hlab k hk⟩) hsz ho' (hrows.append hrows2) hnew
         rw [← Af] at g'
         exact ⟨_,h,A8 (S:=S') (v:=v') (by rw [ew,← w1]; exact M1 ho hc hT hx (by rw [ev]; exact hr)) (by rw [hod]; exact K') g'⟩
       ·cases h
      ·cases h
   ·cases h
  ·cases h
 ·cases h
theorem Lh {P:Program} {w w':World} {T T':TypeId} {x:Operand} {u v:Value} (ho:o.op = .convert T T' x) (he:a.eval x=u) (hr:(convert T T' u).run P w = .ok v w'):(execOp a.eval o).run P w = .ok (.value v) w':=by
 unfold execOp
 simp [ho,he,hr]
theorem D5a {P:Program} {T:TypeId} {k:IntKind} {by_:Nat} {fo:List (Nat×Nat×Bool)} (h:TOk P T ⟨.i k,false,by_,fo⟩):P.underlying T=some (.int k):=by
 have:=h.desc
 unfold Qc at this
 split at this<;>simp_all
theorem Mn {P:Program} {T:TypeId} {by_:Nat} {fo:List (Nat×Nat×Bool)} (h:TOk P T ⟨.s,false,by_,fo⟩):P.underlying T=some .string:=by
 have:=h.desc
 unfold Qc at this
 split at this<;>simp_all
theorem Ob {P:Program} {T e:TypeId} {by_:Nat} {fo:List (Nat×Nat×Bool)} (h:TOk P T ⟨.sl e (.i .u8),false,by_,fo⟩):P.underlying T=some (.slice e)∧P.underlying e=some (.int .u8):=by
 have hu:P.underlying T=some (.slice e):=by
  have:=h.desc
  unfold Qc at this
  split at this<;>simp_all
 refine ⟨hu,?_⟩
 have:=h.desc
 rw [hu] at this
 simp only [Qc,Q6a,Bool.and_eq_true] at this
 obtain ⟨_,h2⟩:=this
 split at h2
 ·rename_i k' hk
  simp at h2
  rw [hk,← h2]
 ·cases h2
theorem Ps {P:Program} {G:Nat→Prop} {w:World}:∀ (xs:List Int) (cs:List Value),Rows (λ x c=>Ty.rep P G w (.i .u8) x c) xs cs→cs=xs.map (Value.int .u8)
 |[],_,h=>h
 |x::xs,_,⟨c,d,e,h1,h2⟩=>by
  have h1':c=[.int .u8 x]:=h1
  rw [e,h1',Ps xs d h2]
  rfl
theorem N1 {P:Program} {w:World} {T T' e:TypeId} {xs:List Int} {ad:Option Addr} {cap:Nat} {cs:List Value} (hT:P.underlying T=some (.slice e)) (he:P.underlying e=some (.int .u8)) (hT':P.underlying T'=some .string)
  (hcs:cs=xs.map (Value.int .u8)) (hne:xs≠[]→∃ k o,ad=some ⟨k,o,none⟩∧Ei w k o cs):(convert T T' (.slice ad xs.length cap)).run P w = .ok (.string (Ju xs)) w:=by
 rw [run_convert_bytes_string w T T' e ad xs.length cap hT he hT']
 cases ad with
 |none=>
  have:xs=[]:=by
   by_cases hx:xs=[]
   ·exact hx
   ·obtain ⟨k,o',e1,_⟩:=hne hx
    cases e1
  subst this
  simp [Conv.bytesToString,Ju]
  rfl
 |some ad=>
  have hl:(loadCells ad xs.length).run P w = .ok (xs.map (Value.int .u8)).toArray w:=by
   by_cases hx:xs=[]
   ·subst hx
    rfl
   ·obtain ⟨k,o',e1,e2⟩:=hne hx
    cases e1
    have:=run_loadCells_list (P:=P) w ⟨k,o',none⟩ cs (λ j v hj=>by rw [Lv]; exact e2 j v hj)
    rw [hcs] at this
    simpa using this
  rw [run_bytesToString w _ xs.length cap xs hl,foldl_push_bytes]
  simp [Ju,ByteArray.empty,ByteArray.emptyWithCapacity]
  rfl
theorem Oga (K:Ah X S a) (hg:S.g=get A) {lab:Lab} {y:Lf} {u:Value} (h:Al X.P S lab y u):
  (∃ lab',Al X.P S lab' (Tn A y) u)∨∃ p v pi e r,∃ xs:List (Ty.den r),y = .da p v pi e r xs∧(S.g p).1=v∧Tn A y = .fz e r xs:=by
 unfold Tn
 split
 ·rename_i p v pi e r xs
  cases hq:Nat.beq (get A p).1 v with
  |false=>exact .inl ⟨lab,trivial⟩
  |true=>exact .inr ⟨p,v,pi,e,r,xs,rfl,by rw [hg]; exact Nat.eq_of_beq_eq_true hq,rfl⟩
 ·exact .inl (Oy K hg h)
theorem Eqa (hE:Ks X E) (K:Ah X S a) (hg:S.g=get A) {T T':TypeId} {x:Operand} {d:Nat} (ho:o.op = .convert T T' x) (hod:o.dst=some d) (hd:d<X.nt) (h:Ac E o A Kc=some r):Ja X o a S.w A Kc r:=by
 unfold Ac at h
 rw [ho,hod] at h
 simp only at h
 split at h
 ·rename_i y hs
  obtain ⟨l,hl⟩:=Ii hE K hg hs
  rcases Oga K hg (show Al X.P S (.pl l []) y (a.eval x) from hl) with ⟨lab',hl'⟩|⟨p,v,pi,e,r0,xs,rfl,hv,hvw⟩
  rotate_left 1
  ·rw [hvw] at h
   unfold conv at h
   split at h
   ·rename_i hy; simp at hy
   ·rename_i hy; simp at hy
   ·rename_i e0 b0 f0 b f e' xs' hT hT' hy
    cases hq:Nat.beq e0 e' with
    |false=>rw [hq] at h; simp at h
    |true=>
     rw [hq,cond_true] at h
     simp only [Sv.one.injEq] at hy
     cases hy
     obtain ⟨ad,cap,cs,e1,hrows,hne⟩:=N1a rfl hv hl
     obtain ⟨u1,u2⟩:=Ob (hE.ti _ _ hT)
     exact Nf K hg hod hd rfl (Lh ho e1 (N1 u1 u2 (Mn (hE.ti _ _ hT')) (Ps _ _ hrows) hne)) h
   ·rename_i hy; simp at hy
   ·rename_i hy; simp at hy
   ·cases h
  unfold conv at h
  split at h
  ·rename_i k0 b0 f0 k b f k1 n hT hT' hy
   simp only [Sv.one.injEq] at hy
   rw [hy] at hl'
   have e1:a.eval x = .int k1 n:=hl'.1
   refine Nf K hg hod hd rfl (Lh ho e1 ?_) h
   simp [convert,run_underlying (D5a (hE.ti _ _ hT)),run_underlying (D5a (hE.ti _ _ hT')),Conv.intToInt]
  ·rename_i b0 f0 b f s hT hT' hy
   simp only [Sv.one.injEq] at hy
   rw [hy] at hl'
   have e1:a.eval x = .string s:=hl'.1
   refine Nf K hg hod hd rfl (Lh ho e1 ?_) h
   simp [convert,run_underlying (Mn (hE.ti _ _ hT)),run_underlying (Mn (hE.ti _ _ hT'))]
  ·rename_i e b0 f0 b f e' xs hT hT' hy
   cases hq:Nat.beq e e' with
   |false=>rw [hq] at h; simp at h
   |true=>
    rw [hq,cond_true] at h
    simp only [Sv.one.injEq] at hy
    rw [hy] at hl'
    obtain ⟨ad,cap,cs,e1,hrows,hne⟩:=N0a hl'
    obtain ⟨u1,u2⟩:=Ob (hE.ti _ _ hT)
    exact Nf K hg hod hd rfl (Lh ho e1 (N1 u1 u2 (Mn (hE.ti _ _ hT')) (Ps _ _ hrows) hne)) h
  ·rename_i e b0 f0 b f e' xs hT hT' hy
   cases hq:Nat.beq e e' with
   |false=>rw [hq] at h; simp at h
   |true=>
    rw [hq,cond_true] at h
    simp only [Sv.one.injEq] at hy
    rw [hy] at hl'
    obtain ⟨ad,cap,cs,e1,hrows,hne⟩:=Haa rfl hl'
    obtain ⟨u1,u2⟩:=Ob (hE.ti _ _ hT)
    exact Nf K hg hod hd rfl (Lh ho e1 (N1 u1 u2 (Mn (hE.ti _ _ hT')) (Ps _ _ hrows) hne)) h
  ·rename_i b0 f0 e b f s hT hT' hy
   cases hq:Nat.ble s.size 140737488355328 with
   |false=>rw [hq] at h; simp at h
   |true=>
    rw [hq,cond_true] at h
    simp only [Sv.one.injEq] at hy
    rw [hy] at hl'
    have e1:a.eval x = .string s:=hl'.1
    obtain ⟨u1,u2⟩:=Ob (hE.ti _ _ hT')
    have hr:=run_bytes_of_string (P:=X.P) S.w T T' e s (Mn (hE.ti _ _ hT)) u1 u2
    have hszs:=(hE.ti _ _ hT').sz
    simp only [szB,Bool.and_eq_true,beq_iff_eq] at hszs
    generalize hob:Obj.cells (bytesRow s (grownCap S.w s.size 0 e)) e ((bytesRow s (grownCap S.w s.size 0 e)).size,(bytesRow s (grownCap S.w s.size 0 e)).size+1)=ob at hr
    obtain ⟨K1,L1⟩:=K.grow (w':=S.w.drew.alloc ob) (row:=none) (O':=λ k=>if k=S.w.heap.size then .fz else S.O k) ⟨rfl,rfl,rfl,by simp,λ k hk _=>heap_alloc_old S.w.drew ob k hk⟩ (by simp)
     (λ k hk _=>by show (if k=S.w.heap.size then _ else _)=_; rw [if_neg (by omega)])
     (λ k hk=>by
      show k<(S.w.heap.push _).size
      rw [Array.size_push]
      by_cases h:k=S.w.heap.size
      ·omega
      ·simp only [h,if_false] at hk
       have:=K.lt k hk
       omega)
    have hcell:Ei (S.w.drew.alloc ob) S.w.heap.size 0 (s.data.toList.map λ b=>Value.int .u8 b.toNat):=by
     intro j u hj
     have hb:(S.w.drew.alloc ob).heap[S.w.heap.size]? = some ob:=heap_alloc_new S.w.drew ob
     subst hob
     have hjl:j<s.data.toList.length:=by
      rcases Nat.lt_or_ge j s.data.toList.length with h|h
      ·exact h
      ·rw [List.getElem?_eq_none (by simpa using h)] at hj; cases hj
     simp only [World.cell?,hb,Nat.zero_add]
     simp only [bytesRow]
     rw [Array.getElem?_append_left (by simpa using hjl)]
     simpa using hj
    have hbl:(bytesOf s).length=s.size:=by simp [bytesOf]
    have hsv:Ka X.P (Th S (S.w.drew.alloc ob) (λ k=>if k=S.w.heap.size then .fz else S.O k)) 0 (.one (.fz e (.i .u8) (bytesOf s))) (.slice (some ⟨S.w.heap.size,0,none⟩) s.size (grownCap S.w s.size 0 e)):=by
     refine ⟨_,rfl,hszs.1,_,grownCap S.w s.size 0 e,_,by rw [hbl],by rw [hbl]; exact grownCap_ge _ _ _ _,Qh s.data.toList,λ _=>⟨_,0,rfl,?_,hcell⟩⟩
     show (if _ then _ else _)=_
     rw [if_pos rfl]
    have K2:=K1.put0 hd _ _ 0 rfl hsv
    refine ⟨_,h,A8 (S:=Lu (Th S (S.w.drew.alloc ob) (λ k=>if k=S.w.heap.size then .fz else S.O k)) (λ _ _=>none) d (.one (.fz e (.i .u8) (bytesOf s))) (.slice (some ⟨S.w.heap.size,0,none⟩) s.size (grownCap S.w s.size 0 e))) (Lh ho e1 hr) (by rw [hod]; exact K2) ?_⟩
    show upd S.g d _=_
    rw [A7,← hg]
    rfl
  ·cases h
 ·cases h
end
end

end Go.Proofs.YtlfoljnopndpeaaGreat.Vf
