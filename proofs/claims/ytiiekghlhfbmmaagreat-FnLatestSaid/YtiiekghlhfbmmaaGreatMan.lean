import Derived.Test.YtiiekghlhfbmmaaGreatMam
import Derived.Test.YtiiekghlhfbmmaaGreatMal
set_option linter.all false
namespace Go.Proofs.YtiiekghlhfbmmaaGreat.Vf
open Go
open List (length getD)
open Int (toNat)
open Go.IntKind (wrap)
open BitVec (ofInt)
def We:=@List.take_succ_eq_append_getElem
def I6b:=@List.foldl_append
def I9b:=@List.exists_mem_of_length_pos
def Icb:=@List.length_pos_of_mem
def Iqb:=@List.length_erase_of_mem
def Jhb:=@List.mem_erase_of_ne
def Job:=@BitVec.getLsbD_ushiftRight
def Kcb:=@List.find?_cons
def Kdb:=@List.set_append_right
def Keb:=@List.range_succ

def I1a (a b:Fil) (hf:a.2.2.length≤1000000000000):Tot (λ k=>I4 k a b) (λ r=>r=decide (a=b)):=by
 obtain⟨⟨a1,a2,a3⟩,a4,a5⟩:=a;obtain⟨⟨b1,b2,b3⟩,b4,b5⟩:=b;unfold I4;dsimp only at hf ⊢
 have e:decide (((a1,a2,a3),a4,a5)=((b1,b2,b3),b4,b5))=(((a1==b1)&&((a2==b2)&&(a3==b3)))&&((a4==b4)&&decide (a5=b5))):=by
  rw[Ieb,decide_eq_true_iff];simp only[Vy,Va,beq_iff_eq,decide_eq_true_iff]
 rw[e];cases (a1==b1)&&((a2==b2)&&(a3==b3))
 ·exact H6b rfl (H4b rfl)
 refine H7b rfl ?_;cases a4==b4
 ·exact H6b rfl (H4b rfl)
 refine H7b rfl (Hfb (F0a a5 b5 hf) ?_);exact H4b (by simp)
section
variable {d:Dsk} {s:ByteArray} {f:Fil} {sure:Bool}
def Y1a (a:Stp):sle a a=false:=Kr a
def Bha (h1:Al d=true) (h2:B1 s=true) (h3:Ej f=true):keep d s f sure=N5 d s f sure:=by unfold keep;rw[h1,h2,h3];rfl
def I2a {x:Dsk} {c:Int}:(kp2 d s sure (x,c)=(d,3))∨(sure=false∧kp2 d s sure (x,c)=(x,c))∨(sure=true∧(sy x s).length≤60∧kp2 d s sure (x,c)=((x.1,sy x s),c)):=by
 unfold kp2 syD;cases sure
 ·exact .inr (.inl ⟨rfl,rfl⟩)
 rw[cond_true]
 by_cases h:(sy x s).length≤60
 ·rw[decide_eq_true h];exact .inr (.inr ⟨rfl,h,rfl⟩)
 ·rw[decide_eq_false h];exact .inl rfl
def U4a (hd:DG d) (hs:B1 s=true):kp1 d s f=none∨(∃ o,old d s=some o∧sle o.1 f.1=false∧kp1 d s f=some (d,1))∨((∀ o,old d s=some o→sle o.1 f.1=true)∧(wr d.1 s (M3 f)).length≤60∧kp1 d s f=some ((wr d.1 s (M3 f),d.2),0)):=by
 have hl:(M3 f).length≤400:=by have:=Z2 f;omega
 have w:(bif (wrD d s (M3 f)).2 then some ((wrD d s (M3 f)).1,(0:Int)) else none)=none∨((wr d.1 s (M3 f)).length≤60∧(bif (wrD d s (M3 f)).2 then some ((wrD d s (M3 f)).1,(0:Int)) else none)=some ((wr d.1 s (M3 f),d.2),0)):=by
  unfold wrD;rw[decide_eq_true hl,Vz]
  by_cases h:(wr d.1 s (M3 f)).length≤60
  ·rw[decide_eq_true h];exact .inr ⟨h,rfl⟩
  ·rw[decide_eq_false h];exact .inl rfl
 unfold kp1
 cases ho:old d s with
 |none=>
  rcases w with h|⟨h1,h2⟩
  ·exact .inl h
  ·exact .inr (.inr ⟨λ o h=>(by cases h),h1,h2⟩)
 |some o=>
  simp only;cases hc:sle o.1 f.1
  ·exact .inr (.inl ⟨o,rfl,hc,rfl⟩)
  rcases w with h|⟨h1,h2⟩
  ·exact .inl h
  ·exact .inr (.inr ⟨λ o' h=>(by cases h;exact hc),h1,h2⟩)
def Wy (hd:DG d) (hs:B1 s=true):N5 d s f sure=(d,3)∨
  (∃ o,old d s=some o∧sle o.1 f.1=false∧(N5 d s f sure).2=1∧DG (N5 d s f sure).1∧((sure=false∧(N5 d s f sure).1=d)∨(sure=true∧(N5 d s f sure).1=(d.1,sy d s))))∨
  ((∀ o,old d s=some o→sle o.1 f.1=true)∧DG (wr d.1 s (M3 f),d.2)∧(N5 d s f sure).2=0∧DG (N5 d s f sure).1∧((sure=false∧(N5 d s f sure).1=(wr d.1 s (M3 f),d.2))∨(sure=true∧(N5 d s f sure).1=(wr d.1 s (M3 f),sy (wr d.1 s (M3 f),d.2) s)))):=by
 have hg:=U1a (f:=f) (sure:=sure) hd hs;rcases U4a (f:=f) hd hs with h|⟨o,h1,h2,h⟩|⟨h1,h2,h⟩
 ·exact .inl (by unfold N5;rw[h])
 ·have e:N5 d s f sure=kp2 d s sure (d,1):=by unfold N5;rw[h]
  rcases I2a (d:=d) (s:=s) (sure:=sure) (x:=d) (c:=1) with k|⟨k0,k⟩|⟨k0,k1,k⟩
  ·exact .inl (e.trans k)
  ·rw[← e]at k;exact .inr (.inl ⟨o,h1,h2,by rw[k],hg,.inl ⟨k0,by rw[k]⟩⟩)
  ·rw[← e]at k;exact .inr (.inl ⟨o,h1,h2,by rw[k],hg,.inr ⟨k0,by rw[k]⟩⟩)
 ·have e:N5 d s f sure=kp2 d s sure ((wr d.1 s (M3 f),d.2),0):=by unfold N5;rw[h]
  have hw:=F1b hd hs h;rcases I2a (d:=d) (s:=s) (sure:=sure) (x:=(wr d.1 s (M3 f),d.2)) (c:=0) with k|⟨k0,k⟩|⟨k0,k1,k⟩
  ·exact .inl (e.trans k)
  ·rw[← e]at k;exact .inr (.inr ⟨h1,hw,by rw[k],hg,.inl ⟨k0,by rw[k]⟩⟩)
  ·rw[← e]at k;exact .inr (.inr ⟨h1,hw,by rw[k],hg,.inr ⟨k0,by rw[k]⟩⟩)
def I3a {l:List Nmd} (hs:H0 l) {s t:ByteArray} {b:List Int}:gt (wr l s b) t=if s=t then some b else gt l t:=by
 unfold wr;rw[A4b (x:=(s,b)) (O4 hs) B9a]
 by_cases h:s=t
 ·rw[if_pos h,if_pos h]
 ·rw[if_neg h,if_neg h,T5 hs,if_neg h]
def L2a (hd:Al d=true) {t:ByteArray}:gt (sy d s) t=if s=t then gt d.1 s else gt d.2 t:=by
 unfold sy
 cases h:gt d.1 s with
 |none=>rw[T5 (R3 hd)]
 |some b=>rw[I3a (R3 hd)]
def U5a (hd:DG d) (hs:B1 s=true) (hf:Ej f=true) (hb:Aj f.2.2) (h:(N5 d s f true).2=0∨(N5 d s f true).2=1):
  ∃ o g b,DG o∧DG (N5 d s f true).1∧(N5 d s f true).1=(o.1,sy o s)∧gt o.1 s=some b∧Oe b=some g∧sle g.1 f.1=false:=by
 rcases Wy (f:=f) (sure:=true) hd hs with k|⟨o,h1,h2,k,hg,h3⟩|⟨h1,h2,k,hg,h3⟩
 ·rw[k]at h;rcases h with h|h<;>cases h
 ·rcases h3 with⟨h3,_⟩|⟨_,h3⟩
  ·cases h3
  ·have ho:(gt d.1 s).bind Oe=some o:=h1
   cases hg1:gt d.1 s with
   |none=>rw[hg1]at ho;cases ho
   |some b=>
    rw[hg1]at ho;exact⟨d,o,b,hd,hg,h3,hg1,ho,h2⟩
 ·rcases h3 with⟨h3,_⟩|⟨_,h3⟩
  ·cases h3
  ·exact⟨(wr d.1 s (M3 f),d.2),f,M3 f,h2,hg,h3,by show gt (wr d.1 s (M3 f)) s=_;rw[I3a (Mq hd.1),if_pos rfl],Uw hf hb,Y1a _⟩
end

abbrev Nod:=Int×Dsk×List Row×List Row
def qOk (l:List Row):Bool:=l.all Nq
def N1 (n:Nod):Bool:=qOk n.2.2.2&&(inR n.1 0 20&&(Al n.2.1&&(Ko n.2.2.1&&decide ((n.2.2.2.length:Int)≤60))))
def RF (l:List Row):Prop:=l.length≤2000000∧Qr l
def NIn (n:Nod):Prop:=(DIn n.2.1∧DB n.2.1)∧RF n.2.2.1∧RF n.2.2.2
def NG (n:Nod):Prop:=N1 n=true∧DB n.2.1
def Bw {n:Nod}:N1 n=true↔(∀ r∈n.2.2.2,Nq r=true)∧(0≤n.1∧n.1≤20)∧Al n.2.1=true∧Ko n.2.2.1=true∧n.2.2.2.length≤60:=by
 unfold N1 qOk;simp only[Va,Yt,Et,decide_eq_true_iff];constructor
 ·rintro⟨h1,h2,h3,h4,h5⟩;exact⟨h1,h2,h3,h4,by omega⟩
 ·rintro⟨h1,h2,h3,h4,h5⟩;exact⟨h1,h2,h3,h4,by omega⟩
def Bia {l:List Row} (h:Ko l=true):RF l:=by
 obtain⟨_,h2,h3⟩:=My.1 h;exact⟨by omega,λ r hr=>Jc (Dha (h2 r hr))⟩
def Sy {n:Nod} (h:NG n):NIn n:=by
 obtain⟨h1,_,h3,h4,h5⟩:=Bw.1 h.1;exact⟨⟨Nk h3,h.2⟩,Bia h4,by omega,λ r hr=>Jc (Dha (h1 r hr))⟩
def NG.g {n:Nod} (h:NG n):DG n.2.1:=⟨(Bw.1 h.1).2.2.1,h.2⟩
def Npa (n:Nod) (hn:NIn n):Tot (λ k=>Er k n) (λ r=>r=N1 n):=by
 obtain⟨i,⟨a,b⟩,ro,q⟩:=n;obtain⟨⟨hd,_⟩,hr,hq⟩:=hn;dsimp only at hd hr hq;unfold Er;have hl:=hq.1;refine H5b (Q:=λ r=>r=bif qOk q then .inr (i,a,b,ro,q) else .inl false) ?_ ?_
 ·refine Hdb (L:=λ k i' (_:Unit)=>Hu k q (q.length:Int) i' i a b ro q) (Q:=λ r=>r=bif qOk q then .inr (i,a,b,ro,q) else .inl false) q.length (λ j _=>(q.drop j).all Nq=q.all Nq) ?_ ?_ 0 () (Vq _) (by rw[Wn])
  ·intro _ hj;rw[Wd]at hj;simp only[Hu];exact H9b (by omega) (H4b (by unfold qOk;rw[← hj];rfl))
  ·intro j _ hj hi next;simp only[Hu];rw[Ah (d:=Mo) hj,Hjb]at hi;refine H8b (by omega) (H8b (by omega) (H8b (by omega) ?_));rw[Vc,w64 (n:=(j:Int)+1) (by omega) (by omega)];refine Hfb (T9a (q.getD j Mo) (hq.2 _ (A4 hj))) ?_
   cases hc:Nq (q.getD j Mo) with
   |false=>exact H7b rfl (H4b (by unfold qOk;rw[← hi,hc];rfl))
   |true=>exact H6b rfl (next () (by rw[hc,Vz]at hi;exact hi))
 ·rintro r rfl;unfold N1;dsimp only;cases qOk q
  ·exact H4b rfl
  simp only[cond_true,Hyb,Vz];refine Hfb (Hgb (Q:=λ r=>r=inR i 0 20) (Xf _ _ _) rfl) ?_;cases inR i 0 20
  ·exact H6b rfl (H4b rfl)
  refine H7b rfl (Hfb (Sr (a,b) hd.1.1 hd.1.2) ?_);cases Al (a,b)
  ·exact H6b rfl (H4b rfl)
  refine H7b rfl (Hfb (N0a ro (by have:=hr.1;unfold Few;omega) hr.2) ?_)
  cases Ko ro with
  |false=>exact H6b rfl (H4b rfl)
  |true=>exact H7b rfl (H4b rfl)
def Z4 (n:Nod) (hn:NIn n):Tot (λ k=>C6 k n) (λ r=>r=N1 n):=by
 obtain⟨i,⟨a,b⟩,ro,q⟩:=n;obtain⟨⟨hd,_⟩,hr,hq⟩:=hn;dsimp only at hd hr hq;unfold C6;have hl:=hq.1;refine H5b (Q:=λ r=>r=bif qOk q then .inr (i,a,b,ro,q) else .inl false) ?_ ?_
 ·refine Hdb (L:=λ k i' (_:Unit)=>Hm k i' i a b ro q) (Q:=λ r=>r=bif qOk q then .inr (i,a,b,ro,q) else .inl false) q.length (λ j _=>(q.drop j).all Nq=q.all Nq) ?_ ?_ 0 () (Vq _) (by rw[Wn])
  ·intro _ hj;rw[Wd]at hj;simp only[Hm];exact H9b (by omega) (H4b (by unfold qOk;rw[← hj];rfl))
  ·intro j _ hj hi next;simp only[Hm];rw[Ah (d:=Mo) hj,Hjb]at hi;refine H8b (by omega) (H8b (by omega) (H8b (by omega) ?_));rw[Vc,w64 (n:=(j:Int)+1) (by omega) (by omega)];refine Hfb (Taa (q.getD j Mo) (hq.2 _ (A4 hj))) ?_
   cases hc:Nq (q.getD j Mo) with
   |false=>exact H7b rfl (H4b (by unfold qOk;rw[← hi,hc];rfl))
   |true=>exact H6b rfl (next () (by rw[hc,Vz]at hi;exact hi))
 ·rintro r rfl;unfold N1;dsimp only;cases qOk q
  ·exact H4b rfl
  simp only[cond_true,Hyb,Vz];refine Hfb (Hgb (Q:=λ r=>r=inR i 0 20) (Oq _ _ _) rfl) ?_;cases inR i 0 20
  ·exact H6b rfl (H4b rfl)
  refine H7b rfl (Hfb (Qt (a,b) hd.1.1 hd.1.2) ?_);cases Al (a,b)
  ·exact H6b rfl (H4b rfl)
  refine H7b rfl (Hfb (N1a ro (by have:=hr.1;unfold Few;omega) hr.2) ?_)
  cases Ko ro with
  |false=>exact H6b rfl (H4b rfl)
  |true=>exact H7b rfl (H4b rfl)
def Pm (n:Nod) (hn:NIn n):Tot (λ k=>Cq k n) (λ r=>r=n):=by
 unfold Cq;have h1:=hn.2.1.1;have h2:=hn.2.2.1;refine Hfb (K8 n.2.1 hn.1.1.1.1) ?_;refine Hfb (Hgb (Q:=λ r=>r=n.2.2.1) (Un _ (by unfold Few;omega)) rfl) ?_;refine Hfb (Hgb (Q:=λ r=>r=n.2.2.2) (Un _ (by unfold Few;omega)) rfl) ?_;exact H4b rfl
def Of (n:Nod) (hn:NIn n):Tot (λ k=>Bo k n) (λ r=>r=n):=by
 unfold Bo;have h1:=hn.2.1.1;have h2:=hn.2.2.1;refine Hfb (Mg n.2.1 hn.1.1.1.1) ?_;refine Hcb (by simp only[Vj];omega) (Hcb (by simp only[Vj];omega) (H4b ?_));rw[Wa,Wa]
def Pva (a b:List Row) (hf:a.length+b.length≤10000000000):Tot (λ k=>C2 k a b) (λ r=>r=Tl a b):=by
 unfold C2;refine Hcb (by simp only[Vj];omega) ?_;rw[Wa];refine H5b (Q:=λ r=>r=Tl a b) ?_ (by rintro r rfl;exact H4b rfl);refine Hdb (L:=λ k i s=>Dx k b s i) (Q:=λ r=>r=Tl a b) b.length (λ i s=>Tl s (b.drop i)=Tl a b∧s.length≤a.length+i) ?_ ?_ 0 a (Vq _) ⟨by rw[Wn],Nat.le_add_right _ _⟩
 ·rintro s ⟨hs,_⟩;rw[Wd]at hs;simp only[Dx];exact H9b (by omega) (H4b hs)
 ·rintro i s hi ⟨hs,hl⟩ next;simp only[Dx];refine H8b (by omega) (H8b (by omega) (H8b (by omega) ?_));rw[Vc,w64 (n:=(i:Int)+1) (by omega) (by omega)];rw[Ah (d:=Mo) hi]at hs;refine Hfb (Hea s (b.getD i Mo) (by unfold Few;omega)) ?_;have:=Kha s (b.getD i Mo);exact next _ ⟨hs,by omega⟩
def I4a (n:Nod) (l:List Row):Nod×Bool:=bif N1 n&&Ko l then (bif decide ((Tl n.2.2.1 l).length > 60) then (n,false) else ((n.1,n.2.1,Tl n.2.2.1 l,n.2.2.2),true)) else (n,false)
def Bja {a b:List Row} (ha:Ko a=true) (hb:Ko b=true) (h:(Tl a b).length≤60):Ko (Tl a b)=true:=by
 obtain⟨a1,a2,_⟩:=My.1 ha;obtain⟨b1,b2,_⟩:=My.1 hb;exact My.2 ⟨Kna a1,λ r hr=>(N2a hr).elim (a2 r) (b2 r),h⟩
def U6a {n:Nod} {l:List Row} (hn:NG n):NG (I4a n l).1:=by
 unfold I4a;rw[hn.1,Vz];cases hl:Ko l
 ·exact hn
 rw[cond_true];cases hc:decide ((Tl n.2.2.1 l).length > 60)
 case true=>exact hn
 obtain⟨h1,h2,h3,h4,h5⟩:=Bw.1 hn.1;exact⟨Bw.2 ⟨h1,h2,h3,Bja h4 hl (by have:=of_decide_eq_false hc;omega),h5⟩,hn.2⟩
def Y2a (n:Nod) (l:List Row) (hn:NIn n) (hl:RF l):Tot (λ k=>J3 k n l) (λ r=>r=I4a n l):=by
 have h1:=hn.2.1.1;have h2:=hl.1;unfold J3 I4a;refine Hfb (Pm n hn) ?_;refine Hfb (Npa n hn) ?_;cases N1 n
 ·exact H7b rfl (H4b rfl)
 refine H6b rfl (Hfb (N0a l (by unfold Few;omega) hl.2) ?_);cases Ko l
 ·exact H7b rfl (H4b rfl)
 refine H6b rfl (Hfb (Pga n.2.2.1 l (by omega)) ?_);refine Hbb (λ h=>?_) (λ h=>?_)
 ·rw[decide_eq_true (show (Tl n.2.2.1 l).length > 60 by omega)];refine Hfb (Pm n hn) ?_;exact H4b rfl
 ·rw[decide_eq_false (show ¬ (Tl n.2.2.1 l).length > 60 by omega)];exact H4b rfl
def Doa (n:Nod) (l:List Row) (h1:n.2.2.1.length≤2000000) (h2:l.length≤2000000):Tot (λ k=>Hj k n l) (λ r=>r=bif decide ((Tl n.2.2.1 l).length > 60) then (false,n) else (true,(n.1,n.2.1,Tl n.2.2.1 l,n.2.2.2))):=by
 unfold Hj Ii;refine H5b (Pva n.2.2.1 l (by omega)) ?_;rintro r rfl;refine Hbb (λ h=>?_) (λ h=>?_)
 ·rw[decide_eq_true (show (Tl n.2.2.1 l).length > 60 by omega)];exact H4b rfl
 ·rw[decide_eq_false (show ¬ (Tl n.2.2.1 l).length > 60 by omega)];exact H4b rfl
def Y3a (n:Nod) (l:List Row) (hn:NIn n) (hl:RF l):Tot (λ k=>Ix k n l) (λ r=>r=I4a n l):=by
 have copy:Tot (λ k=>(Bo k n).bind λ r3=>some (r3,false)) (λ r=>r=(n,false)):=by
  refine Hfb (Of n hn) ?_;exact H4b rfl
 unfold Ix I4a;refine Hfb (Of n hn) ?_;refine Hfb (Z4 n hn) ?_;cases N1 n
 ·exact H7b rfl copy
 refine H6b rfl (Hfb (N1a l (by have:=hl.1;unfold Few;omega) hl.2) ?_);cases Ko l
 ·exact H7b rfl copy
 refine H6b rfl (Hfb (Doa n l hn.2.1.1 hl.1) ?_)
 cases decide ((Tl n.2.2.1 l).length > 60) with
 |true=>exact H7b rfl copy
 |false=>exact H6b rfl (H4b rfl)
def Bka (s:ByteArray) (f:Fil):Row:=(s,f.1,f.2.1,(f.2.2.length:Int))
def Xi (n:Nod) (s:ByteArray) (f:Fil) (sure:Bool):Nod×Int:=bif (n.2.2.2.length:Int)==60 then (n,3) else
 ((n.1,(keep n.2.1 s f sure).1,n.2.2.1,bif (keep n.2.1 s f sure).2==0&&sure then n.2.2.2++[Bka s f] else n.2.2.2),(keep n.2.1 s f sure).2)
def Fub (n:Nod) (s:ByteArray) (f:Fil) (sure:Bool):Nod×Int:=bif N1 n&&(B1 s&&Ej f) then Xi n s f sure else (n,2)
def Y4a {s:ByteArray} {f:Fil} (hs:B1 s=true) (hf:Ej f=true):Nq (Bka s f)=true:=by
 obtain⟨h1,h2,h3⟩:=Kg.1 hf;unfold Nq Bka;dsimp only;rw[hs,h1,Et.2 ⟨by omega,by omega⟩]
 cases hd:f.2.1 with
 |false=>rfl
 |true=>rw[h3 hd];rfl
def Nqa {n:Nod} {s:ByteArray} {f:Fil} {sure:Bool} (hn:NG n) (hs:B1 s=true) (hf:Ej f=true):NG (Xi n s f sure).1:=by
 obtain⟨h1,h2,h3,h4,h5⟩:=Bw.1 hn.1;have hk:=A9b (s:=s) (f:=f) (sure:=sure) hn.g;unfold Xi;cases hl:((n.2.2.2.length:Int)==60)
 case true=>exact hn
 have hl':n.2.2.2.length≠60:=by
  intro e;rw[e]at hl;cases hl
 refine⟨Bw.2 ⟨?_,h2,hk.1,h4,?_⟩,hk.2⟩
 ·show ∀ r∈bif (keep n.2.1 s f sure).2==0&&sure then n.2.2.2++[Bka s f] else n.2.2.2,Nq r=true
  cases (keep n.2.1 s f sure).2==0&&sure
  ·exact h1
  intro r hr;rcases Vp.1 hr with hr|hr
  ·exact h1 r hr
  ·rw[Vu.1 hr];exact Y4a hs hf
 ·show (bif (keep n.2.1 s f sure).2==0&&sure then n.2.2.2++[Bka s f] else n.2.2.2).length≤60
  cases (keep n.2.1 s f sure).2==0&&sure with
  |false=>exact h5
  |true=>rw[cond_true,Ve];simp only[Vd,Vj];omega
def F4b {n:Nod} {s:ByteArray} {f:Fil} {sure:Bool} (hn:NG n):NG (Fub n s f sure).1:=by
 unfold Fub;cases hs:B1 s
 ·rw[hn.1];exact hn
 cases hf:Ej f with
 |false=>rw[hn.1];exact hn
 |true=>rw[hn.1];exact Nqa hn hs hf
def I5a (n:Nod) (s:ByteArray) (f:Fil) (sure:Bool) (hn:NIn n) (hs:Lc s):Tot (λ k=>Iu k n s f sure) (λ r=>r=((Xi n s f sure).2,(Xi n s f sure).1)):=by
 have h1:=hn.2.2.1;unfold Iu Ky Xi
 cases (n.2.2.2.length:Int)==60 with
 |true=>exact H7b rfl (H4b rfl)
 |false=>
  refine H6b rfl (H5b (Nma n.2.1 s f sure hn.1.1 hn.1.2.1 hs) ?_);rintro r rfl
  cases (keep n.2.1 s f sure).2==0 with
  |false=>exact H6b rfl (H4b rfl)
  |true=>
   refine H7b rfl ?_
   cases sure with
   |false=>exact H6b rfl (H4b rfl)
   |true=>
    refine H7b rfl (Hcb (by simp only[Vj];omega) ?_);refine H5b (Hgb (Q:=λ r=>r=Bka s f) (show J7 s f=some (Bka s f) from rfl) rfl) ?_;rintro r rfl;refine Hcb (by simp only[Ve,Vd,Vj];omega) (H4b ?_);rw[Wa];rfl
def L3a (n:Nod) (s:ByteArray) (f:Fil) (sure:Bool) (hn:NIn n) (hs:Lc s):Tot (λ k=>K5 k n s f sure) (λ r=>r=Fub n s f sure):=by
 unfold K5 Fub;refine Hfb (Of n hn) ?_;refine Hfb (Z4 n hn) ?_;cases N1 n
 ·exact H7b rfl (H4b rfl)
 refine H6b rfl (Hfb (Pk s hs) ?_);cases B1 s
 ·exact H7b rfl (H4b rfl)
 refine H6b rfl (Hfb (Hgb (Q:=λ r=>r=Ej f) (Uv f) rfl) ?_);cases Ej f
 ·exact H7b rfl (H4b rfl)
 refine H6b rfl (Hfb (I5a n s f sure hn hs) ?_);exact H4b rfl
def Nra (n:Nod) (s:ByteArray) (b:Int):Nod×Bool:=bif N1 n&&((lkD n.2.1 s).2==0&&(J5a n.2.1 s b).2) then ((n.1,(J5a n.2.1 s b).1,n.2.2),true) else (n,false)
def U7a {n:Nod} {s:ByteArray} {b:Int} (hn:NG n):NG (Nra n s b).1:=by
 obtain⟨h1,h2,h3,h4,h5⟩:=Bw.1 hn.1;have hr:=F2b (s:=s) (n:=b) hn.g;unfold Nra
 cases N1 n&&((lkD n.2.1 s).2==0&&(J5a n.2.1 s b).2) with
 |false=>exact hn
 |true=>exact⟨Bw.2 ⟨h1,h2,hr.1,h4,h5⟩,hr.2⟩
def Bla (n:Nod) (s:ByteArray) (b:Int) (hn:NIn n) (h1:b≤9223372036854775807) (h0 : -9223372036854775808≤b):Tot (λ k=>Fi k n s b) (λ r=>r=Nra n s b):=by
 unfold Fi Nra;refine Hfb (Of n hn) ?_;refine Hfb (Uy hn.1.1.1.1.1 hn.1.2.1 s) ?_;refine Hfb (Z4 n hn) ?_;cases h:N1 n
 ·exact H7b rfl (H4b rfl)
 refine H6b rfl ?_;cases hl:(lkD n.2.1 s).2==0
 ·exact H7b (by unfold bne;rw[hl];rfl) (H4b rfl)
 refine H6b (by unfold bne;rw[hl];rfl) (Hfb (Cjb (NG.g ⟨h,hn.1.2⟩) h1 h0) ?_)
 cases (J5a n.2.1 s b).2 with
 |false=>exact H7b rfl (H4b rfl)
 |true=>exact H6b rfl (H4b rfl)
def Pwa:∀ (m:Nat) (i:Int) (c:Cur) (z:Nod) (n:Nod),i=m→m≤6→Dc c→NG n→
  Tot (λ k=>Gf k i c.1 c.2.1 c.2.2 z.1 z.2.1.1 z.2.1.2 z.2.2.1 z.2.2.2 n.1 n.2.1.1 n.2.1.2 n.2.2.1 n.2.2.2) (λ r=>∃ c' n',Dc c'∧NG n'∧r=(c'.1,c'.2.1,c'.2.2,z.1,z.2.1.1,z.2.1.2,z.2.2.1,z.2.2.2,n'.1,n'.2.1.1,n'.2.1.2,n'.2.2.1,n'.2.2.2)):=by
 intro m
 induction m with
 |zero=>
  intro i c z n hi h6 hc hn;refine Tot.succ ?_;simp only[Gf];exact H9b (by omega) (H4b ⟨c,n,hc,hn,rfl⟩)
 |succ m ih=>
  intro i c z n hi h6 hc hn;refine Tot.succ ?_;simp only[Gf];refine H8b (by omega) ?_;rw[w64 (n:=i-1) (by omega) (by omega)];obtain⟨s,c1,e1,hs,k1⟩:=Od c hc;refine Hfb (Hgb (Q:=λ r=>r=(s,c1)) e1 rfl) ?_;refine H5b (Q6 c1 k1) (λ f hf=>?_);obtain⟨b,c2,e2,k2⟩:=P4 f.2 hf.2 3 (by decide);refine Hfb (Hgb (Q:=λ r=>r=(b,c2)) e2 rfl) ?_;refine Hfb (L3a n s f.1 (!b) (Sy hn) (Mp s hs).1) ?_;exact ih (i-1) c2 z _ (by omega) (by omega) k2 (F4b hn)
def Au:Nod:=((0:Int),(([]:List Nmd),([]:List Nmd)),([]:List Row),([]:List Row))
def Bma (i:Int):H7 i=some (bif inR i 0 20 then (i,([],[]),[],[]) else Au):=by
 unfold H7;rw[Oq];simp only[Vn]
 cases inR i 0 20<;>rfl
def U8a {l:List Row} (h:Mya l) (hl:l.length≤60):Ko l=true:=My.2 ⟨h.1,λ r hr=>Xna (h.2 r hr),hl⟩
def U9a (c:Cur) (hc:Dc c):Tot (λ k=>Fk k c) (λ r=>NG r.1∧Dc r.2):=by
 unfold Fk;obtain⟨x,c1,e1,x0,x1,_,k1⟩:=B0 c hc 6 (by decide);have x1:=x1 (by decide);refine Hfb (Hgb (Q:=λ r=>r=(x,c1)) e1 rfl) ?_;refine Hfb (Hgb (Q:=λ r=>r=(x,([],[]),[],[])) (by rw[Bma,Et.2 ⟨by dsimp only;omega,by dsimp only;omega⟩];rfl) rfl) ?_;obtain⟨y,c2,e2,y0,y1,_,k2⟩:=B0 c1 k1 6 (by decide);have y1:=y1 (by decide);refine Hfb (Hgb (Q:=λ r=>r=(y,c2)) e2 rfl) ?_;have hn0:NG (x,(([]:List Nmd),([]:List Nmd)),([]:List Row),([]:List Row)):=⟨Bw.2 ⟨(by simp),⟨by dsimp only;omega,by dsimp only;omega⟩,(show Al ([],[])=true by decide),(show Ko []=true by decide),(by simp)⟩,λ x hx=>(by cases hx),λ x hx=>(by cases hx)⟩;refine H5b (Pwa y.toNat y c2 Au _ (by omega) (by omega) k2 hn0) ?_;rintro r ⟨c3,n,k3,hn,rfl⟩
 have rot:∀ (n:Nod) (c:Cur),NG n→Dc c→Tot (λ k=>(B9 c).bind λ r9=>(A3 r9.2 40).bind λ r10=>(Fi k n r9.1 r10.1).bind λ r11=>some (r11.1,r10.2)) (λ r=>NG r.1∧Dc r.2):=by
  intro n c hn hc;obtain⟨s,c1,e1,hs,k1⟩:=Od c hc;refine Hfb (Hgb (Q:=λ r=>r=(s,c1)) e1 rfl) ?_;obtain⟨x,c2,e2,x0,x1,_,k2⟩:=B0 c1 k1 40 (by decide);have x1:=x1 (by decide);refine Hfb (Hgb (Q:=λ r=>r=(x,c2)) e2 rfl) ?_;refine Hfb (Bla n s x (Sy hn) (by omega) (by omega)) ?_;exact H4b ⟨U7a hn,k2⟩
 obtain⟨b,c4,e4,k4⟩:=P4 c3 k3 2 (by decide);refine Hfb (Hgb (Q:=λ r=>r=(b,c4)) e4 rfl) ?_;refine Hab (λ _=>?_) (λ _=>?_)
 ·refine H5b (Aza c4 k4) ?_;rintro⟨l,c5⟩ ⟨k5,hl,hl5⟩;refine Hfb (Y3a n l (Sy hn) (Bia (U8a hl (by dsimp only at hl5;omega)))) ?_;obtain⟨b,c6,e6,k6⟩:=P4 c5 k5 3 (by decide);refine Hfb (Hgb (Q:=λ r=>r=(b,c6)) e6 rfl) ?_;exact Hab (λ _=>rot _ c6 (U6a hn) k6) (λ _=>H4b ⟨U6a hn,k6⟩)
 ·obtain⟨b,c6,e6,k6⟩:=P4 c4 k4 3 (by decide);refine Hfb (Hgb (Q:=λ r=>r=(b,c6)) e6 rfl) ?_;exact Hab (λ _=>rot n c6 hn k6) (λ _=>H4b ⟨hn,k6⟩)
def Abb {l:List Row} {x:Row} (h:RF l) (hl:l.length≤999) (hx:Lc x.1):RF (l++[x]):=by
 refine⟨by simp only[Ve,Vd,Vj];omega,λ y hy=>?_⟩;rcases Vp.1 hy with hy|hy
 ·exact h.2 y hy
 ·rw[Vu.1 hy];exact hx
def Pxa (z n:Nod) (hs:Lc ((⟨#[97]⟩:ByteArray))):∀ (m:Nat) (c:Cur) (q:List Row),61-q.length≤m→Dc c→RF q→q.length≤61→
  Tot (λ k=>Gg k c.1 c.2.1 c.2.2 z.1 z.2.1.1 z.2.1.2 z.2.2.1 z.2.2.2 n.1 n.2.1.1 n.2.1.2 n.2.2.1 q) (λ r=>∃ c' q',Dc c'∧RF q'∧r=(z.1,z.2.1.1,z.2.1.2,z.2.2.1,z.2.2.2,n.1,n.2.1.1,n.2.1.2,n.2.2.1,q',c'.1,c'.2.1,c'.2.2)):=by
 intro m
 induction m with
 |zero=>
  intro c q hm hc hq hl;refine Tot.succ ?_;simp only[Gg];obtain⟨x,c1,e1,x0,x1,_,k1⟩:=B0 c hc 2 (by decide);have x1:=x1 (by decide);refine Hfb (Hgb (Q:=λ r=>r=(x,c1)) e1 rfl) ?_;dsimp only;rw[w64 (n:=60+x) (by omega) (by omega)];exact H9b (by omega) (H4b ⟨c1,q,k1,hq,rfl⟩)
 |succ m ih=>
  intro c q hm hc hq hl;refine Tot.succ ?_;simp only[Gg];obtain⟨x,c1,e1,x0,x1,_,k1⟩:=B0 c hc 2 (by decide);have x1:=x1 (by decide);refine Hfb (Hgb (Q:=λ r=>r=(x,c1)) e1 rfl) ?_;dsimp only;rw[w64 (n:=60+x) (by omega) (by omega)];refine Hbb (λ h=>Hcb (by simp only[List.length_cons,List.length_nil];omega) ?_) (λ h=>H4b ⟨c1,q,k1,hq,rfl⟩);exact ih c1 _ (by simp only[List.length_append,List.length_cons,List.length_nil];omega) k1 (Abb hq (by omega) hs) (by simp only[List.length_append,List.length_cons,List.length_nil];omega)
def Uaa (c:Cur) (hc:Dc c):Tot (λ k=>Gi k c) (λ r=>NIn r.1∧Dc r.2):=by
 unfold Gi;refine H5b (U9a c hc) ?_;rintro⟨n,c1⟩ ⟨hg,k1⟩;have hn:=Sy hg;have hq60:=(Bw.1 hg.1).2.2.2.2;obtain⟨x,c2,e2,_,_,_,k2⟩:=B0 c1 k1 12 (by decide);refine Hfb (Hgb (Q:=λ r=>r=(x,c2)) e2 rfl) ?_;refine Hab (λ _=>?_) (λ _=>Hab (λ _=>?_) (λ _=>Hab (λ _=>?_) (λ _=>Hab (λ _=>?_) (λ _=>Hab (λ _=>?_) (λ _=>H4b ⟨hn,k2⟩)))))
 ·obtain⟨y,c3,e3,_,k3⟩:=M8 c2 k2 [(-1),20,21] (by decide) (by decide);refine Hfb (Hgb (Q:=λ r=>r=(y,c3)) e3 rfl) ?_;exact H4b ⟨hn,k3⟩
 ·refine H5b (F3b c2 k2) (λ r hr=>H4b ⟨⟨hr.1,hn.2⟩,hr.2⟩)
 ·refine H5b (Hja c2 k2) (λ r hr=>H4b ⟨⟨hn.1,⟨by have:=hr.2.1;dsimp only;omega,hr.2.2⟩,hn.2.2⟩,hr.1⟩)
 ·obtain⟨s,c3,e3,hs,k3⟩:=Qw c2 k2;refine Hfb (Hgb (Q:=λ r=>r=(s,c3)) e3 rfl) ?_;exact Hcb (by dsimp only at hq60 ⊢;simp only[List.length_cons,List.length_nil];omega) (H4b ⟨⟨hn.1,hn.2.1,Abb hn.2.2 (by dsimp only at hq60 ⊢;omega) hs⟩,k3⟩)
 ·refine H5b (Pxa Au n (by unfold Lc;decide) 61 c2 n.2.2.2 (by omega) k2 hn.2.2 (by dsimp only at hq60;omega)) ?_;rintro r ⟨c3,q,k3,hq,rfl⟩;exact H4b ⟨⟨hn.1,hn.2.1,hq⟩,k3⟩

abbrev Dev:=Int×Int×Int
abbrev Rng:=Int×List (List Int)
def Nu:Dev:=((0:Int),((0:Int),(0:Int)))
def O7 (l:List Int) (n:Int):Bool:=l.any (· == n)
def R4 {l:List Int} {n:Int}:O7 l n=true↔n∈l:=by
 unfold O7;rw[Ikb];constructor
 ·rintro⟨x,hx,e⟩;rw[← eq_of_beq e];exact hx
 ·intro h;exact⟨n,h,beq_self_eq_true n⟩
def Uba (l:List Int) (n:Int) (hl:l.length≤4000000000000000):Tot (λ k=>Ic k l n) (λ r=>r=O7 l n):=by
 unfold Ic
 refine H5b (Q:=λ r=>r=bif O7 l n then .inl true else .inr ()) ?_ (by rintro r rfl;cases O7 l n<;>exact H4b rfl)
 refine Hdb (L:=λ k i (_:Unit)=>Hr k n l (l.length:Int) i) (Q:=λ r=>r=bif O7 l n then .inl true else .inr ()) l.length (λ j _=>O7 (l.drop j) n=O7 l n) ?_ ?_ 0 () (Vq _) rfl
 ·intro _ h;rw[Wd]at h;simp (disch:=omega) only [Hr,dF,← h];exact H4b rfl
 ·intro j _ hj h next;rw[Ah (d:=0) hj]at h;simp (disch:=omega) only [Hr,dT,Vc,w64];unfold O7 at h;rw[Irb]at h;refine Hab (λ hc=>H4b ?_) (λ hc=>next () ?_)
  ·rw[hc,K9b]at h;unfold O7;rw[← h];rfl
  ·rw[hc,Hzb]at h;exact h
def Tt (l:List Int) (n:Int) (hl:l.length≤4000000000000000):Tot (λ k=>Cs k l n) (λ r=>r=O7 l n):=by
 unfold Cs
 refine H5b (Q:=λ r=>r=bif O7 l n then .inl true else .inr ()) ?_ (by rintro r rfl;cases O7 l n<;>exact H4b rfl)
 refine Hdb (L:=λ k i (_:Unit)=>Io k l n i) (Q:=λ r=>r=bif O7 l n then .inl true else .inr ()) l.length (λ j _=>O7 (l.drop j) n=O7 l n) ?_ ?_ 0 () (Vq _) rfl
 ·intro _ h;rw[Wd]at h;simp (disch:=omega) only [Io,dF,← h];exact H4b rfl
 ·intro j _ hj h next;rw[Ah (d:=0) hj]at h;simp (disch:=omega) only [Io,dT,Vc,w64];unfold O7 at h;rw[Irb]at h;refine Hab (λ hc=>H4b ?_) (λ hc=>next () ?_)
  ·rw[hc,K9b]at h;unfold O7;rw[← h];rfl
  ·rw[hc,Hzb]at h;exact h
def Ks (l:List Dev) (id:Int):Option Dev:=l.find? (λ d=>d.1==id)
def Gib:Option Dev→Dev×Bool
 |some d=>(d,true)
 |none=>(Nu,false)
def Wz {l:List Dev} {id:Int} {d:Dev} (h:Ks l id=some d):d∈l∧d.1=id:=⟨List.mem_of_find?_eq_some h,eq_of_beq (List.find?_some (p:=λ d:Dev=>d.1==id) h)⟩
def Uca (l:List Dev) (id:Int) (hl:l.length≤1000000000):Tot (λ k=>Li k l id) (λ r=>r=Gib (Ks l id)):=by
 unfold Li
 refine H5b (Q:=λ r=>r=match Ks l id with|some d => .inl (true,d)|none => .inr (0,0,0)) ?_ (by rintro r rfl;cases Ks l id<;>exact H4b rfl)
 refine Hdb (L:=λ k i (_:Unit)=>J0 k id l (l.length:Int) i (0,0,0)) (Q:=λ r=>r=match Ks l id with|some d => .inl (true,d)|none => .inr (0,0,0)) l.length (λ j _=>Ks (l.drop j) id=Ks l id) ?_ ?_ 0 () (Vq _) rfl
 ·intro _ h;rw[Wd]at h;simp (disch:=omega) only [J0,dF,← h];exact H4b rfl
 ·intro j _ hj h next;rw[Ah (d:=Nu) hj]at h;unfold Ks at h;rw[Kcb]at h;simp (disch:=omega) only [J0,dT,Vc,w64];refine Hab (λ hc=>H4b ?_) (λ hc=>next () ?_)
  ·rw[show ((l.getD j Nu).1==id)=true from hc]at h;unfold Ks;rw[← h];rfl
  ·rw[show ((l.getD j Nu).1==id)=false from hc]at h;exact h
def S5 (l:List Dev) (id:Int) (hl:l.length≤1000000000):Tot (λ k=>Ek k l id) (λ r=>r=Gib (Ks l id)):=by
 unfold Ek
 refine H5b (Q:=λ r=>r=match Ks l id with|some d => .inl (true,d)|none => .inr (0,0,0)) ?_ (by rintro r rfl;cases Ks l id<;>exact H4b rfl)
 refine Hdb (L:=λ k i (_:Unit)=>Ip k l id i (0,0,0)) (Q:=λ r=>r=match Ks l id with|some d => .inl (true,d)|none => .inr (0,0,0)) l.length (λ j _=>Ks (l.drop j) id=Ks l id) ?_ ?_ 0 () (Vq _) rfl
 ·intro _ h;rw[Wd]at h;simp (disch:=omega) only [Ip,dF,← h];exact H4b rfl
 ·intro j _ hj h next;rw[Ah (d:=Nu) hj]at h;unfold Ks at h;rw[Kcb]at h;simp (disch:=omega) only [Ip,dT,Vc,w64];refine Hab (λ hc=>H4b ?_) (λ hc=>next () ?_)
  ·rw[show ((l.getD j Nu).1==id)=true from hc]at h;unfold Ks;rw[← h];rfl
  ·rw[show ((l.getD j Nu).1==id)=false from hc]at h;exact h
def Bna (d:Dev):Bool:=inR d.1 0 20&&(inR d.2.1 0 20&&inR d.2.2 1 1000)
def Xy:Option Int→List Dev→Bool
 |_,[]=>true
 |none,d::l=>Bna d&&Xy (some d.1) l
 |some q,d::l=>Bna d&&(decide (q<d.1)&&Xy (some d.1) l)
def Md (l:List Dev):Bool:=Xy none l&&inR (l.length:Int) 1 12
def I6a (l:List Dev):Nat→Option Int
 |0=>none
 |i+1=>some (l.getD i Nu).1
def F6a:∀ (p:Option Int) (l:List Dev),Xy p l=true↔l.Pairwise (λ a b=>a.1<b.1)∧(∀ d∈l,Bna d=true)∧(∀ q,p=some q→∀ d∈l,q<d.1)
 |p,[]=>by cases p<;>simp[Xy]
 |none,d::l=>by
  simp only[Xy,Va,F6a (some d.1) l,Wk,Vl,forall_eq_or_imp,Vg];constructor
  ·rintro⟨h1,h2,h3,h4⟩;exact⟨⟨h4 _ rfl,h2⟩,⟨h1,h3⟩,λ q h=>by cases h⟩
  ·rintro⟨⟨h1,h2⟩,⟨h3,h4⟩,_⟩;exact⟨h3,h2,h4,λ q e=>by subst e;exact h1⟩
 |some q,d::l=>by
  simp only[Xy,Va,decide_eq_true_iff,F6a (some d.1) l,Wk,Vl,forall_eq_or_imp,Vg];constructor
  ·rintro⟨h1,hq,h2,h3,h4⟩;exact⟨⟨h4 _ rfl,h2⟩,⟨h1,h3⟩,λ q' e=>by subst e;exact⟨hq,λ x hx=>by have:=h4 _ rfl x hx;omega⟩⟩
  ·rintro⟨⟨h1,h2⟩,⟨h3,h4⟩,h5⟩;exact⟨h3,(h5 q rfl).1,h2,h4,λ q e=>by subst e;exact h1⟩
def H1 {l:List Dev}:Md l=true↔l.Pairwise (λ a b=>a.1<b.1)∧(∀ d∈l,Bna d=true)∧1≤l.length∧l.length≤12:=by
 unfold Md;rw[Va,F6a,Et];constructor
 ·rintro⟨⟨h1,h2,_⟩,h3,h4⟩;exact⟨h1,h2,by omega,by omega⟩
 ·rintro⟨h1,h2,h3,h4⟩;exact⟨⟨h1,h2,λ q h=>by cases h⟩,by omega,by omega⟩
def Og {d:Dev}:Bna d=true↔(0≤d.1∧d.1≤20)∧(0≤d.2.1∧d.2.1≤20)∧1≤d.2.2∧d.2.2≤1000:=by
 unfold Bna;rw[Va,Va,Et,Et,Et]
def I7a {l:List Dev} {j:Nat} (hj:j<l.length):Xy (I6a l j) (l.drop j)=(Bna (l.getD j Nu)&&((bif decide (0<j) then decide ((l.getD (j-1) Nu).1<(l.getD j Nu).1) else true)&&Xy (I6a l (j+1)) (l.drop (j+1)))):=by
 rw[Ah (d:=Nu) hj]
 cases j with
 |zero=>simp[I6a,Xy]
 |succ j=>simp[I6a,Xy]
def Y5a (l:List Dev) (hl:l.length≤1000000000):Tot (λ k=>H5 k l) (λ r=>r=Md l):=by
 unfold H5 Md;refine H5b (Q:=λ r=>r=bif Xy none l then .inr l else .inl false) ?_ ?_
 ·refine Hdb (L:=λ k i (_:Unit)=>Gw k l l (l.length:Int) i) (Q:=λ r=>r=bif Xy none l then .inr l else .inl false) l.length (λ j _=>Xy (I6a l j) (l.drop j)=Xy none l) ?_ ?_ 0 () (Vq _) rfl
  ·intro _ h;rw[Wd]at h
   have:Xy none l=true:=by rw[← h];cases I6a l l.length<;>rfl
   simp (disch:=omega) only [Gw,dF,this];exact H4b rfl
  ·intro j _ hj h next;rw[I7a hj]at h;simp (disch:=omega) only [Gw,dT,Vc,w64,Xf,Vn];have e0:l.getD j ((0:Int),((0:Int),(0:Int)))=l.getD j Nu:=rfl;rw[e0]
   have no:Bna (l.getD j Nu)=false→Xy none l=false:=λ c=>by rw[← h,c];rfl
   unfold Bna at no h;refine Hab (λ hc=>H4b ?_) (λ h1=>Hab (λ hc=>H4b ?_) (λ h2=>Hab (λ hc=>H4b ?_) (λ h3=>?_)))
   ·rw[no (by rw[Vv]at hc;rw[hc];rfl)];rfl
   ·rw[no (by rw[Vv]at hc;rw[hc,Zr,Yj])];rfl
   ·rw[no (by rw[Vv]at hc;rw[hc,Yj,Yj])];rfl
   ·rw[Wi]at h1 h2 h3;rw[h1,h2,h3]at h;refine Hbb (λ h0=>?_) (λ h0=>next () ?_)
    ·simp (disch:=omega) only [dT,w64,show toNat ((j:Int)-1)=j-1 by omega];rw[decide_eq_true (show 0<j by omega)]at h;refine Hbb (λ hc=>H4b ?_) (λ hc=>next () ?_)
     ·have hc':¬ ((l.getD (j-1) Nu).1<(l.getD j Nu).1):=by
       have:(l.getD (j-1) Nu).1≥(l.getD j Nu).1:=hc;omega
      rw[decide_eq_false hc']at h;rw[← h];rfl
     ·have hc':(l.getD (j-1) Nu).1<(l.getD j Nu).1:=by
       have:¬ ((l.getD (j-1) Nu).1≥(l.getD j Nu).1):=hc;omega
      rw[decide_eq_true hc']at h;exact h
    ·rw[decide_eq_false (show ¬ 0<j by omega)]at h;exact h
 ·rintro r rfl;cases Xy none l
  ·exact H4b rfl
  simp only[cond_true,Hyb,Xf,Vn];exact H4b rfl
def Z5 (l:List Dev) (hl:l.length≤1000000000):Tot (λ k=>C4 k l) (λ r=>r=Md l):=by
 unfold C4 Md;refine H5b (Q:=λ r=>r=bif Xy none l then .inr l else .inl false) ?_ ?_
 ·refine Hdb (L:=λ k i (_:Unit)=>Gp k l i) (Q:=λ r=>r=bif Xy none l then .inr l else .inl false) l.length (λ j _=>Xy (I6a l j) (l.drop j)=Xy none l) ?_ ?_ 0 () (Vq _) rfl
  ·intro _ h;rw[Wd]at h
   have:Xy none l=true:=by rw[← h];cases I6a l l.length<;>rfl
   simp (disch:=omega) only [Gp,dF,this];exact H4b rfl
  ·intro j _ hj h next;rw[I7a hj]at h;simp (disch:=omega) only [Gp,dT,Vc,w64,Oq,Vn];have e0:l.getD j ((0:Int),((0:Int),(0:Int)))=l.getD j Nu:=rfl;rw[e0]
   have no:Bna (l.getD j Nu)=false→Xy none l=false:=λ c=>by rw[← h,c];rfl
   unfold Bna at no h;refine Hab (λ hc=>H4b ?_) (λ h1=>Hab (λ hc=>H4b ?_) (λ h2=>Hab (λ hc=>H4b ?_) (λ h3=>?_)))
   ·rw[no (by rw[Vv]at hc;rw[hc];rfl)];rfl
   ·rw[no (by rw[Vv]at hc;rw[hc,Zr,Yj])];rfl
   ·rw[no (by rw[Vv]at hc;rw[hc,Yj,Yj])];rfl
   ·rw[Wi]at h1 h2 h3;rw[h1,h2,h3]at h;refine Hbb (λ h0=>?_) (λ h0=>next () ?_)
    ·simp (disch:=omega) only [dT,w64,show toNat ((j:Int)-1)=j-1 by omega];rw[decide_eq_true (show 0<j by omega)]at h;refine Hbb (λ hc=>H4b ?_) (λ hc=>next () ?_)
     ·have hc':¬ ((l.getD (j-1) Nu).1<(l.getD j Nu).1):=by
       have:(l.getD (j-1) Nu).1≥(l.getD j Nu).1:=hc;omega
      rw[decide_eq_false hc']at h;rw[← h];rfl
     ·have hc':(l.getD (j-1) Nu).1<(l.getD j Nu).1:=by
       have:¬ ((l.getD (j-1) Nu).1≥(l.getD j Nu).1):=hc;omega
      rw[decide_eq_true hc']at h;exact h
    ·rw[decide_eq_false (show ¬ 0<j by omega)]at h;exact h
 ·rintro r rfl;cases Xy none l
  ·exact H4b rfl
  simp only[cond_true,Hyb,Oq,Vn];exact H4b rfl
def L4a (l:List Dev) (out:List Int) (id:Int):List Int:=match Ks l id with
 |some d=>bif O7 out d.2.1 then out else out++[d.2.1]
 |none=>out
def La (ids:List Int) (l:List Dev):List Int:=ids.foldl (L4a l) []
def I8a (l:List Dev) (out:List Int) (id:Int):(L4a l out id).length≤out.length+1:=by
 unfold L4a
 cases Ks l id with
 |none=>exact Hqb _
 |some d=>
  simp only
  cases O7 out d.2.1 with
  |true=>exact Hqb _
  |false=>rw[cond_false,Ve];exact Vx _
def I9a (l:List Dev):∀ (ids out:List Int),(ids.foldl (L4a l) out).length≤out.length+ids.length
 |[],out=>by simp
 |id::ids,out=>by
  have h1:=I9a l ids (L4a l out id);have h2:=I8a l out id;rw[Ym,Vd];omega
def Iaa (ids:List Int) (l:List Dev) (hi:ids.length≤5000000) (hl:l.length≤5000000):Tot (λ k=>D9 k ids l) (λ r=>r=La ids l):=by
 unfold D9;refine H5b (Q:=λ r=>r=La ids l) ?_ (by rintro r rfl;exact H4b rfl);refine Hdb (L:=λ k i s=>Ds k ids l s i) (Q:=λ r=>r=La ids l) ids.length (λ j s=>(ids.drop j).foldl (L4a l) s=La ids l∧s.length≤j) ?_ ?_ 0 [] (Vq _) ⟨rfl,Vx _⟩
 ·rintro s ⟨h,_⟩;rw[Wd]at h;simp (disch:=omega) only [Ds,dF];exact H4b h
 ·rintro j s hj ⟨h,hs⟩ next;rw[Ah (d:=0) hj,Ym]at h;simp (disch:=omega) only [Ds,dT,Vc,w64];have hz:=I8a l s (ids.getD j 0);refine Hfb (S5 l (ids.getD j 0) (by omega)) ?_;unfold L4a at h hz
  cases hd:Ks l (ids.getD j 0) with
  |none=>
   rw[hd]at h;exact H6b rfl (next _ ⟨h,by omega⟩)
  |some d=>
   rw[hd]at h hz;refine H7b rfl (Hfb (Tt s d.2.1 (by omega)) ?_);simp only at h hz
   cases hh:O7 s d.2.1 with
   |true=>
    rw[hh]at h;exact H6b rfl (next _ ⟨h,by omega⟩)
   |false=>
    rw[hh]at h hz;exact H7b rfl (Hcb (by simp only[Vd,Vj];omega) (next _ ⟨h,by rw[cond_false]at hz;exact Zt hz (by omega)⟩))

def S6 {l:List Int} {j:Nat} (hj:j<l.length) (h:(l.take j).Nodup) (hn:l.getD j 0∉l.take j):(l.take (j+1)).Nodup:=by
 rw[We hj,Yl];rw[Vb,Vk hj,Yq]at hn;exact⟨h,by simp,λ a ha b hb e=>by rw[Vu.1 hb]at e;subst e;exact hn ha⟩
def Iba {l:List Int} {j:Nat} (hj:j<l.length) (hn:l.getD j 0∈l.take j):¬ l.Nodup:=by
 intro h;have h1:(l.take (j+1)).Nodup:=h.sublist (Jzb _ _);rw[We hj,Yl]at h1;rw[Vb,Vk hj,Yq]at hn;exact h1.2.2 _ hn _ (by simp) rfl
def Uda (l:List Int) (hl:l.length≤5000000):Tot (λ k=>J9 k l) (λ r=>r=decide l.Nodup):=by
 unfold J9
 refine H5b (Q:=λ r=>r=bif decide l.Nodup then .inr () else .inl false) ?_ (by rintro r rfl;cases decide l.Nodup<;>exact H4b rfl)
 refine Hdb (L:=λ k i (_:Unit)=>Iz k l l (l.length:Int) i) (Q:=λ r=>r=bif decide l.Nodup then .inr () else .inl false) l.length (λ j _=>(l.take j).Nodup) ?_ ?_ 0 () (Vq _) (by simp)
 ·intro _ h;rw[Yn]at h;simp (disch:=omega) only [Iz,dF,decide_eq_true h];exact H4b rfl
 ·intro j _ hj h next;simp (disch:=omega) only [Iz,dT,Vc,w64];refine Hfb (Uba (l.take j) (l.getD j 0) (by rw[Vt];omega)) ?_;refine Hab (λ hc=>H4b ?_) (λ hc=>next () (S6 hj h (λ c=>by rw[R4.2 c]at hc;cases hc)));rw[decide_eq_false (Iba hj (R4.1 hc))];rfl
def Nsa (l:List Int) (n:Int) (hl:l.length≤5000000):Tot (λ k=>Eo k l n) (λ r=>r=(decide l.Nodup&&((l.length:Int)==n))):=by
 unfold Eo
 refine H5b (Q:=λ r=>r=bif decide l.Nodup then .inr (n,l) else .inl false) ?_ (by rintro r rfl;cases decide l.Nodup<;>exact H4b rfl)
 refine Hdb (L:=λ k i (_:Unit)=>Ho k n i l) (Q:=λ r=>r=bif decide l.Nodup then .inr (n,l) else .inl false) l.length (λ j _=>(l.take j).Nodup) ?_ ?_ 0 () (Vq _) (by simp)
 ·intro _ h;rw[Yn]at h;simp (disch:=omega) only [Ho,dF,decide_eq_true h];exact H4b rfl
 ·intro j _ hj h next;simp (disch:=omega) only [Ho,dT,Vc,w64];refine Hfb (Tt (l.take j) (l.getD j 0) (by rw[Vt];omega)) ?_;refine Hab (λ hc=>H4b ?_) (λ hc=>next () (S6 hj h (λ c=>by rw[R4.2 c]at hc;cases hc)));rw[decide_eq_false (Iba hj (R4.1 hc))];rfl
def RBd (r:Rng):Prop:=r.2.length≤2000000∧∀ p∈r.2,p.length≤2000000
def Mr (l:List Dev) (n:Int) (p:List Int):Bool:=(decide p.Nodup&&((p.length:Int)==n))&&p.all λ id=>(Ks l id).isSome
def Jf (r:Rng) (l:List Dev):Bool:=Md l&&(inR r.1 1 5&&(inR (r.2.length:Int) 1 64&&r.2.all (Mr l r.1)))
def D6 {r:Rng} {l:List Dev}:Jf r l=true↔Md l=true∧(1≤r.1∧r.1≤5)∧(1≤r.2.length∧r.2.length≤64)∧∀ p∈r.2,p.Nodup∧(p.length:Int)=r.1∧∀ id∈p,∃ d,Ks l id=some d:=by
 unfold Jf Mr;simp only[Va,Et,Yt,decide_eq_true_iff,beq_iff_eq,Zd];constructor
 ·rintro⟨h1,h2,⟨h3,h4⟩,h5⟩;exact⟨h1,h2,⟨by omega,by omega⟩,λ p hp=>⟨(h5 p hp).1.1,(h5 p hp).1.2,(h5 p hp).2⟩⟩
 ·rintro⟨h1,h2,⟨h3,h4⟩,h5⟩;exact⟨h1,h2,⟨by omega,by omega⟩,λ p hp=>⟨⟨(h5 p hp).1,(h5 p hp).2.1⟩,(h5 p hp).2.2⟩⟩
def N6 {r:Rng} {l:List Dev} (h:Jf r l=true):RBd r:=by
 obtain⟨_,h2,h3,h4⟩:=D6.1 h;exact⟨by omega,λ p hp=>by have:=(h4 p hp).2.1;omega⟩
def Y6a (r:Rng) (l:List Dev) (hr:RBd r) (hl:l.length≤5000000):Tot (λ k=>Fo k r l) (λ b=>b=Jf r l):=by
 unfold Fo Jf;refine Hfb (Y5a l (by omega)) ?_;cases hd:Md l
 ·exact H7b rfl (H4b rfl)
 have hrl:=hr.1;simp only[Zh,cond_false,Xf,Vn,Vz];cases inR r.1 1 5
 ·exact H7b rfl (H4b rfl)
 refine H6b rfl ?_;cases inR (r.2.length:Int) 1 64
 ·exact H7b rfl (H4b rfl)
 refine H6b rfl (H5b (Q:=λ b=>b=bif r.2.all (Mr l r.1) then .inr () else .inl false) ?_ (by rintro r' rfl;cases r.2.all (Mr l r.1)<;>exact H4b rfl))
 refine Hdb (L:=λ k i (_:Unit)=>Ht k l r.2 (r.2.length:Int) i r) (Q:=λ b=>b=bif r.2.all (Mr l r.1) then .inr () else .inl false) r.2.length (λ j _=>(r.2.drop j).all (Mr l r.1)=r.2.all (Mr l r.1)) ?_ ?_ 0 () (Vq _) rfl
 ·intro _ h;rw[Wd]at h;simp (disch:=omega) only [Ht,dF,← h];exact H4b rfl
 ·intro j _ hj h next;rw[Ah (d:=[]) hj,Hjb]at h;have hp:=hr.2 _ (A4 (d:=[]) hj);simp (disch:=omega) only [Ht,dT,Vc,w64]
  have no:Mr l r.1 (r.2.getD j [])=false→r.2.all (Mr l r.1)=false:=λ c=>by rw[← h,c];rfl
  unfold Mr at no h;refine Hab (λ hc=>H4b ?_) (λ h1=>H5b (Uda (r.2.getD j []) (by omega)) ?_)
  ·have hc':(((r.2.getD j []).length:Int)==r.1)=false:=by simpa using hc
   rw[show r.2.all (Mr l r.1)=false from no (by rw[hc',Yj,Zr])];rfl
  ·have h1':(((r.2.getD j []).length:Int)==r.1)=true:=by simpa using h1
   rintro b rfl;refine Hab (λ hc=>H4b ?_) (λ h2=>?_)
   ·rw[show r.2.all (Mr l r.1)=false from no (by rw[Vv]at hc;rw[hc];rfl)];rfl
   ·rw[Wi]at h2;generalize r.2.getD j []=p at *;refine H5b (Q:=λ b=>b=bif p.all (λ id=>(Ks l id).isSome) then .inr (l,r.2,(r.2.length:Int),(j:Int),r) else .inl false) ?_ ?_
    ·refine Hdb (L:=λ k i (_:Unit)=>Hs k l r.2 (r.2.length:Int) (j:Int) p (p.length:Int) i r) (Q:=λ b=>b=bif p.all (λ id=>(Ks l id).isSome) then .inr (l,r.2,(r.2.length:Int),(j:Int),r) else .inl false) p.length (λ m _=>(p.drop m).all (λ id=>(Ks l id).isSome)=p.all (λ id=>(Ks l id).isSome)) ?_ ?_ 0 () (Vq _) rfl
     ·intro _ h;rw[Wd]at h;simp (disch:=omega) only [Hs,dF,← h];exact H4b rfl
     ·intro m _ hm h next;rw[Ah (d:=0) hm,Hjb]at h;simp (disch:=omega) only [Hs,dT,Vc,w64];refine Hfb (Uca l (p.getD m 0) (by omega)) ?_
      cases hd:Ks l (p.getD m 0) with
      |none=>exact H7b rfl (H4b (by rw[← h,hd];rfl))
      |some d=>exact H6b rfl (next () (by rw[hd]at h;exact h))
    ·rintro b rfl;cases hc:p.all (λ id=>(Ks l id).isSome)
     ·exact H4b (by rw[show r.2.all (Mr l r.1)=false from no (by rw[hc,Yj])];rfl)
     simp (disch:=omega) only [cond_true,Hyb,w64];exact next () (by rw[h2,h1',hc]at h;exact h)
def Y7a (r:Rng) (l:List Dev) (hr:RBd r) (hl:l.length≤5000000):Tot (λ k=>Fp k r l) (λ b=>b=Jf r l):=by
 unfold Fp Jf;refine Hfb (Z5 l (by omega)) ?_;cases hd:Md l
 ·exact H7b rfl (H4b rfl)
 have hrl:=hr.1;simp only[Zh,cond_false,Oq,Vn,Vz];cases inR r.1 1 5
 ·exact H7b rfl (H4b rfl)
 refine H6b rfl ?_;cases inR (r.2.length:Int) 1 64
 ·exact H7b rfl (H4b rfl)
 refine H6b rfl (H5b (Q:=λ b=>b=bif r.2.all (Mr l r.1) then .inr () else .inl false) ?_ (by rintro r' rfl;cases r.2.all (Mr l r.1)<;>exact H4b rfl))
 refine Hdb (L:=λ k i (_:Unit)=>Hy k l i r) (Q:=λ b=>b=bif r.2.all (Mr l r.1) then .inr () else .inl false) r.2.length (λ j _=>(r.2.drop j).all (Mr l r.1)=r.2.all (Mr l r.1)) ?_ ?_ 0 () (Vq _) rfl
 ·intro _ h;rw[Wd]at h;simp (disch:=omega) only [Hy,dF,← h];exact H4b rfl
 ·intro j _ hj h next;rw[Ah (d:=[]) hj,Hjb]at h;have hp:=hr.2 _ (A4 (d:=[]) hj);simp (disch:=omega) only [Hy,dT,Vc,w64]
  have no:Mr l r.1 (r.2.getD j [])=false→r.2.all (Mr l r.1)=false:=λ c=>by rw[← h,c];rfl
  unfold Mr at no h;refine Hfb (Nsa (r.2.getD j []) r.1 (by omega)) ?_;refine Hab (λ hc=>H4b ?_) (λ h2=>?_)
  ·rw[show r.2.all (Mr l r.1)=false from no (by rw[Vv]at hc;rw[hc];rfl)];rfl
  ·rw[Wi]at h2;refine H5b (Q:=λ b=>b=bif (r.2.getD j []).all (λ id=>(Ks l id).isSome) then .inr (l,(j:Int),r) else .inl false) ?_ ?_
   ·refine Hdb (L:=λ k i (_:Unit)=>Hx k l (j:Int) i r) (Q:=λ b=>b=bif (r.2.getD j []).all (λ id=>(Ks l id).isSome) then .inr (l,(j:Int),r) else .inl false) (r.2.getD j []).length (λ m _=>((r.2.getD j []).drop m).all (λ id=>(Ks l id).isSome)=(r.2.getD j []).all (λ id=>(Ks l id).isSome)) ?_ ?_ 0 () (Vq _) rfl
    ·intro _ h;rw[Wd]at h;simp (disch:=omega) only [Hx,dT,dF,Vc,← h];exact H4b rfl
    ·intro m _ hm h next;rw[Ah (d:=0) hm,Hjb]at h;simp (disch:=omega) only [Hx,dT,Vc,w64];refine Hfb (S5 l ((r.2.getD j []).getD m 0) (by omega)) ?_
     cases hd:Ks l ((r.2.getD j []).getD m 0) with
     |none=>exact H7b rfl (H4b (by rw[← h,hd];rfl))
     |some d=>exact H6b rfl (next () (by rw[hd]at h;exact h))
   ·rintro b rfl;cases hc:(r.2.getD j []).all (λ id=>(Ks l id).isSome)
    ·exact H4b (by rw[show r.2.all (Mr l r.1)=false from no (by rw[hc,Yj])];rfl)
    simp (disch:=omega) only [cond_true,Hyb,w64];exact next () (by rw[h2,hc]at h;exact h)
def Xj (l:List Int) (hl:l.length≤5000000):Ft l=some l:=by
 unfold Ft;rw[bT (by simp only[Vj];omega),Wa]
def Ica (r:Rng) (hr:RBd r):Tot (λ k=>Dp k r) (λ x=>x=r):=by
 have hrl:=hr.1;unfold Dp;refine H5b (Q:=λ x=>x=((0,[]),r)) ?_ (by rintro x rfl;exact H4b rfl);refine Hdb (L:=λ k i s=>F8 k r.2 (r.2.length:Int) i (0,[]) (r.1,s)) (Q:=λ x=>x=((0,[]),r)) r.2.length (λ j s=>s=r.2.take j) ?_ ?_ 0 [] (Vq _) rfl
 ·rintro s rfl;simp (disch:=omega) only [F8,dF,Yn];exact H4b rfl
 ·rintro j s hj rfl next;have hp:=hr.2 _ (A4 (d:=[]) hj);simp (disch:=omega) only [F8,dT,Vc,w64,Xj,Vn];refine Hcb (by simp only[Vt,Vd,Vj];omega) (next _ ?_);rw[We hj,Vb,Vk hj,Yq]
def Xk (r:Rng) (hr:RBd r):Tot (λ k=>Jk k r) (λ x=>x=r):=by
 have hrl:=hr.1;unfold Jk;refine H5b (Q:=λ x=>x=((0,[]),r)) ?_ (by rintro x rfl;exact H4b rfl);refine Hdb (L:=λ k i s=>Gu k i r (0,[]) (r.1,s)) (Q:=λ x=>x=((0,[]),r)) r.2.length (λ j s=>s=r.2.take j) ?_ ?_ 0 [] (Vq _) rfl
 ·rintro s rfl;simp (disch:=omega) only [Gu,dF,Yn];exact H4b rfl
 ·rintro j s hj rfl next;have hp:=hr.2 _ (A4 (d:=[]) hj);simp (disch:=omega) only [Gu,dT,Vc,w64];refine Hcb (by simp only[Vj];omega) (Hcb (by simp only[Vt,Vd,Vj];omega) (next _ ?_));rw[We hj,Vb,Vk hj,Yq,Wa]
def cnt (id n x:Int):Int:=bif x==id then n+1 else n
def L5a (id n:Int) (p:List Int):Int:=p.foldl (cnt id) n
def N2 (r:Rng) (id:Int):Int:=r.2.foldl (L5a id) 0
def L6a (id:Int):∀ (p:List Int) (n:Int),n≤L5a id n p∧L5a id n p≤n+p.length
 |[],n=>by simp[L5a]
 |x::p,n=>by
  have h:=L6a id p (cnt id n x);unfold L5a at h ⊢
  have hc:n≤cnt id n x∧cnt id n x≤n+1:=by unfold cnt;cases x==id<;>simp<;>omega
  rw[Ym,Vd];omega
def Uea (id:Int) (m:Nat):∀ (ps:List (List Int)) (n:Int),(∀ p∈ps,p.length≤m)→n≤ps.foldl (L5a id) n∧ps.foldl (L5a id) n≤n+(m*ps.length:Nat)
 |[],n,_=>by simp
 |p::ps,n,h=>by
  have h1:=Uea id m ps (L5a id n p) (λ q hq=>h q (Vi _ hq));have h2:=L6a id p n;have h3:=h p Yv;rw[Ym,Vd,Nat.mul_succ];omega
def Uz {r:Rng} (hr:RBd r) (id:Int):0≤N2 r id∧N2 r id≤4000000000000:=by
 have h:=Uea id 2000000 r.2 0 hr.2;have h2:=hr.1;unfold N2;omega
def Z6 (r:Rng) (id:Int) (hr:RBd r):Tot (λ k=>Cy k r id) (λ x=>x=N2 r id):=by
 have hrl:=hr.1;unfold Cy;refine H5b (Q:=λ x=>x=N2 r id) ?_ (by rintro x rfl;exact H4b rfl);refine Hdb (L:=λ k i s=>Hh k id s i r) (Q:=λ x=>x=N2 r id) r.2.length (λ j s=>(r.2.drop j).foldl (L5a id) s=N2 r id∧0≤s∧s≤2000000*j) ?_ ?_ 0 0 (Vq _) ⟨rfl,by omega,by omega⟩
 ·rintro s ⟨h,_⟩;rw[Wd]at h;simp (disch:=omega) only [Hh,dF];exact H4b h
 ·rintro j s hj ⟨h,h0,h1⟩ next;rw[Ah (d:=[]) hj,Ym]at h;have hp:=hr.2 _ (A4 (d:=[]) hj);have hc:=L6a id (r.2.getD j []) s;simp (disch:=omega) only [Hh,dT];refine H5b (Q:=λ x=>x=(id,L5a id s (r.2.getD j []),(j:Int),r)) ?_ ?_
  ·refine Hdb (L:=λ k i s=>Gq k id s (j:Int) i r) (Q:=λ x=>x=(id,L5a id s (r.2.getD j []),(j:Int),r)) (r.2.getD j []).length (λ m z=>L5a id z ((r.2.getD j []).drop m)=L5a id s (r.2.getD j [])∧0≤z∧z≤2000000*j+m) ?_ ?_ 0 s (Vq _) ⟨rfl,h0,by omega⟩
   ·rintro z ⟨h,_⟩;rw[Wd]at h;simp (disch:=omega) only [Gq,dT,dF,Vc];exact H4b (by rw[← h];rfl)
   ·rintro m z hm ⟨h,z0,z1⟩ next;rw[Ah (d:=0) hm]at h;simp (disch:=omega) only [Gq,dT,Vc,w64];have h':L5a id (cnt id z ((r.2.getD j []).getD m 0)) ((r.2.getD j []).drop (m+1))=L5a id s (r.2.getD j []):=h;unfold cnt at h';refine Hab (λ hc=>next _ ?_) (λ hc=>next _ ?_)
    ·rw[hc]at h';exact⟨h',by omega,by omega⟩
    ·rw[hc]at h';exact⟨h',by omega,by omega⟩
  ·rintro x rfl;simp (disch:=omega) only [w64];exact next _ ⟨h,by omega,by omega⟩

def Gwb {a w:Int} (h0:0≤a) (h1:a≤4000000000001) (w0:0≤w) (w1:w≤1000) : -9223372036854775808≤a*w∧a*w≤9223372036854775807:=by
 have e1:=Int.mul_nonneg h0 w0;have e2:a*w≤4000000000001*1000:=Int.mul_le_mul h1 w1 w0 (by decide);omega
def Boa (r:Rng) (p zs:List Int) (a:Option (Dev×Bool)) (d:Dev):Option (Dev×Bool):=
 bif O7 p d.1 then a else match a with
 |none=>some (d,!(O7 zs d.2.1))
 |some (b,fr)=>bif (!(O7 zs d.2.1)&&!fr)||(((!(O7 zs d.2.1))==fr)&&decide ((N2 r d.1+1)*b.2.2<(N2 r b.1+1)*d.2.2)) then some (d,!(O7 zs d.2.1)) else some (b,fr)
def Tu (r:Rng) (p:List Int) (l:List Dev):Option (Dev×Bool):=l.foldl (Boa r p (La p l)) none
def Cea (r:Rng) (p:List Int) (l:List Dev):Int:=match Tu r p l with
 |some b=>b.1.1
 |none => -1
def Y8a {r:Rng} {p zs:List Int} {l:List Dev} {a:Option (Dev×Bool)} {d:Dev} (ha:∀ b,a=some b→b.1∈l∧b.1.1∉p) (hd:d∈l):∀ b,Boa r p zs a d=some b→b.1∈l∧b.1.1∉p:=by
 intro b hb;unfold Boa at hb;cases hp:O7 p d.1
 case true=>rw[hp]at hb;exact ha b hb
 have hn:d.1∉p:=λ c=>by rw[R4.2 c]at hp;cases hp
 rw[hp,cond_false]at hb
 cases a with
 |none=>cases hb;exact⟨hd,hn⟩
 |some c=>
  obtain⟨c,fr⟩:=c;simp only at hb
  cases hq:(!(O7 zs d.2.1)&&!fr)||(((!(O7 zs d.2.1))==fr)&&decide ((N2 r d.1+1)*c.2.2<(N2 r c.1+1)*d.2.2)) with
  |true=>rw[hq]at hb;cases hb;exact⟨hd,hn⟩
  |false=>rw[hq]at hb;cases hb;exact ha _ rfl
def Nta {r:Rng} {p zs:List Int} {l:List Dev}:∀ (m:List Dev) (a:Option (Dev×Bool)),(∀ b,a=some b→b.1∈l∧b.1.1∉p)→(∀ d∈m,d∈l)→∀ b,m.foldl (Boa r p zs) a=some b→b.1∈l∧b.1.1∉p
 |[],_,ha,_=>ha
 |d::m,_,ha,hm=>Nta m _ (Y8a ha (hm d Yv)) (λ x hx=>hm x (Vi _ hx))
def Nua {r:Rng} {p:List Int} {l:List Dev} {b:Dev×Bool} (h:Tu r p l=some b):b.1∈l∧b.1.1∉p:=Nta l none (λ b h=>by cases h) (λ _ h=>h) b h
def Pya {r:Rng} {p zs:List Int} {a:Option (Dev×Bool)} {d:Dev} (h:a.isSome=true∨d.1∉p):(Boa r p zs a d).isSome=true:=by
 unfold Boa
 cases hp:O7 p d.1 with
 |true=>
  rcases h with h|h
  ·exact h
  ·exact absurd (R4.1 hp) h
 |false=>
  cases a with
  |none=>rfl
  |some c=>
   obtain⟨c,fr⟩:=c;simp only[cond_false]
   cases (!(O7 zs d.2.1)&&!fr)||(((!(O7 zs d.2.1))==fr)&&decide ((N2 r d.1+1)*c.2.2<(N2 r c.1+1)*d.2.2))<;>rfl
def Dpa {r:Rng} {p zs:List Int}:∀ (m:List Dev) (a:Option (Dev×Bool)),(a.isSome=true∨∃ d∈m,d.1∉p)→(m.foldl (Boa r p zs) a).isSome=true
 |[],a,h=>by
  rcases h with h|⟨d,h,_⟩
  ·exact h
  ·cases h
 |d::m,a,h=>by
  refine Dpa m _ ?_
  by_cases hd:a.isSome=true∨d.1∉p
  ·exact .inl (Pya hd)
  ·rcases h with h|⟨x,hx,hn⟩
   ·exact absurd (.inl h) hd
   ·rcases Vl.1 hx with rfl|hx
    ·exact absurd (.inr hn) hd
    ·exact .inr ⟨x,hx,hn⟩
def Y9a {r:Rng} {p:List Int} {l:List Dev} (h:∃ d∈l,d.1∉p):∃ d∈l,Cea r p l=d.1∧d.1∉p:=by
 obtain⟨b,hb⟩:=Zd.1 (Dpa (r:=r) (zs:=La p l) l none (.inr h));obtain⟨h1,h2⟩:=Nua hb;exact⟨b.1,h1,by unfold Cea;rw[show Tu r p l=some b from hb],h2⟩
def Pza (r:Rng) (p:List Int) (l:List Dev):(Tu r p l=none∧Cea r p l = -1)∨∃ b,Tu r p l=some b∧Cea r p l=b.1.1∧b.1∈l∧b.1.1∉p:=by
 cases h:Tu r p l with
 |none=>exact .inl ⟨rfl,by unfold Cea;rw[h]⟩
 |some b=>exact .inr ⟨b,rfl,by unfold Cea;rw[h],Nua h⟩
def Bpa (p:List Int) (l:List Dev):(La p l).length≤p.length:=by
 have:=I9a l p [];rwa [Vj,Wl]at this
def bs (r:Rng):Option (Dev×Bool)→Int×Bool×Dev
 |some (b,fr)=>(N2 r b.1+1,fr,b)
 |none=>(0,false,-1,0,0)
def Nva (r:Rng) (p:List Int) (l:List Dev) (hr:RBd r) (hp:p.length≤2000000) (hl:Md l=true):Tot (λ k=>Ih k r p l) (λ x=>x=Cea r p l):=by
 obtain⟨_,hdv,_,h12⟩:=H1.1 hl;have hz:=Bpa p l;unfold Ih;refine Hfb (Iaa p l (by omega) (by omega)) ?_;refine H5b (Q:=λ x=>∃ i:Int,x=(l,i)∧match Tu r p l with|some b=>∃ n:Nat,i=(n:Int)∧n<l.length∧l.getD n Nu=b.1|none=>i = -1) ?_ ?_
 ·refine Hdb (L:=λ k i (s:Int×Bool)=>Bx k l (La p l) s.1 s.2 i r p) (Q:=λ x=>∃ i:Int,x=(l,i)∧match Tu r p l with|some b=>∃ n:Nat,i=(n:Int)∧n<l.length∧l.getD n Nu=b.1|none=>i = -1) l.length
   (λ j s=>∃ a,(match a with|some (b,fr)=>s.2=fr∧∃ n:Nat,s.1=(n:Int)∧n<l.length∧l.getD n Nu=b|none=>s=(-1,false))∧(l.drop j).foldl (Boa r p (La p l)) a=Tu r p l) ?_ ?_ 0 (-1,false) (Vq _) ⟨none,rfl,rfl⟩
  ·rintro⟨s1,s2⟩ ⟨a,hs,h⟩;rw[Wd]at h;simp (disch:=omega) only [Bx,dF];refine H4b ⟨s1,rfl,?_⟩;rw[← h]
   cases a with
   |none=>exact(Prod.mk.inj hs).1
   |some bf=>exact hs.2
  ·rintro j ⟨s1,s2⟩ hj ⟨a,hs,h⟩ next;rw[Ah (d:=Nu) hj,Ym]at h;have hd:=A4 (d:=Nu) hj;obtain⟨d,ed⟩:∃ d:Dev,l.getD j Nu=d:=⟨_,rfl⟩;rw[ed]at h hd;have e0:l.getD j ((0:Int),((0:Int),(0:Int)))=d:=ed;obtain⟨_,_,w0,w1⟩:=Og.1 (hdv _ hd);have l1:=Uz hr d.1;simp (disch:=omega) only [Bx,dT,Vc,w64,e0];refine Hfb (Z5 l (by omega)) ?_;refine H7b hl (Hfb (Tt p d.1 (by omega)) ?_);unfold Boa at h
   cases hp':O7 p d.1 with
   |true=>
    rw[hp']at h;exact H7b rfl (next _ ⟨a,hs,h⟩)
   |false=>
    rw[hp',cond_false]at h;refine H6b rfl (Hfb (Tt (La p l) d.2.1 (by omega)) ?_);have take:∀ {z:Bool},(l.drop (j+1)).foldl (Boa r p (La p l)) (some (d,z))=Tu r p l→Tot (λ k=>Bx k l (La p l) (j:Int) z ((j:Int)+1) r p) (λ x=>∃ i:Int,x=(l,i)∧match Tu r p l with|some b=>∃ n:Nat,i=(n:Int)∧n<l.length∧l.getD n Nu=b.1|none=>i = -1):=λ {z} h2=>next ((j:Int),z) ⟨some (d,z),⟨rfl,j,rfl,hj,ed⟩,h2⟩
    cases a with
    |none=>
     obtain⟨rfl,rfl⟩:=Prod.mk.inj hs;exact H8b (by decide) (take h)
    |some bf=>
     obtain⟨b,fr⟩:=bf;obtain⟨e1,n,e2,hn,e3⟩:=hs;dsimp only at e1 e2;subst e1 e2;have hb:=A4 (d:=Nu) hn;rw[e3]at hb;obtain⟨⟨i0,_⟩,_,v0,v1⟩:=Og.1 (hdv _ hb);have l2:=Uz hr b.1;have m1:=Gwb (a:=N2 r d.1+1) (w:=b.2.2) (by omega) (by omega) (by omega) v1;have m2:=Gwb (a:=N2 r b.1+1) (w:=d.2.2) (by omega) (by omega) (by omega) w1;have stay:(l.drop (j+1)).foldl (Boa r p (La p l)) (some (b,s2))=Tu r p l→Tot (λ k=>Bx k l (La p l) (n:Int) s2 ((j:Int)+1) r p) (λ x=>∃ i:Int,x=(l,i)∧match Tu r p l with|some b=>∃ n:Nat,i=(n:Int)∧n<l.length∧l.getD n Nu=b.1|none=>i = -1):=λ h2=>next ((n:Int),s2) ⟨some (b,s2),⟨rfl,n,rfl,hn,e3⟩,h2⟩;refine H9b (by omega) ?_;have e4:l.getD n ((0:Int),((0:Int),(0:Int)))=b:=e3;dsimp only at h
     have cmp:∀ {z:Bool},O7 (La p l) d.2.1=z→((!z)==s2)=true→(!z&&!s2)=false→Tot (λ k=>(Cy k r d.1).bind λ r5=>cond (decide ((0:Int)≤(n:Int))) (cond (decide ((n:Int)<(length l:Int))) (cond (decide ((0:Int)≤(n:Int))) (cond (decide ((n:Int)<(length l:Int))) ((Cy k r (getD l (toNat (n:Int)) ((0:Int),((0:Int),(0:Int)))).1).bind λ r8=>cond (decide ((wrap .i64 ((wrap .i64 (r5+1))*(getD l (toNat (n:Int)) ((0:Int),((0:Int),(0:Int)))).2.2))<(wrap .i64 ((wrap .i64 (r8+1))*d.2.2)))) (Bx k l (La p l) (j:Int) s2 ((j:Int)+1) r p) (Bx k l (La p l) (n:Int) s2 ((j:Int)+1) r p)) none) none) none) none) (λ x=>∃ i:Int,x=(l,i)∧match Tu r p l with|some b=>∃ n:Nat,i=(n:Int)∧n<l.length∧l.getD n Nu=b.1|none=>i = -1):=by
      intro z hz e1 e2;rw[hz,e1,e2,Hzb,Vz]at h;refine Hfb (Z6 r d.1 hr) ?_;refine H8b (by omega) (H8b (by omega) (H8b (by omega) (H8b (by omega) ?_)));rw[Vc,e4];refine Hfb (Z6 r b.1 hr) ?_;rw[w64 (n:=N2 r d.1+1) (by omega) (by omega),w64 (n:=N2 r b.1+1) (by omega) (by omega),w64 m1.1 m1.2,w64 m2.1 m2.2];refine Hab (λ hc=>?_) (λ hc=>?_)
      ·rw[hc,cond_true]at h;rw[show s2 = !z by rw[← eq_of_beq e1]];exact take h
      ·rw[hc]at h;exact stay h
     cases hz:O7 (La p l) d.2.1 with
     |false=>
      have cm:=cmp hz;rw[hz]at h
      cases s2 with
      |false=>exact H7b rfl (H7b rfl (take h))
      |true=>exact H7b rfl (H6b rfl (H7b rfl (cm rfl rfl)))
     |true=>
      have cm:=cmp hz;rw[hz]at h
      cases s2 with
      |false=>exact H6b rfl (H7b rfl (cm rfl rfl))
      |true=>exact H6b rfl (H6b rfl (stay h))
 ·rintro x ⟨i,rfl,hi⟩;unfold Cea
  cases hb:Tu r p l with
  |none=>
   rw[hb]at hi;subst hi;exact H8b (show (-1:Int)<0 by decide) (H4b rfl)
  |some b=>
   rw[hb]at hi;obtain⟨n,rfl,hn,e⟩:=hi;dsimp only;refine H9b (by omega) (H8b (by omega) (H8b (by omega) (H4b ?_)));rw[Int.toNat_natCast,show l.getD n ((0:Int),((0:Int),(0:Int)))=b.1 from e]

def Ufa {l:List Dev} (h:Md l=true) {d:Dev} (hd:d∈l):Ks l d.1=some d:=by
 have hp:=(H1.1 h).1;clear h
 induction l with
 |nil=>cases hd
 |cons x l ih=>
  obtain⟨h1,h2⟩:=Wk.1 hp;unfold Ks;rw[Kcb];rcases Vl.1 hd with rfl|hd
  ·rw[beq_self_eq_true]
  ·have:=h1 d hd;rw[show (x.1==d.1)=false from beq_eq_false_iff_ne.2 (by omega)];exact ih hd h2
def Acb:∀ (p:List Int) (l:List Dev),l.Pairwise (λ a b=>a.1<b.1)→p.length<l.length→∃ d∈l,d.1∉p
 |p,[],_,h=>by simp at h
 |p,d::l,hl,h=>by
  obtain⟨h1,h2⟩:=Wk.1 hl
  by_cases hd:d.1∈p
  ·have hlen:(p.erase d.1).length=p.length-1:=Iqb hd;have hpos:=Icb hd;rw[Vd]at h;obtain⟨x,hx,hn⟩:=Acb (p.erase d.1) l h2 (by omega);refine⟨x,Vi _ hx,λ c=>hn ?_⟩;have:=h1 x hx;exact(Jhb (by omega)).2 c
  ·exact⟨d,Yv,hd⟩
def Q0a (l:List Dev) (n:Nat) (p:List Int):Prop:=p.Nodup∧p.length=n∧∀ id∈p,∃ d,Ks l id=some d
def Uga {r:Rng} {l:List Dev} {n:Nat} {p:List Int} (hl:Md l=true) (h:Q0a l n p) (hn:n<l.length):Q0a l (n+1) (p++[Cea r p l]):=by
 obtain⟨h1,h2,h3⟩:=h;obtain⟨d,hd,e,hne⟩:=Y9a (r:=r) (Acb p l (H1.1 hl).1 (by omega));rw[e];refine⟨?_,by rw[Ve];simp[h2],λ id hid=>?_⟩
 ·rw[Yl];exact⟨h1,by simp,λ a ha b hb c=>by rw[Vu.1 hb]at c;subst c;exact hne ha⟩
 ·rcases Vp.1 hid with hid|hid
  ·exact h3 id hid
  ·rw[Vu.1 hid];exact⟨d,Ufa hl hd⟩
def Ida (l:List Dev) (reps:Int) (ps:List (List Int)):Nat→List Int→List Int
 |0,p=>p
 |n+1,p=>Ida l reps ps n (p++[Cea (reps,ps++[p]) p l])
def Qla (l:List Dev) (reps:Int):Nat→List (List Int)→List (List Int)
 |0,ps=>ps
 |n+1,ps=>Qla l reps n (ps++[Ida l reps ps reps.toNat []])
def build (l:List Dev) (parts reps:Int):Rng×Bool:=bif Md l&&(inR parts 1 64&&(inR reps 1 5&&!(decide (reps > (l.length:Int))))) then ((reps,Qla l reps parts.toNat []),true) else ((0,[]),false)
def Nwa {l:List Dev} {reps:Int} {ps:List (List Int)} (hl:Md l=true):∀ (n m:Nat) (p:List Int),Q0a l m p→m+n≤l.length→Q0a l (m+n) (Ida l reps ps n p)
 |0,_,_,h,_=>h
 |n+1,m,p,h,hm=>by
  have:=Nwa (reps:=reps) (ps:=ps) hl n (m+1) _ (Uga (r:=(reps,ps++[p])) hl h (by omega)) (by omega);rwa [show m+1+n=m+(n+1) by omega]at this
def Uha {l:List Dev} {reps:Int} (hl:Md l=true) (hr:reps≤(l.length:Int)):∀ (n:Nat) (ps:List (List Int)),(∀ p∈ps,Q0a l reps.toNat p)→(Qla l reps n ps).length=ps.length+n∧∀ p∈Qla l reps n ps,Q0a l reps.toNat p
 |0,ps,h=>⟨rfl,h⟩
 |n+1,ps,h=>by
  have hf:=Nwa (reps:=reps) (ps:=ps) hl reps.toNat 0 [] ⟨List.nodup_nil,rfl,λ _ h=>by cases h⟩ (by omega);rw[Wl]at hf
  obtain⟨h1,h2⟩:=Uha hl hr n (ps++[Ida l reps ps reps.toNat []]) (λ p hp=>by
   rcases Vp.1 hp with hp|hp
   ·exact h p hp
   ·rw[Vu.1 hp];exact hf)
  refine⟨?_,h2⟩;show (Qla l reps n _).length=_;rw[h1,Ve];simp only[Vd,Vj];omega
def Nxa {l:List Dev} {parts reps:Int} (h:(build l parts reps).2=true):Md l=true∧Jf (build l parts reps).1 l=true∧(build l parts reps).1.1=reps∧((build l parts reps).1.2.length:Int)=parts:=by
 unfold build at h ⊢;cases hc:Md l&&(inR parts 1 64&&(inR reps 1 5&&!(decide (reps > (l.length:Int)))))
 ·rw[hc]at h;cases h
 rw[Va,Va,Va,Vv,decide_eq_false_iff_not,Et,Et]at hc;obtain⟨h1,h2,h3,h4⟩:=hc;obtain⟨b1,b2⟩:=Uha (reps:=reps) h1 (by omega) parts.toNat [] (λ p hp=>by cases hp);rw[Vj,Wl]at b1
 have b1':((Qla l reps parts.toNat []).length:Int)=parts:=by rw[b1];omega
 refine⟨h1,D6.2 ⟨h1,h3,⟨by show 1≤(Qla l reps parts.toNat []).length;omega,by show (Qla l reps parts.toNat []).length≤64;omega⟩,λ p hp=>?_⟩,rfl,b1'⟩;obtain⟨c1,c2,c3⟩:=b2 p hp;exact⟨c1,by rw[c2];show ((reps.toNat:Nat):Int)=reps;omega,c3⟩
def Iea {l:List Dev} {reps:Int} {ps:List (List Int)}:∀ (n:Nat) (p:List Int),(Ida l reps ps n p).length=p.length+n
 |0,_=>rfl
 |n+1,p=>by
  show (Ida l reps ps n _).length=_;rw[Iea n,Ve];simp only[Vd,Vj];omega
def Uia {α:Type} (l:List α) (x d:α):(l++[x]).getD l.length d=x:=by
 rw[Vb,Ye (Vx _),I8b];rfl
def Yaa {α:Type} (l:List α) (x y:α):(l++[x]).set l.length y=l++[y]:=by
 rw[Kdb _ _ (Vx _),I8b];rfl
def Ifa (l:List Dev) (parts reps:Int) (z:Rng) (hl:Md l=true) (h0:0≤reps) (h5:reps≤5) (ps:List (List Int)) (hps:ps.length≤100) (hq:∀ q∈ps,q.length≤100):∀ (n:Nat) (p:List Int),p.length+n=reps.toNat→
  Tot (λ k=>Iq k l parts reps (ps.length:Int) (p.length:Int) z (reps,ps++[p])) (λ x=>x=(l,parts,reps,(ps.length:Int),z,(reps,ps++[Ida l reps ps n p]))):=by
 intro n
 induction n with
 |zero=>
  intro p hp;refine Tot.succ ?_;simp (disch:=omega) only [Iq,dF];exact H4b rfl
 |succ n ih=>
  intro p hp;refine Tot.succ ?_
  have hrb:RBd (reps,ps++[p]):=⟨by simp only[Ve,Vd,Vj];omega,λ q hq'=>by
   rcases Vp.1 hq' with h|h
   ·have:=hq q h;omega
   ·rw[Vu.1 h];omega⟩
  have hlen:(ps++[p]).length=ps.length+1:=by simp
  simp (disch:=omega) only [Iq,dT,Vc,w64,hlen,Uia,Yaa];refine Hfb (Nva (reps,ps++[p]) p l hrb (by omega) hl) ?_;refine H7b (decide_eq_true trivial) (Hcb (by simp only[Vd,Vj];omega) (H7b (decide_eq_true trivial) ?_));have:=ih (p++[Cea (reps,ps++[p]) p l]) (by simp only[Ve,Vd,Vj];omega);rw[show (((p++[Cea (reps,ps++[p]) p l]).length:Nat):Int)=(p.length:Int)+1 by simp]at this;exact this
def Uja (l:List Dev) (parts reps:Int) (hll:l.length≤5000000):Tot (λ k=>Hd k l parts reps) (λ x=>x=build l parts reps):=by
 unfold Hd build;refine Hfb (Z5 l (by omega)) ?_;cases hl:Md l
 ·exact H7b rfl (H4b rfl)
 simp only[Zh,cond_false,Oq,Vn,Vz];cases hp:inR parts 1 64
 ·exact H7b rfl (H4b rfl)
 refine H6b rfl ?_;cases hr:inR reps 1 5
 ·exact H7b rfl (H4b rfl)
 obtain⟨r1,r2⟩:=Et.1 hr;obtain⟨p1,p2⟩:=Et.1 hp;refine H6b rfl ?_;cases hc:decide (reps > (l.length:Int))
 case true=>exact H7b rfl (H4b rfl)
 refine H6b rfl (H5b (Q:=λ x=>x=(((0:Int),([]:List (List Int))),(reps,Qla l reps parts.toNat []))) ?_ (by rintro x rfl;exact H4b rfl));obtain⟨n,rfl⟩:∃ n:Nat,parts=(n:Int):=⟨parts.toNat,by omega⟩;refine Hdb (L:=λ k i (s:Rng)=>Ir k l (n:Int) reps i (0,[]) s) (Q:=λ x=>x=(((0:Int),([]:List (List Int))),(reps,Qla l reps n []))) n (λ j s=>∃ ps,s=(reps,ps)∧ps.length=j∧(∀ q∈ps,q.length≤100)∧Qla l reps (n-j) ps=Qla l reps n []) ?_ ?_ 0 (reps,[]) (Vq _) ⟨[],rfl,rfl,λ q h=>(by cases h),rfl⟩
 ·rintro s ⟨ps,rfl,hps,_,h⟩;rw[I8b]at h;simp (disch:=omega) only [Ir,dF];exact H4b (by rw[← h];rfl)
 ·rintro j s hj ⟨ps,rfl,hps,hq,h⟩ next;simp (disch:=omega) only [Ir,dT];refine Hcb (by simp only[Vd,Vj];omega) ?_;have h9:=Ifa l (n:Int) reps (0,[]) hl (by omega) r2 ps (by omega) hq reps.toNat [] (by simp);rw[hps]at h9;refine H5b h9 ?_;rintro x rfl;simp (disch:=omega) only [w64];refine next _ ⟨ps++[Ida l reps ps reps.toNat []],rfl,by rw[Ve,hps];rfl,λ q hq'=>?_,?_⟩
  ·rcases Vp.1 hq' with h'|h'
   ·exact hq q h'
   ·rw[Vu.1 h',Iea,Vj];omega
  ·rw[show n-j=(n-(j+1))+1 by omega]at h;exact h

def Nya:∀ (p q:List Int),p.Nodup→(∀ x∈p,x∈q)→p.length≤q.length
 |[],_,_,_=>Vq _
 |x::p,q,h,hs=>by
  obtain⟨h1,h2⟩:=Yu.1 h;have hx:=hs x Yv;have hlen:(q.erase x).length=q.length-1:=Iqb hx;have hpos:=Icb hx;have:=Nya p (q.erase x) h2 (λ y hy=>(Jhb (λ c=>by subst c;exact h1 hy)).2 (hs y (Vi _ hy)));rw[Vd];omega
def Uka {r:Rng} {l:List Dev} (h:Jf r l=true):r.1≤(l.length:Int):=by
 obtain⟨_,_,h3,h4⟩:=D6.1 h;obtain⟨p,hp⟩:=I9b (show 0<r.2.length by omega);obtain⟨q1,q2,q3⟩:=h4 p hp
 have:=Nya p (l.map (·.1)) q1 (λ x hx=>by
  obtain⟨d,hd⟩:=q3 x hx;obtain⟨hm,he⟩:=Wz hd
  exact Zc.2 ⟨d,hm,he⟩)
 rw[Wh]at this;omega
def L7a {r:Rng} {l:List Dev} (h:Jf r l=true):Tot (λ k=>Kk k r l) (λ b=>b=true):=by
 have hrp:=Uka h;obtain⟨h1,h2,h3,h4⟩:=D6.1 h;obtain⟨_,_,_,h12⟩:=H1.1 h1;unfold Kk;refine Hfb (Z5 l (by omega)) ?_;refine H6b (by rw[h1];rfl) ?_;simp only[Oq,Vn];refine H6b (by rw[Et.2 h2];rfl) (H9b (by omega) (H6b (by rw[Et.2 (by omega)];rfl) ?_));refine H5b (Q:=λ b=>b = .inr ()) ?_ (by rintro b rfl;exact H4b rfl);refine Hdb (L:=λ k i (_:Unit)=>Jy k i r) (Q:=λ b=>b = .inr ()) r.2.length (λ _ _=>True) ?_ ?_ 0 () (Vq _) trivial
 ·intro _ _;simp (disch:=omega) only [Jy,dF];exact H4b rfl
 ·intro j _ hj _ next;obtain⟨q1,q2,_⟩:=h4 _ (A4 (d:=[]) hj);simp (disch:=omega) only [Jy,dT,Vc,w64];refine Hfb (Nsa _ _ (by omega)) ?_;exact H6b (by rw[decide_eq_true q1,q2];simp) (next () trivial)
def Yba (p:List Int) (l:List Dev) (h:∀ id∈p,∃ d,Ks l id=some d) (hp:p.length≤5000000) (hl:l.length≤5000000):Tot (λ k=>H4 k p l) (λ x=>x = -1):=by
 unfold H4;refine H5b (Q:=λ x=>x = .inr ()) ?_ (by rintro x rfl;exact H4b rfl);refine Hdb (L:=λ k i (_:Unit)=>Hp k l i p) (Q:=λ x=>x = .inr ()) p.length (λ _ _=>True) ?_ ?_ 0 () (Vq _) trivial
 ·intro _ _;simp (disch:=omega) only [Hp,dF];exact H4b rfl
 ·intro j _ hj _ next;simp (disch:=omega) only [Hp,dT,Vc,w64];refine Hfb (S5 l _ (by omega)) ?_;obtain⟨d,hd⟩:=h _ (A4 (d:=0) hj);exact H6b (by rw[hd];rfl) (next () trivial)
def hv (r:Rng) (l:List Dev) (b id:Int):Bool:=match Ks l b with
 |none=>false
 |some x=>match Ks l id with
  |none=>false
  |some d=>(d.2.1==x.2.1)&&decide (N2 r id-N2 r b≥2)
def Qma (r:Rng) (l:List Dev) (p:List Int) (b:Int):Option Nat:=p.findIdx? (hv r l b)
def oI:Option Nat→Int
 |some i=>(i:Int)
 |none => -1
def Iga {f:Int→Bool} {p:List Int} {j:Nat} (hj:j<p.length) (h:((p.drop j).findIdx? f).map (· + j)=p.findIdx? f):
  (f (p.getD j 0)=true→p.findIdx? f=some j)∧(f (p.getD j 0)=false→((p.drop (j+1)).findIdx? f).map (· + (j+1))=p.findIdx? f):=by
 rw[Ah (d:=0) hj,Ixb]at h;constructor
 ·intro c;rw[if_pos c]at h;rw[← h,Isb,Wl]
 ·intro c;rw[if_neg (by rw[c];simp)]at h;rw[← h,Option.map_map];congr 1;funext x;show x+(j+1)=x+1+j;omega
def Ula (r:Rng) (p:List Int) (l:List Dev) (b:Int) (hr:RBd r) (hp:p.length≤2000000) (hl:l.length≤2000000):Tot (λ k=>Fj k r p l b) (λ x=>x=oI (Qma r l p b)):=by
 unfold Fj;refine Hfb (S5 l b (by omega)) ?_
 refine H5b (Q:=λ x=>x=match Qma r l p b with|some i => .inl (i:Int)|none => .inr ()) ?_ (by rintro x rfl;cases Qma r l p b<;>exact H4b rfl)
 cases hb:Ks l b with
 |none=>
  have hn:Qma r l p b=none:=by unfold Qma;rw[Jxb];intro x _;unfold hv;rw[hb]
  rw[hn];refine Tot.succ ?_
  by_cases hp0:(0:Int)<(p.length:Int)
  ·simp (disch:=omega) only [Ck,dT,Gib,cond_false];exact H4b rfl
  ·simp (disch:=omega) only [Ck,dF];exact H4b rfl
 |some x=>
  have hvI:∀ id,hv r l b id=match Ks l id with|none=>false|some d=>(d.2.1==x.2.1)&&decide (N2 r id-N2 r b≥2):=λ id=>by unfold hv;rw[hb]
  refine Hdb (L:=λ k i (_:Unit)=>Ck k l b true i r p x) (Q:=λ x=>x=match Qma r l p b with|some i => .inl (i:Int)|none => .inr ()) p.length (λ j _=>((p.drop j).findIdx? (hv r l b)).map (· + j)=p.findIdx? (hv r l b)) ?_ ?_ 0 () (Vq _) (by simp)
  ·intro _ h;rw[Wd]at h;have hn:Qma r l p b=none:=h.symm;rw[hn];simp (disch:=omega) only [Ck,dF];exact H4b rfl
  ·intro j _ hj h next;obtain⟨k1,k2⟩:=Iga hj h;simp (disch:=omega) only [Ck,dT,Vc,w64,cond_true];generalize p.getD j 0=id at *;refine Hfb (S5 l id (by omega)) ?_;rw[hvI]at k1 k2
   cases hd:Ks l id with
   |none=>
    rw[hd]at k2;exact H6b rfl (next () (k2 rfl))
   |some d=>
    rw[hd]at k1 k2;obtain⟨_,e⟩:=Wz hd;refine H7b rfl ?_;cases hz:d.2.1==x.2.1
    ·exact H6b hz (next () (k2 (by simp only[hz,Zr])))
    refine H7b hz (Hfb (Z6 r d.1 hr) ?_);refine Hfb (Z6 r b hr) ?_;have l1:=Uz hr d.1;have l2:=Uz hr b;simp (disch:=omega) only [w64];refine Hbb (λ hc=>H4b ?_) (λ hc=>next () (k2 ?_))
    ·have hn:Qma r l p b=some j:=k1 (by simp only[hz,Vz];rw[← e];exact decide_eq_true hc);rw[hn]
    ·simp only[hz,Vz];rw[← e];exact decide_eq_false hc
def rb1 (l:List Dev) (s:Int×Rng) (j:Nat):Int×Rng:=match Qma s.2 l (s.2.2.getD j []) (Cea s.2 (s.2.2.getD j []) l) with
 |none=>s
 |some i=>(s.1+1,(s.2.1,s.2.2.set j ((s.2.2.getD j []).set i (Cea s.2 (s.2.2.getD j []) l))))
def rbs (l:List Dev) (r:Rng) (n:Nat):Int×Rng:=(List.range n).foldl (rb1 l) (0,r)
def L8a (r:Rng) (l:List Dev):Rng×Int:=((rbs l r r.2.length).2,(rbs l r r.2.length).1)
def Nza (l:List Dev) (r:Rng) (n:Nat):rbs l r (n+1)=rb1 l (rbs l r n) n:=by
 unfold rbs;rw[Keb,I6b];rfl
def Xl {r:Rng} {l:List Dev} {p:List Int} {i:Nat} (hl:Md l=true) (h:Qma r l p (Cea r p l)=some i):i<p.length∧Cea r p l∉p∧0≤Cea r p l∧∃ d,Ks l (Cea r p l)=some d:=by
 obtain⟨h1,h2,_⟩:=Iyb.1 h;refine⟨h1,?_⟩;unfold hv at h2
 cases hb:Ks l (Cea r p l) with
 |none=>rw[hb]at h2;cases h2
 |some d=>
  obtain⟨hd,he⟩:=Wz hb;obtain⟨⟨i0,_⟩,_⟩:=Og.1 ((H1.1 hl).2.1 _ hd);refine⟨?_,by omega,d,rfl⟩;rcases Pza r p l with⟨_,e⟩|⟨b,_,e,_,hn⟩
  ·omega
  ·rw[e];exact hn
def Uma {p:List Int} {b:Int} (h:p.Nodup) (hb:b∉p) (i:Nat):(p.set i b).Nodup:=by
 induction p generalizing i with
 |nil=>exact h
 |cons x p ih=>
  obtain⟨h1,h2⟩:=Yu.1 h
  cases i with
  |zero=>exact Yu.2 ⟨λ c=>hb (Vi _ c),h2⟩
  |succ i=>
   refine Yu.2 ⟨λ c=>?_,ih h2 (λ c=>hb (Vi _ c)) i⟩;rcases Yc c with c|c
   ·exact h1 c
   ·exact hb (c ▸ Yv)
def F5b {l:List Dev} {s:Int×Rng} {j:Nat} (hj:j<s.2.2.length) (h:Jf s.2 l=true):Jf (rb1 l s j).2 l=true∧(rb1 l s j).2.1=s.2.1∧(rb1 l s j).2.2.length=s.2.2.length∧s.1≤(rb1 l s j).1∧(rb1 l s j).1≤s.1+1:=by
 unfold rb1;obtain⟨h1,h2,h3,h4⟩:=D6.1 h
 cases hx:Qma s.2 l (s.2.2.getD j []) (Cea s.2 (s.2.2.getD j []) l) with
 |none=>exact⟨h,rfl,rfl,by dsimp only;omega,by dsimp only;omega⟩
 |some i=>
  obtain⟨b1,b2,_,b3⟩:=Xl h1 hx;obtain⟨q1,q2,q3⟩:=h4 _ (A4 (d:=[]) hj);refine⟨D6.2 ⟨h1,h2,by dsimp only;rw[List.length_set];exact h3,λ p hp=>?_⟩,rfl,by dsimp only;rw[List.length_set],by dsimp only;omega,by dsimp only;omega⟩;rcases List.mem_or_eq_of_mem_set hp with hp|hp
  ·exact h4 p hp
  ·subst hp;refine⟨Uma q1 b2 i,by rw[Vw];exact q2,λ id hid=>?_⟩;rcases Yc hid with hid|hid
   ·exact q3 id hid
   ·rw[hid];exact b3
def O0a {l:List Dev} {r:Rng} (h:Jf r l=true):∀ (n:Nat),n≤r.2.length→Jf (rbs l r n).2 l=true∧(rbs l r n).2.1=r.1∧(rbs l r n).2.2.length=r.2.length∧0≤(rbs l r n).1∧(rbs l r n).1≤n
 |0,_=>⟨h,rfl,rfl,Hmb _,Hmb _⟩
 |n+1,hn=>by
  obtain⟨h1,h2,h3,h4,h5⟩:=O0a h n (by omega);obtain⟨g1,g2,g3,g4,g5⟩:=F5b (j:=n) (by omega) h1;rw[Nza];exact⟨g1,by rw[g2,h2],by rw[g3,h3],by omega,by omega⟩
def O1a {r:Rng} {l:List Dev} (h:Jf r l=true):Jf (L8a r l).1 l=true∧(L8a r l).1.1=r.1∧(L8a r l).1.2.length=r.2.length∧0≤(L8a r l).2:=by
 obtain⟨h1,h2,h3,h4,_⟩:=O0a h r.2.length (Vx _);exact⟨h1,h2,h3,h4⟩
def Una {r:Rng} {l:List Dev} (h:Jf r l=true):Tot (λ k=>Cv k r l) (λ x=>x=L8a r l):=by
 obtain⟨_,_,h64,_⟩:=D6.1 h;unfold Cv;refine H5b (Xk r (N6 h)) ?_;rintro x rfl;refine H5b (L7a h) ?_;rintro b rfl;refine H6b rfl (H5b (Q:=λ y=>y=((rbs l x x.2.length).1,((0:Int),([]:List (List Int))),(rbs l x x.2.length).2)) ?_ (by rintro y rfl;exact H4b rfl));refine Hdb (L:=λ k i (s:Int×Rng)=>Ba k l s.1 i (0,[]) s.2) (Q:=λ y=>y=((rbs l x x.2.length).1,((0:Int),([]:List (List Int))),(rbs l x x.2.length).2)) x.2.length (λ j s=>s=rbs l x j) ?_ ?_ 0 (0,x) (Vq _) rfl
 ·rintro s rfl;obtain⟨_,_,g3,_⟩:=O0a h x.2.length (Vx _);simp (disch:=omega) only [Ba,dF];exact H4b rfl
 ·rintro j s hj rfl next;obtain⟨g1,g2,g3,g4,g5⟩:=O0a h j (by omega);rw[Nza]at next;generalize rbs l x j=s at *;obtain⟨c,r⟩:=s;dsimp only at g1 g2 g3 g4 g5;obtain⟨q0,_,_,q4⟩:=D6.1 g1;obtain⟨p1,p2,p3⟩:=q4 _ (A4 (d:=[]) (show j<r.2.length by omega));have hx2:=(D6.1 h).2.1;have l12:=(H1.1 q0).2.2.2;unfold rb1 at next;dsimp only at next;obtain⟨p,hp⟩:∃ p,r.2.getD j []=p:=⟨_,rfl⟩;rw[hp]at p1 p2 p3;simp only[hp]at next;simp (disch:=omega) only [Ba,dT,Int.toNat_natCast,w64,hp];refine H5b (Yba p l p3 (by omega) (by omega)) ?_;rintro x rfl;refine H9b (by omega) (H5b (Nva r p l (N6 g1) (by omega) q0) ?_);rintro b rfl;refine H5b (Ula r p l _ (N6 g1) (by omega) (by omega)) ?_;rintro y rfl
  cases hi:Qma r l p (Cea r p l) with
  |none=>
   rw[hi]at next;exact H9b (by show ¬ ((-1:Int)≥0);omega) (next _ rfl)
  |some i=>
   obtain⟨b1,b2,b3,_⟩:=Xl q0 hi;rw[hi]at next;have e:oI (some i)=(i:Int):=rfl;simp (disch:=omega) only [e,dT,Vc];exact next _ rfl
def wgt (l:List Dev) (i:Nat) (w:Int):List Dev:=l.set i ((l.getD i Nu).1,(l.getD i Nu).2.1,w)
def F7a (l:List Dev) (i:Nat) (w:Int):(wgt l i w).map (·.1)=l.map (·.1):=by
 unfold wgt;rw[List.map_set]
 by_cases hi:i<l.length
 ·have:(l.getD i Nu).1=(l.map (·.1)).getD i 0:=by
   simp only[Vb,Hob,Vk hi,Isb,Yq]
  rw[this,Vb,Vk (by simpa using hi),Yq];exact List.set_getElem_self _
 ·rw[List.set_eq_of_length_le (by simpa using hi)]
def S7 {l:List Dev} {id:Int}:(∃ d,Ks l id=some d)↔id∈l.map (·.1):=by
 unfold Ks;rw[← Zd,List.find?_isSome,Zc];exact⟨λ ⟨x,h,e⟩=>⟨x,h,eq_of_beq e⟩,λ ⟨x,h,e⟩=>⟨x,h,beq_iff_eq.2 e⟩⟩
def F6b {l:List Dev} {i:Nat} {w:Int} (h:Md l=true) (hi:i<l.length) (h1:1≤w) (h2:w≤1000):Md (wgt l i w)=true:=by
 obtain⟨g1,g2,g3,g4⟩:=H1.1 h;refine H1.2 ⟨?_,λ d hd=>?_,?_⟩
 ·have e:(l.map (·.1)).Pairwise (· < ·):=Hhb.2 g1;rw[← F7a l i w]at e;exact Hhb.1 e
 ·rcases Yc hd with hd|hd
  ·exact g2 d hd
  ·obtain⟨e1,e2,_⟩:=Og.1 (g2 _ (A4 (d:=Nu) hi));subst hd;exact Og.2 ⟨e1,e2,h1,h2⟩
 ·unfold wgt;rw[Vw];exact⟨g3,g4⟩
def F8a {r:Rng} {l:List Dev} {i:Nat} {w:Int} (h:Jf r l=true) (hi:i<l.length) (h1:1≤w) (h2:w≤1000):Jf r (wgt l i w)=true:=by
 obtain⟨g1,g2,g3,g4⟩:=D6.1 h;refine D6.2 ⟨F6b g1 hi h1 h2,g2,g3,λ p hp=>?_⟩;obtain⟨q1,q2,q3⟩:=g4 p hp;exact⟨q1,q2,λ id hid=>by rw[S7,F7a,← S7];exact q3 id hid⟩

def Uoa (x:BitVec 32):(cst x).getLsbD 31=x.getLsbD 0:=by
 have h0:(x >>> 1).getLsbD 31=false:=by
  rw[Job];exact BitVec.getLsbD_of_ge _ _ (by decide)
 unfold cst
 cases h:x.getLsbD 0 with
 |true=>
  rw[if_pos rfl,BitVec.getLsbD_xor,h0]
  decide
 |false=>
  rw[if_neg (by simp),h0]
def X1 {n:Nat} {x y c:BitVec n} (h:x ^^^ c=y ^^^ c):x=y:=by
 have:=congrArg (λ z=>z ^^^ c) h
 simpa[BitVec.xor_assoc] using this
def Clb {x y:BitVec 32} (h:cst x=cst y):x=y:=by
 have h0:x.getLsbD 0=y.getLsbD 0:=by rw[← Uoa,← Uoa,h]
 have h1:x >>> 1=y >>> 1:=by
  unfold cst at h;rw[h0]at h
  cases hb:y.getLsbD 0 with
  |true=>rw[hb,if_pos rfl,if_pos rfl]at h;exact X1 h
  |false=>rw[hb,if_neg (by simp),if_neg (by simp)]at h;exact h
 refine BitVec.eq_of_getLsbD_eq λ i hi=>?_
 cases i with
 |zero=>exact h0
 |succ i=>
  have:=congrArg (λ z=>z.getLsbD i) h1
  simpa[Job,Zv] using this
def Bqa:∀ (n:Nat) {x y:BitVec 32},Cca n x=Cca n y→x=y
 |0,_,_,h=>h
 |n+1,_,_,h=>Clb (Bqa n h)
def Cmb {x y:BitVec 32} {b:Int} (h:cby x b=cby y b):x=y:=X1 (Bqa 8 h)
def Yca {x:BitVec 32} {a b:Int} (ha:0≤a∧a≤255) (hb:0≤b∧b≤255) (h:cby x a=cby x b):a=b:=by
 have h1:x ^^^ ofInt 32 a=x ^^^ ofInt 32 b:=Bqa 8 h;rw[Kab,Kab x]at h1;have h2:=X1 h1;rw[Nka ha,Nka hb,h2]
def O2a:∀ (l:List Int) {x y:BitVec 32},l.foldl cby x=l.foldl cby y→x=y
 |[],_,_,h=>h
 |_::l,_,_,h=>Cmb (O2a l h)
def Adb (l:List Int):0≤crc l∧crc l≤4294967295:=by
 unfold crc;have:=(Dnb l).isLt;omega
def Cnb {l:List Int} {i:Nat} {y:Int} (hi:i<l.length) (hy:0≤y∧y≤255) (hb:Aj l) (hne:y≠l.getD i 0):crc (l.set i y)≠crc l:=by
 intro h;have h1:Dnb (l.set i y)=Dnb l:=Kbb (by unfold crc at h;omega);unfold Dnb at h1;have h2:=BitVec.not_inj.1 h1
 have e1:l.set i y=l.take i++y::l.drop (i+1):=by rw[Hxb,if_pos hi]
 have e2:l=l.take i++l.getD i 0::l.drop (i+1):=by
  conv => { lhs;rw[← Wo i l] }
  rw[Ah (d:=0) hi]
 rw[e1,I6b,Ym]at h2;rw[e2]at h2;rw[I6b,Ym]at h2
 have e3:(l.take i++l.getD i 0::l.drop (i+1)).take i=l.take i:=by rw[← e2]
 have e4:(l.take i++l.getD i 0::l.drop (i+1)).drop (i+1)=l.drop (i+1):=by rw[← e2]
 rw[e3,e4]at h2;exact hne (Yca hy (hb _ (A4 hi)) (O2a _ h2))
def F7b {a b:Int} (ha:0≤a∧a≤4294967295) (hb:0≤b∧b≤4294967295) (h:c4 a=c4 b):a=b:=by
 have e:∀ c:Int,0≤c→c4 c=[c/16777216 % 256,c/65536 % 256,c/256 % 256,c % 256]:=λ c hc=>by
  unfold c4
  rw[show (2:Int) ^ (min (toNat 24) (IntKind.bits .i64))=16777216 from by decide,show (2:Int) ^ (min (toNat 16) (IntKind.bits .i64))=65536 from by decide,show (2:Int) ^ (min (toNat 8) (IntKind.bits .i64))=256 from by decide,
   Zza _ (by omega),Zza _ (by omega),Zza _ (by omega),Iwb,Iwb,Iwb,Iwb]
 rw[e a ha.1,e b hb.1]at h;simp only[Yk,and_true]at h;omega
def Q1a {l m:List Int} {j:Nat} (h:j<l.length):(l++m).getD j 0=l.getD j 0:=by rw[Vb,Vb,Yb h]
def Q2a {l m:List Int} {j:Nat} (h:l.length≤j):(l++m).getD j 0=m.getD (j-l.length) 0:=by rw[Vb,Vb,Ye h]
def Yda {f:Fil} (hf:Ej f=true) {n:Nat} (hn:n<8*(M3 f).length):Oe (O6 (M3 f) n)=none:=by
 cases hg:Oe (O6 (M3 f) n) with
 |none=>rfl
 |some g=>
  exfalso;obtain⟨g1,_,g3⟩:=Bda hg;have hpb:=Q9 f
  have hj:n/8<(M3 f).length:=by omega
  have hy:=Nna ((M3 f).getD (n/8) 0) (n % 8);have hne:=Y0a (hpb _ (A4 (d:=0) hj)) (Kfb n (show 0<8 by omega));unfold O6 at g3;generalize Cda ((M3 f).getD (n/8) 0) (n % 8)=y at g3 hy hne;generalize n/8=j at g3 hj hne
  have ef:M3 f=Ps f++c4 (crc (Ps f)):=by unfold M3;rw[hf];rfl
  have eg:M3 g=Ps g++c4 (crc (Ps g)):=by unfold M3;rw[g1];rfl
  have l4:∀ c,(c4 c).length=4:=λ c=>rfl;rw[eg]at g3;rw[ef]at g3 hj hne
  have hlen:(Ps g).length=(Ps f).length:=by
   have:=congrArg length g3;rw[Vw,Ve,Ve,l4,l4]at this;omega
  by_cases hjb:j<(Ps f).length
  ·rw[List.set_append_left _ _ hjb]at g3;obtain⟨a1,a2⟩:=List.append_inj g3 (by rw[Vw];exact hlen);rw[Q1a hjb]at hne;have:=F7b (Adb _) (Adb _) a2;rw[a1]at this;exact Cnb hjb hy (Qx f) hne this
  ·rw[Kdb _ _ (by omega)]at g3;obtain⟨a1,a2⟩:=List.append_inj g3 hlen;rw[a1]at a2;rw[Q2a (by omega)]at hne;rw[Ve,l4]at hj
   have:(c4 (crc (Ps f))).getD (j-(Ps f).length) 0=y:=by
    rw[a2,Vb,J3b (by rw[l4];omega),Yq]
   exact hne this.symm

def Re (l:List Nmd) (ns:List ByteArray):List ByteArray:=l.foldl (λ ns x=>wt ns x.1) ns
def nms (d:Dsk):List ByteArray:=Re (d.1++d.2) []
def pk1:Option Nmd→List Nmd
 |some x=>[x]
 |none=>[]
def Cob (o:Option Nmd):(pk1 o).length≤1:=by cases o<;>simp[pk1]
def U0 (kp:List Bool) (a b:List Nmd):List ByteArray→Nat→List Nmd
 |[],_=>[]
 |s::ns,i=>pk1 (pk (bif kp.getD i false then a else b) s)++U0 kp a b ns (i+1)
def Cpb (kp:List Bool) (a b:List Nmd) (i:Nat):U0 kp a b [] i=[]:=rfl
def Yea (kp:List Bool) (a b:List Nmd) (s:ByteArray) (ns:List ByteArray) (i:Nat):U0 kp a b (s::ns) i=pk1 (pk (bif kp.getD i false then a else b) s)++U0 kp a b ns (i+1):=rfl
def Tv (d:Dsk) (kp:List Bool):Dsk:=bif decide ((U0 kp d.1 d.2 (nms d) 0).length > 60) then d else (U0 kp d.1 d.2 (nms d) 0,U0 kp d.1 d.2 (nms d) 0)
def F9a:∀ (l:List Nmd) (ns:List ByteArray),TS ns→TS (Re l ns)
 |[],_,h=>h
 |_::l,_,h=>F9a l _ (Rz h)
def Iha:∀ (l:List Nmd) (ns:List ByteArray) (t:ByteArray),t∈Re l ns↔(∃ x∈l,x.1=t)∨t∈ns
 |[],ns,t=>by simp[Re]
 |x::l,ns,t=>by
  show t∈Re l (wt ns x.1)↔_;rw[Iha l,Nia];simp only[Vl,exists_eq_or_imp];constructor
  ·rintro (h|rfl|h)
   ·exact .inl (.inr h)
   ·exact .inl (.inl rfl)
   ·exact .inr h
  ·rintro ((h|h)|h)
   ·exact .inr (.inl h.symm)
   ·exact .inl h
   ·exact .inr (.inr h)
def V0:∀ (l:List Nmd) (ns:List ByteArray),(Re l ns).length≤ns.length+l.length
 |[],_=>by simp[Re]
 |x::l,ns=>by
  have h1:=V0 l (wt ns x.1);have h2:=Hua (l:=ns) (s:=x.1);show (Re l (wt ns x.1)).length≤_;rw[Vd];omega
def Aeb (d:Dsk):TS (nms d):=F9a _ _ List.Pairwise.nil
def Cqb {d:Dsk} {t:ByteArray}:t∈nms d↔(gt d.1 t).isSome=true∨(gt d.2 t).isSome=true:=by
 have h:∀ l:List Nmd,(gt l t).isSome=true↔∃ x∈l,x.1=t:=λ l=>by
  cases hg:gt l t with
  |none=>
   constructor
   ·intro h;cases h
   ·rintro⟨x,hx,e⟩;exact absurd e (O5.1 hg x hx)
  |some b=>simp only[Option.isSome_some,true_iff];exact⟨_,P9 hg,rfl⟩
 unfold nms;rw[Iha,h,h];simp only[Vp,Zq,or_false];constructor
 ·rintro⟨x,h1|h1,h2⟩
  ·exact .inl ⟨x,h1,h2⟩
  ·exact .inr ⟨x,h1,h2⟩
 ·rintro (⟨x,h1,h2⟩|⟨x,h1,h2⟩)
  ·exact⟨x,.inl h1,h2⟩
  ·exact⟨x,.inr h1,h2⟩
def Crb (l:List Nmd) (s:ByteArray):pk l s=(gt l s).map λ b=>(s,b):=by
 unfold pk gt
 cases h:fnd l s with
 |none=>rfl
 |some i=>rw[Isb,← (P6 h).2]
def X2 (kp:List Bool) (a b:List Nmd):∀ (ns:List ByteArray) (i:Nat),((U0 kp a b ns i).map Prod.fst).Sublist ns
 |[],_=>List.Sublist.slnil
 |s::ns,i=>by
  unfold U0;rw[Crb]
  cases gt (bif kp.getD i false then a else b) s with
  |none=>exact(X2 kp a b ns (i+1)).cons s
  |some c=>exact(X2 kp a b ns (i+1)).cons_cons s
def Csb (kp:List Bool) (a b:List Nmd) (ns:List ByteArray) (i:Nat):(U0 kp a b ns i).length≤ns.length:=by
 have:=(X2 kp a b ns i).length_le;rwa [Wh]at this
def Q3a {kp:List Bool} {a b:List Nmd} {ns:List ByteArray} {i:Nat} (h:TS ns):H0 (U0 kp a b ns i):=by
 have:=Jab (X2 kp a b ns i) h;rwa [Hhb]at this
def Upa {kp:List Bool} {a b:List Nmd}:∀ {ns:List ByteArray} {i:Nat} {x:Nmd},x∈U0 kp a b ns i→gt a x.1=some x.2∨gt b x.1=some x.2
 |[],_,_,h=>by cases h
 |s::ns,i,x,h=>by
  unfold U0 at h;rw[Crb]at h;rcases Vp.1 h with h|h
  ·cases hg:gt (bif kp.getD i false then a else b) s with
   |none=>rw[hg]at h;cases h
   |some c=>
    rw[hg]at h;rw[Vu.1 h]
    cases hk:kp.getD i false with
    |true=>rw[hk]at hg;exact .inl hg
    |false=>rw[hk]at hg;exact .inr hg
  ·exact Upa h
def Afb {kp:List Bool} {a b:List Nmd} {t:ByteArray}:∀ {ns:List ByteArray} {i:Nat},TS ns→t∈ns→∃ j,i≤j∧gt (U0 kp a b ns i) t=gt (bif kp.getD j false then a else b) t
 |[],_,_,h=>by cases h
 |s::ns,i,hs,h=>by
  obtain⟨h1,h2⟩:=Wk.1 hs
  have hn:∀ j,gt (U0 kp a b ns j) s=none:=λ j=>O5.2 λ x hx e=>by
   have:=h1 x.1 ((X2 kp a b ns j).subset (Ys hx));rw[e,M0]at this;cases this
  unfold U0;rw[Crb];rcases Vl.1 h with rfl|h
  ·refine⟨i,Vx _,?_⟩
   cases hg:gt (bif kp.getD i false then a else b) t with
   |none=>exact hn _
   |some c=>
    show gt ((t,c)::U0 kp a b ns (i+1)) t=_;rw[Kza,if_pos rfl]
  ·obtain⟨j,hj,e⟩:=Afb (kp:=kp) (a:=a) (b:=b) (i:=i+1) h2 h;refine⟨j,by omega,?_⟩;rw[← e]
   have hst:s≠t:=λ e=>by
    have:=h1 t h;rw[e,M0]at this;cases this
   cases gt (bif kp.getD i false then a else b) s with
   |none=>rfl
   |some c=>
    show gt ((s,c)::U0 kp a b ns (i+1)) t=_;rw[Kza,if_neg hst]
def Uqa {d:Dsk} {kp:List Bool} (h:DG d):DG (Tv d kp):=by
 unfold Tv;cases hc:decide ((U0 kp d.1 d.2 (nms d) 0).length > 60)
 case true=>exact h
 have hl:=of_decide_eq_false hc;have n1:=(Ae.1 (Df.1 h.1).1).2.1;have n2:=(Ae.1 (Df.1 h.1).2).2.1;have q:Jp (U0 kp d.1 d.2 (nms d) 0)=true:=Ae.2 ⟨Q3a (Aeb d),λ x hx=>(Upa hx).elim (λ e=>n1 _ (P9 e)) (λ e=>n2 _ (P9 e)),by omega⟩;have b:LB (U0 kp d.1 d.2 (nms d) 0):=λ x hx=>(Upa hx).elim (λ e=>h.2.1.gt e) (λ e=>h.2.2.gt e);exact⟨Df.2 ⟨q,q⟩,b,b⟩
def Ura {d:Dsk} {kp:List Bool} (t:ByteArray):Tv d kp=d∨((Tv d kp).2=(Tv d kp).1∧(gt (Tv d kp).1 t=gt d.1 t∨gt (Tv d kp).1 t=gt d.2 t)):=by
 unfold Tv;cases hc:decide ((U0 kp d.1 d.2 (nms d) 0).length > 60)
 case true=>exact .inl rfl
 refine .inr ⟨rfl,?_⟩;show gt (U0 kp d.1 d.2 (nms d) 0) t=_∨gt (U0 kp d.1 d.2 (nms d) 0) t=_
 by_cases ht:t∈nms d
 ·obtain⟨j,_,e⟩:=Afb (kp:=kp) (a:=d.1) (b:=d.2) (i:=0) (Aeb d) ht;rw[e]
  cases kp.getD j false with
  |true=>exact .inl rfl
  |false=>exact .inr rfl
 ·have h1:gt d.1 t=none:=by
   cases hg:gt d.1 t with
   |none=>rfl
   |some b=>exact absurd (Cqb.2 (.inl (by rw[hg];rfl))) ht
  left;rw[h1];exact O5.2 λ x hx e=>ht (by rw[← e];exact(X2 _ _ _ _ _).subset (Ys hx))
def Faa {R:Type} {L:Nat→List Nmd→Option R} {Q:R→Prop} (c:List Nmd) (s:ByteArray) (acc:List Nmd) (hc:c.length≤5000000) (ha:acc.length≤5000000) (next:Tot (λ k=>L k (acc++pk1 (pk c s))) Q):
  Tot (λ k=>(Dg k c s).bind λ r=>cond (decide (r≥0)) (cond (decide ((0:Int)≤r)) (cond (decide (r<(length c:Int))) (cond (Nat.ble ((length acc+length [getD c (toNat r) ((⟨#[]⟩:ByteArray),[])])*40) 140737488355328) (L k (acc++[getD c (toNat r) ((⟨#[]⟩:ByteArray),[])])) none) none) none) (L k acc)) Q:=by
 refine Hfb (Dia c s (by omega)) ?_;unfold pk at next;unfold Hka
 cases h:fnd c s with
 |none=>
  rw[h]at next;simp only[pk1,Wp]at next;exact H9b (by decide) next
 |some i=>
  rw[h]at next;have:=(P6 h).1;simp only[Vc];exact H8b (by omega) (H8b (by omega) (H8b (by omega) (Hcb (by simp only[Vd,Vj];omega) next)))

end Go.Proofs.YtiiekghlhfbmmaaGreat.Vf
