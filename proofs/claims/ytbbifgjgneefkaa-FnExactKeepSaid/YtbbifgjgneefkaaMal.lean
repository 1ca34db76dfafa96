import Derived.Test.YtbbifgjgneefkaaMak
import Derived.Test.YtbbifgjgneefkaaMaj
set_option linter.all false
namespace Go.Proofs.Ytbbifgjgneefkaa.Vf
open Go
open List (length getD)
open Int (toNat)
open Go.IntKind (wrap)
open BitVec (ofInt)

def Npa (r:Rng) (p zs:List Int) (a:Option (Dev×Bool)) (d:Dev):Option (Dev×Bool):=
 bif L6a p d.1 then a else match a with
 |none=>some (d,!(L6a zs d.2.1))
 |some (b,fr)=>bif (!(L6a zs d.2.1)&&!fr)||(((!(L6a zs d.2.1))==fr)&&decide ((Tx r d.1+1)*b.2.2<(Tx r b.1+1)*d.2.2)) then some (d,!(L6a zs d.2.1)) else some (b,fr)
def Nqa (r:Rng) (p:List Int) (l:List Dev):Option (Dev×Bool):=l.foldl (Npa r p (Kta p l)) none
def O8a (r:Rng) (p:List Int) (l:List Dev):Int:=match Nqa r p l with
 |some b=>b.1.1
 |none => -1
def bs (r:Rng):Option (Dev×Bool)→Int×Bool×Dev
 |some (b,fr)=>(Tx r b.1+1,fr,b)
 |none=>(0,false,-1,0,0)

def Mla (l:List Dev) (reps:Int) (ps:List (List Int)):Nat→List Int→List Int
 |0,p=>p
 |n+1,p=>Mla l reps ps n (p++[O8a (reps,ps++[p]) p l])
def O3a (l:List Dev) (reps:Int):Nat→List (List Int)→List (List Int)
 |0,ps=>ps
 |n+1,ps=>O3a l reps n (ps++[Mla l reps ps reps.toNat []])
def build (l:List Dev) (parts reps:Int):Rng×Bool:=bif Mka l&&(inR parts 1 64&&(inR reps 1 5&&!(decide (reps > (l.length:Int))))) then ((reps,O3a l reps parts.toNat []),true) else ((0,[]),false)

def hv (r:Rng) (l:List Dev) (b id:Int):Bool:=match Ksa l b with
 |none=>false
 |some x=>match Ksa l id with
  |none=>false
  |some d=>(d.2.1==x.2.1)&&decide (Tx r id-Tx r b≥2)

section
open Go
end

section
open Go
end

section
open Go
end

def O9a (l:List ByteArray) (s:ByteArray):Bool:=l.any λ y=>teq y s
def Nra (l:List ByteArray):Nat→ByteArray→List ByteArray×Nat
 |0,_=>(l,0)
 |k+1,s=>bif tlt s (l.getD k Nya) then Nra (l.set (k+1) (l.getD k Nya)) k s else (l,k+1)
def Oaa (l:List ByteArray) (s:ByteArray):List ByteArray:=(Nra (l++[s]) l.length s).1.set (Nra (l++[s]) l.length s).2 s
def hS1 (l:List Nmd) (j:Nat) (out:List ByteArray) (x:Nmd):List ByteArray:=bif (N0 x.2).isSome&&(!(O9a out x.1)&&(Hha l x.1==(j:Int))) then Oaa out x.1 else out
def hS (l:List Nmd):List Nmd→Nat→List ByteArray→List ByteArray
 |[],_,out=>out
 |x::r,j,out=>hS l r (j+1) (hS1 l j out x)

section
open Go
end

def Pe (v:BitVec 32) (b:Int):BitVec 32:=(v ^^^ ofInt 32 b)*16777619#32

section
variable {R:Type} {L:Nat→Int→Option (Sum Bool R)}
end

def quo (n:Int):Int:=n/2+1

section
open Go
end

section
open Go
end

def SzR (n:Int) (B:Prop) (r:Int):Prop:=r<0∨(0≤r∧r≤n∧B)
abbrev Isa:Nat:=140737488351232
abbrev I4:Int:=1048576
def SzR.then {f:Nat→Option Int} {g:Int→Nat→Option Int} {n:Int} {B C:Prop} (hf:Tot f (SzR n B)) (hg:∀ r,0≤r→r≤n→Tot (g r) (SzR r C)):
  Tot (λ k=>(f k).bind λ r=>cond (decide (r<0)) (some (-1)) (g r k)) (SzR n (B∧C)):=by
 refine Ofa hf ?_;intro r hr;refine Ola (λ h=>Oea (.inl (by decide))) (λ h=>?_);rcases hr with hr|⟨h0,h1,hB⟩
 ·exact absurd hr h
 ·refine(hg r h0 h1).mono ?_;rintro q (hq|⟨q0,q1,hC⟩)
  ·exact .inl hq
  ·exact .inr ⟨q0,by omega,hB,hC⟩
def SzR.last {f:Nat→Option Int} {n:Int} {B:Prop} (hf:Tot f (SzR n B)):Tot (λ k=>(f k).bind λ r=>cond (decide (r<0)) (some (-1)) (some r)) (SzR n B):=by
 refine Ofa hf ?_;intro r hr;exact Ola (λ h=>Oea (.inl (by decide))) (λ h=>Oea hr)
def SzR.imp {f:Nat→Option Int} {n:Int} {B C:Prop} (hf:Tot f (SzR n B)) (h:B→C):Tot f (SzR n C):=
 hf.mono (by rintro r (hr|⟨h0,h1,hB⟩);exact .inl hr;exact .inr ⟨h0,h1,h hB⟩)
def Kua {f:Nat→Option Int} {n:Int} {m:Nat} {C:Prop} (hm:m≤Isa) (h0:0≤n) (h1:n≤I4) (hf:(m:Int)≤I4→0≤n-(m:Int)→Tot f (SzR (n-(m:Int)) C)):
  Tot (λ k=>cond (decide ((wrap .i64 (n-(m:Int)))<0)) (some (-1)) (f k)) (SzR n ((m:Int)≤I4∧C)):=by
 simp only[Isa]at hm;simp only[I4]at h1 hf ⊢;rw[w64 (n:=n-(m:Int)) (by omega) (by omega)];refine Ola (λ h=>Oea (.inl (by decide))) (λ h=>?_);refine(hf (by omega) (by omega)).mono ?_;rintro q (hq|⟨q0,q1,hC⟩)
 ·exact .inl hq
 ·exact .inr ⟨q0,by omega,by omega,hC⟩
def Mma {n:Int} {m:Nat} (hm:m≤Isa) (h0:0≤n) (h1:n≤I4):
  Tot (λ _=>cond (decide ((wrap .i64 (n-(m:Int)))<0)) (some (-1)) (some (wrap .i64 (n-(m:Int))))) (SzR n ((m:Int)≤I4)):=by
 refine(Kua (C:=True) hm h0 h1 (λ h2 h3=>Oea ?_)).mono ?_
 ·simp only[Isa]at hm;simp only[I4]at h1 h2;rw[w64 (n:=n-(m:Int)) (by omega) (by omega)];exact .inr ⟨h3,Int.le_refl _,trivial⟩
 ·rintro r (hr|⟨a,b,c,_⟩)
  ·exact .inl hr
  ·exact .inr ⟨a,b,c⟩
def Mna {α:Type} (d:α) (l:List α) (B:α→Prop) {L:Nat→Int→Int→Option (Sum Int Int)}
  (hend:∀ s,Tot (λ k=>L (k+1) s (l.length:Int)) (λ r=>r = .inr s))
  (Pe:∀ (j:Nat) (s:Int) (Q:Sum Int Int→Prop),j<l.length→0≤s→s≤I4→(∀ r,r<0→Q (.inl r))→(∀ r,SzR s (B (l.getD j d)) r→0≤r→Tot (λ k=>L k r ((j:Int)+1)) Q)→Tot (λ k=>L (k+1) s (j:Int)) Q)
  {n:Int} (h0:0≤n) (h1:n≤I4):Tot (λ k=>(L k n 0).bind λ r1=>Sum.elim (λ y2=>some y2) (λ z3=>some z3) r1) (SzR n (∀ x∈l,B x)):=by
 refine Ofa (Q:=λ r=>(∃ s,s<0∧r = .inl s)∨∃ s,r = .inr s∧0≤s∧s≤n∧∀ i,i<l.length→B (l.getD i d)) ?_ ?_
 ·refine Ona (L:=λ k i (s:Int)=>L k s i) l.length (λ j s=>0≤s∧s≤n∧∀ i,i<j→B (l.getD i d)) ?_ ?_ 0 n (Wh _) ⟨h0,Int.le_refl _,λ i hi=>by omega⟩
  ·rintro s ⟨a,b,c⟩;exact(hend s).mono (by rintro r rfl;exact .inr ⟨s,rfl,a,b,c⟩)
  ·rintro j s hj ⟨a,b,c⟩ next;refine Pe j s _ hj a (by omega) (λ r hr => .inl ⟨r,hr,rfl⟩) (λ r hr h=>next r ?_);rcases hr with hr|⟨_,h2,h3⟩
   ·omega
   ·refine⟨h,by omega,λ i hi=>?_⟩
    by_cases e:i=j
    ·subst e;exact h3
    ·exact c i (by omega)
 ·rintro r (⟨s,hs,rfl⟩|⟨s,rfl,a,b,c⟩)
  ·exact Oea (.inl hs)
  ·refine Oea (.inr ⟨a,b,λ x hx=>?_⟩);obtain⟨i,hi,rfl⟩:=List.mem_iff_getElem.1 hx;have:=c i hi;rwa [Vn,Vp hi,Zc]at this
abbrev SmT (s:ByteArray):Prop:=(s.size:Int)≤I4
abbrev SmL {α:Type} (l:List α):Prop:=(l.length:Int)≤I4
abbrev HgT (s:ByteArray):Prop:=s.size≤Isa
abbrev HgL {α:Type} (l:List α):Prop:=l.length≤Isa
def Faa (x:Nmd):Prop:=HgT x.1∧HgL x.2
def Jr (l:List Nmd):Prop:=HgL l∧∀ x∈l,Faa x
def Oy (x:Nmd):Prop:=SmT x.1∧SmL x.2
def Fe (l:List Nmd):Prop:=SmL l∧∀ x∈l,Oy x
def Q8 (l:List Int) (h:HgL l) {n:Int} (h0:0≤n) (h1:n≤I4):Tot (λ _=>Cz l n) (SzR n (SmL l)):=Mma h h0 h1
def Fba (x:Fil) (h:HgL x.2.2) {n:Int} (h0:0≤n) (h1:n≤I4):Tot (λ _=>Eo x n) (SzR n (SmL x.2.2)):=SzR.last (Q8 x.2.2 h h0 h1)
def Bea (x:Nmd) (h:Faa x) {n:Int} (h0:0≤n) (h1:n≤I4):Tot (λ _=>E3 x n) (SzR n (Oy x)):=
 Kua h.1 h0 h1 (λ h2 h3=>by
  have hh:=h.1;simp only[HgT,Isa,I4]at hh h1;rw[w64 (n:=n-(x.1.size:Int)) (by omega) (by omega)]
  exact SzR.last (Q8 x.2 h.2 h3 (by simp only[I4];omega)))
def Oz (l:List Nmd) (h:Jr l) {n:Int} (h0:0≤n) (h1:n≤I4):Tot (λ k=>Ay k l n) (SzR n (Fe l)):=by
 have hh:=h.1;unfold Ay;refine Kua h.1 h0 h1 (λ h2 h3=>?_);simp only[HgL,Isa,I4]at hh h1;rw[w64 (n:=n-(l.length:Int)) (by omega) (by omega)];refine Mna Dv l Oy ?_ ?_ h3 (by simp only[I4];omega)
 ·intro s;simp (disch:=omega) only [C9,dF];exact Oea rfl
 ·intro j s Q hj s0 s1 no yes;have hm:=h.2 _ (Du (d:=Dv) hj);have e0:l.getD j ((⟨#[]⟩:ByteArray),[])=l.getD j Dv:=rfl;simp (disch:=omega) only [C9,dT,Vq,w64,e0];refine Ofa (Bea (l.getD j Dv) hm s0 s1) ?_;intro r hr;exact Ola (λ hc=>Oea (no _ (by decide))) (λ hc=>yes r hr (by omega))
def Fca (x:Dsk) (h:Jr x.1∧Jr x.2) {n:Int} (h0:0≤n) (h1:n≤I4):Tot (λ k=>Em k x n) (SzR n (Fe x.1∧Fe x.2)):=
 SzR.then (Oz x.1 h.1 h0 h1) (λ r r0 r1=>SzR.last (Oz x.2 h.2 r0 (Int.le_trans r1 h1)))
def Fda {α:Type} {l s:List α} {j:Nat} {z d:α} (hj:j<l.length) (h:s=l.take j++List.replicate (l.length-j) z):s.set j (l.getD j d)=l.take (j+1)++List.replicate (l.length-(j+1)) z:=by
 have hl:(l.take j).length=j:=by rw[Vl];omega
 rw[h,show l.length-j=(l.length-(j+1))+1 by omega,P0a,List.set_append_right _ _ (by omega),hl,Qfa,List.set_cons_zero,List.take_succ_eq_append_getElem hj,Vj,Vn,Vp hj];rfl
def Ita {α:Type} (d z:α) (l:List α) {L:Nat→List α→Int→Option (List α)} (hend:∀ s,Tot (λ k=>L (k+1) s (l.length:Int)) (λ r=>r=s))
  (Pe:∀ (j:Nat) (s:List α) (Q:List α→Prop),j<l.length→s.length=l.length→Tot (λ k=>L k (s.set j (l.getD j d)) ((j:Int)+1)) Q→Tot (λ k=>L (k+1) s (j:Int)) Q):
  Tot (λ k=>L k (List.replicate l.length z) 0) (λ r=>r=l):=by
 refine Ona (L:=λ k i (s:List α)=>L k s i) l.length (λ j s=>s=l.take j++List.replicate (l.length-j) z) ?_ ?_ 0 _ (Wh _) (by rw[Ota,Wf,Pga])
 ·rintro s h;rw[Qfa,Pia,List.replicate_zero,Ye]at h;exact(hend s).mono (by rintro r rfl;exact h)
 ·rintro j s hj h next;refine Pe j s _ hj ?_ (next _ (Fda hj h));rw[h,Vh,Vl,Q9a];omega
def Iua {n:Nat} {R:Type} {e:R} {L:Nat→Int→Option R} (hend:Tot (λ k=>L (k+1) (n:Int)) (λ r=>r=e)) (Pe:∀ (j:Nat) (Q:R→Prop),j<n→Tot (λ k=>L k ((j:Int)+1)) Q→Tot (λ k=>L (k+1) (j:Int)) Q):
  Tot (λ k=>L k 0) (λ r=>r=e):=
 Ona (L:=λ k i (_:Unit)=>L k i) n (λ _ _=>True) (λ _ _=>hend) (λ j _ hj _ next=>Pe j _ hj (next () trivial)) 0 () (Wh _) trivial
def Q9 (l:List Int) (h:SmL l):Tot (λ k=>C1 k l) (λ r=>r=l):=by
 have hl:(l.length:Int)≤1048576:=h;unfold C1;simp (disch:=omega) only [dT,Vq];refine Ofa (Q:=λ r=>r=l) ?_ (by rintro r rfl;exact Oea rfl);refine Ita (L:=λ k s i=>C0 k l s i) (0:Int) _ l ?_ ?_
 ·intro s;simp (disch:=omega) only [C0,dF];exact Oea rfl
 ·intro j s Q hj hs next;simp (disch:=omega) only [C0,dT,Vq,w64];exact next
def Bfa (x:Nmd) (h:Oy x):Tot (λ k=>E4 k x) (λ r=>r=x):=Ofa (Q9 x.2 h.2) (by rintro r rfl;exact Oea rfl)
def P0 (l:List Nmd) (h:Fe l):Tot (λ k=>Az k l) (λ r=>r=l):=by
 have hl:(l.length:Int)≤1048576:=h.1;unfold Az;simp (disch:=omega) only [dT,Vq];refine Ofa (Q:=λ r=>r=l) ?_ (by rintro r rfl;exact Oea rfl);refine Ita (L:=λ k s i=>Bo k l s i) Dv _ l ?_ ?_
 ·intro s;simp (disch:=omega) only [Bo,dF];exact Oea rfl
 ·intro j s Q hj hs next;have e0:l.getD j ((⟨#[]⟩:ByteArray),[])=l.getD j Dv:=rfl;simp (disch:=omega) only [Bo,dT,Vq,w64,e0];refine Ofa (Bfa _ (h.2 _ (Du (d:=Dv) hj))) ?_;rintro r rfl;exact next
def Fea (x:Dsk) (h:Fe x.1∧Fe x.2):Tot (λ k=>Dc k x) (λ r=>r=x):=Ofa (P0 x.1 h.1) (by rintro r rfl;exact Ofa (P0 x.2 h.2) (by rintro r rfl;exact Oea rfl))
def Ffa (x:Fil) (h:SmL x.2.2):Tot (λ k=>D5 k x) (λ r=>r=x):=by
 unfold D5 E6;simp only[Vy];exact Ofa (Q9 x.2.2 h) (by rintro r rfl;exact Oea rfl)
def L7a (x:Int):(x != x)=false:=by rw[bne,beq_self_eq_true];rfl
def Oba (s:ByteArray):(s.toList==s.toList)=true:=beq_self_eq_true _
def Bga (x:Stp):Dt x x=some true:=by
 unfold Dt;rw[L7a,L7a,L7a];rfl
def Qa (l:List Int) (h:SmL l):Tot (λ k=>C3 k l l) (λ r=>r=true):=by
 have hl:(l.length:Int)≤1048576:=h;unfold C3;refine Oga (L7a _) (Ofa (Q:=λ r=>r = .inr ()) ?_ (by rintro r rfl;exact Oea rfl));refine Iua (L:=λ k i=>C2 k l l i) (n:=l.length) ?_ ?_
 ·simp (disch:=omega) only [C2,dF];exact Oea rfl
 ·intro j Q hj next;simp (disch:=omega) only [C2,dT,Vq,w64];exact Oga (L7a _) next
def Bha (x:Nmd) (h:Oy x):Tot (λ k=>E5 k x x) (λ r=>r=true):=Oga (by rw[Oba];rfl) (Ofa (Qa x.2 h.2) (by rintro r rfl;exact Oea rfl))
def P3 (l:List Nmd) (h:Fe l):Tot (λ k=>B0 k l l) (λ r=>r=true):=by
 have hl:(l.length:Int)≤1048576:=h.1;unfold B0;refine Oga (L7a _) (Ofa (Q:=λ r=>r = .inr ()) ?_ (by rintro r rfl;exact Oea rfl));refine Iua (L:=λ k i=>Bp k l l i) (n:=l.length) ?_ ?_
 ·simp (disch:=omega) only [Bp,dF];exact Oea rfl
 ·intro j Q hj next;have e0:l.getD j ((⟨#[]⟩:ByteArray),[])=l.getD j Dv:=rfl;simp (disch:=omega) only [Bp,dT,Vq,w64,e0];refine Ofa (Bha _ (h.2 _ (Du (d:=Dv) hj))) ?_;rintro r rfl;exact Oga rfl next
def Tz (x:Dsk) (h:Fe x.1∧Fe x.2):Tot (λ k=>Dd k x x) (λ r=>r=true):=Ofa (P3 x.1 h.1) (by rintro r rfl;exact Oga rfl (Ofa (P3 x.2 h.2) (by rintro r rfl;exact Oea rfl)))
def Fga (x:Fil) (h:SmL x.2.2):Tot (λ k=>Eb k x x) (λ r=>r=true):=by
 unfold Eb;simp only[Bga,Vy];exact Oga rfl (Oga (by rw[beq_self_eq_true];rfl) (Ofa (Qa x.2.2 h) (by rintro r rfl;exact Oea rfl)))
def ByN (l:List Nmd):Prop:=∀ x∈l,Aw x.2
def Kr {l:List Nmd} (h:Fe l):(Tk l∧I2 l)∧l.length≤2000000:=by
 have h1:(l.length:Int)≤1048576:=h.1;refine⟨⟨⟨by omega,λ x hx=>?_⟩,λ x hx=>?_⟩,by omega⟩
 ·have:(x.2.length:Int)≤1048576:=(h.2 x hx).2;omega
 ·have:(x.1.size:Int)≤1048576:=(h.2 x hx).1;show x.1.size≤_;omega

abbrev Jw:Nat:=1000000000000000
def U0 {α:Type} (w:α→Nat):List α→Nat
 |[]=>0
 |x::l=>w x+U0 w l
def MH {α:Type} (m:Nat→α→Int→Option (Int×α)) (h:Nat→α→Int→Option Int) (b:Nat) (x:α):Prop:=∀ k:Nat,k+b≤Jw→
 Tot (λ f=>m f x (k:Int)) (λ r=>∃ n:Nat,n≤b∧r.1=((k+n:Nat):Int)∧Tot (λ f=>h f r.2 (k:Int)) (λ q=>q=((k+n:Nat):Int)))
def Iva {α:Type} (d:α) (M:Nat→Int→Int→List α→Option (Int×List α)) (H:Nat→List α→Int→Int→Option (Sum Int Int)) (l:List α) (w:α→Nat)
  (hMend:∀ (x:Int) (s:List α),s.length=l.length→Tot (λ f=>M (f+1) x (l.length:Int) s) (λ r=>r=(x,s)))
  (hHend:∀ (s:List α) (x:Int),Tot (λ f=>H (f+1) s x (s.length:Int)) (λ r=>r = .inr x))
  (Pe:∀ (j k:Nat) (s:List α),j<l.length→s.length=l.length→s.getD j d=l.getD j d→k+w (l.getD j d)≤Jw→
   ∀ Q:Int×List α→Prop,(∀ (n:Nat) (y:α),n≤w (l.getD j d)→(∀ (s':List α) (Q':Sum Int Int→Prop),j<s'.length→s'.getD j d=y→Tot (λ f=>H f s' ((k+n:Nat):Int) ((j:Int)+1)) Q'→Tot (λ f=>H (f+1) s' (k:Int) (j:Int)) Q')→Tot (λ f=>M f ((k+n:Nat):Int) ((j:Int)+1) (s.set j y)) Q)→Tot (λ f=>M (f+1) (k:Int) (j:Int) s) Q)
  {k:Nat} (hk:k+U0 w l≤Jw):Tot (λ f=>M f (k:Int) 0 l) (λ r=>∃ n:Nat,n≤U0 w l∧r.1=((k+n:Nat):Int)∧r.2.length=l.length∧Tot (λ f=>H f r.2 (k:Int) 0) (λ q=>q = .inr ((k+n:Nat):Int))):=by
 have main:∀ (c j n:Nat) (s:List α),l.length-j=c→j≤l.length→s.length=l.length→s.drop j=l.drop j→n+U0 w (l.drop j)≤U0 w l→
   (∀ (s':List α) (Q:Sum Int Int→Prop),s'.length=l.length→s'.take j=s.take j→Tot (λ f=>H f s' ((k+n:Nat):Int) (j:Int)) Q→Tot (λ f=>H f s' (k:Int) 0) Q)→
   Tot (λ f=>M f ((k+n:Nat):Int) (j:Int) s) (λ r=>∃ n:Nat,n≤U0 w l∧r.1=((k+n:Nat):Int)∧r.2.length=l.length∧Tot (λ f=>H f r.2 (k:Int) 0) (λ q=>q = .inr ((k+n:Nat):Int))):=by
  intro c
  induction c with
  |zero=>
   intro j n s hc hj hs hd hn hp
   have e:j=l.length:=by omega
   subst e;refine Tot.succ ((hMend _ s hs).mono ?_);rintro r rfl;refine⟨n,by omega,rfl,hs,hp s _ hs rfl (Tot.succ ?_)⟩;have:=hHend s ((k+n:Nat):Int);rw[hs]at this;exact this
  |succ c ih=>
   intro j n s hc hj hs hd hn hp
   have hlt:j<l.length:=by omega
   have hcons:l.drop j=l.getD j d::l.drop (j+1):=by
    rw[Vn,Vp hlt,Zc];exact Yi hlt
   have hsj:s.getD j d=l.getD j d:=by
    have:=congrArg (λ x=>x.getD 0 d) hd
    simpa[Vn,Xs] using this
   rw[hcons]at hn;have hn':n+(w (l.getD j d)+U0 w (l.drop (j+1)))≤U0 w l:=hn;refine Tot.succ (Pe j (k+n) s hlt hs hsj (by omega) _ (λ m y hm hh=>?_));rw[show k+n+m=k+(n+m) by omega]
   have hjj:(j:Int)+1=((j+1:Nat):Int):=by omega
   rw[hjj];refine ih (j+1) (n+m) (s.set j y) (by omega) (by omega) (by rw[Yl];exact hs) ?_ (by omega) (λ s' Q h1 h2 h3=>?_)
   ·rw[List.drop_set_of_lt (by omega)];have:=congrArg (List.drop 1) hd;rw[Wn,Wn]at this;exact this
   ·refine hp s' Q h1 ?_ ?_
    ·have:=congrArg (List.take j) h2;rw[Zm,Zm,Zf (by omega),List.take_set_of_le (by omega)]at this;exact this
    ·refine Tot.succ (hh s' Q (by omega) ?_ ?_)
     ·have:=congrArg (λ x=>x.getD j d) h2
      have hj1:j<s.length:=by omega
      simpa[Vn,Wd,List.getElem?_set,hj1] using this
     ·rw[hjj,show k+n+m=k+(n+m) by omega];exact h3
 have:=main l.length 0 0 l (by omega) (Wh _) rfl rfl (by rw[Wj];omega) (λ s' Q _ _ h=>h);exact this
def Rr {α:Type}:∀ l:List α,U0 (λ _=>1) l=l.length
 |[]=>rfl
 |x::l=>by rw[U0,Rr l,Vg,Zd]
def Fha (l:List Int) (hl:l.length≤1000000000000):MH B5 Ca l.length l:=by
 intro k hk
 have h:=Iva (0:Int) (λ f x i s=>Bb f x i s) (λ f s x i=>Bc f s x i) l (λ _=>1)
  (λ x s hs=>by simp only[Bb];exact Oja (by omega) (Oea rfl))
  (λ s x=>by simp only[Bc];exact Oja (by omega) (Oea rfl))
  (λ j k s hj hs hsj hk Q next=>by
   simp only[Bb,Jw]at hk ⊢;refine Oia (by omega) (Oia (by omega) (Oia (by omega) ?_));rw[show toNat (j:Int)=j from Vq j,w64 (n:=(j:Int)+1) (by omega) (by omega),w64 (n:=(k:Int)+1) (by omega) (by omega)];refine next 1 (wrap .u8 (k:Int)) (Vo _) (λ s' Q' hj' hy h=>?_);simp only[Bc];refine Oia (by omega) (Oia (by omega) (Oia (by omega) ?_));rw[show toNat (j:Int)=j from Vq j,w64 (n:=(j:Int)+1) (by omega) (by omega),w64 (n:=(k:Int)+1) (by omega) (by omega)];refine Oga (by rw[hy,bne,beq_self_eq_true];rfl) ?_
   exact h) (k:=k) (by rw[Rr];exact hk)
 unfold B5;refine Ofa h ?_;rintro⟨r1,r2⟩ ⟨n,hn,rfl,hlen,hh⟩;rw[Rr]at hn;refine Oea ⟨n,hn,rfl,?_⟩;unfold Ca;refine Ofa hh ?_;rintro _ rfl;exact Oea rfl
def Wz:∀ (m:Nat) (x:Nat) (t:ByteArray),x<10 ^ m→x≤Jw→t.size+m≤1000000→Tot (λ f=>Bq f (x:Int) t) (λ r=>r.size≤t.size+m):=by
 intro m
 induction m with
 |zero=>
  intro x t hx hx2 ht
  have:x=0:=by simpa using hx
  subst this;refine Tot.succ ?_;simp only[Bq];exact Oja (by omega) (Oea (by omega))
 |succ m ih=>
  intro x t hx hx2 ht;simp only[Jw]at hx2;refine Tot.succ ?_;simp only[Bq];refine Ola (λ h=>?_) (λ h=>Oea (by omega))
  have hs:(Ft [wrap .u8 (wrap .i64 (48+(Int.tmod (x:Int) 10)))]).size=1:=by rw[H7];rfl
  refine Oma (by rw[hs];omega) ?_
  have hq:Int.tdiv (x:Int) 10=((x/10:Nat):Int):=by
   rw[Pna (by omega)];omega
  have hxx:x<10*10 ^ m:=by rw[Zi,Qga]at hx;exact hx
  rw[hq,w64 (by omega) (by omega)];refine(ih (x/10) _ (by omega) (by simp only[Jw];omega) ?_).mono ?_
  ·rw[ByteArray.size_append,hs];omega
  ·intro r hr;rw[ByteArray.size_append,hs]at hr;omega
def X4 (k:Nat) (hk:k≤Jw):Tot (λ f=>B8 f (k:Int)) (λ _=>True):=by
 unfold B8;refine Ola (λ h=>Oea trivial) (λ h=>?_);refine Ofa (Wz 17 k _ (by simp only[Jw]at hk;omega) hk (by decide)) ?_;intro r hr;have h0:(⟨#[]⟩:ByteArray).size=0:=rfl;have h1:(⟨#[109]⟩:ByteArray).size=1:=rfl;rw[h0]at hr;exact Oma (by rw[h1];omega) (Oea trivial)
def U1 (k:Nat) (hk:k≤Jw):∃ t,Tot (λ f=>B8 f (k:Int)) (λ r=>r=t):=by
 obtain⟨t,K,h,_⟩:=X4 k hk;exact⟨t,t,K,h,rfl⟩
abbrev Hua (x:Nmd):Nat:=1+x.2.length
def A7a (l:List Nmd) (hl:l.length≤1000000000000) (hb:∀ x∈l,x.2.length≤1000000000000):MH An Ao (U0 Hua l) l:=by
 intro k hk
 have h:=Iva Dv (λ f x i s=>B1 f x i s) (λ f s x i=>B2 f s x i) l Hua
  (λ x s hs=>by simp only[B1];exact Oja (by omega) (Oea rfl))
  (λ s x=>by simp only[B2];exact Oja (by omega) (Oea rfl))
  (λ j k s hj hs hsj hk Q next=>by
   have e0:∀ (z:List Nmd) (i:Nat),z.getD i ((⟨#[]⟩:ByteArray),([]:List Int))=z.getD i Dv:=λ _ _=>rfl
   have hjl:(l.getD j Dv).2.length≤1000000000000:=by
    rw[Vn,Vp hj,Zc];exact hb _ (Q3a hj)
   simp only[B1,Hua,Jw]at hk ⊢;obtain⟨t,ht⟩:=U1 k (by simp only[Jw];omega);refine Oia (by omega) (Ooa ht ?_);refine Oia (by omega) (Oia (by omega) (Oia (by omega) (Oia (by rw[Yl];omega) ?_)))
   have e1:((s.set j (t,(s.getD j Dv).2)).getD j Dv)=(t,(l.getD j Dv).2):=by
    rw[hsj,Vn,List.getElem?_set]
    have:j<s.length:=by omega
    simp[this]
   simp only[show toNat (j:Int)=j from Vq j,e0,e1];rw[w64 (n:=(j:Int)+1) (by omega) (by omega),w64 (n:=(k:Int)+1) (by omega) (by omega),show (k:Int)+1=((k+1:Nat):Int) by omega];refine Ofa (Fha _ hjl (k+1) (by simp only[Jw];omega)) ?_;rintro⟨r1,r2⟩ ⟨n,hn,rfl,hh⟩;rw[List.set_set,show k+1+n=k+(1+n) by omega];refine next (1+n) (t,r2) (by simp only[Hua];omega) (λ s' Q' hj' hy h=>?_);simp only[B2];refine Oia (by omega) (Oia (by omega) (Oia (by omega) (Ooa ht ?_)));simp only[show toNat (j:Int)=j from Vq j,e0,hy];refine Oga (by rw[beq_self_eq_true];rfl) (Oia (by omega) (Oia (by omega) ?_));rw[w64 (n:=(j:Int)+1) (by omega) (by omega),w64 (n:=(k:Int)+1) (by omega) (by omega),show (k:Int)+1=((k+1:Nat):Int) by omega];refine Ofa hh ?_;rintro _ rfl;refine Oja (by omega) ?_;rw[show k+1+n=k+(1+n) by omega]
   exact h) (k:=k) hk
 unfold An;refine Ofa h ?_;rintro⟨r1,r2⟩ ⟨n,hn,rfl,hlen,hh⟩;refine Oea ⟨n,hn,rfl,?_⟩;unfold Ao;refine Ofa hh ?_;rintro _ rfl;exact Oea rfl
abbrev Moa (d:Dsk):Nat:=U0 Hua d.1+U0 Hua d.2
def MkL (l:List Nmd):Prop:=l.length≤1000000000000∧∀ x∈l,x.2.length≤1000000000000
def Mpa (d:Dsk) (h1:MkL d.1) (h2:MkL d.2):MH Cf Cg (Moa d) d:=by
 intro k hk;simp only[Moa]at hk;unfold Cf;refine Ofa (A7a d.1 h1.1 h1.2 k (by omega)) ?_;rintro⟨r1,r2⟩ ⟨n,hn,rfl,hh⟩;refine Ofa (A7a d.2 h2.1 h2.2 (k+n) (by omega)) ?_;rintro⟨q1,q2⟩ ⟨m,hm,rfl,hh2⟩;refine Oea ⟨n+m,by simp only[Moa];omega,by dsimp only;omega,?_⟩;unfold Cg;refine Ofa hh ?_;rintro _ rfl;refine Oja (by omega) (Ofa hh2 ?_);rintro _ rfl;refine Oja (by omega) (Oea (by omega))
def Mqa (f:Fil) (h:f.2.2.length≤1000000000000) (k:Nat) (hk:k+f.2.2.length≤Jw):Tot (λ g=>Ct g f (k:Int)) (λ r=>∃ n:Nat,n≤f.2.2.length∧r.1=((k+n:Nat):Int)):=by
 unfold Ct;refine Ofa (Fha f.2.2 h k hk) ?_;rintro⟨r1,r2⟩ ⟨n,hn,rfl,hh⟩;exact Oea ⟨n,hn,rfl⟩

def tyB (ti:TypeId→Option TI) (e:TypeId):Bool:=match ti e with
 |some te=>Nat.ble 1 te.by_
 |none=>false
section
variable {ti:TypeId→Option TI}
def X5 {e:TypeId} {r:Ty} {xs:List r.den} (h:Ty.fit ti (.sl e r) xs) (hk:tyB ti e=true):HgL xs:=by
 unfold tyB at hk;split at hk
 ·rename_i te ht;have h1:=h.1 te ht;have h2:=Vd hk;show xs.length≤140737488351232;exact Yp (Nat.le_mul_of_pos_right _ (by omega)) h1
 ·cases hk
abbrev byT (b:TypeId):Ty := .sl b (.i .u8)
abbrev Nsa (b:TypeId):Ty := .pr .s (byT b)
abbrev Oca (b n:TypeId):Ty := .pr (.sl n (Nsa b)) (.sl n (Nsa b))
def Fia {b:TypeId} {xs:List Int} (h:Ty.fit ti (byT b) xs):Aw xs:=λ x hx=>by
 have:=h.2 x hx;have h1:(decide (IntKind.min .u8≤x)&&decide (x≤IntKind.max .u8))=true:=this;rw[Va,decide_eq_true_iff,decide_eq_true_iff]at h1;exact h1
def Lt {b n:TypeId} {l:List Nmd} (h:Ty.fit ti (.sl n (Nsa b)) l) (hb:tyB ti b=true) (hn:tyB ti n=true):Jr l∧ByN l:=
 ⟨⟨X5 h hn,λ x hx=>⟨Yp (h.2 x hx).1 (by decide),X5 (h.2 x hx).2 hb⟩⟩,λ x hx=>Fia (h.2 x hx).2⟩
end

def Oda {ti:TypeId→Option TI} {b n:TypeId} {d:Dsk} (hk:(tyB ti b&&tyB ti n)=true) (h:Ty.fit ti (Oca b n) d):(Jr d.1∧Jr d.2)∧ByN d.1∧ByN d.2:=by
 rw[Va]at hk;obtain⟨h1,h2⟩:=h;exact⟨⟨(Lt h1 hk.1 hk.2).1,(Lt h2 hk.1 hk.2).1⟩,(Lt h1 hk.1 hk.2).2,(Lt h2 hk.1 hk.2).2⟩
abbrev SmD (d:Dsk):Prop:=Fe d.1∧Fe d.2
def Iwa {d:Dsk} (h:SmD d):DIn d:=by
 obtain⟨⟨a1,a2⟩,a3⟩:=Kr h.1;obtain⟨⟨b1,b2⟩,b3⟩:=Kr h.2;exact⟨⟨⟨a1,b1⟩,a2,b2⟩,a3,b3⟩
def Mra {l:List Nmd} (h:Dg l=true):Fe l:=by
 obtain⟨_,h2,h3⟩:=Bn.1 h;refine⟨by show (l.length:Int)≤1048576;omega,λ x hx=>?_⟩;obtain⟨h4,h5⟩:=Km.1 (h2 x hx);have h6:=(Kl h4).2;exact⟨by show (x.1.size:Int)≤1048576;omega,by show (x.2.length:Int)≤1048576;omega⟩
def O4a {d:Dsk} (h:Au d=true):SmD d:=by
 unfold Au at h;rw[Va]at h;exact⟨Mra h.1,Mra h.2⟩
def Fja {α:Type} (w:α→Nat) (c:Nat):∀ l:List α,(∀ x∈l,w x≤c)→U0 w l≤l.length*c
 |[],_=>by simp[U0]
 |x::l,h=>by
  have h1:=h x (by simp);have h2:=Fja w c l (λ y hy=>h y (Ve _ hy));rw[U0,Vg,Ppa];omega
def Msa {l:List Nmd} (h:Fe l):U0 Hua l≤1099512676352:=by
 have h0:(l.length:Int)≤1048576:=h.1
 have h1:=Fja Hua 1048577 l (λ x hx=>by
  have:(x.2.length:Int)≤1048576:=(h.2 x hx).2;simp only[Hua]
  omega)
 have h2:l.length*1048577≤1048576*1048577:=Wa _ (by omega);omega
def Nta {d:Dsk} (h:SmD d):Moa d≤2199025352704:=by
 have h1:=Msa h.1;have h2:=Msa h.2;simp only[Moa];omega
def Ixa {l:List Nmd} (h:Fe l):MkL l:=(Kr h).1.1
def mhD {d:Dsk} (h:SmD d) (k:Nat) (hk:k≤900000000000000):Tot (λ f=>Cf f d (k:Int)) (λ r=>∃ n:Nat,n≤2199025352704∧r.1=((k+n:Nat):Int)∧Tot (λ f=>Cg f r.2 (k:Int)) (λ q=>q=((k+n:Nat):Int))):=by
 have hw:=Nta h;refine(Mpa d (Ixa h.1) (Ixa h.2) k (by simp only[Jw];omega)).mono ?_;rintro r ⟨n,h1,h2,h3⟩;exact⟨n,by omega,h2,h3⟩
def mkF {f:Fil} (h:SmL f.2.2) (k:Nat) (hk:k≤900000000000000):Tot (λ g=>Ct g f (k:Int)) (λ r=>∃ n:Nat,n≤1048576∧r.1=((k+n:Nat):Int)):=by
 have hl:(f.2.2.length:Int)≤1048576:=h;refine(Mqa f (by omega) k (by simp only[Jw];omega)).mono ?_;rintro r ⟨n,h1,h2⟩;exact⟨n,by omega,h2⟩
def Kva {d:Dsk} {s:ByteArray} {f:Fil} {sure:Bool} (hd:SmD d):SmD (keep d s f sure).1:=by
 unfold keep;cases hc:(Au d&&(Db s&&Ee f))
 ·exact hd
 simp only[Va]at hc;rw[cond_true];unfold N2;split
 ·rename_i x hx;have hxk:=Mga hc.1 hc.2.1 hx;unfold kp2;cases sure
  ·exact O4a hxk
  rw[cond_true];cases h:(syD x.1 s).2
  ·exact hd
  ·exact O4a (Mfa hxk hc.2.1)
 ·exact hd
def Hva (d:Dsk) (s:ByteArray) (f:Fil) (sure:Bool) (hd:SmD d) (hb:ByN d.1) (hs:Hq s):∃ v:Dsk×Int,Tot (λ k=>Fh k d s f sure) (λ r=>r=v)∧Tot (λ k=>Ez k d s f sure) (λ r=>r=v)∧SmD v.1:=
 ⟨keep d s f sure,Hta d s f sure (Iwa hd) hb hs,Hsa d s f sure (Iwa hd) hb hs,Kva hd⟩

end Go.Proofs.Ytbbifgjgneefkaa.Vf

section
set_option linter.unusedVariables false
set_option linter.unusedSimpArgs false
namespace Go.Proofs.Ytbbifgjgneefkaa.Pure
open Go Go.RowKit Go.Proofs.Ytbbifgjgneefkaa.Vf
theorem FnExactKeep:∀ (a0:(List (ByteArray×(List Int)))×(List (ByteArray×(List Int)))) (a1:ByteArray) (a2:(Int×Int×Int)×Bool×(List Int)) (a3:Bool),Ty.fit ti (.pr (.sl 80 (.pr .s (.sl 5 (.i .u8)))) (.sl 80 (.pr .s (.sl 5 (.i .u8))))) a0→Ty.fit ti .s a1→Ty.fit ti (.pr (.pr (.i .i64) (.pr (.i .i64) (.i .i64))) (.pr .b (.sl 5 (.i .u8)))) a2→Ty.fit ti .b a3→∃ k,Cd k a0 a1 a2 a3=some true:=by
 intro a0 a1 a2 a3 f0 f1 f2 f3;obtain⟨hg,hb⟩:=Oda (by kernel_rfl) f0;have hgf:HgL a2.2.2:=X5 f2.2.2 (by kernel_rfl);refine Tot.law (f:=λ k=>Cd k a0 a1 a2 a3) ?_;unfold Cd;refine Ola (λ _=>Oea rfl) (λ hs1=>?_)
 have hs:Hq a1:=by show a1.size≤_;omega
 refine Ofa (Fca a0 hg (by decide) (by decide)) ?_;intro r hr;refine Ola (λ _=>Oea rfl) (λ h=>?_);rcases hr with hr|⟨h0,h1,hd⟩
 ·exact absurd hr h
 refine Ofa (Fba a2 hgf h0 h1) ?_;intro r' hr;refine Ola (λ _=>Oea rfl) (λ h=>?_);rcases hr with hr|⟨_,_,hl⟩
 ·exact absurd hr h
 have tD:=Fea a0 hd;have tF:=Ffa a2 hl;obtain⟨v,v1,v2,v3⟩:=Hva a0 a1 a2 a3 hd hb.1 hs;have eV:=Tz v.1 v3;refine Ooa tD (Ooa tF (Ooa v1 (Ooa tD (Ooa tF (Ooa v2 (Ooa eV (Oga rfl (Oga (by rw[bne,beq_self_eq_true];rfl) ?_))))))));refine Ooa tD (Ooa (Tz a0 hd) (Oga rfl (Ooa tF (Ooa (Fga a2 hl) (Oga rfl ?_)))));refine Ofa (mhD hd 1 (by decide)) ?_;rintro⟨q1,q2⟩ ⟨n,hn,rfl,_⟩;refine Ofa (mkF hl (1+n) (by omega)) ?_;rintro⟨p1,p2⟩ ⟨m,hm,rfl⟩;refine Oja (by omega) (Ooa eV (Oga rfl (Oga (by rw[bne,beq_self_eq_true];rfl) ?_)));refine Ofa (mhD v3 1 (by decide)) ?_;rintro⟨g1,g2⟩ ⟨c,hc,rfl,hh⟩;refine Ooa hh (Oja (by omega) (Oga (by rw[bne,beq_self_eq_true];rfl) ?_));refine Ooa tD (Ooa tF (Ooa v2 (Ooa eV (Oga rfl (Oga (by rw[bne,beq_self_eq_true];rfl) ?_)))));exact Ooa hh (Oja (by omega) (Oga (by rw[bne,beq_self_eq_true];rfl) (Oea rfl)))
end Go.Proofs.Ytbbifgjgneefkaa.Pure
end
