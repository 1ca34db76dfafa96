import Derived.Test.YtmhhjceoinoekaaGreatMam
import Derived.Test.YtmhhjceoinoekaaGreatMal
set_option linter.unusedVariables false
set_option linter.unusedSimpArgs false
namespace Go.Proofs.YtmhhjceoinoekaaGreat.Vf
open Go

abbrev Nod:=Int×Dsk×List Row×List Row
def qOk (l:List Row):Bool:=l.all Ma
def M3 (n:Nod):Bool:=qOk n.2.2.2&&(inR n.1 0 20&&(Ao n.2.1&&(K5 n.2.2.1&&decide ((n.2.2.2.length:Int)≤60))))
def RF (l:List Row):Prop:=l.length≤2000000∧Pi l
def NIn (n:Nod):Prop:=(DIn n.2.1∧DB n.2.1)∧RF n.2.2.1∧RF n.2.2.2
def NG (n:Nod):Prop:=M3 n=true∧DB n.2.1
theorem Cl {n:Nod}:M3 n=true↔(∀ r∈n.2.2.2,Ma r=true)∧(0≤n.1∧n.1≤20)∧Ao n.2.1=true∧K5 n.2.2.1=true∧n.2.2.2.length≤60:=by
 unfold M3 qOk
 simp only [Bool.and_eq_true,List.all_eq_true,Dz,decide_eq_true_iff]
 constructor
 ·rintro ⟨h1,h2,h3,h4,h5⟩; exact ⟨h1,h2,h3,h4,by omega⟩
 ·rintro ⟨h1,h2,h3,h4,h5⟩; exact ⟨h1,h2,h3,h4,by omega⟩
theorem Iqa {l:List Row} (h:K5 l=true):RF l:=by
 obtain ⟨_,h2,h3⟩:=Mi.1 h
 exact ⟨by omega,λ r hr=>Jj (Bja (h2 r hr))⟩
theorem Y6 {n:Nod} (h:NG n):NIn n:=by
 obtain ⟨h1,_,h3,h4,h5⟩:=Cl.1 h.1
 exact ⟨⟨Nz h3,h.2⟩,Iqa h4,by omega,λ r hr=>Jj (Bja (h1 r hr))⟩
theorem NG.g {n:Nod} (h:NG n):DG n.2.1:=⟨(Cl.1 h.1).2.2.1,h.2⟩
theorem Uza (n:Nod) (hn:NIn n):Tot (λ k=>G3 k n) (λ r=>r=M3 n):=by
 obtain ⟨i,⟨a,b⟩,ro,q⟩:=n
 obtain ⟨⟨hd,_⟩,hr,hq⟩:=hn
 dsimp only at hd hr hq
 unfold G3
 have hl:=hq.1
 refine Tot.bind (Q:=λ r=>r=bif qOk q then .inr (i,a,b,ro,q) else .inl false) ?_ ?_
 ·refine Tot.up (L:=λ k i' (_:Unit)=>Gu k q (q.length:Int) i' i a b ro q) (Q:=λ r=>r=bif qOk q then .inr (i,a,b,ro,q) else .inl false) q.length (λ j _=>(q.drop j).all Ma=q.all Ma) ?_ ?_ 0 () (Nat.zero_le _) (by rw [List.drop_zero])
  ·intro _ hj
   rw [List.drop_length] at hj
   simp only [Gu]
   exact Tot.ndec (by omega) (Tot.pure (by unfold qOk; rw [← hj]; rfl))
  ·intro j _ hj hi next
   simp only [Gu]
   rw [An (d:=Md) hj,List.all_cons] at hi
   refine Tot.dec (by omega) (Tot.dec (by omega) (Tot.dec (by omega) ?_))
   rw [Int.toNat_natCast,w64 (n:=(j:Int)+1) (by omega) (by omega)]
   refine Tot.bind (Qla (q.getD j Md) (hq.2 _ (A4 hj))) ?_
   rintro r rfl
   cases hc:Ma (q.getD j Md) with
   |false=>exact Tot.yes rfl (Tot.pure (by unfold qOk; rw [← hi,hc]; rfl))
   |true=>exact Tot.no rfl (next () (by rw [hc,Bool.true_and] at hi; exact hi))
 ·rintro r rfl
  unfold M3
  dsimp only
  cases qOk q with
  |false=>exact Tot.pure rfl
  |true=>
   simp only [cond_true,Sum.elim_inr,Bool.true_and]
   refine Tot.bind (Tot.of (Q:=λ r=>r=inR i 0 20) (Ug _ _ _) rfl) ?_
   rintro r rfl
   cases inR i 0 20 with
   |false=>exact Tot.no rfl (Tot.pure rfl)
   |true=>
    refine Tot.yes rfl (Tot.bind (Ula (a,b) hd.1.1 hd.1.2) ?_)
    rintro r rfl
    cases Ao (a,b) with
    |false=>exact Tot.no rfl (Tot.pure rfl)
    |true=>
     refine Tot.yes rfl (Tot.bind (Uha ro (by have:=hr.1; unfold Few; omega) hr.2) ?_)
     rintro r rfl
     cases K5 ro with
     |false=>exact Tot.no rfl (Tot.pure rfl)
     |true=>exact Tot.yes rfl (Tot.pure rfl)
theorem W4 (n:Nod) (hn:NIn n):Tot (λ k=>Br k n) (λ r=>r=M3 n):=by
 obtain ⟨i,⟨a,b⟩,ro,q⟩:=n
 obtain ⟨⟨hd,_⟩,hr,hq⟩:=hn
 dsimp only at hd hr hq
 unfold Br
 have hl:=hq.1
 refine Tot.bind (Q:=λ r=>r=bif qOk q then .inr (i,a,b,ro,q) else .inl false) ?_ ?_
 ·refine Tot.up (L:=λ k i' (_:Unit)=>Gg k i' i a b ro q) (Q:=λ r=>r=bif qOk q then .inr (i,a,b,ro,q) else .inl false) q.length (λ j _=>(q.drop j).all Ma=q.all Ma) ?_ ?_ 0 () (Nat.zero_le _) (by rw [List.drop_zero])
  ·intro _ hj
   rw [List.drop_length] at hj
   simp only [Gg]
   exact Tot.ndec (by omega) (Tot.pure (by unfold qOk; rw [← hj]; rfl))
  ·intro j _ hj hi next
   simp only [Gg]
   rw [An (d:=Md) hj,List.all_cons] at hi
   refine Tot.dec (by omega) (Tot.dec (by omega) (Tot.dec (by omega) ?_))
   rw [Int.toNat_natCast,w64 (n:=(j:Int)+1) (by omega) (by omega)]
   refine Tot.bind (Qma (q.getD j Md) (hq.2 _ (A4 hj))) ?_
   rintro r rfl
   cases hc:Ma (q.getD j Md) with
   |false=>exact Tot.yes rfl (Tot.pure (by unfold qOk; rw [← hi,hc]; rfl))
   |true=>exact Tot.no rfl (next () (by rw [hc,Bool.true_and] at hi; exact hi))
 ·rintro r rfl
  unfold M3
  dsimp only
  cases qOk q with
  |false=>exact Tot.pure rfl
  |true=>
   simp only [cond_true,Sum.elim_inr,Bool.true_and]
   refine Tot.bind (Tot.of (Q:=λ r=>r=inR i 0 20) (N6 _ _ _) rfl) ?_
   rintro r rfl
   cases inR i 0 20 with
   |false=>exact Tot.no rfl (Tot.pure rfl)
   |true=>
    refine Tot.yes rfl (Tot.bind (Pk (a,b) hd.1.1 hd.1.2) ?_)
    rintro r rfl
    cases Ao (a,b) with
    |false=>exact Tot.no rfl (Tot.pure rfl)
    |true=>
     refine Tot.yes rfl (Tot.bind (Kra ro (by have:=hr.1; unfold Few; omega) hr.2) ?_)
     rintro r rfl
     cases K5 ro with
     |false=>exact Tot.no rfl (Tot.pure rfl)
     |true=>exact Tot.yes rfl (Tot.pure rfl)
theorem Mx (n:Nod) (hn:NIn n):Tot (λ k=>Bd k n) (λ r=>r=n):=by
 unfold Bd
 have h1:=hn.2.1.1
 have h2:=hn.2.2.1
 refine Tot.bind (L8 n.2.1 hn.1.1.1.1) ?_
 rintro r rfl
 refine Tot.ble (by simp only [List.length_nil]; omega) (Tot.ble (by simp only [List.length_nil]; omega) (Tot.pure ?_))
 rw [List.nil_append,List.nil_append]
theorem N8a (a b:List Row) (hf:a.length+b.length≤10000000000):Tot (λ k=>Bp k a b) (λ r=>r=W0 a b):=by
 unfold Bp
 refine Tot.ble (by simp only [List.length_nil]; omega) ?_
 rw [List.nil_append]
 refine Tot.bind (Q:=λ r=>r=W0 a b) ?_ (by rintro r rfl; exact Tot.pure rfl)
 refine Tot.up (L:=λ k i s=>Di k b s i) (Q:=λ r=>r=W0 a b) b.length (λ i s=>W0 s (b.drop i)=W0 a b∧s.length≤a.length+i) ?_ ?_ 0 a (Nat.zero_le _) ⟨by rw [List.drop_zero],Nat.le_add_right _ _⟩
 ·rintro s ⟨hs,_⟩
  rw [List.drop_length] at hs
  simp only [Di]
  exact Tot.ndec (by omega) (Tot.pure hs)
 ·rintro i s hi ⟨hs,hl⟩ next
  simp only [Di]
  refine Tot.dec (by omega) (Tot.dec (by omega) (Tot.dec (by omega) ?_))
  rw [Int.toNat_natCast,w64 (n:=(i:Int)+1) (by omega) (by omega)]
  rw [An (d:=Md) hi] at hs
  refine Tot.bind (Fda s (b.getD i Md) (by unfold Few; omega)) ?_
  rintro m rfl
  have:=Qja s (b.getD i Md)
  exact next _ ⟨hs,by omega⟩
def V0a (n:Nod) (l:List Row):Nod×Bool:=bif M3 n&&K5 l then (bif decide ((W0 n.2.2.1 l).length > 60) then (n,false) else ((n.1,n.2.1,W0 n.2.2.1 l,n.2.2.2),true)) else (n,false)
theorem Y7 {a b:List Row} (ha:K5 a=true) (hb:K5 b=true) (h:(W0 a b).length≤60):K5 (W0 a b)=true:=by
 obtain ⟨a1,a2,_⟩:=Mi.1 ha
 obtain ⟨b1,b2,_⟩:=Mi.1 hb
 exact Mi.2 ⟨Iaa a1,λ r hr=>(Ksa hr).elim (a2 r) (b2 r),h⟩
theorem Rha {n:Nod} {l:List Row} (hn:NG n):NG (V0a n l).1:=by
 unfold V0a
 rw [hn.1,Bool.true_and]
 cases hl:K5 l with
 |false=>exact hn
 |true=>
  rw [cond_true]
  cases hc:decide ((W0 n.2.2.1 l).length > 60) with
  |true=>exact hn
  |false=>
   obtain ⟨h1,h2,h3,h4,h5⟩:=Cl.1 hn.1
   exact ⟨Cl.2 ⟨h1,h2,h3,Y7 h4 hl (by have:=of_decide_eq_false hc; omega),h5⟩,hn.2⟩
theorem Bra (n:Nod) (l:List Row) (h1:n.2.2.1.length≤2000000) (h2:l.length≤2000000):Tot (λ k=>Gd k n l) (λ r=>r=bif decide ((W0 n.2.2.1 l).length > 60) then (false,n) else (true,(n.1,n.2.1,W0 n.2.2.1 l,n.2.2.2))):=by
 unfold Gd He
 refine Tot.bind (N8a n.2.2.1 l (by omega)) ?_
 rintro r rfl
 refine Tot.dite (λ h=>?_) (λ h=>?_)
 ·rw [decide_eq_true (show (W0 n.2.2.1 l).length > 60 by omega)]
  exact Tot.pure rfl
 ·rw [decide_eq_false (show ¬ (W0 n.2.2.1 l).length > 60 by omega)]
  exact Tot.pure rfl
theorem V1a (n:Nod) (l:List Row) (hn:NIn n) (hl:RF l):Tot (λ k=>Ht k n l) (λ r=>r=V0a n l):=by
 have copy:Tot (λ k=>(Bd k n).bind λ r3=>some (r3,false)) (λ r=>r=(n,false)):=by
  refine Tot.bind (Mx n hn) ?_
  rintro r rfl
  exact Tot.pure rfl
 unfold Ht V0a
 refine Tot.bind (Mx n hn) ?_
 rintro n rfl
 refine Tot.bind (W4 n hn) ?_
 rintro r rfl
 cases M3 n with
 |false=>exact Tot.yes rfl copy
 |true=>
  refine Tot.no rfl (Tot.bind (Kra l (by have:=hl.1; unfold Few; omega) hl.2) ?_)
  rintro r rfl
  cases K5 l with
  |false=>exact Tot.yes rfl copy
  |true=>
   refine Tot.no rfl (Tot.bind (Bra n l hn.2.1.1 hl.1) ?_)
   rintro r rfl
   cases decide ((W0 n.2.2.1 l).length > 60) with
   |true=>exact Tot.yes rfl copy
   |false=>exact Tot.no rfl (Tot.pure rfl)
def Y8 (s:ByteArray) (f:Fil):Row:=(s,f.1,f.2.1,(f.2.2.length:Int))
def Uj (n:Nod) (s:ByteArray) (f:Fil) (sure:Bool):Nod×Int:=bif (n.2.2.2.length:Int)==60 then (n,3) else
 ((n.1,(keep n.2.1 s f sure).1,n.2.2.1,bif (keep n.2.1 s f sure).2==0&&sure then n.2.2.2++[Y8 s f] else n.2.2.2),(keep n.2.1 s f sure).2)
def Cib (n:Nod) (s:ByteArray) (f:Fil) (sure:Bool):Nod×Int:=bif M3 n&&(B1 s&&Fh f) then Uj n s f sure else (n,2)
theorem V2a {s:ByteArray} {f:Fil} (hs:B1 s=true) (hf:Fh f=true):Ma (Y8 s f)=true:=by
 obtain ⟨h1,h2,h3⟩:=Ik.1 hf
 unfold Ma Y8
 dsimp only
 rw [hs,h1,Dz.2 ⟨by omega,by omega⟩]
 cases hd:f.2.1 with
 |false=>rfl
 |true=>rw [h3 hd]; rfl
theorem Lda {n:Nod} {s:ByteArray} {f:Fil} {sure:Bool} (hn:NG n) (hs:B1 s=true) (hf:Fh f=true):NG (Uj n s f sure).1:=by
 obtain ⟨h1,h2,h3,h4,h5⟩:=Cl.1 hn.1
 have hk:=X2a (s:=s) (f:=f) (sure:=sure) hn.g
 unfold Uj
 cases hl:((n.2.2.2.length:Int)==60) with
 |true=>exact hn
 |false=>
  have hl':n.2.2.2.length≠60:=by
   intro e
   rw [e] at hl
   cases hl
  refine ⟨Cl.2 ⟨?_,h2,hk.1,h4,?_⟩,hk.2⟩
  ·show ∀ r∈bif (keep n.2.1 s f sure).2==0&&sure then n.2.2.2++[Y8 s f] else n.2.2.2,Ma r=true
   cases (keep n.2.1 s f sure).2==0&&sure with
   |false=>exact h1
   |true=>
    intro r hr
    rcases List.mem_append.1 hr with hr|hr
    ·exact h1 r hr
    ·rw [List.mem_singleton.1 hr]; exact V2a hs hf
  ·show (bif (keep n.2.1 s f sure).2==0&&sure then n.2.2.2++[Y8 s f] else n.2.2.2).length≤60
   cases (keep n.2.1 s f sure).2==0&&sure with
   |false=>exact h5
   |true=>rw [cond_true,List.length_append]; simp only [List.length_cons,List.length_nil]; omega
theorem Brb {n:Nod} {s:ByteArray} {f:Fil} {sure:Bool} (hn:NG n):NG (Cib n s f sure).1:=by
 unfold Cib
 cases hs:B1 s with
 |false=>rw [hn.1]; exact hn
 |true=>
  cases hf:Fh f with
  |false=>rw [hn.1]; exact hn
  |true=>rw [hn.1]; exact Lda hn hs hf
theorem G2a (n:Nod) (s:ByteArray) (f:Fil) (sure:Bool) (hn:NIn n) (hs:Jv s):Tot (λ k=>Ho k n s f sure) (λ r=>r=((Uj n s f sure).2,(Uj n s f sure).1)):=by
 have h1:=hn.2.2.1
 unfold Ho Jl Uj
 cases (n.2.2.2.length:Int)==60 with
 |true=>exact Tot.yes rfl (Tot.pure rfl)
 |false=>
  refine Tot.no rfl (Tot.bind (Laa n.2.1 s f sure hn.1.1 hn.1.2.1 hs) ?_)
  rintro r rfl
  cases (keep n.2.1 s f sure).2==0 with
  |false=>exact Tot.no rfl (Tot.pure rfl)
  |true=>
   refine Tot.yes rfl ?_
   cases sure with
   |false=>exact Tot.no rfl (Tot.pure rfl)
   |true=>
    refine Tot.yes rfl (Tot.ble (by simp only [List.length_nil]; omega) ?_)
    refine Tot.bind (Tot.of (Q:=λ r=>r=Y8 s f) (show I5 s f=some (Y8 s f) from rfl) rfl) ?_
    rintro r rfl
    refine Tot.ble (by simp only [List.length_append,List.length_cons,List.length_nil]; omega) (Tot.pure ?_)
    rw [List.nil_append]
    rfl
theorem Ira (n:Nod) (s:ByteArray) (f:Fil) (sure:Bool) (hn:NIn n) (hs:Jv s):Tot (λ k=>Iy k n s f sure) (λ r=>r=Cib n s f sure):=by
 unfold Iy Cib
 refine Tot.bind (Mx n hn) ?_
 rintro n rfl
 refine Tot.bind (W4 n hn) ?_
 rintro r rfl
 cases M3 n with
 |false=>exact Tot.yes rfl (Tot.pure rfl)
 |true=>
  refine Tot.no rfl (Tot.bind (Na s hs) ?_)
  rintro r rfl
  cases B1 s with
  |false=>exact Tot.yes rfl (Tot.pure rfl)
  |true=>
   refine Tot.no rfl (Tot.bind (Tot.of (Q:=λ r=>r=Fh f) (T3 f) rfl) ?_)
   rintro r rfl
   cases Fh f with
   |false=>exact Tot.yes rfl (Tot.pure rfl)
   |true=>
    refine Tot.no rfl (Tot.bind (G2a n s f sure hn hs) ?_)
    rintro r rfl
    exact Tot.pure rfl
def Lea (n:Nod) (s:ByteArray) (b:Int):Nod×Bool:=bif M3 n&&((lkD n.2.1 s).2==0&&(Gta n.2.1 s b).2) then ((n.1,(Gta n.2.1 s b).1,n.2.2),true) else (n,false)
theorem Ria {n:Nod} {s:ByteArray} {b:Int} (hn:NG n):NG (Lea n s b).1:=by
 obtain ⟨h1,h2,h3,h4,h5⟩:=Cl.1 hn.1
 have hr:=Bpb (s:=s) (n:=b) hn.g
 unfold Lea
 cases M3 n&&((lkD n.2.1 s).2==0&&(Gta n.2.1 s b).2) with
 |false=>exact hn
 |true=>exact ⟨Cl.2 ⟨h1,h2,hr.1,h4,h5⟩,hr.2⟩
theorem Y9 (n:Nod) (s:ByteArray) (b:Int) (hn:NIn n) (h1:b≤9223372036854775807) (h0 : -9223372036854775808≤b):Tot (λ k=>Ee k n s b) (λ r=>r=Lea n s b):=by
 unfold Ee Lea
 refine Tot.bind (Mx n hn) ?_
 rintro n rfl
 refine Tot.bind (T6 hn.1.1.1.1.1 hn.1.2.1 s) ?_
 rintro r rfl
 refine Tot.bind (W4 n hn) ?_
 rintro r rfl
 cases h:M3 n with
 |false=>exact Tot.yes rfl (Tot.pure rfl)
 |true=>
  refine Tot.no rfl ?_
  cases hl:(lkD n.2.1 s).2==0 with
  |false=>exact Tot.yes (by unfold bne; rw [hl]; rfl) (Tot.pure rfl)
  |true=>
   refine Tot.no (by unfold bne; rw [hl]; rfl) (Tot.bind (Z7a (NG.g ⟨h,hn.1.2⟩) h1 h0) ?_)
   rintro r rfl
   cases (Gta n.2.1 s b).2 with
   |false=>exact Tot.yes rfl (Tot.pure rfl)
   |true=>exact Tot.no rfl (Tot.pure rfl)
theorem N9a:∀ (m:Nat) (i:Int) (c:Cur) (z:Nod) (n:Nod),i=m→m≤6→Ck c→NG n→
  Tot (λ k=>F9 k i c.1 c.2.1 c.2.2 z.1 z.2.1.1 z.2.1.2 z.2.2.1 z.2.2.2 n.1 n.2.1.1 n.2.1.2 n.2.2.1 n.2.2.2) (λ r=>∃ c' n',Ck c'∧NG n'∧r=(c'.1,c'.2.1,c'.2.2,z.1,z.2.1.1,z.2.1.2,z.2.2.1,z.2.2.2,n'.1,n'.2.1.1,n'.2.1.2,n'.2.2.1,n'.2.2.2)):=by
 intro m
 induction m with
 |zero=>
  intro i c z n hi h6 hc hn
  refine Tot.succ ?_
  simp only [F9]
  exact Tot.ndec (by omega) (Tot.pure ⟨c,n,hc,hn,rfl⟩)
 |succ m ih=>
  intro i c z n hi h6 hc hn
  refine Tot.succ ?_
  simp only [F9]
  refine Tot.dec (by omega) ?_
  rw [w64 (n:=i - 1) (by omega) (by omega)]
  obtain ⟨s,c1,e1,hs,k1⟩:=Nl c hc
  refine Tot.bind (Tot.of (Q:=λ r=>r=(s,c1)) e1 rfl) ?_
  rintro r rfl
  refine Tot.bind (Ox c1 k1) (λ f hf=>?_)
  obtain ⟨b,c2,e2,k2⟩:=Nk f.2 hf.2 3 (by decide)
  refine Tot.bind (Tot.of (Q:=λ r=>r=(b,c2)) e2 rfl) ?_
  rintro r rfl
  refine Tot.bind (Ira n s f.1 (!b) (Y6 hn) (Le s hs).1) ?_
  rintro q rfl
  exact ih (i - 1) c2 z _ (by omega) (by omega) k2 (Brb hn)
def Cy:Nod:=((0:Int),(([]:List Nmd),([]:List Nmd)),([]:List Row),([]:List Row))
theorem Yy (i:Int):G8 i=some (bif inR i 0 20 then (i,([],[]),[],[]) else Cy):=by
 unfold G8
 rw [N6]
 simp only [Option.bind_some]
 cases inR i 0 20<;>rfl
theorem Rja {l:List Row} (h:Kpa l) (hl:l.length≤60):K5 l=true:=Mi.2 ⟨h.1,λ r hr=>Uka (h.2 r hr),hl⟩
theorem Rka (c:Cur) (hc:Ck c):Tot (λ k=>Eg k c) (λ r=>NG r.1∧Ck r.2):=by
 unfold Eg
 obtain ⟨x,c1,e1,x0,x1,_,k1⟩:=Am c hc 6 (by decide)
 have x1:=x1 (by decide)
 refine Tot.bind (Tot.of (Q:=λ r=>r=(x,c1)) e1 rfl) ?_
 rintro r rfl
 refine Tot.bind (Tot.of (Q:=λ r=>r=(x,([],[]),[],[])) (by rw [Yy,Dz.2 ⟨by dsimp only; omega,by dsimp only; omega⟩]; rfl) rfl) ?_
 rintro r rfl
 obtain ⟨y,c2,e2,y0,y1,_,k2⟩:=Am c1 k1 6 (by decide)
 have y1:=y1 (by decide)
 refine Tot.bind (Tot.of (Q:=λ r=>r=(y,c2)) e2 rfl) ?_
 rintro r rfl
 have hn0:NG (x,(([]:List Nmd),([]:List Nmd)),([]:List Row),([]:List Row)):=⟨Cl.2 ⟨(by simp),⟨by dsimp only; omega,by dsimp only; omega⟩,(show Ao ([],[])=true by decide),(show K5 []=true by decide),(by simp)⟩,λ x hx=>(by cases hx),λ x hx=>(by cases hx)⟩
 refine Tot.bind (N9a y.toNat y c2 Cy _ (by omega) (by omega) k2 hn0) ?_
 rintro r ⟨c3,n,k3,hn,rfl⟩
 have rot:∀ (n:Nod) (c:Cur),NG n→Ck c→Tot (λ k=>(Bn c).bind λ r9=>(A3 r9.2 40).bind λ r10=>(Ee k n r9.1 r10.1).bind λ r11=>some (r11.1,r10.2)) (λ r=>NG r.1∧Ck r.2):=by
  intro n c hn hc
  obtain ⟨s,c1,e1,hs,k1⟩:=Nl c hc
  refine Tot.bind (Tot.of (Q:=λ r=>r=(s,c1)) e1 rfl) ?_
  rintro r rfl
  obtain ⟨x,c2,e2,x0,x1,_,k2⟩:=Am c1 k1 40 (by decide)
  have x1:=x1 (by decide)
  refine Tot.bind (Tot.of (Q:=λ r=>r=(x,c2)) e2 rfl) ?_
  rintro r rfl
  refine Tot.bind (Y9 n s x (Y6 hn) (by omega) (by omega)) ?_
  rintro r rfl
  exact Tot.pure ⟨Ria hn,k2⟩
 obtain ⟨b,c4,e4,k4⟩:=Nk c3 k3 2 (by decide)
 refine Tot.bind (Tot.of (Q:=λ r=>r=(b,c4)) e4 rfl) ?_
 rintro r rfl
 refine Tot.ite (λ _=>?_) (λ _=>?_)
 ·refine Tot.bind (Xr c4 k4) ?_
  rintro ⟨l,c5⟩ ⟨k5,hl,hl5⟩
  refine Tot.bind (V1a n l (Y6 hn) (Iqa (Rja hl (by dsimp only at hl5; omega)))) ?_
  rintro r rfl
  obtain ⟨b,c6,e6,k6⟩:=Nk c5 k5 3 (by decide)
  refine Tot.bind (Tot.of (Q:=λ r=>r=(b,c6)) e6 rfl) ?_
  rintro r rfl
  exact Tot.ite (λ _=>rot _ c6 (Rha hn) k6) (λ _=>Tot.pure ⟨Rha hn,k6⟩)
 ·obtain ⟨b,c6,e6,k6⟩:=Nk c4 k4 3 (by decide)
  refine Tot.bind (Tot.of (Q:=λ r=>r=(b,c6)) e6 rfl) ?_
  rintro r rfl
  exact Tot.ite (λ _=>rot n c6 hn k6) (λ _=>Tot.pure ⟨hn,k6⟩)
theorem X4a {l:List Row} {x:Row} (h:RF l) (hl:l.length≤999) (hx:Jv x.1):RF (l++[x]):=by
 refine ⟨by simp only [List.length_append,List.length_cons,List.length_nil]; omega,λ y hy=>?_⟩
 rcases List.mem_append.1 hy with hy|hy
 ·exact h.2 y hy
 ·rw [List.mem_singleton.1 hy]; exact hx
theorem Naa (z n:Nod) (hs:Jv ((⟨#[97]⟩:ByteArray))):∀ (m:Nat) (c:Cur) (q:List Row),61 - q.length≤m→Ck c→RF q→q.length≤61→
  Tot (λ k=>Fa k c.1 c.2.1 c.2.2 z.1 z.2.1.1 z.2.1.2 z.2.2.1 z.2.2.2 n.1 n.2.1.1 n.2.1.2 n.2.2.1 q) (λ r=>∃ c' q',Ck c'∧RF q'∧r=(z.1,z.2.1.1,z.2.1.2,z.2.2.1,z.2.2.2,n.1,n.2.1.1,n.2.1.2,n.2.2.1,q',c'.1,c'.2.1,c'.2.2)):=by
 intro m
 induction m with
 |zero=>
  intro c q hm hc hq hl
  refine Tot.succ ?_
  simp only [Fa]
  obtain ⟨x,c1,e1,x0,x1,_,k1⟩:=Am c hc 2 (by decide)
  have x1:=x1 (by decide)
  refine Tot.bind (Tot.of (Q:=λ r=>r=(x,c1)) e1 rfl) ?_
  rintro r rfl
  dsimp only
  rw [w64 (n:=60+x) (by omega) (by omega)]
  exact Tot.ndec (by omega) (Tot.pure ⟨c1,q,k1,hq,rfl⟩)
 |succ m ih=>
  intro c q hm hc hq hl
  refine Tot.succ ?_
  simp only [Fa]
  obtain ⟨x,c1,e1,x0,x1,_,k1⟩:=Am c hc 2 (by decide)
  have x1:=x1 (by decide)
  refine Tot.bind (Tot.of (Q:=λ r=>r=(x,c1)) e1 rfl) ?_
  rintro r rfl
  dsimp only
  rw [w64 (n:=60+x) (by omega) (by omega)]
  refine Tot.dite (λ h=>Tot.ble (by simp only [List.length_cons,List.length_nil]; omega) ?_) (λ h=>Tot.pure ⟨c1,q,k1,hq,rfl⟩)
  exact ih c1 _ (by simp only [List.length_append,List.length_cons,List.length_nil]; omega) k1 (X4a hq (by omega) hs) (by simp only [List.length_append,List.length_cons,List.length_nil]; omega)
theorem Rla (c:Cur) (hc:Ck c):Tot (λ k=>Fb k c) (λ r=>NIn r.1∧Ck r.2):=by
 unfold Fb
 refine Tot.bind (Rka c hc) ?_
 rintro ⟨n,c1⟩ ⟨hg,k1⟩
 have hn:=Y6 hg
 have hq60:=(Cl.1 hg.1).2.2.2.2
 obtain ⟨x,c2,e2,_,_,_,k2⟩:=Am c1 k1 12 (by decide)
 refine Tot.bind (Tot.of (Q:=λ r=>r=(x,c2)) e2 rfl) ?_
 rintro r rfl
 refine Tot.ite (λ _=>?_) (λ _=>Tot.ite (λ _=>?_) (λ _=>Tot.ite (λ _=>?_) (λ _=>Tot.ite (λ _=>?_) (λ _=>Tot.ite (λ _=>?_) (λ _=>Tot.pure ⟨hn,k2⟩)))))
 ·obtain ⟨y,c3,e3,_,k3⟩:=Ke c2 k2 [(-1),20,21] (by decide) (by decide)
  refine Tot.bind (Tot.of (Q:=λ r=>r=(y,c3)) e3 rfl) ?_
  rintro r rfl
  exact Tot.pure ⟨hn,k3⟩
 ·refine Tot.bind (Bqb c2 k2) (λ r hr=>Tot.pure ⟨⟨hr.1,hn.2⟩,hr.2⟩)
 ·refine Tot.bind (Fia c2 k2) (λ r hr=>Tot.pure ⟨⟨hn.1,⟨by have:=hr.2.1; dsimp only; omega,hr.2.2⟩,hn.2.2⟩,hr.1⟩)
 ·obtain ⟨s,c3,e3,hs,k3⟩:=O3 c2 k2
  refine Tot.bind (Tot.of (Q:=λ r=>r=(s,c3)) e3 rfl) ?_
  rintro r rfl
  exact Tot.ble (by dsimp only at hq60 ⊢; simp only [List.length_cons,List.length_nil]; omega) (Tot.pure ⟨⟨hn.1,hn.2.1,X4a hn.2.2 (by dsimp only at hq60 ⊢; omega) hs⟩,k3⟩)
 ·refine Tot.bind (Naa Cy n (by unfold Jv; decide) 61 c2 n.2.2.2 (by omega) k2 hn.2.2 (by dsimp only at hq60; omega)) ?_
  rintro r ⟨c3,q,k3,hq,rfl⟩
  exact Tot.pure ⟨⟨hn.1,hn.2.1,hq⟩,k3⟩

abbrev Dev:=Int×Int×Int
abbrev Rng:=Int×List (List Int)
def Mb:Dev:=((0:Int),((0:Int),(0:Int)))
def N7 (l:List Int) (n:Int):Bool:=l.any (· == n)
theorem R6 {l:List Int} {n:Int}:N7 l n=true↔n∈l:=by
 unfold N7
 rw [List.any_eq_true]
 constructor
 ·rintro ⟨x,hx,e⟩; rw [← eq_of_beq e]; exact hx
 ·intro h; exact ⟨n,h,beq_self_eq_true n⟩
theorem D7a (l:List Int) (n:Int) (hl:l.length≤4000000000000000):Tot (λ k=>Dy k l n) (λ r=>r=N7 l n):=by
 unfold Dy
 refine Tot.bind (Q:=λ r=>r=bif N7 l n then .inl true else .inr ()) ?_ (by rintro r rfl; cases N7 l n<;>exact Tot.pure rfl)
 refine Tot.up (L:=λ k i (_:Unit)=>Gq k n l (l.length:Int) i) (Q:=λ r=>r=bif N7 l n then .inl true else .inr ()) l.length (λ j _=>N7 (l.drop j) n=N7 l n) ?_ ?_ 0 () (Nat.zero_le _) rfl
 ·intro _ h
  rw [List.drop_length] at h
  simp (disch:=omega) only [Gq,dF,← h]
  exact Tot.pure rfl
 ·intro j _ hj h next
  rw [An (d:=0) hj] at h
  simp (disch:=omega) only [Gq,dT,Int.toNat_natCast,w64]
  unfold N7 at h
  rw [List.any_cons] at h
  refine Tot.ite (λ hc=>Tot.pure ?_) (λ hc=>next () ?_)
  ·rw [hc,Bool.true_or] at h
   unfold N7
   rw [← h]
   rfl
  ·rw [hc,Bool.false_or] at h
   exact h
theorem Ry (l:List Int) (n:Int) (hl:l.length≤4000000000000000):Tot (λ k=>Ca k l n) (λ r=>r=N7 l n):=by
 unfold Ca
 refine Tot.bind (Q:=λ r=>r=bif N7 l n then .inl true else .inr ()) ?_ (by rintro r rfl; cases N7 l n<;>exact Tot.pure rfl)
 refine Tot.up (L:=λ k i (_:Unit)=>Hm k l n i) (Q:=λ r=>r=bif N7 l n then .inl true else .inr ()) l.length (λ j _=>N7 (l.drop j) n=N7 l n) ?_ ?_ 0 () (Nat.zero_le _) rfl
 ·intro _ h
  rw [List.drop_length] at h
  simp (disch:=omega) only [Hm,dF,← h]
  exact Tot.pure rfl
 ·intro j _ hj h next
  rw [An (d:=0) hj] at h
  simp (disch:=omega) only [Hm,dT,Int.toNat_natCast,w64]
  unfold N7 at h
  rw [List.any_cons] at h
  refine Tot.ite (λ hc=>Tot.pure ?_) (λ hc=>next () ?_)
  ·rw [hc,Bool.true_or] at h
   unfold N7
   rw [← h]
   rfl
  ·rw [hc,Bool.false_or] at h
   exact h
def Jf (l:List Dev) (id:Int):Option Dev:=l.find? (λ d=>d.1==id)
def D5b:Option Dev→Dev×Bool
 |some d=>(d,true)
 |none=>(Mb,false)
theorem U5 {l:List Dev} {id:Int} {d:Dev} (h:Jf l id=some d):d∈l∧d.1=id:=⟨List.mem_of_find?_eq_some h,eq_of_beq (List.find?_some (p:=λ d:Dev=>d.1==id) h)⟩
theorem G3a (l:List Dev) (id:Int) (hl:l.length≤1000000000):Tot (λ k=>Ii k l id) (λ r=>r=D5b (Jf l id)):=by
 unfold Ii
 refine Tot.bind (Q:=λ r=>r=match Jf l id with|some d => .inl (true,d)|none => .inr (0,0,0)) ?_ (by rintro r rfl; cases Jf l id<;>exact Tot.pure rfl)
 refine Tot.up (L:=λ k i (_:Unit)=>Hw k id l (l.length:Int) i (0,0,0)) (Q:=λ r=>r=match Jf l id with|some d => .inl (true,d)|none => .inr (0,0,0)) l.length (λ j _=>Jf (l.drop j) id=Jf l id) ?_ ?_ 0 () (Nat.zero_le _) rfl
 ·intro _ h
  rw [List.drop_length] at h
  simp (disch:=omega) only [Hw,dF,← h]
  exact Tot.pure rfl
 ·intro j _ hj h next
  rw [An (d:=Mb) hj] at h
  unfold Jf at h
  rw [List.find?_cons] at h
  simp (disch:=omega) only [Hw,dT,Int.toNat_natCast,w64]
  refine Tot.ite (λ hc=>Tot.pure ?_) (λ hc=>next () ?_)
  ·rw [show ((l.getD j Mb).1==id)=true from hc] at h
   unfold Jf
   rw [← h]
   rfl
  ·rw [show ((l.getD j Mb).1==id)=false from hc] at h
   exact h
theorem Qk (l:List Dev) (id:Int) (hl:l.length≤1000000000):Tot (λ k=>Du k l id) (λ r=>r=D5b (Jf l id)):=by
 unfold Du
 refine Tot.bind (Q:=λ r=>r=match Jf l id with|some d => .inl (true,d)|none => .inr (0,0,0)) ?_ (by rintro r rfl; cases Jf l id<;>exact Tot.pure rfl)
 refine Tot.up (L:=λ k i (_:Unit)=>Hn k l id i (0,0,0)) (Q:=λ r=>r=match Jf l id with|some d => .inl (true,d)|none => .inr (0,0,0)) l.length (λ j _=>Jf (l.drop j) id=Jf l id) ?_ ?_ 0 () (Nat.zero_le _) rfl
 ·intro _ h
  rw [List.drop_length] at h
  simp (disch:=omega) only [Hn,dF,← h]
  exact Tot.pure rfl
 ·intro j _ hj h next
  rw [An (d:=Mb) hj] at h
  unfold Jf at h
  rw [List.find?_cons] at h
  simp (disch:=omega) only [Hn,dT,Int.toNat_natCast,w64]
  refine Tot.ite (λ hc=>Tot.pure ?_) (λ hc=>next () ?_)
  ·rw [show ((l.getD j Mb).1==id)=true from hc] at h
   unfold Jf
   rw [← h]
   rfl
  ·rw [show ((l.getD j Mb).1==id)=false from hc] at h
   exact h
def Yz (d:Dev):Bool:=inR d.1 0 20&&(inR d.2.1 0 20&&inR d.2.2 1 1000)
def Uy:Option Int→List Dev→Bool
 |_,[]=>true
 |none,d::l=>Yz d&&Uy (some d.1) l
 |some q,d::l=>Yz d&&(decide (q<d.1)&&Uy (some d.1) l)
def L5 (l:List Dev):Bool:=Uy none l&&inR (l.length:Int) 1 12
def G4a (l:List Dev):Nat→Option Int
 |0=>none
 |i+1=>some (l.getD i Mb).1
theorem D8a:∀ (p:Option Int) (l:List Dev),Uy p l=true↔l.Pairwise (λ a b=>a.1<b.1)∧(∀ d∈l,Yz d=true)∧(∀ q,p=some q→∀ d∈l,q<d.1)
 |p,[]=>by cases p<;>simp [Uy]
 |none,d::l=>by
  simp only [Uy,Bool.and_eq_true,D8a (some d.1) l,List.pairwise_cons,List.mem_cons,forall_eq_or_imp,Option.some.injEq]
  constructor
  ·rintro ⟨h1,h2,h3,h4⟩; exact ⟨⟨h4 _ rfl,h2⟩,⟨h1,h3⟩,λ q h=>by cases h⟩
  ·rintro ⟨⟨h1,h2⟩,⟨h3,h4⟩,_⟩; exact ⟨h3,h2,h4,λ q e=>by subst e; exact h1⟩
 |some q,d::l=>by
  simp only [Uy,Bool.and_eq_true,decide_eq_true_iff,D8a (some d.1) l,List.pairwise_cons,List.mem_cons,forall_eq_or_imp,Option.some.injEq]
  constructor
  ·rintro ⟨h1,hq,h2,h3,h4⟩
   exact ⟨⟨h4 _ rfl,h2⟩,⟨h1,h3⟩,λ q' e=>by subst e; exact ⟨hq,λ x hx=>by have:=h4 _ rfl x hx; omega⟩⟩
  ·rintro ⟨⟨h1,h2⟩,⟨h3,h4⟩,h5⟩
   exact ⟨h3,(h5 q rfl).1,h2,h4,λ q e=>by subst e; exact h1⟩
theorem Ed {l:List Dev}:L5 l=true↔l.Pairwise (λ a b=>a.1<b.1)∧(∀ d∈l,Yz d=true)∧1≤l.length∧l.length≤12:=by
 unfold L5
 rw [Bool.and_eq_true,D8a,Dz]
 constructor
 ·rintro ⟨⟨h1,h2,_⟩,h3,h4⟩; exact ⟨h1,h2,by omega,by omega⟩
 ·rintro ⟨h1,h2,h3,h4⟩; exact ⟨⟨h1,h2,λ q h=>by cases h⟩,by omega,by omega⟩
theorem My {d:Dev}:Yz d=true↔(0≤d.1∧d.1≤20)∧(0≤d.2.1∧d.2.1≤20)∧1≤d.2.2∧d.2.2≤1000:=by
 unfold Yz
 rw [Bool.and_eq_true,Bool.and_eq_true,Dz,Dz,Dz]
theorem G5a {l:List Dev} {j:Nat} (hj:j<l.length):Uy (G4a l j) (l.drop j)=(Yz (l.getD j Mb)&&((bif decide (0<j) then decide ((l.getD (j - 1) Mb).1<(l.getD j Mb).1) else true)&&Uy (G4a l (j+1)) (l.drop (j+1)))):=by
 rw [An (d:=Mb) hj]
 cases j with
 |zero=>simp [G4a,Uy]
 |succ j=>simp [G4a,Uy]
theorem V3a (l:List Dev) (hl:l.length≤1000000000):Tot (λ k=>Fz k l) (λ r=>r=L5 l):=by
 unfold Fz L5
 refine Tot.bind (Q:=λ r=>r=bif Uy none l then .inr l else .inl false) ?_ ?_
 ·refine Tot.up (L:=λ k i (_:Unit)=>Fn k l l (l.length:Int) i) (Q:=λ r=>r=bif Uy none l then .inr l else .inl false) l.length (λ j _=>Uy (G4a l j) (l.drop j)=Uy none l) ?_ ?_ 0 () (Nat.zero_le _) rfl
  ·intro _ h
   rw [List.drop_length] at h
   have:Uy none l=true:=by rw [← h]; cases G4a l l.length<;>rfl
   simp (disch:=omega) only [Fn,dF,this]
   exact Tot.pure rfl
  ·intro j _ hj h next
   rw [G5a hj] at h
   simp (disch:=omega) only [Fn,dT,Int.toNat_natCast,w64,Ug,Option.bind_some]
   have e0:l.getD j ((0:Int),((0:Int),(0:Int)))=l.getD j Mb:=rfl
   rw [e0]
   have no:Yz (l.getD j Mb)=false→Uy none l=false:=λ c=>by rw [← h,c]; rfl
   unfold Yz at no h
   refine Tot.ite (λ hc=>Tot.pure ?_) (λ h1=>Tot.ite (λ hc=>Tot.pure ?_) (λ h2=>Tot.ite (λ hc=>Tot.pure ?_) (λ h3=>?_)))
   ·rw [no (by rw [Bool.not_eq_true'] at hc; rw [hc]; rfl)]; rfl
   ·rw [no (by rw [Bool.not_eq_true'] at hc; rw [hc,Bool.false_and,Bool.and_false])]; rfl
   ·rw [no (by rw [Bool.not_eq_true'] at hc; rw [hc,Bool.and_false,Bool.and_false])]; rfl
   ·rw [Bool.not_eq_false'] at h1 h2 h3
    rw [h1,h2,h3] at h
    refine Tot.dite (λ h0=>?_) (λ h0=>next () ?_)
    ·simp (disch:=omega) only [dT,w64,show Int.toNat ((j:Int) - 1)=j - 1 by omega]
     rw [decide_eq_true (show 0<j by omega)] at h
     refine Tot.dite (λ hc=>Tot.pure ?_) (λ hc=>next () ?_)
     ·have hc':¬ ((l.getD (j - 1) Mb).1<(l.getD j Mb).1):=by
       have:(l.getD (j - 1) Mb).1≥(l.getD j Mb).1:=hc
       omega
      rw [decide_eq_false hc'] at h
      rw [← h]; rfl
     ·have hc':(l.getD (j - 1) Mb).1<(l.getD j Mb).1:=by
       have:¬ ((l.getD (j - 1) Mb).1≥(l.getD j Mb).1):=hc
       omega
      rw [decide_eq_true hc'] at h
      exact h
    ·rw [decide_eq_false (show ¬ 0<j by omega)] at h
     exact h
 ·rintro r rfl
  cases Uy none l with
  |false=>exact Tot.pure rfl
  |true=>
   simp only [cond_true,Sum.elim_inr,Ug,Option.bind_some]
   exact Tot.pure rfl
theorem W5 (l:List Dev) (hl:l.length≤1000000000):Tot (λ k=>Bs k l) (λ r=>r=L5 l):=by
 unfold Bs L5
 refine Tot.bind (Q:=λ r=>r=bif Uy none l then .inr l else .inl false) ?_ ?_
 ·refine Tot.up (L:=λ k i (_:Unit)=>Fl k l i) (Q:=λ r=>r=bif Uy none l then .inr l else .inl false) l.length (λ j _=>Uy (G4a l j) (l.drop j)=Uy none l) ?_ ?_ 0 () (Nat.zero_le _) rfl
  ·intro _ h
   rw [List.drop_length] at h
   have:Uy none l=true:=by rw [← h]; cases G4a l l.length<;>rfl
   simp (disch:=omega) only [Fl,dF,this]
   exact Tot.pure rfl
  ·intro j _ hj h next
   rw [G5a hj] at h
   simp (disch:=omega) only [Fl,dT,Int.toNat_natCast,w64,N6,Option.bind_some]
   have e0:l.getD j ((0:Int),((0:Int),(0:Int)))=l.getD j Mb:=rfl
   rw [e0]
   have no:Yz (l.getD j Mb)=false→Uy none l=false:=λ c=>by rw [← h,c]; rfl
   unfold Yz at no h
   refine Tot.ite (λ hc=>Tot.pure ?_) (λ h1=>Tot.ite (λ hc=>Tot.pure ?_) (λ h2=>Tot.ite (λ hc=>Tot.pure ?_) (λ h3=>?_)))
   ·rw [no (by rw [Bool.not_eq_true'] at hc; rw [hc]; rfl)]; rfl
   ·rw [no (by rw [Bool.not_eq_true'] at hc; rw [hc,Bool.false_and,Bool.and_false])]; rfl
   ·rw [no (by rw [Bool.not_eq_true'] at hc; rw [hc,Bool.and_false,Bool.and_false])]; rfl
   ·rw [Bool.not_eq_false'] at h1 h2 h3
    rw [h1,h2,h3] at h
    refine Tot.dite (λ h0=>?_) (λ h0=>next () ?_)
    ·simp (disch:=omega) only [dT,w64,show Int.toNat ((j:Int) - 1)=j - 1 by omega]
     rw [decide_eq_true (show 0<j by omega)] at h
     refine Tot.dite (λ hc=>Tot.pure ?_) (λ hc=>next () ?_)
     ·have hc':¬ ((l.getD (j - 1) Mb).1<(l.getD j Mb).1):=by
       have:(l.getD (j - 1) Mb).1≥(l.getD j Mb).1:=hc
       omega
      rw [decide_eq_false hc'] at h
      rw [← h]; rfl
     ·have hc':(l.getD (j - 1) Mb).1<(l.getD j Mb).1:=by
       have:¬ ((l.getD (j - 1) Mb).1≥(l.getD j Mb).1):=hc
       omega
      rw [decide_eq_true hc'] at h
      exact h
    ·rw [decide_eq_false (show ¬ 0<j by omega)] at h
     exact h
 ·rintro r rfl
  cases Uy none l with
  |false=>exact Tot.pure rfl
  |true=>
   simp only [cond_true,Sum.elim_inr,N6,Option.bind_some]
   exact Tot.pure rfl
def D9a (l:List Dev) (out:List Int) (id:Int):List Int:=match Jf l id with
 |some d=>bif N7 out d.2.1 then out else out++[d.2.1]
 |none=>out
def Ia (ids:List Int) (l:List Dev):List Int:=ids.foldl (D9a l) []
theorem Z0 (l:List Dev) (out:List Int) (id:Int):(D9a l out id).length≤out.length+1:=by
 unfold D9a
 cases Jf l id with
 |none=>exact Nat.le_succ _
 |some d=>
  simp only
  cases N7 out d.2.1 with
  |true=>exact Nat.le_succ _
  |false=>rw [cond_false,List.length_append]; exact Nat.le_refl _
theorem G6a (l:List Dev):∀ (ids out:List Int),(ids.foldl (D9a l) out).length≤out.length+ids.length
 |[],out=>by simp
 |id::ids,out=>by
  have h1:=G6a l ids (D9a l out id)
  have h2:=Z0 l out id
  rw [List.foldl_cons,List.length_cons]
  omega
theorem Rma (ids:List Int) (l:List Dev) (hi:ids.length≤5000000) (hl:l.length≤5000000):Tot (λ k=>Eh k ids l) (λ r=>r=Ia ids l):=by
 unfold Eh
 refine Tot.bind (Q:=λ r=>r=Ia ids l) ?_ (by rintro r rfl; exact Tot.pure rfl)
 refine Tot.up (L:=λ k i s=>Dk k l s ids (ids.length:Int) i) (Q:=λ r=>r=Ia ids l) ids.length (λ j s=>(ids.drop j).foldl (D9a l) s=Ia ids l∧s.length≤j) ?_ ?_ 0 [] (Nat.zero_le _) ⟨rfl,Nat.le_refl _⟩
 ·rintro s ⟨h,_⟩
  rw [List.drop_length] at h
  simp (disch:=omega) only [Dk,dF]
  exact Tot.pure h
 ·rintro j s hj ⟨h,hs⟩ next
  rw [An (d:=0) hj,List.foldl_cons] at h
  simp (disch:=omega) only [Dk,dT,Int.toNat_natCast,w64]
  have hz:=Z0 l s (ids.getD j 0)
  refine Tot.bind (G3a l (ids.getD j 0) (by omega)) ?_
  rintro r rfl
  unfold D9a at h hz
  cases hd:Jf l (ids.getD j 0) with
  |none=>
   rw [hd] at h
   exact Tot.no rfl (next _ ⟨h,by omega⟩)
  |some d=>
   rw [hd] at h hz
   refine Tot.yes rfl (Tot.bind (D7a s d.2.1 (by omega)) ?_)
   rintro r rfl
   simp only at h hz
   cases hh:N7 s d.2.1 with
   |true=>
    rw [hh] at h
    exact Tot.no rfl (next _ ⟨h,by omega⟩)
   |false=>
    rw [hh] at h hz
    exact Tot.yes rfl (Tot.ble (by simp only [List.length_cons,List.length_nil]; omega) (next _ ⟨h,by rw [cond_false] at hz; exact Nat.le_trans hz (by omega)⟩))
theorem G7a (ids:List Int) (l:List Dev) (hi:ids.length≤5000000) (hl:l.length≤5000000):Tot (λ k=>Cm k ids l) (λ r=>r=Ia ids l):=by
 unfold Cm
 refine Tot.bind (Q:=λ r=>r=Ia ids l) ?_ (by rintro r rfl; exact Tot.pure rfl)
 refine Tot.up (L:=λ k i s=>Dg k ids l s i) (Q:=λ r=>r=Ia ids l) ids.length (λ j s=>(ids.drop j).foldl (D9a l) s=Ia ids l∧s.length≤j) ?_ ?_ 0 [] (Nat.zero_le _) ⟨rfl,Nat.le_refl _⟩
 ·rintro s ⟨h,_⟩
  rw [List.drop_length] at h
  simp (disch:=omega) only [Dg,dF]
  exact Tot.pure h
 ·rintro j s hj ⟨h,hs⟩ next
  rw [An (d:=0) hj,List.foldl_cons] at h
  simp (disch:=omega) only [Dg,dT,Int.toNat_natCast,w64]
  have hz:=Z0 l s (ids.getD j 0)
  refine Tot.bind (Qk l (ids.getD j 0) (by omega)) ?_
  rintro r rfl
  unfold D9a at h hz
  cases hd:Jf l (ids.getD j 0) with
  |none=>
   rw [hd] at h
   exact Tot.no rfl (next _ ⟨h,by omega⟩)
  |some d=>
   rw [hd] at h hz
   refine Tot.yes rfl (Tot.bind (Ry s d.2.1 (by omega)) ?_)
   rintro r rfl
   simp only at h hz
   cases hh:N7 s d.2.1 with
   |true=>
    rw [hh] at h
    exact Tot.no rfl (next _ ⟨h,by omega⟩)
   |false=>
    rw [hh] at h hz
    exact Tot.yes rfl (Tot.ble (by simp only [List.length_cons,List.length_nil]; omega) (next _ ⟨h,by rw [cond_false] at hz; exact Nat.le_trans hz (by omega)⟩))

theorem Ql {l:List Int} {j:Nat} (hj:j<l.length) (h:(l.take j).Nodup) (hn:l.getD j 0∉l.take j):(l.take (j+1)).Nodup:=by
 rw [List.take_succ_eq_append_getElem hj,List.nodup_append]
 rw [List.getD_eq_getElem?_getD,List.getElem?_eq_getElem hj,Option.getD_some] at hn
 exact ⟨h,by simp,λ a ha b hb e=>by rw [List.mem_singleton.1 hb] at e; subst e; exact hn ha⟩
theorem G8a {l:List Int} {j:Nat} (hj:j<l.length) (hn:l.getD j 0∈l.take j):¬ l.Nodup:=by
 intro h
 have h1:(l.take (j+1)).Nodup:=h.sublist (List.take_sublist _ _)
 rw [List.take_succ_eq_append_getElem hj,List.nodup_append] at h1
 rw [List.getD_eq_getElem?_getD,List.getElem?_eq_getElem hj,Option.getD_some] at hn
 exact h1.2.2 _ hn _ (by simp) rfl
theorem Rna (l:List Int) (hl:l.length≤5000000):Tot (λ k=>I7 k l) (λ r=>r=decide l.Nodup):=by
 unfold I7
 refine Tot.bind (Q:=λ r=>r=bif decide l.Nodup then .inr () else .inl false) ?_ (by rintro r rfl; cases decide l.Nodup<;>exact Tot.pure rfl)
 refine Tot.up (L:=λ k i (_:Unit)=>Hv k l l (l.length:Int) i) (Q:=λ r=>r=bif decide l.Nodup then .inr () else .inl false) l.length (λ j _=>(l.take j).Nodup) ?_ ?_ 0 () (Nat.zero_le _) (by simp)
 ·intro _ h
  rw [List.take_length] at h
  simp (disch:=omega) only [Hv,dF,decide_eq_true h]
  exact Tot.pure rfl
 ·intro j _ hj h next
  simp (disch:=omega) only [Hv,dT,Int.toNat_natCast,w64]
  refine Tot.bind (D7a (l.take j) (l.getD j 0) (by rw [List.length_take]; omega)) ?_
  rintro r rfl
  refine Tot.ite (λ hc=>Tot.pure ?_) (λ hc=>next () (Ql hj h (λ c=>by rw [R6.2 c] at hc; cases hc)))
  rw [decide_eq_false (G8a hj (R6.1 hc))]
  rfl
theorem Lfa (l:List Int) (n:Int) (hl:l.length≤5000000):Tot (λ k=>Dx k l n) (λ r=>r=(decide l.Nodup&&((l.length:Int)==n))):=by
 unfold Dx
 refine Tot.bind (Q:=λ r=>r=bif decide l.Nodup then .inr (n,l) else .inl false) ?_ (by rintro r rfl; cases decide l.Nodup<;>exact Tot.pure rfl)
 refine Tot.up (L:=λ k i (_:Unit)=>Gi k n i l) (Q:=λ r=>r=bif decide l.Nodup then .inr (n,l) else .inl false) l.length (λ j _=>(l.take j).Nodup) ?_ ?_ 0 () (Nat.zero_le _) (by simp)
 ·intro _ h
  rw [List.take_length] at h
  simp (disch:=omega) only [Gi,dF,decide_eq_true h]
  exact Tot.pure rfl
 ·intro j _ hj h next
  simp (disch:=omega) only [Gi,dT,Int.toNat_natCast,w64]
  refine Tot.bind (Ry (l.take j) (l.getD j 0) (by rw [List.length_take]; omega)) ?_
  rintro r rfl
  refine Tot.ite (λ hc=>Tot.pure ?_) (λ hc=>next () (Ql hj h (λ c=>by rw [R6.2 c] at hc; cases hc)))
  rw [decide_eq_false (G8a hj (R6.1 hc))]
  rfl
def RBd (r:Rng):Prop:=r.2.length≤2000000∧∀ p∈r.2,p.length≤2000000
def Lh (l:List Dev) (n:Int) (p:List Int):Bool:=(decide p.Nodup&&((p.length:Int)==n))&&p.all λ id=>(Jf l id).isSome
def H3 (r:Rng) (l:List Dev):Bool:=L5 l&&(inR r.1 1 5&&(inR (r.2.length:Int) 1 64&&r.2.all (Lh l r.1)))
theorem Bg {r:Rng} {l:List Dev}:H3 r l=true↔L5 l=true∧(1≤r.1∧r.1≤5)∧(1≤r.2.length∧r.2.length≤64)∧∀ p∈r.2,p.Nodup∧(p.length:Int)=r.1∧∀ id∈p,∃ d,Jf l id=some d:=by
 unfold H3 Lh
 simp only [Bool.and_eq_true,Dz,List.all_eq_true,decide_eq_true_iff,beq_iff_eq,Option.isSome_iff_exists]
 constructor
 ·rintro ⟨h1,h2,⟨h3,h4⟩,h5⟩; exact ⟨h1,h2,⟨by omega,by omega⟩,λ p hp=>⟨(h5 p hp).1.1,(h5 p hp).1.2,(h5 p hp).2⟩⟩
 ·rintro ⟨h1,h2,⟨h3,h4⟩,h5⟩; exact ⟨h1,h2,⟨by omega,by omega⟩,λ p hp=>⟨⟨(h5 p hp).1,(h5 p hp).2.1⟩,(h5 p hp).2.2⟩⟩
theorem Mc {r:Rng} {l:List Dev} (h:H3 r l=true):RBd r:=by
 obtain ⟨_,h2,h3,h4⟩:=Bg.1 h
 exact ⟨by omega,λ p hp=>by have:=(h4 p hp).2.1; omega⟩
theorem V4a (r:Rng) (l:List Dev) (hr:RBd r) (hl:l.length≤5000000):Tot (λ k=>Ej k r l) (λ b=>b=H3 r l):=by
 unfold Ej H3
 refine Tot.bind (V3a l (by omega)) ?_
 rintro b rfl
 cases hd:L5 l with
 |false=>exact Tot.yes rfl (Tot.pure rfl)
 |true=>
  have hrl:=hr.1
  simp only [Bool.not_true,cond_false,Ug,Option.bind_some,Bool.true_and]
  cases inR r.1 1 5 with
  |false=>exact Tot.yes rfl (Tot.pure rfl)
  |true=>
   refine Tot.no rfl ?_
   cases inR (r.2.length:Int) 1 64 with
   |false=>exact Tot.yes rfl (Tot.pure rfl)
   |true=>
    refine Tot.no rfl (Tot.bind (Q:=λ b=>b=bif r.2.all (Lh l r.1) then .inr () else .inl false) ?_ (by rintro r' rfl; cases r.2.all (Lh l r.1)<;>exact Tot.pure rfl))
    refine Tot.up (L:=λ k i (_:Unit)=>Gt k l r.2 (r.2.length:Int) i r) (Q:=λ b=>b=bif r.2.all (Lh l r.1) then .inr () else .inl false) r.2.length (λ j _=>(r.2.drop j).all (Lh l r.1)=r.2.all (Lh l r.1)) ?_ ?_ 0 () (Nat.zero_le _) rfl
    ·intro _ h
     rw [List.drop_length] at h
     simp (disch:=omega) only [Gt,dF,← h]
     exact Tot.pure rfl
    ·intro j _ hj h next
     rw [An (d:=[]) hj,List.all_cons] at h
     have hp:=hr.2 _ (A4 (d:=[]) hj)
     simp (disch:=omega) only [Gt,dT,Int.toNat_natCast,w64]
     have no:Lh l r.1 (r.2.getD j [])=false→r.2.all (Lh l r.1)=false:=λ c=>by rw [← h,c]; rfl
     unfold Lh at no h
     refine Tot.ite (λ hc=>Tot.pure ?_) (λ h1=>Tot.bind (Rna (r.2.getD j []) (by omega)) ?_)
     ·have hc':(((r.2.getD j []).length:Int)==r.1)=false:=by simpa using hc
      rw [show r.2.all (Lh l r.1)=false from no (by rw [hc',Bool.and_false,Bool.false_and])]
      rfl
     ·have h1':(((r.2.getD j []).length:Int)==r.1)=true:=by simpa using h1
      rintro b rfl
      refine Tot.ite (λ hc=>Tot.pure ?_) (λ h2=>?_)
      ·rw [show r.2.all (Lh l r.1)=false from no (by rw [Bool.not_eq_true'] at hc; rw [hc]; rfl)]
       rfl
      ·rw [Bool.not_eq_false'] at h2
       generalize r.2.getD j []=p at *
       refine Tot.bind (Q:=λ b=>b=bif p.all (λ id=>(Jf l id).isSome) then .inr (l,r.2,(r.2.length:Int),(j:Int),r) else .inl false) ?_ ?_
       ·refine Tot.up (L:=λ k i (_:Unit)=>Gr k l r.2 (r.2.length:Int) (j:Int) p (p.length:Int) i r) (Q:=λ b=>b=bif p.all (λ id=>(Jf l id).isSome) then .inr (l,r.2,(r.2.length:Int),(j:Int),r) else .inl false) p.length (λ m _=>(p.drop m).all (λ id=>(Jf l id).isSome)=p.all (λ id=>(Jf l id).isSome)) ?_ ?_ 0 () (Nat.zero_le _) rfl
        ·intro _ h
         rw [List.drop_length] at h
         simp (disch:=omega) only [Gr,dF,← h]
         exact Tot.pure rfl
        ·intro m _ hm h next
         rw [An (d:=0) hm,List.all_cons] at h
         simp (disch:=omega) only [Gr,dT,Int.toNat_natCast,w64]
         refine Tot.bind (G3a l (p.getD m 0) (by omega)) ?_
         rintro b rfl
         cases hd:Jf l (p.getD m 0) with
         |none=>exact Tot.yes rfl (Tot.pure (by rw [← h,hd]; rfl))
         |some d=>exact Tot.no rfl (next () (by rw [hd] at h; exact h))
       ·rintro b rfl
        cases hc:p.all (λ id=>(Jf l id).isSome) with
        |false=>exact Tot.pure (by rw [show r.2.all (Lh l r.1)=false from no (by rw [hc,Bool.and_false])]; rfl)
        |true=>
         simp (disch:=omega) only [cond_true,Sum.elim_inr,w64]
         exact next () (by rw [h2,h1',hc] at h; exact h)
theorem V5a (r:Rng) (l:List Dev) (hr:RBd r) (hl:l.length≤5000000):Tot (λ k=>El k r l) (λ b=>b=H3 r l):=by
 unfold El H3
 refine Tot.bind (W5 l (by omega)) ?_
 rintro b rfl
 cases hd:L5 l with
 |false=>exact Tot.yes rfl (Tot.pure rfl)
 |true=>
  have hrl:=hr.1
  simp only [Bool.not_true,cond_false,N6,Option.bind_some,Bool.true_and]
  cases inR r.1 1 5 with
  |false=>exact Tot.yes rfl (Tot.pure rfl)
  |true=>
   refine Tot.no rfl ?_
   cases inR (r.2.length:Int) 1 64 with
   |false=>exact Tot.yes rfl (Tot.pure rfl)
   |true=>
    refine Tot.no rfl (Tot.bind (Q:=λ b=>b=bif r.2.all (Lh l r.1) then .inr () else .inl false) ?_ (by rintro r' rfl; cases r.2.all (Lh l r.1)<;>exact Tot.pure rfl))
    refine Tot.up (L:=λ k i (_:Unit)=>Gz k l i r) (Q:=λ b=>b=bif r.2.all (Lh l r.1) then .inr () else .inl false) r.2.length (λ j _=>(r.2.drop j).all (Lh l r.1)=r.2.all (Lh l r.1)) ?_ ?_ 0 () (Nat.zero_le _) rfl
    ·intro _ h
     rw [List.drop_length] at h
     simp (disch:=omega) only [Gz,dF,← h]
     exact Tot.pure rfl
    ·intro j _ hj h next
     rw [An (d:=[]) hj,List.all_cons] at h
     have hp:=hr.2 _ (A4 (d:=[]) hj)
     simp (disch:=omega) only [Gz,dT,Int.toNat_natCast,w64]
     have no:Lh l r.1 (r.2.getD j [])=false→r.2.all (Lh l r.1)=false:=λ c=>by rw [← h,c]; rfl
     unfold Lh at no h
     refine Tot.bind (Lfa (r.2.getD j []) r.1 (by omega)) ?_
     rintro b rfl
     refine Tot.ite (λ hc=>Tot.pure ?_) (λ h2=>?_)
     ·rw [show r.2.all (Lh l r.1)=false from no (by rw [Bool.not_eq_true'] at hc; rw [hc]; rfl)]
      rfl
     ·rw [Bool.not_eq_false'] at h2
      refine Tot.bind (Q:=λ b=>b=bif (r.2.getD j []).all (λ id=>(Jf l id).isSome) then .inr (l,(j:Int),r) else .inl false) ?_ ?_
      ·refine Tot.up (L:=λ k i (_:Unit)=>Gy k l (j:Int) i r) (Q:=λ b=>b=bif (r.2.getD j []).all (λ id=>(Jf l id).isSome) then .inr (l,(j:Int),r) else .inl false) (r.2.getD j []).length (λ m _=>((r.2.getD j []).drop m).all (λ id=>(Jf l id).isSome)=(r.2.getD j []).all (λ id=>(Jf l id).isSome)) ?_ ?_ 0 () (Nat.zero_le _) rfl
       ·intro _ h
        rw [List.drop_length] at h
        simp (disch:=omega) only [Gy,dT,dF,Int.toNat_natCast,← h]
        exact Tot.pure rfl
       ·intro m _ hm h next
        rw [An (d:=0) hm,List.all_cons] at h
        simp (disch:=omega) only [Gy,dT,Int.toNat_natCast,w64]
        refine Tot.bind (Qk l ((r.2.getD j []).getD m 0) (by omega)) ?_
        rintro b rfl
        cases hd:Jf l ((r.2.getD j []).getD m 0) with
        |none=>exact Tot.yes rfl (Tot.pure (by rw [← h,hd]; rfl))
        |some d=>exact Tot.no rfl (next () (by rw [hd] at h; exact h))
      ·rintro b rfl
       cases hc:(r.2.getD j []).all (λ id=>(Jf l id).isSome) with
       |false=>exact Tot.pure (by rw [show r.2.all (Lh l r.1)=false from no (by rw [hc,Bool.and_false])]; rfl)
       |true=>
        simp (disch:=omega) only [cond_true,Sum.elim_inr,w64]
        exact next () (by rw [h2,hc] at h; exact h)
theorem G9a (l:List Int) (hl:l.length≤5000000):Hy l=some l:=by
 unfold Hy
 rw [bT (by simp only [List.length_nil]; omega),List.nil_append]
theorem Uk (r:Rng) (hr:RBd r):Tot (λ k=>Ig k r) (λ x=>x=r):=by
 have hrl:=hr.1
 unfold Ig
 refine Tot.bind (Q:=λ x=>x=((0,[]),r)) ?_ (by rintro x rfl; exact Tot.pure rfl)
 refine Tot.up (L:=λ k i s=>Fk k i r (0,[]) (r.1,s)) (Q:=λ x=>x=((0,[]),r)) r.2.length (λ j s=>s=r.2.take j) ?_ ?_ 0 [] (Nat.zero_le _) rfl
 ·rintro s rfl
  simp (disch:=omega) only [Fk,dF,List.take_length]
  exact Tot.pure rfl
 ·rintro j s hj rfl next
  have hp:=hr.2 _ (A4 (d:=[]) hj)
  simp (disch:=omega) only [Fk,dT,Int.toNat_natCast,w64]
  refine Tot.ble (by simp only [List.length_nil]; omega) (Tot.ble (by simp only [List.length_take,List.length_cons,List.length_nil]; omega) (next _ ?_))
  rw [List.take_succ_eq_append_getElem hj,List.getD_eq_getElem?_getD,List.getElem?_eq_getElem hj,Option.getD_some,List.nil_append]
def cnt (id n x:Int):Int:=bif x==id then n+1 else n
def Isa (id n:Int) (p:List Int):Int:=p.foldl (cnt id) n
def Lq (r:Rng) (id:Int):Int:=r.2.foldl (Isa id) 0
theorem Ita (id:Int):∀ (p:List Int) (n:Int),n≤Isa id n p∧Isa id n p≤n+p.length
 |[],n=>by simp [Isa]
 |x::p,n=>by
  have h:=Ita id p (cnt id n x)
  unfold Isa at h ⊢
  have hc:n≤cnt id n x∧cnt id n x≤n+1:=by unfold cnt; cases x==id<;>simp<;>omega
  rw [List.foldl_cons,List.length_cons]
  omega
theorem Roa (id:Int) (m:Nat):∀ (ps:List (List Int)) (n:Int),(∀ p∈ps,p.length≤m)→n≤ps.foldl (Isa id) n∧ps.foldl (Isa id) n≤n+(m * ps.length:Nat)
 |[],n,_=>by simp
 |p::ps,n,h=>by
  have h1:=Roa id m ps (Isa id n p) (λ q hq=>h q (List.mem_cons_of_mem _ hq))
  have h2:=Ita id p n
  have h3:=h p List.mem_cons_self
  rw [List.foldl_cons,List.length_cons,Nat.mul_succ]
  omega
theorem T7 {r:Rng} (hr:RBd r) (id:Int):0≤Lq r id∧Lq r id≤4000000000000:=by
 have h:=Roa id 2000000 r.2 0 hr.2
 have h2:=hr.1
 unfold Lq
 omega
theorem W6 (r:Rng) (id:Int) (hr:RBd r):Tot (λ k=>Cf k r id) (λ x=>x=Lq r id):=by
 have hrl:=hr.1
 unfold Cf
 refine Tot.bind (Q:=λ x=>x=Lq r id) ?_ (by rintro x rfl; exact Tot.pure rfl)
 refine Tot.up (L:=λ k i s=>Gk k id s i r) (Q:=λ x=>x=Lq r id) r.2.length (λ j s=>(r.2.drop j).foldl (Isa id) s=Lq r id∧0≤s∧s≤2000000 * j) ?_ ?_ 0 0 (Nat.zero_le _) ⟨rfl,by omega,by omega⟩
 ·rintro s ⟨h,_⟩
  rw [List.drop_length] at h
  simp (disch:=omega) only [Gk,dF]
  exact Tot.pure h
 ·rintro j s hj ⟨h,h0,h1⟩ next
  rw [An (d:=[]) hj,List.foldl_cons] at h
  have hp:=hr.2 _ (A4 (d:=[]) hj)
  have hc:=Ita id (r.2.getD j []) s
  simp (disch:=omega) only [Gk,dT]
  refine Tot.bind (Q:=λ x=>x=(id,Isa id s (r.2.getD j []),(j:Int),r)) ?_ ?_
  ·refine Tot.up (L:=λ k i s=>Fm k id s (j:Int) i r) (Q:=λ x=>x=(id,Isa id s (r.2.getD j []),(j:Int),r)) (r.2.getD j []).length (λ m z=>Isa id z ((r.2.getD j []).drop m)=Isa id s (r.2.getD j [])∧0≤z∧z≤2000000 * j+m) ?_ ?_ 0 s (Nat.zero_le _) ⟨rfl,h0,by omega⟩
   ·rintro z ⟨h,_⟩
    rw [List.drop_length] at h
    simp (disch:=omega) only [Fm,dT,dF,Int.toNat_natCast]
    exact Tot.pure (by rw [← h]; rfl)
   ·rintro m z hm ⟨h,z0,z1⟩ next
    rw [An (d:=0) hm] at h
    simp (disch:=omega) only [Fm,dT,Int.toNat_natCast,w64]
    have h':Isa id (cnt id z ((r.2.getD j []).getD m 0)) ((r.2.getD j []).drop (m+1))=Isa id s (r.2.getD j []):=h
    unfold cnt at h'
    refine Tot.ite (λ hc=>next _ ?_) (λ hc=>next _ ?_)
    ·rw [hc] at h'; exact ⟨h',by omega,by omega⟩
    ·rw [hc] at h'; exact ⟨h',by omega,by omega⟩
  ·rintro x rfl
   simp (disch:=omega) only [w64]
   exact next _ ⟨h,by omega,by omega⟩

theorem Dhb {a w:Int} (h0:0≤a) (h1:a≤4000000000001) (w0:0≤w) (w1:w≤1000) : -9223372036854775808≤a * w∧a * w≤9223372036854775807:=by
 have e1:=Int.mul_nonneg h0 w0
 have e2:a * w≤4000000000001 * 1000:=Int.mul_le_mul h1 w1 w0 (by decide)
 omega
def Z1 (r:Rng) (p zs:List Int) (a:Option (Dev×Bool)) (d:Dev):Option (Dev×Bool):=
 bif N7 p d.1 then a else match a with
 |none=>some (d,!(N7 zs d.2.1))
 |some (b,fr)=>bif (!(N7 zs d.2.1) && !fr) || (((!(N7 zs d.2.1))==fr)&&decide ((Lq r d.1+1) * b.2.2<(Lq r b.1+1) * d.2.2)) then some (d,!(N7 zs d.2.1)) else some (b,fr)
def Rz (r:Rng) (p:List Int) (l:List Dev):Option (Dev×Bool):=l.foldl (Z1 r p (Ia p l)) none
def Aha (r:Rng) (p:List Int) (l:List Dev):Int:=match Rz r p l with
 |some b=>b.1.1
 |none => -1
theorem V6a {r:Rng} {p zs:List Int} {l:List Dev} {a:Option (Dev×Bool)} {d:Dev} (ha:∀ b,a=some b→b.1∈l∧b.1.1∉p) (hd:d∈l):∀ b,Z1 r p zs a d=some b→b.1∈l∧b.1.1∉p:=by
 intro b hb
 unfold Z1 at hb
 cases hp:N7 p d.1 with
 |true=>rw [hp] at hb; exact ha b hb
 |false=>
  have hn:d.1∉p:=λ c=>by rw [R6.2 c] at hp; cases hp
  rw [hp,cond_false] at hb
  cases a with
  |none=>cases hb; exact ⟨hd,hn⟩
  |some c=>
   obtain ⟨c,fr⟩:=c
   simp only at hb
   cases hq:(!(N7 zs d.2.1) && !fr) || (((!(N7 zs d.2.1))==fr)&&decide ((Lq r d.1+1) * c.2.2<(Lq r c.1+1) * d.2.2)) with
   |true=>rw [hq] at hb; cases hb; exact ⟨hd,hn⟩
   |false=>rw [hq] at hb; cases hb; exact ha _ rfl
theorem Lga {r:Rng} {p zs:List Int} {l:List Dev}:∀ (m:List Dev) (a:Option (Dev×Bool)),(∀ b,a=some b→b.1∈l∧b.1.1∉p)→(∀ d∈m,d∈l)→∀ b,m.foldl (Z1 r p zs) a=some b→b.1∈l∧b.1.1∉p
 |[],_,ha,_=>ha
 |d::m,_,ha,hm=>Lga m _ (V6a ha (hm d List.mem_cons_self)) (λ x hx=>hm x (List.mem_cons_of_mem _ hx))
theorem Lha {r:Rng} {p:List Int} {l:List Dev} {b:Dev×Bool} (h:Rz r p l=some b):b.1∈l∧b.1.1∉p:=Lga l none (λ b h=>by cases h) (λ _ h=>h) b h
theorem Nba {r:Rng} {p zs:List Int} {a:Option (Dev×Bool)} {d:Dev} (h:a.isSome=true∨d.1∉p):(Z1 r p zs a d).isSome=true:=by
 unfold Z1
 cases hp:N7 p d.1 with
 |true=>
  rcases h with h|h
  ·exact h
  ·exact absurd (R6.1 hp) h
 |false=>
  cases a with
  |none=>rfl
  |some c=>
   obtain ⟨c,fr⟩:=c
   simp only [cond_false]
   cases (!(N7 zs d.2.1) && !fr) || (((!(N7 zs d.2.1))==fr)&&decide ((Lq r d.1+1) * c.2.2<(Lq r c.1+1) * d.2.2))<;>rfl
theorem Bsa {r:Rng} {p zs:List Int}:∀ (m:List Dev) (a:Option (Dev×Bool)),(a.isSome=true∨∃ d∈m,d.1∉p)→(m.foldl (Z1 r p zs) a).isSome=true
 |[],a,h=>by
  rcases h with h|⟨d,h,_⟩
  ·exact h
  ·cases h
 |d::m,a,h=>by
  refine Bsa m _ ?_
  by_cases hd:a.isSome=true∨d.1∉p
  ·exact .inl (Nba hd)
  ·rcases h with h|⟨x,hx,hn⟩
   ·exact absurd (.inl h) hd
   ·rcases List.mem_cons.1 hx with rfl|hx
    ·exact absurd (.inr hn) hd
    ·exact .inr ⟨x,hx,hn⟩
theorem V7a {r:Rng} {p:List Int} {l:List Dev} (h:∃ d∈l,d.1∉p):∃ d∈l,Aha r p l=d.1∧d.1∉p:=by
 obtain ⟨b,hb⟩:=Option.isSome_iff_exists.1 (Bsa (r:=r) (zs:=Ia p l) l none (.inr h))
 obtain ⟨h1,h2⟩:=Lha hb
 exact ⟨b.1,h1,by unfold Aha; rw [show Rz r p l=some b from hb],h2⟩
theorem Nca (r:Rng) (p:List Int) (l:List Dev):(Rz r p l=none∧Aha r p l = -1)∨∃ b,Rz r p l=some b∧Aha r p l=b.1.1∧b.1∈l∧b.1.1∉p:=by
 cases h:Rz r p l with
 |none=>exact .inl ⟨rfl,by unfold Aha; rw [h]⟩
 |some b=>exact .inr ⟨b,rfl,by unfold Aha; rw [h],Lha h⟩
theorem S4 (p:List Int) (l:List Dev):(Ia p l).length≤p.length:=by
 have:=G6a l p []
 rwa [List.length_nil,Nat.zero_add] at this
def bs (r:Rng):Option (Dev×Bool)→Int×Bool×Dev
 |some (b,fr)=>(Lq r b.1+1,fr,b)
 |none=>(0,false,-1,0,0)
theorem Lia (r:Rng) (p:List Int) (l:List Dev) (hr:RBd r) (hp:p.length≤2000000) (hl:L5 l=true):Tot (λ k=>Hf k r p l) (λ x=>x=Aha r p l):=by
 obtain ⟨_,hdv,_,h12⟩:=Ed.1 hl
 have hz:=S4 p l
 unfold Hf
 refine Tot.bind (G7a p l (by omega) (by omega)) ?_
 rintro z rfl
 refine Tot.bind (Q:=λ x=>∃ i:Int,x=(l,i)∧match Rz r p l with|some b=>∃ n:Nat,i=(n:Int)∧n<l.length∧l.getD n Mb=b.1|none=>i = -1) ?_ ?_
 ·refine Tot.up (L:=λ k i (s:Int×Bool)=>Bo k l (Ia p l) s.1 s.2 i r p) (Q:=λ x=>∃ i:Int,x=(l,i)∧match Rz r p l with|some b=>∃ n:Nat,i=(n:Int)∧n<l.length∧l.getD n Mb=b.1|none=>i = -1) l.length
   (λ j s=>∃ a,(match a with|some (b,fr)=>s.2=fr∧∃ n:Nat,s.1=(n:Int)∧n<l.length∧l.getD n Mb=b|none=>s=(-1,false))∧(l.drop j).foldl (Z1 r p (Ia p l)) a=Rz r p l) ?_ ?_ 0 (-1,false) (Nat.zero_le _) ⟨none,rfl,rfl⟩
  ·rintro ⟨s1,s2⟩ ⟨a,hs,h⟩
   rw [List.drop_length] at h
   simp (disch:=omega) only [Bo,dF]
   refine Tot.pure ⟨s1,rfl,?_⟩
   rw [← h]
   cases a with
   |none=>exact (Prod.mk.inj hs).1
   |some bf=>exact hs.2
  ·rintro j ⟨s1,s2⟩ hj ⟨a,hs,h⟩ next
   rw [An (d:=Mb) hj,List.foldl_cons] at h
   have hd:=A4 (d:=Mb) hj
   obtain ⟨d,ed⟩:∃ d:Dev,l.getD j Mb=d:=⟨_,rfl⟩
   rw [ed] at h hd
   have e0:l.getD j ((0:Int),((0:Int),(0:Int)))=d:=ed
   obtain ⟨_,_,w0,w1⟩:=My.1 (hdv _ hd)
   have l1:=T7 hr d.1
   simp (disch:=omega) only [Bo,dT,Int.toNat_natCast,w64,e0]
   refine Tot.bind (W5 l (by omega)) ?_
   rintro x rfl
   refine Tot.yes hl (Tot.bind (Ry p d.1 (by omega)) ?_)
   rintro x rfl
   unfold Z1 at h
   cases hp':N7 p d.1 with
   |true=>
    rw [hp'] at h
    exact Tot.yes rfl (next _ ⟨a,hs,h⟩)
   |false=>
    rw [hp',cond_false] at h
    refine Tot.no rfl (Tot.bind (Ry (Ia p l) d.2.1 (by omega)) ?_)
    rintro x rfl
    have take:∀ {z:Bool},(l.drop (j+1)).foldl (Z1 r p (Ia p l)) (some (d,z))=Rz r p l→Tot (λ k=>Bo k l (Ia p l) (j:Int) z ((j:Int)+1) r p) (λ x=>∃ i:Int,x=(l,i)∧match Rz r p l with|some b=>∃ n:Nat,i=(n:Int)∧n<l.length∧l.getD n Mb=b.1|none=>i = -1):=λ {z} h2=>next ((j:Int),z) ⟨some (d,z),⟨rfl,j,rfl,hj,ed⟩,h2⟩
    cases a with
    |none=>
     obtain ⟨rfl,rfl⟩:=Prod.mk.inj hs
     exact Tot.dec (by decide) (take h)
    |some bf=>
     obtain ⟨b,fr⟩:=bf
     obtain ⟨e1,n,e2,hn,e3⟩:=hs
     dsimp only at e1 e2
     subst e1 e2
     have hb:=A4 (d:=Mb) hn
     rw [e3] at hb
     obtain ⟨⟨i0,_⟩,_,v0,v1⟩:=My.1 (hdv _ hb)
     have l2:=T7 hr b.1
     have m1:=Dhb (a:=Lq r d.1+1) (w:=b.2.2) (by omega) (by omega) (by omega) v1
     have m2:=Dhb (a:=Lq r b.1+1) (w:=d.2.2) (by omega) (by omega) (by omega) w1
     have stay:(l.drop (j+1)).foldl (Z1 r p (Ia p l)) (some (b,s2))=Rz r p l→Tot (λ k=>Bo k l (Ia p l) (n:Int) s2 ((j:Int)+1) r p) (λ x=>∃ i:Int,x=(l,i)∧match Rz r p l with|some b=>∃ n:Nat,i=(n:Int)∧n<l.length∧l.getD n Mb=b.1|none=>i = -1):=λ h2=>next ((n:Int),s2) ⟨some (b,s2),⟨rfl,n,rfl,hn,e3⟩,h2⟩
     refine Tot.ndec (by omega) ?_
     have e4:l.getD n ((0:Int),((0:Int),(0:Int)))=b:=e3
     dsimp only at h
     have cmp:∀ {z:Bool},N7 (Ia p l) d.2.1=z→((!z)==s2)=true→(!z && !s2)=false→Tot (λ k=>(Cf k r d.1).bind λ r5=>cond (decide ((0:Int)≤(n:Int))) (cond (decide ((n:Int)<(List.length l:Int))) (cond (decide ((0:Int)≤(n:Int))) (cond (decide ((n:Int)<(List.length l:Int))) ((Cf k r (List.getD l (Int.toNat (n:Int)) ((0:Int),((0:Int),(0:Int)))).1).bind λ r8=>cond (decide ((IntKind.wrap .i64 ((IntKind.wrap .i64 (r5+1)) * (List.getD l (Int.toNat (n:Int)) ((0:Int),((0:Int),(0:Int)))).2.2))<(IntKind.wrap .i64 ((IntKind.wrap .i64 (r8+1)) * d.2.2)))) (Bo k l (Ia p l) (j:Int) s2 ((j:Int)+1) r p) (Bo k l (Ia p l) (n:Int) s2 ((j:Int)+1) r p)) none) none) none) none) (λ x=>∃ i:Int,x=(l,i)∧match Rz r p l with|some b=>∃ n:Nat,i=(n:Int)∧n<l.length∧l.getD n Mb=b.1|none=>i = -1):=by
      intro z hz e1 e2
      rw [hz,e1,e2,Bool.false_or,Bool.true_and] at h
      refine Tot.bind (W6 r d.1 hr) ?_
      rintro x rfl
      refine Tot.dec (by omega) (Tot.dec (by omega) (Tot.dec (by omega) (Tot.dec (by omega) ?_)))
      rw [Int.toNat_natCast,e4]
      refine Tot.bind (W6 r b.1 hr) ?_
      rintro x rfl
      rw [w64 (n:=Lq r d.1+1) (by omega) (by omega),w64 (n:=Lq r b.1+1) (by omega) (by omega),w64 m1.1 m1.2,w64 m2.1 m2.2]
      refine Tot.ite (λ hc=>?_) (λ hc=>?_)
      ·rw [hc,cond_true] at h
       rw [show s2 = !z by rw [← eq_of_beq e1]]
       exact take h
      ·rw [hc] at h; exact stay h
     cases hz:N7 (Ia p l) d.2.1 with
     |false=>
      have cm:=cmp hz
      rw [hz] at h
      cases s2 with
      |false=>exact Tot.yes rfl (Tot.yes rfl (take h))
      |true=>exact Tot.yes rfl (Tot.no rfl (Tot.yes rfl (cm rfl rfl)))
     |true=>
      have cm:=cmp hz
      rw [hz] at h
      cases s2 with
      |false=>exact Tot.no rfl (Tot.yes rfl (cm rfl rfl))
      |true=>exact Tot.no rfl (Tot.no rfl (stay h))
 ·rintro x ⟨i,rfl,hi⟩
  unfold Aha
  cases hb:Rz r p l with
  |none=>
   rw [hb] at hi
   subst hi
   exact Tot.dec (show (-1:Int)<0 by decide) (Tot.pure rfl)
  |some b=>
   rw [hb] at hi
   obtain ⟨n,rfl,hn,e⟩:=hi
   dsimp only
   refine Tot.ndec (by omega) (Tot.dec (by omega) (Tot.dec (by omega) (Tot.pure ?_)))
   rw [Int.toNat_natCast,show l.getD n ((0:Int),((0:Int),(0:Int)))=b.1 from e]

theorem Rpa {l:List Dev} (h:L5 l=true) {d:Dev} (hd:d∈l):Jf l d.1=some d:=by
 have hp:=(Ed.1 h).1
 clear h
 induction l with
 |nil=>cases hd
 |cons x l ih=>
  obtain ⟨h1,h2⟩:=List.pairwise_cons.1 hp
  unfold Jf
  rw [List.find?_cons]
  rcases List.mem_cons.1 hd with rfl|hd
  ·rw [beq_self_eq_true]
  ·have:=h1 d hd
   rw [show (x.1==d.1)=false from beq_eq_false_iff_ne.2 (by omega)]
   exact ih hd h2
theorem X5a:∀ (p:List Int) (l:List Dev),l.Pairwise (λ a b=>a.1<b.1)→p.length<l.length→∃ d∈l,d.1∉p
 |p,[],_,h=>by simp at h
 |p,d::l,hl,h=>by
  obtain ⟨h1,h2⟩:=List.pairwise_cons.1 hl
  by_cases hd:d.1∈p
  ·have hlen:(p.erase d.1).length=p.length - 1:=List.length_erase_of_mem hd
   have hpos:=List.length_pos_of_mem hd
   rw [List.length_cons] at h
   obtain ⟨x,hx,hn⟩:=X5a (p.erase d.1) l h2 (by omega)
   refine ⟨x,List.mem_cons_of_mem _ hx,λ c=>hn ?_⟩
   have:=h1 x hx
   exact (List.mem_erase_of_ne (by omega)).2 c
  ·exact ⟨d,List.mem_cons_self,hd⟩
def Nda (l:List Dev) (n:Nat) (p:List Int):Prop:=p.Nodup∧p.length=n∧∀ id∈p,∃ d,Jf l id=some d
theorem Rqa {r:Rng} {l:List Dev} {n:Nat} {p:List Int} (hl:L5 l=true) (h:Nda l n p) (hn:n<l.length):Nda l (n+1) (p++[Aha r p l]):=by
 obtain ⟨h1,h2,h3⟩:=h
 obtain ⟨d,hd,e,hne⟩:=V7a (r:=r) (X5a p l (Ed.1 hl).1 (by omega))
 rw [e]
 refine ⟨?_,by rw [List.length_append]; simp [h2],λ id hid=>?_⟩
 ·rw [List.nodup_append]
  exact ⟨h1,by simp,λ a ha b hb c=>by rw [List.mem_singleton.1 hb] at c; subst c; exact hne ha⟩
 ·rcases List.mem_append.1 hid with hid|hid
  ·exact h3 id hid
  ·rw [List.mem_singleton.1 hid]; exact ⟨d,Rpa hl hd⟩
def Gaa (l:List Dev) (reps:Int) (ps:List (List Int)):Nat→List Int→List Int
 |0,p=>p
 |n+1,p=>Gaa l reps ps n (p++[Aha (reps,ps++[p]) p l])
def Nya (l:List Dev) (reps:Int):Nat→List (List Int)→List (List Int)
 |0,ps=>ps
 |n+1,ps=>Nya l reps n (ps++[Gaa l reps ps reps.toNat []])
def build (l:List Dev) (parts reps:Int):Rng×Bool:=bif L5 l&&(inR parts 1 64&&(inR reps 1 5 && !(decide (reps > (l.length:Int))))) then ((reps,Nya l reps parts.toNat []),true) else ((0,[]),false)
theorem Lja {l:List Dev} {reps:Int} {ps:List (List Int)} (hl:L5 l=true):∀ (n m:Nat) (p:List Int),Nda l m p→m+n≤l.length→Nda l (m+n) (Gaa l reps ps n p)
 |0,_,_,h,_=>h
 |n+1,m,p,h,hm=>by
  have:=Lja (reps:=reps) (ps:=ps) hl n (m+1) _ (Rqa (r:=(reps,ps++[p])) hl h (by omega)) (by omega)
  rwa [show m+1+n=m+(n+1) by omega] at this
theorem Rra {l:List Dev} {reps:Int} (hl:L5 l=true) (hr:reps≤(l.length:Int)):∀ (n:Nat) (ps:List (List Int)),(∀ p∈ps,Nda l reps.toNat p)→(Nya l reps n ps).length=ps.length+n∧∀ p∈Nya l reps n ps,Nda l reps.toNat p
 |0,ps,h=>⟨rfl,h⟩
 |n+1,ps,h=>by
  have hf:=Lja (reps:=reps) (ps:=ps) hl reps.toNat 0 [] ⟨List.nodup_nil,rfl,λ _ h=>by cases h⟩ (by omega)
  rw [Nat.zero_add] at hf
  obtain ⟨h1,h2⟩:=Rra hl hr n (ps++[Gaa l reps ps reps.toNat []]) (λ p hp=>by
   rcases List.mem_append.1 hp with hp|hp
   ·exact h p hp
   ·rw [List.mem_singleton.1 hp]; exact hf)
  refine ⟨?_,h2⟩
  show (Nya l reps n _).length=_
  rw [h1,List.length_append]
  simp only [List.length_cons,List.length_nil]
  omega
theorem Lka {l:List Dev} {parts reps:Int} (h:(build l parts reps).2=true):L5 l=true∧H3 (build l parts reps).1 l=true∧(build l parts reps).1.1=reps∧((build l parts reps).1.2.length:Int)=parts:=by
 unfold build at h ⊢
 cases hc:L5 l&&(inR parts 1 64&&(inR reps 1 5 && !(decide (reps > (l.length:Int))))) with
 |false=>rw [hc] at h; cases h
 |true=>
  rw [Bool.and_eq_true,Bool.and_eq_true,Bool.and_eq_true,Bool.not_eq_true',decide_eq_false_iff_not,Dz,Dz] at hc
  obtain ⟨h1,h2,h3,h4⟩:=hc
  obtain ⟨b1,b2⟩:=Rra (reps:=reps) h1 (by omega) parts.toNat [] (λ p hp=>by cases hp)
  rw [List.length_nil,Nat.zero_add] at b1
  have b1':((Nya l reps parts.toNat []).length:Int)=parts:=by rw [b1]; omega
  refine ⟨h1,Bg.2 ⟨h1,h3,⟨by show 1≤(Nya l reps parts.toNat []).length; omega,by show (Nya l reps parts.toNat []).length≤64; omega⟩,λ p hp=>?_⟩,rfl,b1'⟩
  obtain ⟨c1,c2,c3⟩:=b2 p hp
  exact ⟨c1,by rw [c2]; show ((reps.toNat:Nat):Int)=reps; omega,c3⟩
theorem Gba {l:List Dev} {reps:Int} {ps:List (List Int)}:∀ (n:Nat) (p:List Int),(Gaa l reps ps n p).length=p.length+n
 |0,_=>rfl
 |n+1,p=>by
  show (Gaa l reps ps n _).length=_
  rw [Gba n,List.length_append]
  simp only [List.length_cons,List.length_nil]
  omega
theorem Rsa {α:Type} (l:List α) (x d:α):(l++[x]).getD l.length d=x:=by
 rw [List.getD_eq_getElem?_getD,List.getElem?_append_right (Nat.le_refl _),Nat.sub_self]
 rfl
theorem V8a {α:Type} (l:List α) (x y:α):(l++[x]).set l.length y=l++[y]:=by
 rw [List.set_append_right _ _ (Nat.le_refl _),Nat.sub_self]
 rfl
theorem Gca (l:List Dev) (parts reps:Int) (z:Rng) (hl:L5 l=true) (h0:0≤reps) (h5:reps≤5) (ps:List (List Int)) (hps:ps.length≤100) (hq:∀ q∈ps,q.length≤100):∀ (n:Nat) (p:List Int),p.length+n=reps.toNat→
  Tot (λ k=>Hq k l parts reps (ps.length:Int) (p.length:Int) z (reps,ps++[p])) (λ x=>x=(l,parts,reps,(ps.length:Int),z,(reps,ps++[Gaa l reps ps n p]))):=by
 intro n
 induction n with
 |zero=>
  intro p hp
  refine Tot.succ ?_
  simp (disch:=omega) only [Hq,dF]
  exact Tot.pure rfl
 |succ n ih=>
  intro p hp
  refine Tot.succ ?_
  have hrb:RBd (reps,ps++[p]):=⟨by simp only [List.length_append,List.length_cons,List.length_nil]; omega,λ q hq'=>by
   rcases List.mem_append.1 hq' with h|h
   ·have:=hq q h; omega
   ·rw [List.mem_singleton.1 h]; omega⟩
  have hlen:(ps++[p]).length=ps.length+1:=by simp
  simp (disch:=omega) only [Hq,dT,Int.toNat_natCast,w64,hlen,Rsa,V8a]
  refine Tot.bind (Lia (reps,ps++[p]) p l hrb (by omega) hl) ?_
  rintro x rfl
  refine Tot.yes (decide_eq_true trivial) (Tot.ble (by simp only [List.length_cons,List.length_nil]; omega) (Tot.yes (decide_eq_true trivial) ?_))
  have:=ih (p++[Aha (reps,ps++[p]) p l]) (by simp only [List.length_append,List.length_cons,List.length_nil]; omega)
  rw [show (((p++[Aha (reps,ps++[p]) p l]).length:Nat):Int)=(p.length:Int)+1 by simp] at this
  exact this
theorem Rta (l:List Dev) (parts reps:Int) (hll:l.length≤5000000):Tot (λ k=>G9 k l parts reps) (λ x=>x=build l parts reps):=by
 unfold G9 build
 refine Tot.bind (W5 l (by omega)) ?_
 rintro b rfl
 cases hl:L5 l with
 |false=>exact Tot.yes rfl (Tot.pure rfl)
 |true=>
  simp only [Bool.not_true,cond_false,N6,Option.bind_some,Bool.true_and]
  cases hp:inR parts 1 64 with
  |false=>exact Tot.yes rfl (Tot.pure rfl)
  |true=>
   refine Tot.no rfl ?_
   cases hr:inR reps 1 5 with
   |false=>exact Tot.yes rfl (Tot.pure rfl)
   |true=>
    obtain ⟨r1,r2⟩:=Dz.1 hr
    obtain ⟨p1,p2⟩:=Dz.1 hp
    refine Tot.no rfl ?_
    cases hc:decide (reps > (l.length:Int)) with
    |true=>exact Tot.yes rfl (Tot.pure rfl)
    |false=>
     refine Tot.no rfl (Tot.bind (Q:=λ x=>x=(((0:Int),([]:List (List Int))),(reps,Nya l reps parts.toNat []))) ?_ (by rintro x rfl; exact Tot.pure rfl))
     obtain ⟨n,rfl⟩:∃ n:Nat,parts=(n:Int):=⟨parts.toNat,by omega⟩
     refine Tot.up (L:=λ k i (s:Rng)=>Hr k l (n:Int) reps i (0,[]) s) (Q:=λ x=>x=(((0:Int),([]:List (List Int))),(reps,Nya l reps n []))) n (λ j s=>∃ ps,s=(reps,ps)∧ps.length=j∧(∀ q∈ps,q.length≤100)∧Nya l reps (n - j) ps=Nya l reps n []) ?_ ?_ 0 (reps,[]) (Nat.zero_le _) ⟨[],rfl,rfl,λ q h=>(by cases h),rfl⟩
     ·rintro s ⟨ps,rfl,hps,_,h⟩
      rw [Nat.sub_self] at h
      simp (disch:=omega) only [Hr,dF]
      exact Tot.pure (by rw [← h]; rfl)
     ·rintro j s hj ⟨ps,rfl,hps,hq,h⟩ next
      simp (disch:=omega) only [Hr,dT]
      refine Tot.ble (by simp only [List.length_cons,List.length_nil]; omega) ?_
      have h9:=Gca l (n:Int) reps (0,[]) hl (by omega) r2 ps (by omega) hq reps.toNat [] (by simp)
      rw [hps] at h9
      refine Tot.bind h9 ?_
      rintro x rfl
      simp (disch:=omega) only [w64]
      refine next _ ⟨ps++[Gaa l reps ps reps.toNat []],rfl,by rw [List.length_append,hps]; rfl,λ q hq'=>?_,?_⟩
      ·rcases List.mem_append.1 hq' with h'|h'
       ·exact hq q h'
       ·rw [List.mem_singleton.1 h',Gba,List.length_nil]; omega
      ·rw [show n - j=(n - (j+1))+1 by omega] at h
       exact h

theorem Lla:∀ (p q:List Int),p.Nodup→(∀ x∈p,x∈q)→p.length≤q.length
 |[],_,_,_=>Nat.zero_le _
 |x::p,q,h,hs=>by
  obtain ⟨h1,h2⟩:=List.nodup_cons.1 h
  have hx:=hs x List.mem_cons_self
  have hlen:(q.erase x).length=q.length - 1:=List.length_erase_of_mem hx
  have hpos:=List.length_pos_of_mem hx
  have:=Lla p (q.erase x) h2 (λ y hy=>(List.mem_erase_of_ne (λ c=>by subst c; exact h1 hy)).2 (hs y (List.mem_cons_of_mem _ hy)))
  rw [List.length_cons]
  omega
theorem Rua {r:Rng} {l:List Dev} (h:H3 r l=true):r.1≤(l.length:Int):=by
 obtain ⟨_,_,h3,h4⟩:=Bg.1 h
 obtain ⟨p,hp⟩:=List.exists_mem_of_length_pos (show 0<r.2.length by omega)
 obtain ⟨q1,q2,q3⟩:=h4 p hp
 have:=Lla p (l.map (·.1)) q1 (λ x hx=>by
  obtain ⟨d,hd⟩:=q3 x hx
  obtain ⟨hm,he⟩:=U5 hd
  exact List.mem_map.2 ⟨d,hm,he⟩)
 rw [List.length_map] at this
 omega
theorem Iua {r:Rng} {l:List Dev} (h:H3 r l=true):Tot (λ k=>Jd k r l) (λ b=>b=true):=by
 have hrp:=Rua h
 obtain ⟨h1,h2,h3,h4⟩:=Bg.1 h
 obtain ⟨_,_,_,h12⟩:=Ed.1 h1
 unfold Jd
 refine Tot.bind (W5 l (by omega)) ?_
 rintro b rfl
 refine Tot.no (by rw [h1]; rfl) ?_
 simp only [N6,Option.bind_some]
 refine Tot.no (by rw [Dz.2 h2]; rfl) (Tot.ndec (by omega) (Tot.no (by rw [Dz.2 (by omega)]; rfl) ?_))
 refine Tot.bind (Q:=λ b=>b = .inr ()) ?_ (by rintro b rfl; exact Tot.pure rfl)
 refine Tot.up (L:=λ k i (_:Unit)=>Ix k i r) (Q:=λ b=>b = .inr ()) r.2.length (λ _ _=>True) ?_ ?_ 0 () (Nat.zero_le _) trivial
 ·intro _ _
  simp (disch:=omega) only [Ix,dF]
  exact Tot.pure rfl
 ·intro j _ hj _ next
  obtain ⟨q1,q2,_⟩:=h4 _ (A4 (d:=[]) hj)
  simp (disch:=omega) only [Ix,dT,Int.toNat_natCast,w64]
  refine Tot.bind (Lfa _ _ (by omega)) ?_
  rintro b rfl
  exact Tot.no (by rw [decide_eq_true q1,q2]; simp) (next () trivial)
theorem V9a (p:List Int) (l:List Dev) (h:∀ id∈p,∃ d,Jf l id=some d) (hp:p.length≤5000000) (hl:l.length≤5000000):Tot (λ k=>Fx k p l) (λ x=>x = -1):=by
 unfold Fx
 refine Tot.bind (Q:=λ x=>x = .inr ()) ?_ (by rintro x rfl; exact Tot.pure rfl)
 refine Tot.up (L:=λ k i (_:Unit)=>Gj k l i p) (Q:=λ x=>x = .inr ()) p.length (λ _ _=>True) ?_ ?_ 0 () (Nat.zero_le _) trivial
 ·intro _ _
  simp (disch:=omega) only [Gj,dF]
  exact Tot.pure rfl
 ·intro j _ hj _ next
  simp (disch:=omega) only [Gj,dT,Int.toNat_natCast,w64]
  refine Tot.bind (Qk l _ (by omega)) ?_
  rintro x rfl
  obtain ⟨d,hd⟩:=h _ (A4 (d:=0) hj)
  exact Tot.no (by rw [hd]; rfl) (next () trivial)
def hv (r:Rng) (l:List Dev) (b id:Int):Bool:=match Jf l b with
 |none=>false
 |some x=>match Jf l id with
  |none=>false
  |some d=>(d.2.1==x.2.1)&&decide (Lq r id - Lq r b≥2)
def Nza (r:Rng) (l:List Dev) (p:List Int) (b:Int):Option Nat:=p.findIdx? (hv r l b)
def oI:Option Nat→Int
 |some i=>(i:Int)
 |none => -1
theorem Gda {f:Int→Bool} {p:List Int} {j:Nat} (hj:j<p.length) (h:((p.drop j).findIdx? f).map (· + j)=p.findIdx? f):
  (f (p.getD j 0)=true→p.findIdx? f=some j)∧(f (p.getD j 0)=false→((p.drop (j+1)).findIdx? f).map (· + (j+1))=p.findIdx? f):=by
 rw [An (d:=0) hj,List.findIdx?_cons] at h
 constructor
 ·intro c
  rw [if_pos c] at h
  rw [← h,Option.map_some,Nat.zero_add]
 ·intro c
  rw [if_neg (by rw [c]; simp)] at h
  rw [← h,Option.map_map]
  congr 1
  funext x
  show x+(j+1)=x+1+j
  omega
theorem Rva (r:Rng) (p:List Int) (l:List Dev) (b:Int) (hr:RBd r) (hp:p.length≤2000000) (hl:l.length≤2000000):Tot (λ k=>Ef k r p l b) (λ x=>x=oI (Nza r l p b)):=by
 unfold Ef
 refine Tot.bind (Qk l b (by omega)) ?_
 rintro x rfl
 refine Tot.bind (Q:=λ x=>x=match Nza r l p b with|some i => .inl (i:Int)|none => .inr ()) ?_ (by rintro x rfl; cases Nza r l p b<;>exact Tot.pure rfl)
 cases hb:Jf l b with
 |none=>
  have hn:Nza r l p b=none:=by unfold Nza; rw [List.findIdx?_eq_none_iff]; intro x _; unfold hv; rw [hb]
  rw [hn]
  refine Tot.succ ?_
  by_cases hp0:(0:Int)<(p.length:Int)
  ·simp (disch:=omega) only [C1,dT,D5b,cond_false]
   exact Tot.pure rfl
  ·simp (disch:=omega) only [C1,dF]
   exact Tot.pure rfl
 |some x=>
  have hvI:∀ id,hv r l b id=match Jf l id with|none=>false|some d=>(d.2.1==x.2.1)&&decide (Lq r id - Lq r b≥2):=λ id=>by unfold hv; rw [hb]
  refine Tot.up (L:=λ k i (_:Unit)=>C1 k l b true i r p x) (Q:=λ x=>x=match Nza r l p b with|some i => .inl (i:Int)|none => .inr ()) p.length (λ j _=>((p.drop j).findIdx? (hv r l b)).map (· + j)=p.findIdx? (hv r l b)) ?_ ?_ 0 () (Nat.zero_le _) (by simp)
  ·intro _ h
   rw [List.drop_length] at h
   have hn:Nza r l p b=none:=h.symm
   rw [hn]
   simp (disch:=omega) only [C1,dF]
   exact Tot.pure rfl
  ·intro j _ hj h next
   obtain ⟨k1,k2⟩:=Gda hj h
   simp (disch:=omega) only [C1,dT,Int.toNat_natCast,w64,cond_true]
   generalize p.getD j 0=id at *
   refine Tot.bind (Qk l id (by omega)) ?_
   rintro y rfl
   rw [hvI] at k1 k2
   cases hd:Jf l id with
   |none=>
    rw [hd] at k2
    exact Tot.no rfl (next () (k2 rfl))
   |some d=>
    rw [hd] at k1 k2
    obtain ⟨_,e⟩:=U5 hd
    refine Tot.yes rfl ?_
    cases hz:d.2.1==x.2.1 with
    |false=>exact Tot.no hz (next () (k2 (by simp only [hz,Bool.false_and])))
    |true=>
     refine Tot.yes hz (Tot.bind (W6 r d.1 hr) ?_)
     rintro a rfl
     refine Tot.bind (W6 r b hr) ?_
     rintro c rfl
     have l1:=T7 hr d.1
     have l2:=T7 hr b
     simp (disch:=omega) only [w64]
     refine Tot.dite (λ hc=>Tot.pure ?_) (λ hc=>next () (k2 ?_))
     ·have hn:Nza r l p b=some j:=k1 (by simp only [hz,Bool.true_and]; rw [← e]; exact decide_eq_true hc)
      rw [hn]
     ·simp only [hz,Bool.true_and]; rw [← e]; exact decide_eq_false hc
def rb1 (l:List Dev) (s:Int×Rng) (j:Nat):Int×Rng:=match Nza s.2 l (s.2.2.getD j []) (Aha s.2 (s.2.2.getD j []) l) with
 |none=>s
 |some i=>(s.1+1,(s.2.1,s.2.2.set j ((s.2.2.getD j []).set i (Aha s.2 (s.2.2.getD j []) l))))
def rbs (l:List Dev) (r:Rng) (n:Nat):Int×Rng:=(List.range n).foldl (rb1 l) (0,r)
def Iva (r:Rng) (l:List Dev):Rng×Int:=((rbs l r r.2.length).2,(rbs l r r.2.length).1)
theorem Lma (l:List Dev) (r:Rng) (n:Nat):rbs l r (n+1)=rb1 l (rbs l r n) n:=by
 unfold rbs
 rw [List.range_succ,List.foldl_append]
 rfl
theorem Ul {r:Rng} {l:List Dev} {p:List Int} {i:Nat} (hl:L5 l=true) (h:Nza r l p (Aha r p l)=some i):i<p.length∧Aha r p l∉p∧0≤Aha r p l∧∃ d,Jf l (Aha r p l)=some d:=by
 obtain ⟨h1,h2,_⟩:=List.findIdx?_eq_some_iff_getElem.1 h
 refine ⟨h1,?_⟩
 unfold hv at h2
 cases hb:Jf l (Aha r p l) with
 |none=>rw [hb] at h2; cases h2
 |some d=>
  obtain ⟨hd,he⟩:=U5 hb
  obtain ⟨⟨i0,_⟩,_⟩:=My.1 ((Ed.1 hl).2.1 _ hd)
  refine ⟨?_,by omega,d,rfl⟩
  rcases Nca r p l with ⟨_,e⟩|⟨b,_,e,_,hn⟩
  ·omega
  ·rw [e]; exact hn
theorem Rwa {p:List Int} {b:Int} (h:p.Nodup) (hb:b∉p) (i:Nat):(p.set i b).Nodup:=by
 induction p generalizing i with
 |nil=>exact h
 |cons x p ih=>
  obtain ⟨h1,h2⟩:=List.nodup_cons.1 h
  cases i with
  |zero=>exact List.nodup_cons.2 ⟨λ c=>hb (List.mem_cons_of_mem _ c),h2⟩
  |succ i=>
   refine List.nodup_cons.2 ⟨λ c=>?_,ih h2 (λ c=>hb (List.mem_cons_of_mem _ c)) i⟩
   rcases List.mem_or_eq_of_mem_set c with c|c
   ·exact h1 c
   ·exact hb (c ▸ List.mem_cons_self)
theorem Bsb {l:List Dev} {s:Int×Rng} {j:Nat} (hj:j<s.2.2.length) (h:H3 s.2 l=true):H3 (rb1 l s j).2 l=true∧(rb1 l s j).2.1=s.2.1∧(rb1 l s j).2.2.length=s.2.2.length∧s.1≤(rb1 l s j).1∧(rb1 l s j).1≤s.1+1:=by
 unfold rb1
 obtain ⟨h1,h2,h3,h4⟩:=Bg.1 h
 cases hx:Nza s.2 l (s.2.2.getD j []) (Aha s.2 (s.2.2.getD j []) l) with
 |none=>exact ⟨h,rfl,rfl,by dsimp only; omega,by dsimp only; omega⟩
 |some i=>
  obtain ⟨b1,b2,_,b3⟩:=Ul h1 hx
  obtain ⟨q1,q2,q3⟩:=h4 _ (A4 (d:=[]) hj)
  refine ⟨Bg.2 ⟨h1,h2,by dsimp only; rw [List.length_set]; exact h3,λ p hp=>?_⟩,rfl,by dsimp only; rw [List.length_set],by dsimp only; omega,by dsimp only; omega⟩
  rcases List.mem_or_eq_of_mem_set hp with hp|hp
  ·exact h4 p hp
  ·subst hp
   refine ⟨Rwa q1 b2 i,by rw [List.length_set]; exact q2,λ id hid=>?_⟩
   rcases List.mem_or_eq_of_mem_set hid with hid|hid
   ·exact q3 id hid
   ·rw [hid]; exact b3
theorem Lna {l:List Dev} {r:Rng} (h:H3 r l=true):∀ (n:Nat),n≤r.2.length→H3 (rbs l r n).2 l=true∧(rbs l r n).2.1=r.1∧(rbs l r n).2.2.length=r.2.length∧0≤(rbs l r n).1∧(rbs l r n).1≤n
 |0,_=>⟨h,rfl,rfl,Int.le_refl _,Int.le_refl _⟩
 |n+1,hn=>by
  obtain ⟨h1,h2,h3,h4,h5⟩:=Lna h n (by omega)
  obtain ⟨g1,g2,g3,g4,g5⟩:=Bsb (j:=n) (by omega) h1
  rw [Lma]
  exact ⟨g1,by rw [g2,h2],by rw [g3,h3],by omega,by omega⟩
theorem Loa {r:Rng} {l:List Dev} (h:H3 r l=true):H3 (Iva r l).1 l=true∧(Iva r l).1.1=r.1∧(Iva r l).1.2.length=r.2.length∧0≤(Iva r l).2:=by
 obtain ⟨h1,h2,h3,h4,_⟩:=Lna h r.2.length (Nat.le_refl _)
 exact ⟨h1,h2,h3,h4⟩
theorem Rxa {r:Rng} {l:List Dev} (h:H3 r l=true):Tot (λ k=>Cd k r l) (λ x=>x=Iva r l):=by
 obtain ⟨_,_,h64,_⟩:=Bg.1 h
 unfold Cd
 refine Tot.bind (Uk r (Mc h)) ?_
 rintro x rfl
 refine Tot.bind (Iua h) ?_
 rintro b rfl
 refine Tot.no rfl (Tot.bind (Q:=λ y=>y=((rbs l x x.2.length).1,((0:Int),([]:List (List Int))),(rbs l x x.2.length).2)) ?_ (by rintro y rfl; exact Tot.pure rfl))
 refine Tot.up (L:=λ k i (s:Int×Rng)=>Az k l s.1 i (0,[]) s.2) (Q:=λ y=>y=((rbs l x x.2.length).1,((0:Int),([]:List (List Int))),(rbs l x x.2.length).2)) x.2.length (λ j s=>s=rbs l x j) ?_ ?_ 0 (0,x) (Nat.zero_le _) rfl
 ·rintro s rfl
  obtain ⟨_,_,g3,_⟩:=Lna h x.2.length (Nat.le_refl _)
  simp (disch:=omega) only [Az,dF]
  exact Tot.pure rfl
 ·rintro j s hj rfl next
  obtain ⟨g1,g2,g3,g4,g5⟩:=Lna h j (by omega)
  rw [Lma] at next
  generalize rbs l x j=s at *
  obtain ⟨c,r⟩:=s
  dsimp only at g1 g2 g3 g4 g5
  obtain ⟨q0,_,_,q4⟩:=Bg.1 g1
  obtain ⟨p1,p2,p3⟩:=q4 _ (A4 (d:=[]) (show j<r.2.length by omega))
  have hx2:=(Bg.1 h).2.1
  have l12:=(Ed.1 q0).2.2.2
  unfold rb1 at next
  dsimp only at next
  obtain ⟨p,hp⟩:∃ p,r.2.getD j []=p:=⟨_,rfl⟩
  rw [hp] at p1 p2 p3
  simp only [hp] at next
  simp (disch:=omega) only [Az,dT,Int.toNat_natCast,w64,hp]
  refine Tot.bind (V9a p l p3 (by omega) (by omega)) ?_
  rintro x rfl
  refine Tot.ndec (by omega) (Tot.bind (Lia r p l (Mc g1) (by omega) q0) ?_)
  rintro b rfl
  refine Tot.bind (Rva r p l _ (Mc g1) (by omega) (by omega)) ?_
  rintro y rfl
  cases hi:Nza r l p (Aha r p l) with
  |none=>
   rw [hi] at next
   exact Tot.ndec (by show ¬ ((-1:Int)≥0); omega) (next _ rfl)
  |some i=>
   obtain ⟨b1,b2,b3,_⟩:=Ul q0 hi
   rw [hi] at next
   have e:oI (some i)=(i:Int):=rfl
   simp (disch:=omega) only [e,dT,Int.toNat_natCast]
   exact next _ rfl
def wgt (l:List Dev) (i:Nat) (w:Int):List Dev:=l.set i ((l.getD i Mb).1,(l.getD i Mb).2.1,w)
theorem Daa (l:List Dev) (i:Nat) (w:Int):(wgt l i w).map (·.1)=l.map (·.1):=by
 unfold wgt
 rw [List.map_set]
 by_cases hi:i<l.length
 ·have:(l.getD i Mb).1=(l.map (·.1)).getD i 0:=by
   simp only [List.getD_eq_getElem?_getD,List.getElem?_map,List.getElem?_eq_getElem hi,Option.map_some,Option.getD_some]
  rw [this,List.getD_eq_getElem?_getD,List.getElem?_eq_getElem (by simpa using hi),Option.getD_some]
  exact List.set_getElem_self _
 ·rw [List.set_eq_of_length_le (by simpa using hi)]
theorem Qm {l:List Dev} {id:Int}:(∃ d,Jf l id=some d)↔id∈l.map (·.1):=by
 unfold Jf
 rw [← Option.isSome_iff_exists,List.find?_isSome,List.mem_map]
 exact ⟨λ ⟨x,h,e⟩=>⟨x,h,eq_of_beq e⟩,λ ⟨x,h,e⟩=>⟨x,h,beq_iff_eq.2 e⟩⟩
theorem Btb {l:List Dev} {i:Nat} {w:Int} (h:L5 l=true) (hi:i<l.length) (h1:1≤w) (h2:w≤1000):L5 (wgt l i w)=true:=by
 obtain ⟨g1,g2,g3,g4⟩:=Ed.1 h
 refine Ed.2 ⟨?_,λ d hd=>?_,?_⟩
 ·have e:(l.map (·.1)).Pairwise (· < ·):=List.pairwise_map.2 g1
  rw [← Daa l i w] at e
  exact List.pairwise_map.1 e
 ·rcases List.mem_or_eq_of_mem_set hd with hd|hd
  ·exact g2 d hd
  ·obtain ⟨e1,e2,_⟩:=My.1 (g2 _ (A4 (d:=Mb) hi))
   subst hd
   exact My.2 ⟨e1,e2,h1,h2⟩
 ·unfold wgt
  rw [List.length_set]
  exact ⟨g3,g4⟩
theorem Dba {r:Rng} {l:List Dev} {i:Nat} {w:Int} (h:H3 r l=true) (hi:i<l.length) (h1:1≤w) (h2:w≤1000):H3 r (wgt l i w)=true:=by
 obtain ⟨g1,g2,g3,g4⟩:=Bg.1 h
 refine Bg.2 ⟨Btb g1 hi h1 h2,g2,g3,λ p hp=>?_⟩
 obtain ⟨q1,q2,q3⟩:=g4 p hp
 exact ⟨q1,q2,λ id hid=>by rw [Qm,Daa,← Qm]; exact q3 id hid⟩

theorem Rya (x:BitVec 32):(cst x).getLsbD 31=x.getLsbD 0:=by
 have h0:(x >>> 1).getLsbD 31=false:=by
  rw [BitVec.getLsbD_ushiftRight]
  exact BitVec.getLsbD_of_ge _ _ (by decide)
 unfold cst
 cases h:x.getLsbD 0 with
 |true=>
  rw [if_pos rfl,BitVec.getLsbD_xor,h0]
  decide
 |false=>
  rw [if_neg (by simp),h0]
theorem U6 {n:Nat} {x y c:BitVec n} (h:x ^^^ c=y ^^^ c):x=y:=by
 have:=congrArg (λ z=>z ^^^ c) h
 simpa [BitVec.xor_assoc] using this
theorem Z9a {x y:BitVec 32} (h:cst x=cst y):x=y:=by
 have h0:x.getLsbD 0=y.getLsbD 0:=by rw [← Rya,← Rya,h]
 have h1:x >>> 1=y >>> 1:=by
  unfold cst at h
  rw [h0] at h
  cases hb:y.getLsbD 0 with
  |true=>rw [hb,if_pos rfl,if_pos rfl] at h; exact U6 h
  |false=>rw [hb,if_neg (by simp),if_neg (by simp)] at h; exact h
 refine BitVec.eq_of_getLsbD_eq λ i hi=>?_
 cases i with
 |zero=>exact h0
 |succ i=>
  have:=congrArg (λ z=>z.getLsbD i) h1
  simpa [BitVec.getLsbD_ushiftRight,Nat.add_comm] using this
theorem Z2:∀ (n:Nat) {x y:BitVec 32},Afa n x=Afa n y→x=y
 |0,_,_,h=>h
 |n+1,_,_,h=>Z9a (Z2 n h)
theorem Zaa {x y:BitVec 32} {b:Int} (h:cby x b=cby y b):x=y:=U6 (Z2 8 h)
theorem Vaa {x:BitVec 32} {a b:Int} (ha:0≤a∧a≤255) (hb:0≤b∧b≤255) (h:cby x a=cby x b):a=b:=by
 have h1:x ^^^ BitVec.ofInt 32 a=x ^^^ BitVec.ofInt 32 b:=Z2 8 h
 rw [BitVec.xor_comm,BitVec.xor_comm x] at h1
 have h2:=U6 h1
 rw [L8a ha,L8a hb,h2]
theorem Lpa:∀ (l:List Int) {x y:BitVec 32},l.foldl cby x=l.foldl cby y→x=y
 |[],_,_,h=>h
 |_::l,_,_,h=>Zaa (Lpa l h)
theorem X6a (l:List Int):0≤crc l∧crc l≤4294967295:=by
 unfold crc
 have:=(A9b l).isLt
 omega
theorem Zba {l:List Int} {i:Nat} {y:Int} (hi:i<l.length) (hy:0≤y∧y≤255) (hb:Al l) (hne:y≠l.getD i 0):crc (l.set i y)≠crc l:=by
 intro h
 have h1:A9b (l.set i y)=A9b l:=BitVec.eq_of_toNat_eq (by unfold crc at h; omega)
 unfold A9b at h1
 have h2:=BitVec.not_inj.1 h1
 have e1:l.set i y=l.take i++y::l.drop (i+1):=by rw [List.set_eq_take_append_cons_drop,if_pos hi]
 have e2:l=l.take i++l.getD i 0::l.drop (i+1):=by
  conv => { lhs; rw [← List.take_append_drop i l] }
  rw [An (d:=0) hi]
 rw [e1,List.foldl_append,List.foldl_cons] at h2
 rw [e2] at h2
 rw [List.foldl_append,List.foldl_cons] at h2
 have e3:(l.take i++l.getD i 0::l.drop (i+1)).take i=l.take i:=by rw [← e2]
 have e4:(l.take i++l.getD i 0::l.drop (i+1)).drop (i+1)=l.drop (i+1):=by rw [← e2]
 rw [e3,e4] at h2
 exact hne (Vaa hy (hb _ (A4 hi)) (Lpa _ h2))
theorem Bub {a b:Int} (ha:0≤a∧a≤4294967295) (hb:0≤b∧b≤4294967295) (h:c4 a=c4 b):a=b:=by
 have e:∀ c:Int,0≤c→c4 c=[c / 16777216 % 256,c / 65536 % 256,c / 256 % 256,c % 256]:=λ c hc=>by
  unfold c4
  rw [show (2:Int) ^ (min (Int.toNat 24) (IntKind.bits .i64))=16777216 from by decide,show (2:Int) ^ (min (Int.toNat 16) (IntKind.bits .i64))=65536 from by decide,show (2:Int) ^ (min (Int.toNat 8) (IntKind.bits .i64))=256 from by decide,
   Int.fdiv_eq_ediv_of_nonneg _ (by omega),Int.fdiv_eq_ediv_of_nonneg _ (by omega),Int.fdiv_eq_ediv_of_nonneg _ (by omega),IntKind.wrap_u8,IntKind.wrap_u8,IntKind.wrap_u8,IntKind.wrap_u8]
 rw [e a ha.1,e b hb.1] at h
 simp only [List.cons.injEq,and_true] at h
 omega
theorem Nea {l m:List Int} {j:Nat} (h:j<l.length):(l++m).getD j 0=l.getD j 0:=by rw [List.getD_eq_getElem?_getD,List.getD_eq_getElem?_getD,List.getElem?_append_left h]
theorem Nfa {l m:List Int} {j:Nat} (h:l.length≤j):(l++m).getD j 0=m.getD (j - l.length) 0:=by rw [List.getD_eq_getElem?_getD,List.getD_eq_getElem?_getD,List.getElem?_append_right h]
theorem Vba {f:Fil} (hf:Fh f=true) {n:Nat} (hn:n<8 * (L6 f).length):O4 (Mp (L6 f) n)=none:=by
 cases hg:O4 (Mp (L6 f) n) with
 |none=>rfl
 |some g=>
  exfalso
  obtain ⟨g1,_,g3⟩:=R7a hg
  have hpb:=P0 f
  have hj:n / 8<(L6 f).length:=by omega
  have hy:=Lba ((L6 f).getD (n / 8) 0) (n % 8)
  have hne:=Uxa (hpb _ (A4 (d:=0) hj)) (Nat.mod_lt n (show 0<8 by omega))
  unfold Mp at g3
  generalize Aga ((L6 f).getD (n / 8) 0) (n % 8)=y at g3 hy hne
  generalize n / 8=j at g3 hj hne
  have ef:L6 f=Od f++c4 (crc (Od f)):=by unfold L6; rw [hf]; rfl
  have eg:L6 g=Od g++c4 (crc (Od g)):=by unfold L6; rw [g1]; rfl
  have l4:∀ c,(c4 c).length=4:=λ c=>rfl
  rw [eg] at g3
  rw [ef] at g3 hj hne
  have hlen:(Od g).length=(Od f).length:=by
   have:=congrArg List.length g3
   rw [List.length_set,List.length_append,List.length_append,l4,l4] at this
   omega
  by_cases hjb:j<(Od f).length
  ·rw [List.set_append_left _ _ hjb] at g3
   obtain ⟨a1,a2⟩:=List.append_inj g3 (by rw [List.length_set]; exact hlen)
   rw [Nea hjb] at hne
   have:=Bub (X6a _) (X6a _) a2
   rw [a1] at this
   exact Zba hjb hy (Pm f) hne this
  ·rw [List.set_append_right _ _ (by omega)] at g3
   obtain ⟨a1,a2⟩:=List.append_inj g3 hlen
   rw [a1] at a2
   rw [Nfa (by omega)] at hne
   rw [List.length_append,l4] at hj
   have:(c4 (crc (Od f))).getD (j - (Od f).length) 0=y:=by
    rw [a2,List.getD_eq_getElem?_getD,List.getElem?_set_self (by rw [l4]; omega),Option.getD_some]
   exact hne this.symm

def Pv (l:List Nmd) (ns:List ByteArray):List ByteArray:=l.foldl (λ ns x=>wt ns x.1) ns
def nms (d:Dsk):List ByteArray:=Pv (d.1++d.2) []
def pk1:Option Nmd→List Nmd
 |some x=>[x]
 |none=>[]
theorem Zca (o:Option Nmd):(pk1 o).length≤1:=by cases o<;>simp [pk1]
def S9 (kp:List Bool) (a b:List Nmd):List ByteArray→Nat→List Nmd
 |[],_=>[]
 |s::ns,i=>pk1 (pk (bif kp.getD i false then a else b) s)++S9 kp a b ns (i+1)
theorem Zda (kp:List Bool) (a b:List Nmd) (i:Nat):S9 kp a b [] i=[]:=rfl
theorem Vca (kp:List Bool) (a b:List Nmd) (s:ByteArray) (ns:List ByteArray) (i:Nat):S9 kp a b (s::ns) i=pk1 (pk (bif kp.getD i false then a else b) s)++S9 kp a b ns (i+1):=rfl
def S5 (d:Dsk) (kp:List Bool):Dsk:=bif decide ((S9 kp d.1 d.2 (nms d) 0).length > 60) then d else (S9 kp d.1 d.2 (nms d) 0,S9 kp d.1 d.2 (nms d) 0)
theorem Dca:∀ (l:List Nmd) (ns:List ByteArray),TS ns→TS (Pv l ns)
 |[],_,h=>h
 |_::l,_,h=>Dca l _ (Qh h)
theorem Gea:∀ (l:List Nmd) (ns:List ByteArray) (t:ByteArray),t∈Pv l ns↔(∃ x∈l,x.1=t)∨t∈ns
 |[],ns,t=>by simp [Pv]
 |x::l,ns,t=>by
  show t∈Pv l (wt ns x.1)↔_
  rw [Gea l,L6a]
  simp only [List.mem_cons,exists_eq_or_imp]
  constructor
  ·rintro (h|rfl|h)
   ·exact .inl (.inr h)
   ·exact .inl (.inl rfl)
   ·exact .inr h
  ·rintro ((h|h)|h)
   ·exact .inr (.inl h.symm)
   ·exact .inl h
   ·exact .inr (.inr h)
theorem T8:∀ (l:List Nmd) (ns:List ByteArray),(Pv l ns).length≤ns.length+l.length
 |[],_=>by simp [Pv]
 |x::l,ns=>by
  have h1:=T8 l (wt ns x.1)
  have h2:=R4a (l:=ns) (s:=x.1)
  show (Pv l (wt ns x.1)).length≤_
  rw [List.length_cons]
  omega
theorem X7a (d:Dsk):TS (nms d):=Dca _ _ List.Pairwise.nil
theorem Zea {d:Dsk} {t:ByteArray}:t∈nms d↔(gt d.1 t).isSome=true∨(gt d.2 t).isSome=true:=by
 have h:∀ l:List Nmd,(gt l t).isSome=true↔∃ x∈l,x.1=t:=λ l=>by
  cases hg:gt l t with
  |none=>
   constructor
   ·intro h; cases h
   ·rintro ⟨x,hx,e⟩; exact absurd e (Mm.1 hg x hx)
  |some b=>simp only [Option.isSome_some,true_iff]; exact ⟨_,O5 hg,rfl⟩
 unfold nms
 rw [Gea,h,h]
 simp only [List.mem_append,List.not_mem_nil,or_false]
 constructor
 ·rintro ⟨x,h1|h1,h2⟩
  ·exact .inl ⟨x,h1,h2⟩
  ·exact .inr ⟨x,h1,h2⟩
 ·rintro (⟨x,h1,h2⟩|⟨x,h1,h2⟩)
  ·exact ⟨x,.inl h1,h2⟩
  ·exact ⟨x,.inr h1,h2⟩
theorem Zfa (l:List Nmd) (s:ByteArray):pk l s=(gt l s).map λ b=>(s,b):=by
 unfold pk gt
 cases h:fnd l s with
 |none=>rfl
 |some i=>rw [Option.map_some,← (Pq h).2]
theorem U7 (kp:List Bool) (a b:List Nmd):∀ (ns:List ByteArray) (i:Nat),((S9 kp a b ns i).map Prod.fst).Sublist ns
 |[],_=>List.Sublist.slnil
 |s::ns,i=>by
  unfold S9
  rw [Zfa]
  cases gt (bif kp.getD i false then a else b) s with
  |none=>exact (U7 kp a b ns (i+1)).cons s
  |some c=>exact (U7 kp a b ns (i+1)).cons_cons s
theorem Zga (kp:List Bool) (a b:List Nmd) (ns:List ByteArray) (i:Nat):(S9 kp a b ns i).length≤ns.length:=by
 have:=(U7 kp a b ns i).length_le
 rwa [List.length_map] at this
theorem Nga {kp:List Bool} {a b:List Nmd} {ns:List ByteArray} {i:Nat} (h:TS ns):Fv (S9 kp a b ns i):=by
 have:=List.Pairwise.sublist (U7 kp a b ns i) h
 rwa [List.pairwise_map] at this
theorem Rza {kp:List Bool} {a b:List Nmd}:∀ {ns:List ByteArray} {i:Nat} {x:Nmd},x∈S9 kp a b ns i→gt a x.1=some x.2∨gt b x.1=some x.2
 |[],_,_,h=>by cases h
 |s::ns,i,x,h=>by
  unfold S9 at h
  rw [Zfa] at h
  rcases List.mem_append.1 h with h|h
  ·cases hg:gt (bif kp.getD i false then a else b) s with
   |none=>rw [hg] at h; cases h
   |some c=>
    rw [hg] at h
    rw [List.mem_singleton.1 h]
    cases hk:kp.getD i false with
    |true=>rw [hk] at hg; exact .inl hg
    |false=>rw [hk] at hg; exact .inr hg
  ·exact Rza h
theorem X8a {kp:List Bool} {a b:List Nmd} {t:ByteArray}:∀ {ns:List ByteArray} {i:Nat},TS ns→t∈ns→∃ j,i≤j∧gt (S9 kp a b ns i) t=gt (bif kp.getD j false then a else b) t
 |[],_,_,h=>by cases h
 |s::ns,i,hs,h=>by
  obtain ⟨h1,h2⟩:=List.pairwise_cons.1 hs
  have hn:∀ j,gt (S9 kp a b ns j) s=none:=λ j=>Mm.2 λ x hx e=>by
   have:=h1 x.1 ((U7 kp a b ns j).subset (List.mem_map_of_mem hx))
   rw [e,Km] at this
   cases this
  unfold S9
  rw [Zfa]
  rcases List.mem_cons.1 h with rfl|h
  ·refine ⟨i,Nat.le_refl _,?_⟩
   cases hg:gt (bif kp.getD i false then a else b) t with
   |none=>exact hn _
   |some c=>
    show gt ((t,c)::S9 kp a b ns (i+1)) t=_
    rw [Ima,if_pos rfl]
  ·obtain ⟨j,hj,e⟩:=X8a (kp:=kp) (a:=a) (b:=b) (i:=i+1) h2 h
   refine ⟨j,by omega,?_⟩
   rw [← e]
   have hst:s≠t:=λ e=>by
    have:=h1 t h
    rw [e,Km] at this
    cases this
   cases gt (bif kp.getD i false then a else b) s with
   |none=>rfl
   |some c=>
    show gt ((s,c)::S9 kp a b ns (i+1)) t=_
    rw [Ima,if_neg hst]
theorem S0a {d:Dsk} {kp:List Bool} (h:DG d):DG (S5 d kp):=by
 unfold S5
 cases hc:decide ((S9 kp d.1 d.2 (nms d) 0).length > 60) with
 |true=>exact h
 |false=>
  have hl:=of_decide_eq_false hc
  have n1:=(Af.1 (Dr.1 h.1).1).2.1
  have n2:=(Af.1 (Dr.1 h.1).2).2.1
  have q:Io (S9 kp d.1 d.2 (nms d) 0)=true:=Af.2 ⟨Nga (X7a d),λ x hx=>(Rza hx).elim (λ e=>n1 _ (O5 e)) (λ e=>n2 _ (O5 e)),by omega⟩
  have b:LB (S9 kp d.1 d.2 (nms d) 0):=λ x hx=>(Rza hx).elim (λ e=>h.2.1.gt e) (λ e=>h.2.2.gt e)
  exact ⟨Dr.2 ⟨q,q⟩,b,b⟩
theorem S1a {d:Dsk} {kp:List Bool} (t:ByteArray):S5 d kp=d∨((S5 d kp).2=(S5 d kp).1∧(gt (S5 d kp).1 t=gt d.1 t∨gt (S5 d kp).1 t=gt d.2 t)):=by
 unfold S5
 cases hc:decide ((S9 kp d.1 d.2 (nms d) 0).length > 60) with
 |true=>exact .inl rfl
 |false=>
  refine .inr ⟨rfl,?_⟩
  show gt (S9 kp d.1 d.2 (nms d) 0) t=_∨gt (S9 kp d.1 d.2 (nms d) 0) t=_
  by_cases ht:t∈nms d
  ·obtain ⟨j,_,e⟩:=X8a (kp:=kp) (a:=d.1) (b:=d.2) (i:=0) (X7a d) ht
   rw [e]
   cases kp.getD j false with
   |true=>exact .inl rfl
   |false=>exact .inr rfl
  ·have h1:gt d.1 t=none:=by
    cases hg:gt d.1 t with
    |none=>rfl
    |some b=>exact absurd (Zea.2 (.inl (by rw [hg]; rfl))) ht
   left
   rw [h1]
   exact Mm.2 λ x hx e=>ht (by rw [← e]; exact (U7 _ _ _ _ _).subset (List.mem_map_of_mem hx))
theorem Dda {R:Type} {L:Nat→List Nmd→Option R} {Q:R→Prop} (c:List Nmd) (s:ByteArray) (acc:List Nmd) (hc:c.length≤5000000) (ha:acc.length≤5000000) (next:Tot (λ k=>L k (acc++pk1 (pk c s))) Q):
  Tot (λ k=>(Cw k c s).bind λ r=>cond (decide (r≥0)) (cond (decide ((0:Int)≤r)) (cond (decide (r<(List.length c:Int))) (cond (Nat.ble ((List.length acc+List.length [List.getD c (Int.toNat r) ((⟨#[]⟩:ByteArray),[])]) * 40) 140737488355328) (L k (acc++[List.getD c (Int.toNat r) ((⟨#[]⟩:ByteArray),[])])) none) none) none) (L k acc)) Q:=by
 refine Tot.bind (Bla c s (by omega)) ?_
 rintro r rfl
 unfold pk at next
 unfold L0a
 cases h:fnd c s with
 |none=>
  rw [h] at next
  simp only [pk1,List.append_nil] at next
  exact Tot.ndec (by decide) next
 |some i=>
  rw [h] at next
  have:=(Pq h).1
  simp only [Int.toNat_natCast]
  exact Tot.dec (by omega) (Tot.dec (by omega) (Tot.dec (by omega) (Tot.ble (by simp only [List.length_cons,List.length_nil]; omega) next)))

end Go.Proofs.YtmhhjceoinoekaaGreat.Vf
