import Derived.Test.YtcgfpppmikhgmaaGreatMan
import Derived.Test.YtcgfpppmikhgmaaGreatMam
set_option linter.unusedVariables false
set_option linter.unusedSimpArgs false
namespace Go.Proofs.YtcgfpppmikhgmaaGreat.Vf
open Go

abbrev Nod:=Int×Dsk×List Row×List Row
def qOk (l:List Row):Bool:=l.all Mj
def Mn (n:Nod):Bool:=qOk n.2.2.2&&(inR n.1 0 20&&(Al n.2.1&&(Kk n.2.2.1&&decide ((n.2.2.2.length:Int)≤60))))
def RF (l:List Row):Prop:=l.length≤2000000∧Pn l
def NIn (n:Nod):Prop:=(DIn n.2.1∧DB n.2.1)∧RF n.2.2.1∧RF n.2.2.2
def NG (n:Nod):Prop:=Mn n=true∧DB n.2.1
theorem Di {n:Nod}:Mn n=true↔(∀ r∈n.2.2.2,Mj r=true)∧(0≤n.1∧n.1≤20)∧Al n.2.1=true∧Kk n.2.2.1=true∧n.2.2.2.length≤60:=by
 unfold Mn qOk
 simp only [Bool.and_eq_true,List.all_eq_true,Ew,decide_eq_true_iff]
 constructor
 ·rintro ⟨h1,h2,h3,h4,h5⟩; exact ⟨h1,h2,h3,h4,by omega⟩
 ·rintro ⟨h1,h2,h3,h4,h5⟩; exact ⟨h1,h2,h3,h4,by omega⟩
theorem Ima {l:List Row} (h:Kk l=true):RF l:=by
 obtain ⟨_,h2,h3⟩:=Mr.1 h
 exact ⟨by omega,λ r hr=>Kx (Bua (h2 r hr))⟩
theorem Asa {n:Nod} (h:NG n):NIn n:=by
 obtain ⟨h1,_,h3,h4,h5⟩:=Di.1 h.1
 exact ⟨⟨Nw h3,h.2⟩,Ima h4,by omega,λ r hr=>Kx (Bua (h1 r hr))⟩
theorem NG.g {n:Nod} (h:NG n):DG n.2.1:=⟨(Di.1 h.1).2.2.1,h.2⟩
theorem Uya (n:Nod) (hn:NIn n):Tot (λ k=>Gc k n) (λ r=>r=Mn n):=by
 obtain ⟨i,⟨a,b⟩,ro,q⟩:=n
 obtain ⟨⟨hd,_⟩,hr,hq⟩:=hn
 dsimp only at hd hr hq
 unfold Gc
 have hl:=hq.1
 refine Tot.bind (Q:=λ r=>r=bif qOk q then .inr (i,a,b,ro,q) else .inl false) ?_ ?_
 ·refine Tot.up (L:=λ k i' (_:Unit)=>H4 k q (q.length:Int) i' i a b ro q) (Q:=λ r=>r=bif qOk q then .inr (i,a,b,ro,q) else .inl false) q.length (λ j _=>(q.drop j).all Mj=q.all Mj) ?_ ?_ 0 () (Nat.zero_le _) (by rw [List.drop_zero])
  ·intro _ hj
   rw [List.drop_length] at hj
   simp only [H4]
   exact Tot.ndec (by omega) (Tot.pure (by unfold qOk; rw [← hj]; rfl))
  ·intro j _ hj hi next
   simp only [H4]
   rw [Aq (d:=Ml) hj,List.all_cons] at hi
   refine Tot.dec (by omega) (Tot.dec (by omega) (Tot.dec (by omega) ?_))
   rw [Int.toNat_natCast,w64 (n:=(j:Int)+1) (by omega) (by omega)]
   refine Tot.bind (Qja (q.getD j Ml) (hq.2 _ (A4 hj))) ?_
   rintro r rfl
   cases hc:Mj (q.getD j Ml) with
   |false=>exact Tot.yes rfl (Tot.pure (by unfold qOk; rw [← hi,hc]; rfl))
   |true=>exact Tot.no rfl (next () (by rw [hc,Bool.true_and] at hi; exact hi))
 ·rintro r rfl
  unfold Mn
  dsimp only
  cases qOk q with
  |false=>exact Tot.pure rfl
  |true=>
   simp only [cond_true,Sum.elim_inr,Bool.true_and]
   refine Tot.bind (Tot.of (Q:=λ r=>r=inR i 0 20) (Y0 _ _ _) rfl) ?_
   rintro r rfl
   cases inR i 0 20 with
   |false=>exact Tot.no rfl (Tot.pure rfl)
   |true=>
    refine Tot.yes rfl (Tot.bind (Uma (a,b) hd.1.1 hd.1.2) ?_)
    rintro r rfl
    cases Al (a,b) with
    |false=>exact Tot.no rfl (Tot.pure rfl)
    |true=>
     refine Tot.yes rfl (Tot.bind (Uia ro (by have:=hr.1; unfold Few; omega) hr.2) ?_)
     rintro r rfl
     cases Kk ro with
     |false=>exact Tot.no rfl (Tot.pure rfl)
     |true=>exact Tot.yes rfl (Tot.pure rfl)
theorem W7 (n:Nod) (hn:NIn n):Tot (λ k=>Bo k n) (λ r=>r=Mn n):=by
 obtain ⟨i,⟨a,b⟩,ro,q⟩:=n
 obtain ⟨⟨hd,_⟩,hr,hq⟩:=hn
 dsimp only at hd hr hq
 unfold Bo
 have hl:=hq.1
 refine Tot.bind (Q:=λ r=>r=bif qOk q then .inr (i,a,b,ro,q) else .inl false) ?_ ?_
 ·refine Tot.up (L:=λ k i' (_:Unit)=>Gu k i' i a b ro q) (Q:=λ r=>r=bif qOk q then .inr (i,a,b,ro,q) else .inl false) q.length (λ j _=>(q.drop j).all Mj=q.all Mj) ?_ ?_ 0 () (Nat.zero_le _) (by rw [List.drop_zero])
  ·intro _ hj
   rw [List.drop_length] at hj
   simp only [Gu]
   exact Tot.ndec (by omega) (Tot.pure (by unfold qOk; rw [← hj]; rfl))
  ·intro j _ hj hi next
   simp only [Gu]
   rw [Aq (d:=Ml) hj,List.all_cons] at hi
   refine Tot.dec (by omega) (Tot.dec (by omega) (Tot.dec (by omega) ?_))
   rw [Int.toNat_natCast,w64 (n:=(j:Int)+1) (by omega) (by omega)]
   refine Tot.bind (Qka (q.getD j Ml) (hq.2 _ (A4 hj))) ?_
   rintro r rfl
   cases hc:Mj (q.getD j Ml) with
   |false=>exact Tot.yes rfl (Tot.pure (by unfold qOk; rw [← hi,hc]; rfl))
   |true=>exact Tot.no rfl (next () (by rw [hc,Bool.true_and] at hi; exact hi))
 ·rintro r rfl
  unfold Mn
  dsimp only
  cases qOk q with
  |false=>exact Tot.pure rfl
  |true=>
   simp only [cond_true,Sum.elim_inr,Bool.true_and]
   refine Tot.bind (Tot.of (Q:=λ r=>r=inR i 0 20) (Ng _ _ _) rfl) ?_
   rintro r rfl
   cases inR i 0 20 with
   |false=>exact Tot.no rfl (Tot.pure rfl)
   |true=>
    refine Tot.yes rfl (Tot.bind (Pp (a,b) hd.1.1 hd.1.2) ?_)
    rintro r rfl
    cases Al (a,b) with
    |false=>exact Tot.no rfl (Tot.pure rfl)
    |true=>
     refine Tot.yes rfl (Tot.bind (Ksa ro (by have:=hr.1; unfold Few; omega) hr.2) ?_)
     rintro r rfl
     cases Kk ro with
     |false=>exact Tot.no rfl (Tot.pure rfl)
     |true=>exact Tot.yes rfl (Tot.pure rfl)
theorem N5 (n:Nod) (hn:NIn n):Tot (λ k=>B9 k n) (λ r=>r=n):=by
 unfold B9
 have h1:=hn.2.1.1
 have h2:=hn.2.2.1
 refine Tot.bind (Ll n.2.1 hn.1.1.1.1) ?_
 rintro r rfl
 refine Tot.ble (by simp only [List.length_nil]; omega) (Tot.ble (by simp only [List.length_nil]; omega) (Tot.pure ?_))
 rw [List.nil_append,List.nil_append]
theorem N3a (a b:List Row) (hf:a.length+b.length≤10000000000):Tot (λ k=>Bj k a b) (λ r=>r=Y2 a b):=by
 unfold Bj
 refine Tot.ble (by simp only [List.length_nil]; omega) ?_
 rw [List.nil_append]
 refine Tot.bind (Q:=λ r=>r=Y2 a b) ?_ (by rintro r rfl; exact Tot.pure rfl)
 refine Tot.up (L:=λ k i s=>Dc k b s i) (Q:=λ r=>r=Y2 a b) b.length (λ i s=>Y2 s (b.drop i)=Y2 a b∧s.length≤a.length+i) ?_ ?_ 0 a (Nat.zero_le _) ⟨by rw [List.drop_zero],Nat.le_add_right _ _⟩
 ·rintro s ⟨hs,_⟩
  rw [List.drop_length] at hs
  simp only [Dc]
  exact Tot.ndec (by omega) (Tot.pure hs)
 ·rintro i s hi ⟨hs,hl⟩ next
  simp only [Dc]
  refine Tot.dec (by omega) (Tot.dec (by omega) (Tot.dec (by omega) ?_))
  rw [Int.toNat_natCast,w64 (n:=(i:Int)+1) (by omega) (by omega)]
  rw [Aq (d:=Ml) hi] at hs
  refine Tot.bind (F9a s (b.getD i Ml) (by unfold Few; omega)) ?_
  rintro m rfl
  have:=Qha s (b.getD i Ml)
  exact next _ ⟨hs,by omega⟩
def Uza (n:Nod) (l:List Row):Nod×Bool:=bif Mn n&&Kk l then (bif decide ((Y2 n.2.2.1 l).length > 60) then (n,false) else ((n.1,n.2.1,Y2 n.2.2.1 l,n.2.2.2),true)) else (n,false)
theorem Z4 {a b:List Row} (ha:Kk a=true) (hb:Kk b=true) (h:(Y2 a b).length≤60):Kk (Y2 a b)=true:=by
 obtain ⟨a1,a2,_⟩:=Mr.1 ha
 obtain ⟨b1,b2,_⟩:=Mr.1 hb
 exact Mr.2 ⟨I7a a1,λ r hr=>(Kta hr).elim (a2 r) (b2 r),h⟩
theorem Rca {n:Nod} {l:List Row} (hn:NG n):NG (Uza n l).1:=by
 unfold Uza
 rw [hn.1,Bool.true_and]
 cases hl:Kk l with
 |false=>exact hn
 |true=>
  rw [cond_true]
  cases hc:decide ((Y2 n.2.2.1 l).length > 60) with
  |true=>exact hn
  |false=>
   obtain ⟨h1,h2,h3,h4,h5⟩:=Di.1 hn.1
   exact ⟨Di.2 ⟨h1,h2,h3,Z4 h4 hl (by have:=of_decide_eq_false hc; omega),h5⟩,hn.2⟩
theorem C1a (n:Nod) (l:List Row) (h1:n.2.2.1.length≤2000000) (h2:l.length≤2000000):Tot (λ k=>Gq k n l) (λ r=>r=bif decide ((Y2 n.2.2.1 l).length > 60) then (false,n) else (true,(n.1,n.2.1,Y2 n.2.2.1 l,n.2.2.2))):=by
 unfold Gq Hn
 refine Tot.bind (N3a n.2.2.1 l (by omega)) ?_
 rintro r rfl
 refine Tot.dite (λ h=>?_) (λ h=>?_)
 ·rw [decide_eq_true (show (Y2 n.2.2.1 l).length > 60 by omega)]
  exact Tot.pure rfl
 ·rw [decide_eq_false (show ¬ (Y2 n.2.2.1 l).length > 60 by omega)]
  exact Tot.pure rfl
theorem V0a (n:Nod) (l:List Row) (hn:NIn n) (hl:RF l):Tot (λ k=>I2 k n l) (λ r=>r=Uza n l):=by
 have copy:Tot (λ k=>(B9 k n).bind λ r3=>some (r3,false)) (λ r=>r=(n,false)):=by
  refine Tot.bind (N5 n hn) ?_
  rintro r rfl
  exact Tot.pure rfl
 unfold I2 Uza
 refine Tot.bind (N5 n hn) ?_
 rintro n rfl
 refine Tot.bind (W7 n hn) ?_
 rintro r rfl
 cases Mn n with
 |false=>exact Tot.yes rfl copy
 |true=>
  refine Tot.no rfl (Tot.bind (Ksa l (by have:=hl.1; unfold Few; omega) hl.2) ?_)
  rintro r rfl
  cases Kk l with
  |false=>exact Tot.yes rfl copy
  |true=>
   refine Tot.no rfl (Tot.bind (C1a n l hn.2.1.1 hl.1) ?_)
   rintro r rfl
   cases decide ((Y2 n.2.2.1 l).length > 60) with
   |true=>exact Tot.yes rfl copy
   |false=>exact Tot.no rfl (Tot.pure rfl)
def Ub (s:ByteArray) (f:Fil):Row:=(s,f.1,f.2.1,(f.2.2.length:Int))
def W8 (n:Nod) (s:ByteArray) (f:Fil) (sure:Bool):Nod×Int:=bif (n.2.2.2.length:Int)==60 then (n,3) else
 ((n.1,(keep n.2.1 s f sure).1,n.2.2.1,bif (keep n.2.1 s f sure).2==0&&sure then n.2.2.2++[Ub s f] else n.2.2.2),(keep n.2.1 s f sure).2)
def Ceb (n:Nod) (s:ByteArray) (f:Fil) (sure:Bool):Nod×Int:=bif Mn n&&(Br s&&G6 f) then W8 n s f sure else (n,2)
theorem V1a {s:ByteArray} {f:Fil} (hs:Br s=true) (hf:G6 f=true):Mj (Ub s f)=true:=by
 obtain ⟨h1,h2,h3⟩:=Ld.1 hf
 unfold Mj Ub
 dsimp only
 rw [hs,h1,Ew.2 ⟨by omega,by omega⟩]
 cases hd:f.2.1 with
 |false=>rfl
 |true=>rw [h3 hd]; rfl
theorem Rda {n:Nod} {s:ByteArray} {f:Fil} {sure:Bool} (hn:NG n) (hs:Br s=true) (hf:G6 f=true):NG (W8 n s f sure).1:=by
 obtain ⟨h1,h2,h3,h4,h5⟩:=Di.1 hn.1
 have hk:=X0a (s:=s) (f:=f) (sure:=sure) hn.g
 unfold W8
 cases hl:((n.2.2.2.length:Int)==60) with
 |true=>exact hn
 |false=>
  have hl':n.2.2.2.length≠60:=by
   intro e
   rw [e] at hl
   cases hl
  refine ⟨Di.2 ⟨?_,h2,hk.1,h4,?_⟩,hk.2⟩
  ·show ∀ r∈bif (keep n.2.1 s f sure).2==0&&sure then n.2.2.2++[Ub s f] else n.2.2.2,Mj r=true
   cases (keep n.2.1 s f sure).2==0&&sure with
   |false=>exact h1
   |true=>
    intro r hr
    rcases List.mem_append.1 hr with hr|hr
    ·exact h1 r hr
    ·rw [List.mem_singleton.1 hr]; exact V1a hs hf
  ·show (bif (keep n.2.1 s f sure).2==0&&sure then n.2.2.2++[Ub s f] else n.2.2.2).length≤60
   cases (keep n.2.1 s f sure).2==0&&sure with
   |false=>exact h5
   |true=>rw [cond_true,List.length_append]; simp only [List.length_cons,List.length_nil]; omega
theorem Bpb {n:Nod} {s:ByteArray} {f:Fil} {sure:Bool} (hn:NG n):NG (Ceb n s f sure).1:=by
 unfold Ceb
 cases hs:Br s with
 |false=>rw [hn.1]; exact hn
 |true=>
  cases hf:G6 f with
  |false=>rw [hn.1]; exact hn
  |true=>rw [hn.1]; exact Rda hn hs hf
theorem Fya (n:Nod) (s:ByteArray) (f:Fil) (sure:Bool) (hn:NIn n) (hs:Kj s):Tot (λ k=>Hz k n s f sure) (λ r=>r=((W8 n s f sure).2,(W8 n s f sure).1)):=by
 have h1:=hn.2.2.1
 unfold Hz Jq W8
 cases (n.2.2.2.length:Int)==60 with
 |true=>exact Tot.yes rfl (Tot.pure rfl)
 |false=>
  refine Tot.no rfl (Tot.bind (Laa n.2.1 s f sure hn.1.1 hn.1.2.1 hs) ?_)
  rintro r rfl
  cases (keep n.2.1 s f sure).2==0 with
  |false=>exact Tot.no rfl (Tot.pure rfl)
  |true=>
   refine Tot.yes rfl ?_
   cases sure with
   |false=>exact Tot.no rfl (Tot.pure rfl)
   |true=>
    refine Tot.yes rfl (Tot.ble (by simp only [List.length_nil]; omega) ?_)
    refine Tot.bind (Tot.of (Q:=λ r=>r=Ub s f) (show Ey s f=some (Ub s f) from rfl) rfl) ?_
    rintro r rfl
    refine Tot.ble (by simp only [List.length_append,List.length_cons,List.length_nil]; omega) (Tot.pure ?_)
    rw [List.nil_append]
    rfl
theorem Ina (n:Nod) (s:ByteArray) (f:Fil) (sure:Bool) (hn:NIn n) (hs:Kj s):Tot (λ k=>J6 k n s f sure) (λ r=>r=Ceb n s f sure):=by
 unfold J6 Ceb
 refine Tot.bind (N5 n hn) ?_
 rintro n rfl
 refine Tot.bind (W7 n hn) ?_
 rintro r rfl
 cases Mn n with
 |false=>exact Tot.yes rfl (Tot.pure rfl)
 |true=>
  refine Tot.no rfl (Tot.bind (Ob s hs) ?_)
  rintro r rfl
  cases Br s with
  |false=>exact Tot.yes rfl (Tot.pure rfl)
  |true=>
   refine Tot.no rfl (Tot.bind (Tot.of (Q:=λ r=>r=G6 f) (Tb f) rfl) ?_)
   rintro r rfl
   cases G6 f with
   |false=>exact Tot.yes rfl (Tot.pure rfl)
   |true=>
    refine Tot.no rfl (Tot.bind (Fya n s f sure hn hs) ?_)
    rintro r rfl
    exact Tot.pure rfl
def V2a (n:Nod) (s:ByteArray) (b:Int):Nod×Bool:=bif Mn n&&((lkD n.2.1 s).2==0&&(Lca n.2.1 s b).2) then ((n.1,(Lca n.2.1 s b).1,n.2.2),true) else (n,false)
theorem X2a {n:Nod} {s:ByteArray} {b:Int} (hn:NG n):NG (V2a n s b).1:=by
 obtain ⟨h1,h2,h3,h4,h5⟩:=Di.1 hn.1
 have hr:=Bnb (s:=s) (n:=b) hn.g
 unfold V2a
 cases Mn n&&((lkD n.2.1 s).2==0&&(Lca n.2.1 s b).2) with
 |false=>exact hn
 |true=>exact ⟨Di.2 ⟨h1,h2,hr.1,h4,h5⟩,hr.2⟩
theorem Z5 (n:Nod) (s:ByteArray) (b:Int) (hn:NIn n) (h1:b≤9223372036854775807) (h0 : -9223372036854775808≤b):Tot (λ k=>Ee k n s b) (λ r=>r=V2a n s b):=by
 unfold Ee V2a
 refine Tot.bind (N5 n hn) ?_
 rintro n rfl
 refine Tot.bind (W6 hn.1.1.1.1.1 hn.1.2.1 s) ?_
 rintro r rfl
 refine Tot.bind (W7 n hn) ?_
 rintro r rfl
 cases h:Mn n with
 |false=>exact Tot.yes rfl (Tot.pure rfl)
 |true=>
  refine Tot.no rfl ?_
  cases hl:(lkD n.2.1 s).2==0 with
  |false=>exact Tot.yes (by unfold bne; rw [hl]; rfl) (Tot.pure rfl)
  |true=>
   refine Tot.no (by unfold bne; rw [hl]; rfl) (Tot.bind (Z5a (NG.g ⟨h,hn.1.2⟩) h1 h0) ?_)
   rintro r rfl
   cases (Lca n.2.1 s b).2 with
   |false=>exact Tot.yes rfl (Tot.pure rfl)
   |true=>exact Tot.no rfl (Tot.pure rfl)
theorem N4a:∀ (m:Nat) (i:Int) (c:Cur) (z:Nod) (n:Nod),i=m→m≤6→D0 c→NG n→
  Tot (λ k=>Fi k i c.1 c.2.1 c.2.2 z.1 z.2.1.1 z.2.1.2 z.2.2.1 z.2.2.2 n.1 n.2.1.1 n.2.1.2 n.2.2.1 n.2.2.2) (λ r=>∃ c' n',D0 c'∧NG n'∧r=(c'.1,c'.2.1,c'.2.2,z.1,z.2.1.1,z.2.1.2,z.2.2.1,z.2.2.2,n'.1,n'.2.1.1,n'.2.1.2,n'.2.2.1,n'.2.2.2)):=by
 intro m
 induction m with
 |zero=>
  intro i c z n hi h6 hc hn
  refine Tot.succ ?_
  simp only [Fi]
  exact Tot.ndec (by omega) (Tot.pure ⟨c,n,hc,hn,rfl⟩)
 |succ m ih=>
  intro i c z n hi h6 hc hn
  refine Tot.succ ?_
  simp only [Fi]
  refine Tot.dec (by omega) ?_
  rw [w64 (n:=i - 1) (by omega) (by omega)]
  obtain ⟨s,c1,e1,hs,k1⟩:=Ns c hc
  refine Tot.bind (Tot.of (Q:=λ r=>r=(s,c1)) e1 rfl) ?_
  rintro r rfl
  refine Tot.bind (P5 c1 k1) (λ f hf=>?_)
  obtain ⟨b,c2,e2,k2⟩:=P4 f.2 hf.2 3 (by decide)
  refine Tot.bind (Tot.of (Q:=λ r=>r=(b,c2)) e2 rfl) ?_
  rintro r rfl
  refine Tot.bind (Ina n s f.1 (!b) (Asa hn) (Lt s hs).1) ?_
  rintro q rfl
  exact ih (i - 1) c2 z _ (by omega) (by omega) k2 (Bpb hn)
def Cr:Nod:=((0:Int),(([]:List Nmd),([]:List Nmd)),([]:List Row),([]:List Row))
theorem Z6 (i:Int):Gf i=some (bif inR i 0 20 then (i,([],[]),[],[]) else Cr):=by
 unfold Gf
 rw [Ng]
 simp only [Option.bind_some]
 cases inR i 0 20<;>rfl
theorem Rea {l:List Row} (h:Kqa l) (hl:l.length≤60):Kk l=true:=Mr.2 ⟨h.1,λ r hr=>Ula (h.2 r hr),hl⟩
theorem Rfa (c:Cur) (hc:D0 c):Tot (λ k=>Ei k c) (λ r=>NG r.1∧D0 r.2):=by
 unfold Ei
 obtain ⟨x,c1,e1,x0,x1,_,k1⟩:=Ai c hc 6 (by decide)
 have x1:=x1 (by decide)
 refine Tot.bind (Tot.of (Q:=λ r=>r=(x,c1)) e1 rfl) ?_
 rintro r rfl
 refine Tot.bind (Tot.of (Q:=λ r=>r=(x,([],[]),[],[])) (by rw [Z6,Ew.2 ⟨by dsimp only; omega,by dsimp only; omega⟩]; rfl) rfl) ?_
 rintro r rfl
 obtain ⟨y,c2,e2,y0,y1,_,k2⟩:=Ai c1 k1 6 (by decide)
 have y1:=y1 (by decide)
 refine Tot.bind (Tot.of (Q:=λ r=>r=(y,c2)) e2 rfl) ?_
 rintro r rfl
 have hn0:NG (x,(([]:List Nmd),([]:List Nmd)),([]:List Row),([]:List Row)):=⟨Di.2 ⟨(by simp),⟨by dsimp only; omega,by dsimp only; omega⟩,(show Al ([],[])=true by decide),(show Kk []=true by decide),(by simp)⟩,λ x hx=>(by cases hx),λ x hx=>(by cases hx)⟩
 refine Tot.bind (N4a y.toNat y c2 Cr _ (by omega) (by omega) k2 hn0) ?_
 rintro r ⟨c3,n,k3,hn,rfl⟩
 have rot:∀ (n:Nod) (c:Cur),NG n→D0 c→Tot (λ k=>(Bi c).bind λ r9=>(A3 r9.2 40).bind λ r10=>(Ee k n r9.1 r10.1).bind λ r11=>some (r11.1,r10.2)) (λ r=>NG r.1∧D0 r.2):=by
  intro n c hn hc
  obtain ⟨s,c1,e1,hs,k1⟩:=Ns c hc
  refine Tot.bind (Tot.of (Q:=λ r=>r=(s,c1)) e1 rfl) ?_
  rintro r rfl
  obtain ⟨x,c2,e2,x0,x1,_,k2⟩:=Ai c1 k1 40 (by decide)
  have x1:=x1 (by decide)
  refine Tot.bind (Tot.of (Q:=λ r=>r=(x,c2)) e2 rfl) ?_
  rintro r rfl
  refine Tot.bind (Z5 n s x (Asa hn) (by omega) (by omega)) ?_
  rintro r rfl
  exact Tot.pure ⟨X2a hn,k2⟩
 obtain ⟨b,c4,e4,k4⟩:=P4 c3 k3 2 (by decide)
 refine Tot.bind (Tot.of (Q:=λ r=>r=(b,c4)) e4 rfl) ?_
 rintro r rfl
 refine Tot.ite (λ _=>?_) (λ _=>?_)
 ·refine Tot.bind (Xz c4 k4) ?_
  rintro ⟨l,c5⟩ ⟨k5,hl,hl5⟩
  refine Tot.bind (V0a n l (Asa hn) (Ima (Rea hl (by dsimp only at hl5; omega)))) ?_
  rintro r rfl
  obtain ⟨b,c6,e6,k6⟩:=P4 c5 k5 3 (by decide)
  refine Tot.bind (Tot.of (Q:=λ r=>r=(b,c6)) e6 rfl) ?_
  rintro r rfl
  exact Tot.ite (λ _=>rot _ c6 (Rca hn) k6) (λ _=>Tot.pure ⟨Rca hn,k6⟩)
 ·obtain ⟨b,c6,e6,k6⟩:=P4 c4 k4 3 (by decide)
  refine Tot.bind (Tot.of (Q:=λ r=>r=(b,c6)) e6 rfl) ?_
  rintro r rfl
  exact Tot.ite (λ _=>rot n c6 hn k6) (λ _=>Tot.pure ⟨hn,k6⟩)
theorem X3a {l:List Row} {x:Row} (h:RF l) (hl:l.length≤999) (hx:Kj x.1):RF (l++[x]):=by
 refine ⟨by simp only [List.length_append,List.length_cons,List.length_nil]; omega,λ y hy=>?_⟩
 rcases List.mem_append.1 hy with hy|hy
 ·exact h.2 y hy
 ·rw [List.mem_singleton.1 hy]; exact hx
theorem N5a (z n:Nod) (hs:Kj ((⟨#[97]⟩:ByteArray))):∀ (m:Nat) (c:Cur) (q:List Row),61 - q.length≤m→D0 c→RF q→q.length≤61→
  Tot (λ k=>Fj k c.1 c.2.1 c.2.2 z.1 z.2.1.1 z.2.1.2 z.2.2.1 z.2.2.2 n.1 n.2.1.1 n.2.1.2 n.2.2.1 q) (λ r=>∃ c' q',D0 c'∧RF q'∧r=(z.1,z.2.1.1,z.2.1.2,z.2.2.1,z.2.2.2,n.1,n.2.1.1,n.2.1.2,n.2.2.1,q',c'.1,c'.2.1,c'.2.2)):=by
 intro m
 induction m with
 |zero=>
  intro c q hm hc hq hl
  refine Tot.succ ?_
  simp only [Fj]
  obtain ⟨x,c1,e1,x0,x1,_,k1⟩:=Ai c hc 2 (by decide)
  have x1:=x1 (by decide)
  refine Tot.bind (Tot.of (Q:=λ r=>r=(x,c1)) e1 rfl) ?_
  rintro r rfl
  dsimp only
  rw [w64 (n:=60+x) (by omega) (by omega)]
  exact Tot.ndec (by omega) (Tot.pure ⟨c1,q,k1,hq,rfl⟩)
 |succ m ih=>
  intro c q hm hc hq hl
  refine Tot.succ ?_
  simp only [Fj]
  obtain ⟨x,c1,e1,x0,x1,_,k1⟩:=Ai c hc 2 (by decide)
  have x1:=x1 (by decide)
  refine Tot.bind (Tot.of (Q:=λ r=>r=(x,c1)) e1 rfl) ?_
  rintro r rfl
  dsimp only
  rw [w64 (n:=60+x) (by omega) (by omega)]
  refine Tot.dite (λ h=>Tot.ble (by simp only [List.length_cons,List.length_nil]; omega) ?_) (λ h=>Tot.pure ⟨c1,q,k1,hq,rfl⟩)
  exact ih c1 _ (by simp only [List.length_append,List.length_cons,List.length_nil]; omega) k1 (X3a hq (by omega) hs) (by simp only [List.length_append,List.length_cons,List.length_nil]; omega)
theorem Rga (c:Cur) (hc:D0 c):Tot (λ k=>Fk k c) (λ r=>NIn r.1∧D0 r.2):=by
 unfold Fk
 refine Tot.bind (Rfa c hc) ?_
 rintro ⟨n,c1⟩ ⟨hg,k1⟩
 have hn:=Asa hg
 have hq60:=(Di.1 hg.1).2.2.2.2
 obtain ⟨x,c2,e2,_,_,_,k2⟩:=Ai c1 k1 12 (by decide)
 refine Tot.bind (Tot.of (Q:=λ r=>r=(x,c2)) e2 rfl) ?_
 rintro r rfl
 refine Tot.ite (λ _=>?_) (λ _=>Tot.ite (λ _=>?_) (λ _=>Tot.ite (λ _=>?_) (λ _=>Tot.ite (λ _=>?_) (λ _=>Tot.ite (λ _=>?_) (λ _=>Tot.pure ⟨hn,k2⟩)))))
 ·obtain ⟨y,c3,e3,_,k3⟩:=L8 c2 k2 [(-1),20,21] (by decide) (by decide)
  refine Tot.bind (Tot.of (Q:=λ r=>r=(y,c3)) e3 rfl) ?_
  rintro r rfl
  exact Tot.pure ⟨hn,k3⟩
 ·refine Tot.bind (Bob c2 k2) (λ r hr=>Tot.pure ⟨⟨hr.1,hn.2⟩,hr.2⟩)
 ·refine Tot.bind (Ffa c2 k2) (λ r hr=>Tot.pure ⟨⟨hn.1,⟨by have:=hr.2.1; dsimp only; omega,hr.2.2⟩,hn.2.2⟩,hr.1⟩)
 ·obtain ⟨s,c3,e3,hs,k3⟩:=Pr c2 k2
  refine Tot.bind (Tot.of (Q:=λ r=>r=(s,c3)) e3 rfl) ?_
  rintro r rfl
  exact Tot.ble (by dsimp only at hq60 ⊢; simp only [List.length_cons,List.length_nil]; omega) (Tot.pure ⟨⟨hn.1,hn.2.1,X3a hn.2.2 (by dsimp only at hq60 ⊢; omega) hs⟩,k3⟩)
 ·refine Tot.bind (N5a Cr n (by unfold Kj; decide) 61 c2 n.2.2.2 (by omega) k2 hn.2.2 (by dsimp only at hq60; omega)) ?_
  rintro r ⟨c3,q,k3,hq,rfl⟩
  exact Tot.pure ⟨⟨hn.1,hn.2.1,hq⟩,k3⟩

abbrev Dev:=Int×Int×Int
abbrev Rng:=Int×List (List Int)
def My:Dev:=((0:Int),((0:Int),(0:Int)))
def Ny (l:List Int) (n:Int):Bool:=l.any (· == n)
theorem Rf {l:List Int} {n:Int}:Ny l n=true↔n∈l:=by
 unfold Ny
 rw [List.any_eq_true]
 constructor
 ·rintro ⟨x,hx,e⟩; rw [← eq_of_beq e]; exact hx
 ·intro h; exact ⟨n,h,beq_self_eq_true n⟩
theorem Z7a (l:List Int) (n:Int) (hl:l.length≤4000000000000000):Tot (λ k=>Je k l n) (λ r=>r=Ny l n):=by
 unfold Je
 refine Tot.bind (Q:=λ r=>r=bif Ny l n then .inl true else .inr ()) ?_ (by rintro r rfl; cases Ny l n<;>exact Tot.pure rfl)
 refine Tot.up (L:=λ k i (_:Unit)=>H1 k n l (l.length:Int) i) (Q:=λ r=>r=bif Ny l n then .inl true else .inr ()) l.length (λ j _=>Ny (l.drop j) n=Ny l n) ?_ ?_ 0 () (Nat.zero_le _) rfl
 ·intro _ h
  rw [List.drop_length] at h
  simp (disch:=omega) only [H1,dF,← h]
  exact Tot.pure rfl
 ·intro j _ hj h next
  rw [Aq (d:=0) hj] at h
  simp (disch:=omega) only [H1,dT,Int.toNat_natCast,w64]
  unfold Ny at h
  rw [List.any_cons] at h
  refine Tot.ite (λ hc=>Tot.pure ?_) (λ hc=>next () ?_)
  ·rw [hc,Bool.true_or] at h
   unfold Ny
   rw [← h]
   rfl
  ·rw [hc,Bool.false_or] at h
   exact h
theorem Sc (l:List Int) (n:Int) (hl:l.length≤4000000000000000):Tot (λ k=>C7 k l n) (λ r=>r=Ny l n):=by
 unfold C7
 refine Tot.bind (Q:=λ r=>r=bif Ny l n then .inl true else .inr ()) ?_ (by rintro r rfl; cases Ny l n<;>exact Tot.pure rfl)
 refine Tot.up (L:=λ k i (_:Unit)=>Hu k l n i) (Q:=λ r=>r=bif Ny l n then .inl true else .inr ()) l.length (λ j _=>Ny (l.drop j) n=Ny l n) ?_ ?_ 0 () (Nat.zero_le _) rfl
 ·intro _ h
  rw [List.drop_length] at h
  simp (disch:=omega) only [Hu,dF,← h]
  exact Tot.pure rfl
 ·intro j _ hj h next
  rw [Aq (d:=0) hj] at h
  simp (disch:=omega) only [Hu,dT,Int.toNat_natCast,w64]
  unfold Ny at h
  rw [List.any_cons] at h
  refine Tot.ite (λ hc=>Tot.pure ?_) (λ hc=>next () ?_)
  ·rw [hc,Bool.true_or] at h
   unfold Ny
   rw [← h]
   rfl
  ·rw [hc,Bool.false_or] at h
   exact h
def Jo (l:List Dev) (id:Int):Option Dev:=l.find? (λ d=>d.1==id)
def D1b:Option Dev→Dev×Bool
 |some d=>(d,true)
 |none=>(My,false)
theorem Uc {l:List Dev} {id:Int} {d:Dev} (h:Jo l id=some d):d∈l∧d.1=id:=⟨List.mem_of_find?_eq_some h,eq_of_beq (List.find?_some (p:=λ d:Dev=>d.1==id) h)⟩
theorem Rha (l:List Dev) (id:Int) (hl:l.length≤1000000000):Tot (λ k=>Kd k l id) (λ r=>r=D1b (Jo l id)):=by
 unfold Kd
 refine Tot.bind (Q:=λ r=>r=match Jo l id with|some d => .inl (true,d)|none => .inr (0,0,0)) ?_ (by rintro r rfl; cases Jo l id<;>exact Tot.pure rfl)
 refine Tot.up (L:=λ k i (_:Unit)=>I5 k id l (l.length:Int) i (0,0,0)) (Q:=λ r=>r=match Jo l id with|some d => .inl (true,d)|none => .inr (0,0,0)) l.length (λ j _=>Jo (l.drop j) id=Jo l id) ?_ ?_ 0 () (Nat.zero_le _) rfl
 ·intro _ h
  rw [List.drop_length] at h
  simp (disch:=omega) only [I5,dF,← h]
  exact Tot.pure rfl
 ·intro j _ hj h next
  rw [Aq (d:=My) hj] at h
  unfold Jo at h
  rw [List.find?_cons] at h
  simp (disch:=omega) only [I5,dT,Int.toNat_natCast,w64]
  refine Tot.ite (λ hc=>Tot.pure ?_) (λ hc=>next () ?_)
  ·rw [show ((l.getD j My).1==id)=true from hc] at h
   unfold Jo
   rw [← h]
   rfl
  ·rw [show ((l.getD j My).1==id)=false from hc] at h
   exact h
theorem Qq (l:List Dev) (id:Int) (hl:l.length≤1000000000):Tot (λ k=>Dq k l id) (λ r=>r=D1b (Jo l id)):=by
 unfold Dq
 refine Tot.bind (Q:=λ r=>r=match Jo l id with|some d => .inl (true,d)|none => .inr (0,0,0)) ?_ (by rintro r rfl; cases Jo l id<;>exact Tot.pure rfl)
 refine Tot.up (L:=λ k i (_:Unit)=>Hv k l id i (0,0,0)) (Q:=λ r=>r=match Jo l id with|some d => .inl (true,d)|none => .inr (0,0,0)) l.length (λ j _=>Jo (l.drop j) id=Jo l id) ?_ ?_ 0 () (Nat.zero_le _) rfl
 ·intro _ h
  rw [List.drop_length] at h
  simp (disch:=omega) only [Hv,dF,← h]
  exact Tot.pure rfl
 ·intro j _ hj h next
  rw [Aq (d:=My) hj] at h
  unfold Jo at h
  rw [List.find?_cons] at h
  simp (disch:=omega) only [Hv,dT,Int.toNat_natCast,w64]
  refine Tot.ite (λ hc=>Tot.pure ?_) (λ hc=>next () ?_)
  ·rw [show ((l.getD j My).1==id)=true from hc] at h
   unfold Jo
   rw [← h]
   rfl
  ·rw [show ((l.getD j My).1==id)=false from hc] at h
   exact h
def Z7 (d:Dev):Bool:=inR d.1 0 20&&(inR d.2.1 0 20&&inR d.2.2 1 1000)
def V0:Option Int→List Dev→Bool
 |_,[]=>true
 |none,d::l=>Z7 d&&V0 (some d.1) l
 |some q,d::l=>Z7 d&&(decide (q<d.1)&&V0 (some d.1) l)
def Lb (l:List Dev):Bool:=V0 none l&&inR (l.length:Int) 1 12
def Fza (l:List Dev):Nat→Option Int
 |0=>none
 |i+1=>some (l.getD i My).1
theorem Dga:∀ (p:Option Int) (l:List Dev),V0 p l=true↔l.Pairwise (λ a b=>a.1<b.1)∧(∀ d∈l,Z7 d=true)∧(∀ q,p=some q→∀ d∈l,q<d.1)
 |p,[]=>by cases p<;>simp [V0]
 |none,d::l=>by
  simp only [V0,Bool.and_eq_true,Dga (some d.1) l,List.pairwise_cons,List.mem_cons,forall_eq_or_imp,Option.some.injEq]
  constructor
  ·rintro ⟨h1,h2,h3,h4⟩; exact ⟨⟨h4 _ rfl,h2⟩,⟨h1,h3⟩,λ q h=>by cases h⟩
  ·rintro ⟨⟨h1,h2⟩,⟨h3,h4⟩,_⟩; exact ⟨h3,h2,h4,λ q e=>by subst e; exact h1⟩
 |some q,d::l=>by
  simp only [V0,Bool.and_eq_true,decide_eq_true_iff,Dga (some d.1) l,List.pairwise_cons,List.mem_cons,forall_eq_or_imp,Option.some.injEq]
  constructor
  ·rintro ⟨h1,hq,h2,h3,h4⟩
   exact ⟨⟨h4 _ rfl,h2⟩,⟨h1,h3⟩,λ q' e=>by subst e; exact ⟨hq,λ x hx=>by have:=h4 _ rfl x hx; omega⟩⟩
  ·rintro ⟨⟨h1,h2⟩,⟨h3,h4⟩,h5⟩
   exact ⟨h3,(h5 q rfl).1,h2,h4,λ q e=>by subst e; exact h1⟩
theorem Hs {l:List Dev}:Lb l=true↔l.Pairwise (λ a b=>a.1<b.1)∧(∀ d∈l,Z7 d=true)∧1≤l.length∧l.length≤12:=by
 unfold Lb
 rw [Bool.and_eq_true,Dga,Ew]
 constructor
 ·rintro ⟨⟨h1,h2,_⟩,h3,h4⟩; exact ⟨h1,h2,by omega,by omega⟩
 ·rintro ⟨h1,h2,h3,h4⟩; exact ⟨⟨h1,h2,λ q h=>by cases h⟩,by omega,by omega⟩
theorem N6 {d:Dev}:Z7 d=true↔(0≤d.1∧d.1≤20)∧(0≤d.2.1∧d.2.1≤20)∧1≤d.2.2∧d.2.2≤1000:=by
 unfold Z7
 rw [Bool.and_eq_true,Bool.and_eq_true,Ew,Ew,Ew]
theorem G0a {l:List Dev} {j:Nat} (hj:j<l.length):V0 (Fza l j) (l.drop j)=(Z7 (l.getD j My)&&((bif decide (0<j) then decide ((l.getD (j - 1) My).1<(l.getD j My).1) else true)&&V0 (Fza l (j+1)) (l.drop (j+1)))):=by
 rw [Aq (d:=My) hj]
 cases j with
 |zero=>simp [Fza,V0]
 |succ j=>simp [Fza,V0]
theorem V3a (l:List Dev) (hl:l.length≤1000000000):Tot (λ k=>Ga k l) (λ r=>r=Lb l):=by
 unfold Ga Lb
 refine Tot.bind (Q:=λ r=>r=bif V0 none l then .inr l else .inl false) ?_ ?_
 ·refine Tot.up (L:=λ k i (_:Unit)=>Fw k l l (l.length:Int) i) (Q:=λ r=>r=bif V0 none l then .inr l else .inl false) l.length (λ j _=>V0 (Fza l j) (l.drop j)=V0 none l) ?_ ?_ 0 () (Nat.zero_le _) rfl
  ·intro _ h
   rw [List.drop_length] at h
   have:V0 none l=true:=by rw [← h]; cases Fza l l.length<;>rfl
   simp (disch:=omega) only [Fw,dF,this]
   exact Tot.pure rfl
  ·intro j _ hj h next
   rw [G0a hj] at h
   simp (disch:=omega) only [Fw,dT,Int.toNat_natCast,w64,Y0,Option.bind_some]
   have e0:l.getD j ((0:Int),((0:Int),(0:Int)))=l.getD j My:=rfl
   rw [e0]
   have no:Z7 (l.getD j My)=false→V0 none l=false:=λ c=>by rw [← h,c]; rfl
   unfold Z7 at no h
   refine Tot.ite (λ hc=>Tot.pure ?_) (λ h1=>Tot.ite (λ hc=>Tot.pure ?_) (λ h2=>Tot.ite (λ hc=>Tot.pure ?_) (λ h3=>?_)))
   ·rw [no (by rw [Bool.not_eq_true'] at hc; rw [hc]; rfl)]; rfl
   ·rw [no (by rw [Bool.not_eq_true'] at hc; rw [hc,Bool.false_and,Bool.and_false])]; rfl
   ·rw [no (by rw [Bool.not_eq_true'] at hc; rw [hc,Bool.and_false,Bool.and_false])]; rfl
   ·rw [Bool.not_eq_false'] at h1 h2 h3
    rw [h1,h2,h3] at h
    refine Tot.dite (λ h0=>?_) (λ h0=>next () ?_)
    ·simp (disch:=omega) only [dT,w64,show Int.toNat ((j:Int) - 1)=j - 1 by omega]
     rw [decide_eq_true (show 0<j by omega)] at h
     refine Tot.dite (λ hc=>Tot.pure ?_) (λ hc=>next () ?_)
     ·have hc':¬ ((l.getD (j - 1) My).1<(l.getD j My).1):=by
       have:(l.getD (j - 1) My).1≥(l.getD j My).1:=hc
       omega
      rw [decide_eq_false hc'] at h
      rw [← h]; rfl
     ·have hc':(l.getD (j - 1) My).1<(l.getD j My).1:=by
       have:¬ ((l.getD (j - 1) My).1≥(l.getD j My).1):=hc
       omega
      rw [decide_eq_true hc'] at h
      exact h
    ·rw [decide_eq_false (show ¬ 0<j by omega)] at h
     exact h
 ·rintro r rfl
  cases V0 none l with
  |false=>exact Tot.pure rfl
  |true=>
   simp only [cond_true,Sum.elim_inr,Y0,Option.bind_some]
   exact Tot.pure rfl
theorem W9 (l:List Dev) (hl:l.length≤1000000000):Tot (λ k=>Bm k l) (λ r=>r=Lb l):=by
 unfold Bm Lb
 refine Tot.bind (Q:=λ r=>r=bif V0 none l then .inr l else .inl false) ?_ ?_
 ·refine Tot.up (L:=λ k i (_:Unit)=>Fq k l i) (Q:=λ r=>r=bif V0 none l then .inr l else .inl false) l.length (λ j _=>V0 (Fza l j) (l.drop j)=V0 none l) ?_ ?_ 0 () (Nat.zero_le _) rfl
  ·intro _ h
   rw [List.drop_length] at h
   have:V0 none l=true:=by rw [← h]; cases Fza l l.length<;>rfl
   simp (disch:=omega) only [Fq,dF,this]
   exact Tot.pure rfl
  ·intro j _ hj h next
   rw [G0a hj] at h
   simp (disch:=omega) only [Fq,dT,Int.toNat_natCast,w64,Ng,Option.bind_some]
   have e0:l.getD j ((0:Int),((0:Int),(0:Int)))=l.getD j My:=rfl
   rw [e0]
   have no:Z7 (l.getD j My)=false→V0 none l=false:=λ c=>by rw [← h,c]; rfl
   unfold Z7 at no h
   refine Tot.ite (λ hc=>Tot.pure ?_) (λ h1=>Tot.ite (λ hc=>Tot.pure ?_) (λ h2=>Tot.ite (λ hc=>Tot.pure ?_) (λ h3=>?_)))
   ·rw [no (by rw [Bool.not_eq_true'] at hc; rw [hc]; rfl)]; rfl
   ·rw [no (by rw [Bool.not_eq_true'] at hc; rw [hc,Bool.false_and,Bool.and_false])]; rfl
   ·rw [no (by rw [Bool.not_eq_true'] at hc; rw [hc,Bool.and_false,Bool.and_false])]; rfl
   ·rw [Bool.not_eq_false'] at h1 h2 h3
    rw [h1,h2,h3] at h
    refine Tot.dite (λ h0=>?_) (λ h0=>next () ?_)
    ·simp (disch:=omega) only [dT,w64,show Int.toNat ((j:Int) - 1)=j - 1 by omega]
     rw [decide_eq_true (show 0<j by omega)] at h
     refine Tot.dite (λ hc=>Tot.pure ?_) (λ hc=>next () ?_)
     ·have hc':¬ ((l.getD (j - 1) My).1<(l.getD j My).1):=by
       have:(l.getD (j - 1) My).1≥(l.getD j My).1:=hc
       omega
      rw [decide_eq_false hc'] at h
      rw [← h]; rfl
     ·have hc':(l.getD (j - 1) My).1<(l.getD j My).1:=by
       have:¬ ((l.getD (j - 1) My).1≥(l.getD j My).1):=hc
       omega
      rw [decide_eq_true hc'] at h
      exact h
    ·rw [decide_eq_false (show ¬ 0<j by omega)] at h
     exact h
 ·rintro r rfl
  cases V0 none l with
  |false=>exact Tot.pure rfl
  |true=>
   simp only [cond_true,Sum.elim_inr,Ng,Option.bind_some]
   exact Tot.pure rfl
def Ioa (l:List Dev) (out:List Int) (id:Int):List Int:=match Jo l id with
 |some d=>bif Ny out d.2.1 then out else out++[d.2.1]
 |none=>out
def Jz (ids:List Int) (l:List Dev):List Int:=ids.foldl (Ioa l) []
theorem G1a (l:List Dev) (out:List Int) (id:Int):(Ioa l out id).length≤out.length+1:=by
 unfold Ioa
 cases Jo l id with
 |none=>exact Nat.le_succ _
 |some d=>
  simp only
  cases Ny out d.2.1 with
  |true=>exact Nat.le_succ _
  |false=>rw [cond_false,List.length_append]; exact Nat.le_refl _
theorem G2a (l:List Dev):∀ (ids out:List Int),(ids.foldl (Ioa l) out).length≤out.length+ids.length
 |[],out=>by simp
 |id::ids,out=>by
  have h1:=G2a l ids (Ioa l out id)
  have h2:=G1a l out id
  rw [List.foldl_cons,List.length_cons]
  omega
theorem G3a (ids:List Int) (l:List Dev) (hi:ids.length≤5000000) (hl:l.length≤5000000):Tot (λ k=>Ci k ids l) (λ r=>r=Jz ids l):=by
 unfold Ci
 refine Tot.bind (Q:=λ r=>r=Jz ids l) ?_ (by rintro r rfl; exact Tot.pure rfl)
 refine Tot.up (L:=λ k i s=>D7 k ids l s i) (Q:=λ r=>r=Jz ids l) ids.length (λ j s=>(ids.drop j).foldl (Ioa l) s=Jz ids l∧s.length≤j) ?_ ?_ 0 [] (Nat.zero_le _) ⟨rfl,Nat.le_refl _⟩
 ·rintro s ⟨h,_⟩
  rw [List.drop_length] at h
  simp (disch:=omega) only [D7,dF]
  exact Tot.pure h
 ·rintro j s hj ⟨h,hs⟩ next
  rw [Aq (d:=0) hj,List.foldl_cons] at h
  simp (disch:=omega) only [D7,dT,Int.toNat_natCast,w64]
  have hz:=G1a l s (ids.getD j 0)
  refine Tot.bind (Qq l (ids.getD j 0) (by omega)) ?_
  rintro r rfl
  unfold Ioa at h hz
  cases hd:Jo l (ids.getD j 0) with
  |none=>
   rw [hd] at h
   exact Tot.no rfl (next _ ⟨h,by omega⟩)
  |some d=>
   rw [hd] at h hz
   refine Tot.yes rfl (Tot.bind (Sc s d.2.1 (by omega)) ?_)
   rintro r rfl
   simp only at h hz
   cases hh:Ny s d.2.1 with
   |true=>
    rw [hh] at h
    exact Tot.no rfl (next _ ⟨h,by omega⟩)
   |false=>
    rw [hh] at h hz
    exact Tot.yes rfl (Tot.ble (by simp only [List.length_cons,List.length_nil]; omega) (next _ ⟨h,by rw [cond_false] at hz; exact Nat.le_trans hz (by omega)⟩))

theorem Qr {l:List Int} {j:Nat} (hj:j<l.length) (h:(l.take j).Nodup) (hn:l.getD j 0∉l.take j):(l.take (j+1)).Nodup:=by
 rw [List.take_succ_eq_append_getElem hj,List.nodup_append]
 rw [List.getD_eq_getElem?_getD,List.getElem?_eq_getElem hj,Option.getD_some] at hn
 exact ⟨h,by simp,λ a ha b hb e=>by rw [List.mem_singleton.1 hb] at e; subst e; exact hn ha⟩
theorem G4a {l:List Int} {j:Nat} (hj:j<l.length) (hn:l.getD j 0∈l.take j):¬ l.Nodup:=by
 intro h
 have h1:(l.take (j+1)).Nodup:=h.sublist (List.take_sublist _ _)
 rw [List.take_succ_eq_append_getElem hj,List.nodup_append] at h1
 rw [List.getD_eq_getElem?_getD,List.getElem?_eq_getElem hj,Option.getD_some] at hn
 exact h1.2.2 _ hn _ (by simp) rfl
theorem Ria (l:List Int) (hl:l.length≤5000000):Tot (λ k=>Ig k l) (λ r=>r=decide l.Nodup):=by
 unfold Ig
 refine Tot.bind (Q:=λ r=>r=bif decide l.Nodup then .inr () else .inl false) ?_ (by rintro r rfl; cases decide l.Nodup<;>exact Tot.pure rfl)
 refine Tot.up (L:=λ k i (_:Unit)=>I4 k l l (l.length:Int) i) (Q:=λ r=>r=bif decide l.Nodup then .inr () else .inl false) l.length (λ j _=>(l.take j).Nodup) ?_ ?_ 0 () (Nat.zero_le _) (by simp)
 ·intro _ h
  rw [List.take_length] at h
  simp (disch:=omega) only [I4,dF,decide_eq_true h]
  exact Tot.pure rfl
 ·intro j _ hj h next
  simp (disch:=omega) only [I4,dT,Int.toNat_natCast,w64]
  refine Tot.bind (Z7a (l.take j) (l.getD j 0) (by rw [List.length_take]; omega)) ?_
  rintro r rfl
  refine Tot.ite (λ hc=>Tot.pure ?_) (λ hc=>next () (Qr hj h (λ c=>by rw [Rf.2 c] at hc; cases hc)))
  rw [decide_eq_false (G4a hj (Rf.1 hc))]
  rfl
theorem Lea (l:List Int) (n:Int) (hl:l.length≤5000000):Tot (λ k=>Dt k l n) (λ r=>r=(decide l.Nodup&&((l.length:Int)==n))):=by
 unfold Dt
 refine Tot.bind (Q:=λ r=>r=bif decide l.Nodup then .inr (n,l) else .inl false) ?_ (by rintro r rfl; cases decide l.Nodup<;>exact Tot.pure rfl)
 refine Tot.up (L:=λ k i (_:Unit)=>Gw k n i l) (Q:=λ r=>r=bif decide l.Nodup then .inr (n,l) else .inl false) l.length (λ j _=>(l.take j).Nodup) ?_ ?_ 0 () (Nat.zero_le _) (by simp)
 ·intro _ h
  rw [List.take_length] at h
  simp (disch:=omega) only [Gw,dF,decide_eq_true h]
  exact Tot.pure rfl
 ·intro j _ hj h next
  simp (disch:=omega) only [Gw,dT,Int.toNat_natCast,w64]
  refine Tot.bind (Sc (l.take j) (l.getD j 0) (by rw [List.length_take]; omega)) ?_
  rintro r rfl
  refine Tot.ite (λ hc=>Tot.pure ?_) (λ hc=>next () (Qr hj h (λ c=>by rw [Rf.2 c] at hc; cases hc)))
  rw [decide_eq_false (G4a hj (Rf.1 hc))]
  rfl
def RBd (r:Rng):Prop:=r.2.length≤2000000∧∀ p∈r.2,p.length≤2000000
def Lu (l:List Dev) (n:Int) (p:List Int):Bool:=(decide p.Nodup&&((p.length:Int)==n))&&p.all λ id=>(Jo l id).isSome
def Ir (r:Rng) (l:List Dev):Bool:=Lb l&&(inR r.1 1 5&&(inR (r.2.length:Int) 1 64&&r.2.all (Lu l r.1)))
theorem Dj {r:Rng} {l:List Dev}:Ir r l=true↔Lb l=true∧(1≤r.1∧r.1≤5)∧(1≤r.2.length∧r.2.length≤64)∧∀ p∈r.2,p.Nodup∧(p.length:Int)=r.1∧∀ id∈p,∃ d,Jo l id=some d:=by
 unfold Ir Lu
 simp only [Bool.and_eq_true,Ew,List.all_eq_true,decide_eq_true_iff,beq_iff_eq,Option.isSome_iff_exists]
 constructor
 ·rintro ⟨h1,h2,⟨h3,h4⟩,h5⟩; exact ⟨h1,h2,⟨by omega,by omega⟩,λ p hp=>⟨(h5 p hp).1.1,(h5 p hp).1.2,(h5 p hp).2⟩⟩
 ·rintro ⟨h1,h2,⟨h3,h4⟩,h5⟩; exact ⟨h1,h2,⟨by omega,by omega⟩,λ p hp=>⟨⟨(h5 p hp).1,(h5 p hp).2.1⟩,(h5 p hp).2.2⟩⟩
theorem Nz {r:Rng} {l:List Dev} (h:Ir r l=true):RBd r:=by
 obtain ⟨_,h2,h3,h4⟩:=Dj.1 h
 exact ⟨by omega,λ p hp=>by have:=(h4 p hp).2.1; omega⟩
theorem V4a (r:Rng) (l:List Dev) (hr:RBd r) (hl:l.length≤5000000):Tot (λ k=>Ep k r l) (λ b=>b=Ir r l):=by
 unfold Ep Ir
 refine Tot.bind (V3a l (by omega)) ?_
 rintro b rfl
 cases hd:Lb l with
 |false=>exact Tot.yes rfl (Tot.pure rfl)
 |true=>
  have hrl:=hr.1
  simp only [Bool.not_true,cond_false,Y0,Option.bind_some,Bool.true_and]
  cases inR r.1 1 5 with
  |false=>exact Tot.yes rfl (Tot.pure rfl)
  |true=>
   refine Tot.no rfl ?_
   cases inR (r.2.length:Int) 1 64 with
   |false=>exact Tot.yes rfl (Tot.pure rfl)
   |true=>
    refine Tot.no rfl (Tot.bind (Q:=λ b=>b=bif r.2.all (Lu l r.1) then .inr () else .inl false) ?_ (by rintro r' rfl; cases r.2.all (Lu l r.1)<;>exact Tot.pure rfl))
    refine Tot.up (L:=λ k i (_:Unit)=>H3 k l r.2 (r.2.length:Int) i r) (Q:=λ b=>b=bif r.2.all (Lu l r.1) then .inr () else .inl false) r.2.length (λ j _=>(r.2.drop j).all (Lu l r.1)=r.2.all (Lu l r.1)) ?_ ?_ 0 () (Nat.zero_le _) rfl
    ·intro _ h
     rw [List.drop_length] at h
     simp (disch:=omega) only [H3,dF,← h]
     exact Tot.pure rfl
    ·intro j _ hj h next
     rw [Aq (d:=[]) hj,List.all_cons] at h
     have hp:=hr.2 _ (A4 (d:=[]) hj)
     simp (disch:=omega) only [H3,dT,Int.toNat_natCast,w64]
     have no:Lu l r.1 (r.2.getD j [])=false→r.2.all (Lu l r.1)=false:=λ c=>by rw [← h,c]; rfl
     unfold Lu at no h
     refine Tot.ite (λ hc=>Tot.pure ?_) (λ h1=>Tot.bind (Ria (r.2.getD j []) (by omega)) ?_)
     ·have hc':(((r.2.getD j []).length:Int)==r.1)=false:=by simpa using hc
      rw [show r.2.all (Lu l r.1)=false from no (by rw [hc',Bool.and_false,Bool.false_and])]
      rfl
     ·have h1':(((r.2.getD j []).length:Int)==r.1)=true:=by simpa using h1
      rintro b rfl
      refine Tot.ite (λ hc=>Tot.pure ?_) (λ h2=>?_)
      ·rw [show r.2.all (Lu l r.1)=false from no (by rw [Bool.not_eq_true'] at hc; rw [hc]; rfl)]
       rfl
      ·rw [Bool.not_eq_false'] at h2
       generalize r.2.getD j []=p at *
       refine Tot.bind (Q:=λ b=>b=bif p.all (λ id=>(Jo l id).isSome) then .inr (l,r.2,(r.2.length:Int),(j:Int),r) else .inl false) ?_ ?_
       ·refine Tot.up (L:=λ k i (_:Unit)=>H2 k l r.2 (r.2.length:Int) (j:Int) p (p.length:Int) i r) (Q:=λ b=>b=bif p.all (λ id=>(Jo l id).isSome) then .inr (l,r.2,(r.2.length:Int),(j:Int),r) else .inl false) p.length (λ m _=>(p.drop m).all (λ id=>(Jo l id).isSome)=p.all (λ id=>(Jo l id).isSome)) ?_ ?_ 0 () (Nat.zero_le _) rfl
        ·intro _ h
         rw [List.drop_length] at h
         simp (disch:=omega) only [H2,dF,← h]
         exact Tot.pure rfl
        ·intro m _ hm h next
         rw [Aq (d:=0) hm,List.all_cons] at h
         simp (disch:=omega) only [H2,dT,Int.toNat_natCast,w64]
         refine Tot.bind (Rha l (p.getD m 0) (by omega)) ?_
         rintro b rfl
         cases hd:Jo l (p.getD m 0) with
         |none=>exact Tot.yes rfl (Tot.pure (by rw [← h,hd]; rfl))
         |some d=>exact Tot.no rfl (next () (by rw [hd] at h; exact h))
       ·rintro b rfl
        cases hc:p.all (λ id=>(Jo l id).isSome) with
        |false=>exact Tot.pure (by rw [show r.2.all (Lu l r.1)=false from no (by rw [hc,Bool.and_false])]; rfl)
        |true=>
         simp (disch:=omega) only [cond_true,Sum.elim_inr,w64]
         exact next () (by rw [h2,h1',hc] at h; exact h)
theorem V5a (r:Rng) (l:List Dev) (hr:RBd r) (hl:l.length≤5000000):Tot (λ k=>Es k r l) (λ b=>b=Ir r l):=by
 unfold Es Ir
 refine Tot.bind (W9 l (by omega)) ?_
 rintro b rfl
 cases hd:Lb l with
 |false=>exact Tot.yes rfl (Tot.pure rfl)
 |true=>
  have hrl:=hr.1
  simp only [Bool.not_true,cond_false,Ng,Option.bind_some,Bool.true_and]
  cases inR r.1 1 5 with
  |false=>exact Tot.yes rfl (Tot.pure rfl)
  |true=>
   refine Tot.no rfl ?_
   cases inR (r.2.length:Int) 1 64 with
   |false=>exact Tot.yes rfl (Tot.pure rfl)
   |true=>
    refine Tot.no rfl (Tot.bind (Q:=λ b=>b=bif r.2.all (Lu l r.1) then .inr () else .inl false) ?_ (by rintro r' rfl; cases r.2.all (Lu l r.1)<;>exact Tot.pure rfl))
    refine Tot.up (L:=λ k i (_:Unit)=>H9 k l i r) (Q:=λ b=>b=bif r.2.all (Lu l r.1) then .inr () else .inl false) r.2.length (λ j _=>(r.2.drop j).all (Lu l r.1)=r.2.all (Lu l r.1)) ?_ ?_ 0 () (Nat.zero_le _) rfl
    ·intro _ h
     rw [List.drop_length] at h
     simp (disch:=omega) only [H9,dF,← h]
     exact Tot.pure rfl
    ·intro j _ hj h next
     rw [Aq (d:=[]) hj,List.all_cons] at h
     have hp:=hr.2 _ (A4 (d:=[]) hj)
     simp (disch:=omega) only [H9,dT,Int.toNat_natCast,w64]
     have no:Lu l r.1 (r.2.getD j [])=false→r.2.all (Lu l r.1)=false:=λ c=>by rw [← h,c]; rfl
     unfold Lu at no h
     refine Tot.bind (Lea (r.2.getD j []) r.1 (by omega)) ?_
     rintro b rfl
     refine Tot.ite (λ hc=>Tot.pure ?_) (λ h2=>?_)
     ·rw [show r.2.all (Lu l r.1)=false from no (by rw [Bool.not_eq_true'] at hc; rw [hc]; rfl)]
      rfl
     ·rw [Bool.not_eq_false'] at h2
      refine Tot.bind (Q:=λ b=>b=bif (r.2.getD j []).all (λ id=>(Jo l id).isSome) then .inr (l,(j:Int),r) else .inl false) ?_ ?_
      ·refine Tot.up (L:=λ k i (_:Unit)=>H8 k l (j:Int) i r) (Q:=λ b=>b=bif (r.2.getD j []).all (λ id=>(Jo l id).isSome) then .inr (l,(j:Int),r) else .inl false) (r.2.getD j []).length (λ m _=>((r.2.getD j []).drop m).all (λ id=>(Jo l id).isSome)=(r.2.getD j []).all (λ id=>(Jo l id).isSome)) ?_ ?_ 0 () (Nat.zero_le _) rfl
       ·intro _ h
        rw [List.drop_length] at h
        simp (disch:=omega) only [H8,dT,dF,Int.toNat_natCast,← h]
        exact Tot.pure rfl
       ·intro m _ hm h next
        rw [Aq (d:=0) hm,List.all_cons] at h
        simp (disch:=omega) only [H8,dT,Int.toNat_natCast,w64]
        refine Tot.bind (Qq l ((r.2.getD j []).getD m 0) (by omega)) ?_
        rintro b rfl
        cases hd:Jo l ((r.2.getD j []).getD m 0) with
        |none=>exact Tot.yes rfl (Tot.pure (by rw [← h,hd]; rfl))
        |some d=>exact Tot.no rfl (next () (by rw [hd] at h; exact h))
      ·rintro b rfl
       cases hc:(r.2.getD j []).all (λ id=>(Jo l id).isSome) with
       |false=>exact Tot.pure (by rw [show r.2.all (Lu l r.1)=false from no (by rw [hc,Bool.and_false])]; rfl)
       |true=>
        simp (disch:=omega) only [cond_true,Sum.elim_inr,w64]
        exact next () (by rw [h2,hc] at h; exact h)
theorem Uq (r:Rng) (hr:RBd r):Tot (λ k=>Io k r) (λ x=>x=r):=by
 have hrl:=hr.1
 unfold Io
 refine Tot.bind (Q:=λ x=>x=((0,[]),r)) ?_ (by rintro x rfl; exact Tot.pure rfl)
 refine Tot.up (L:=λ k i s=>Fv k i r (0,[]) (r.1,s)) (Q:=λ x=>x=((0,[]),r)) r.2.length (λ j s=>s=r.2.take j) ?_ ?_ 0 [] (Nat.zero_le _) rfl
 ·rintro s rfl
  simp (disch:=omega) only [Fv,dF,List.take_length]
  exact Tot.pure rfl
 ·rintro j s hj rfl next
  have hp:=hr.2 _ (A4 (d:=[]) hj)
  simp (disch:=omega) only [Fv,dT,Int.toNat_natCast,w64]
  refine Tot.ble (by simp only [List.length_nil]; omega) (Tot.ble (by simp only [List.length_take,List.length_cons,List.length_nil]; omega) (next _ ?_))
  rw [List.take_succ_eq_append_getElem hj,List.getD_eq_getElem?_getD,List.getElem?_eq_getElem hj,Option.getD_some,List.nil_append]
def cnt (id n x:Int):Int:=bif x==id then n+1 else n
def Ipa (id n:Int) (p:List Int):Int:=p.foldl (cnt id) n
def M2 (r:Rng) (id:Int):Int:=r.2.foldl (Ipa id) 0
theorem Iqa (id:Int):∀ (p:List Int) (n:Int),n≤Ipa id n p∧Ipa id n p≤n+p.length
 |[],n=>by simp [Ipa]
 |x::p,n=>by
  have h:=Iqa id p (cnt id n x)
  unfold Ipa at h ⊢
  have hc:n≤cnt id n x∧cnt id n x≤n+1:=by unfold cnt; cases x==id<;>simp<;>omega
  rw [List.foldl_cons,List.length_cons]
  omega
theorem Rja (id:Int) (m:Nat):∀ (ps:List (List Int)) (n:Int),(∀ p∈ps,p.length≤m)→n≤ps.foldl (Ipa id) n∧ps.foldl (Ipa id) n≤n+(m * ps.length:Nat)
 |[],n,_=>by simp
 |p::ps,n,h=>by
  have h1:=Rja id m ps (Ipa id n p) (λ q hq=>h q (List.mem_cons_of_mem _ hq))
  have h2:=Iqa id p n
  have h3:=h p List.mem_cons_self
  rw [List.foldl_cons,List.length_cons,Nat.mul_succ]
  omega
theorem Te {r:Rng} (hr:RBd r) (id:Int):0≤M2 r id∧M2 r id≤4000000000000:=by
 have h:=Rja id 2000000 r.2 0 hr.2
 have h2:=hr.1
 unfold M2
 omega
theorem Wr (r:Rng) (id:Int) (hr:RBd r):Tot (λ k=>Cd k r id) (λ x=>x=M2 r id):=by
 have hrl:=hr.1
 unfold Cd
 refine Tot.bind (Q:=λ x=>x=M2 r id) ?_ (by rintro x rfl; exact Tot.pure rfl)
 refine Tot.up (L:=λ k i s=>Gn k id s i r) (Q:=λ x=>x=M2 r id) r.2.length (λ j s=>(r.2.drop j).foldl (Ipa id) s=M2 r id∧0≤s∧s≤2000000 * j) ?_ ?_ 0 0 (Nat.zero_le _) ⟨rfl,by omega,by omega⟩
 ·rintro s ⟨h,_⟩
  rw [List.drop_length] at h
  simp (disch:=omega) only [Gn,dF]
  exact Tot.pure h
 ·rintro j s hj ⟨h,h0,h1⟩ next
  rw [Aq (d:=[]) hj,List.foldl_cons] at h
  have hp:=hr.2 _ (A4 (d:=[]) hj)
  have hc:=Iqa id (r.2.getD j []) s
  simp (disch:=omega) only [Gn,dT]
  refine Tot.bind (Q:=λ x=>x=(id,Ipa id s (r.2.getD j []),(j:Int),r)) ?_ ?_
  ·refine Tot.up (L:=λ k i s=>Fs k id s (j:Int) i r) (Q:=λ x=>x=(id,Ipa id s (r.2.getD j []),(j:Int),r)) (r.2.getD j []).length (λ m z=>Ipa id z ((r.2.getD j []).drop m)=Ipa id s (r.2.getD j [])∧0≤z∧z≤2000000 * j+m) ?_ ?_ 0 s (Nat.zero_le _) ⟨rfl,h0,by omega⟩
   ·rintro z ⟨h,_⟩
    rw [List.drop_length] at h
    simp (disch:=omega) only [Fs,dT,dF,Int.toNat_natCast]
    exact Tot.pure (by rw [← h]; rfl)
   ·rintro m z hm ⟨h,z0,z1⟩ next
    rw [Aq (d:=0) hm] at h
    simp (disch:=omega) only [Fs,dT,Int.toNat_natCast,w64]
    have h':Ipa id (cnt id z ((r.2.getD j []).getD m 0)) ((r.2.getD j []).drop (m+1))=Ipa id s (r.2.getD j []):=h
    unfold cnt at h'
    refine Tot.ite (λ hc=>next _ ?_) (λ hc=>next _ ?_)
    ·rw [hc] at h'; exact ⟨h',by omega,by omega⟩
    ·rw [hc] at h'; exact ⟨h',by omega,by omega⟩
  ·rintro x rfl
   simp (disch:=omega) only [w64]
   exact next _ ⟨h,by omega,by omega⟩

theorem Ddb {a w:Int} (h0:0≤a) (h1:a≤4000000000001) (w0:0≤w) (w1:w≤1000) : -9223372036854775808≤a * w∧a * w≤9223372036854775807:=by
 have e1:=Int.mul_nonneg h0 w0
 have e2:a * w≤4000000000001 * 1000:=Int.mul_le_mul h1 w1 w0 (by decide)
 omega
def Z8 (r:Rng) (p zs:List Int) (a:Option (Dev×Bool)) (d:Dev):Option (Dev×Bool):=
 bif Ny p d.1 then a else match a with
 |none=>some (d,!(Ny zs d.2.1))
 |some (b,fr)=>bif (!(Ny zs d.2.1) && !fr) || (((!(Ny zs d.2.1))==fr)&&decide ((M2 r d.1+1) * b.2.2<(M2 r b.1+1) * d.2.2)) then some (d,!(Ny zs d.2.1)) else some (b,fr)
def Sd (r:Rng) (p:List Int) (l:List Dev):Option (Dev×Bool):=l.foldl (Z8 r p (Jz p l)) none
def Ata (r:Rng) (p:List Int) (l:List Dev):Int:=match Sd r p l with
 |some b=>b.1.1
 |none => -1
theorem V6a {r:Rng} {p zs:List Int} {l:List Dev} {a:Option (Dev×Bool)} {d:Dev} (ha:∀ b,a=some b→b.1∈l∧b.1.1∉p) (hd:d∈l):∀ b,Z8 r p zs a d=some b→b.1∈l∧b.1.1∉p:=by
 intro b hb
 unfold Z8 at hb
 cases hp:Ny p d.1 with
 |true=>rw [hp] at hb; exact ha b hb
 |false=>
  have hn:d.1∉p:=λ c=>by rw [Rf.2 c] at hp; cases hp
  rw [hp,cond_false] at hb
  cases a with
  |none=>cases hb; exact ⟨hd,hn⟩
  |some c=>
   obtain ⟨c,fr⟩:=c
   simp only at hb
   cases hq:(!(Ny zs d.2.1) && !fr) || (((!(Ny zs d.2.1))==fr)&&decide ((M2 r d.1+1) * c.2.2<(M2 r c.1+1) * d.2.2)) with
   |true=>rw [hq] at hb; cases hb; exact ⟨hd,hn⟩
   |false=>rw [hq] at hb; cases hb; exact ha _ rfl
theorem Lfa {r:Rng} {p zs:List Int} {l:List Dev}:∀ (m:List Dev) (a:Option (Dev×Bool)),(∀ b,a=some b→b.1∈l∧b.1.1∉p)→(∀ d∈m,d∈l)→∀ b,m.foldl (Z8 r p zs) a=some b→b.1∈l∧b.1.1∉p
 |[],_,ha,_=>ha
 |d::m,_,ha,hm=>Lfa m _ (V6a ha (hm d List.mem_cons_self)) (λ x hx=>hm x (List.mem_cons_of_mem _ hx))
theorem Lga {r:Rng} {p:List Int} {l:List Dev} {b:Dev×Bool} (h:Sd r p l=some b):b.1∈l∧b.1.1∉p:=Lfa l none (λ b h=>by cases h) (λ _ h=>h) b h
theorem N6a {r:Rng} {p zs:List Int} {a:Option (Dev×Bool)} {d:Dev} (h:a.isSome=true∨d.1∉p):(Z8 r p zs a d).isSome=true:=by
 unfold Z8
 cases hp:Ny p d.1 with
 |true=>
  rcases h with h|h
  ·exact h
  ·exact absurd (Rf.1 hp) h
 |false=>
  cases a with
  |none=>rfl
  |some c=>
   obtain ⟨c,fr⟩:=c
   simp only [cond_false]
   cases (!(Ny zs d.2.1) && !fr) || (((!(Ny zs d.2.1))==fr)&&decide ((M2 r d.1+1) * c.2.2<(M2 r c.1+1) * d.2.2))<;>rfl
theorem C2a {r:Rng} {p zs:List Int}:∀ (m:List Dev) (a:Option (Dev×Bool)),(a.isSome=true∨∃ d∈m,d.1∉p)→(m.foldl (Z8 r p zs) a).isSome=true
 |[],a,h=>by
  rcases h with h|⟨d,h,_⟩
  ·exact h
  ·cases h
 |d::m,a,h=>by
  refine C2a m _ ?_
  by_cases hd:a.isSome=true∨d.1∉p
  ·exact .inl (N6a hd)
  ·rcases h with h|⟨x,hx,hn⟩
   ·exact absurd (.inl h) hd
   ·rcases List.mem_cons.1 hx with rfl|hx
    ·exact absurd (.inr hn) hd
    ·exact .inr ⟨x,hx,hn⟩
theorem V7a {r:Rng} {p:List Int} {l:List Dev} (h:∃ d∈l,d.1∉p):∃ d∈l,Ata r p l=d.1∧d.1∉p:=by
 obtain ⟨b,hb⟩:=Option.isSome_iff_exists.1 (C2a (r:=r) (zs:=Jz p l) l none (.inr h))
 obtain ⟨h1,h2⟩:=Lga hb
 exact ⟨b.1,h1,by unfold Ata; rw [show Sd r p l=some b from hb],h2⟩
theorem N7a (r:Rng) (p:List Int) (l:List Dev):(Sd r p l=none∧Ata r p l = -1)∨∃ b,Sd r p l=some b∧Ata r p l=b.1.1∧b.1∈l∧b.1.1∉p:=by
 cases h:Sd r p l with
 |none=>exact .inl ⟨rfl,by unfold Ata; rw [h]⟩
 |some b=>exact .inr ⟨b,rfl,by unfold Ata; rw [h],Lga h⟩
theorem Z9 (p:List Int) (l:List Dev):(Jz p l).length≤p.length:=by
 have:=G2a l p []
 rwa [List.length_nil,Nat.zero_add] at this
def bs (r:Rng):Option (Dev×Bool)→Int×Bool×Dev
 |some (b,fr)=>(M2 r b.1+1,fr,b)
 |none=>(0,false,-1,0,0)
theorem Lha (r:Rng) (p:List Int) (l:List Dev) (hr:RBd r) (hp:p.length≤2000000) (hl:Lb l=true):Tot (λ k=>Hl k r p l) (λ x=>x=Ata r p l):=by
 obtain ⟨_,hdv,_,h12⟩:=Hs.1 hl
 have hz:=Z9 p l
 unfold Hl
 refine Tot.bind (G3a p l (by omega) (by omega)) ?_
 rintro z rfl
 refine Tot.bind (Q:=λ x=>∃ i:Int,x=(l,i)∧match Sd r p l with|some b=>∃ n:Nat,i=(n:Int)∧n<l.length∧l.getD n My=b.1|none=>i = -1) ?_ ?_
 ·refine Tot.up (L:=λ k i (s:Int×Bool)=>Bh k l (Jz p l) s.1 s.2 i r p) (Q:=λ x=>∃ i:Int,x=(l,i)∧match Sd r p l with|some b=>∃ n:Nat,i=(n:Int)∧n<l.length∧l.getD n My=b.1|none=>i = -1) l.length
   (λ j s=>∃ a,(match a with|some (b,fr)=>s.2=fr∧∃ n:Nat,s.1=(n:Int)∧n<l.length∧l.getD n My=b|none=>s=(-1,false))∧(l.drop j).foldl (Z8 r p (Jz p l)) a=Sd r p l) ?_ ?_ 0 (-1,false) (Nat.zero_le _) ⟨none,rfl,rfl⟩
  ·rintro ⟨s1,s2⟩ ⟨a,hs,h⟩
   rw [List.drop_length] at h
   simp (disch:=omega) only [Bh,dF]
   refine Tot.pure ⟨s1,rfl,?_⟩
   rw [← h]
   cases a with
   |none=>exact (Prod.mk.inj hs).1
   |some bf=>exact hs.2
  ·rintro j ⟨s1,s2⟩ hj ⟨a,hs,h⟩ next
   rw [Aq (d:=My) hj,List.foldl_cons] at h
   have hd:=A4 (d:=My) hj
   obtain ⟨d,ed⟩:∃ d:Dev,l.getD j My=d:=⟨_,rfl⟩
   rw [ed] at h hd
   have e0:l.getD j ((0:Int),((0:Int),(0:Int)))=d:=ed
   obtain ⟨_,_,w0,w1⟩:=N6.1 (hdv _ hd)
   have l1:=Te hr d.1
   simp (disch:=omega) only [Bh,dT,Int.toNat_natCast,w64,e0]
   refine Tot.bind (W9 l (by omega)) ?_
   rintro x rfl
   refine Tot.yes hl (Tot.bind (Sc p d.1 (by omega)) ?_)
   rintro x rfl
   unfold Z8 at h
   cases hp':Ny p d.1 with
   |true=>
    rw [hp'] at h
    exact Tot.yes rfl (next _ ⟨a,hs,h⟩)
   |false=>
    rw [hp',cond_false] at h
    refine Tot.no rfl (Tot.bind (Sc (Jz p l) d.2.1 (by omega)) ?_)
    rintro x rfl
    have take:∀ {z:Bool},(l.drop (j+1)).foldl (Z8 r p (Jz p l)) (some (d,z))=Sd r p l→Tot (λ k=>Bh k l (Jz p l) (j:Int) z ((j:Int)+1) r p) (λ x=>∃ i:Int,x=(l,i)∧match Sd r p l with|some b=>∃ n:Nat,i=(n:Int)∧n<l.length∧l.getD n My=b.1|none=>i = -1):=λ {z} h2=>next ((j:Int),z) ⟨some (d,z),⟨rfl,j,rfl,hj,ed⟩,h2⟩
    cases a with
    |none=>
     obtain ⟨rfl,rfl⟩:=Prod.mk.inj hs
     exact Tot.dec (by decide) (take h)
    |some bf=>
     obtain ⟨b,fr⟩:=bf
     obtain ⟨e1,n,e2,hn,e3⟩:=hs
     dsimp only at e1 e2
     subst e1 e2
     have hb:=A4 (d:=My) hn
     rw [e3] at hb
     obtain ⟨⟨i0,_⟩,_,v0,v1⟩:=N6.1 (hdv _ hb)
     have l2:=Te hr b.1
     have m1:=Ddb (a:=M2 r d.1+1) (w:=b.2.2) (by omega) (by omega) (by omega) v1
     have m2:=Ddb (a:=M2 r b.1+1) (w:=d.2.2) (by omega) (by omega) (by omega) w1
     have stay:(l.drop (j+1)).foldl (Z8 r p (Jz p l)) (some (b,s2))=Sd r p l→Tot (λ k=>Bh k l (Jz p l) (n:Int) s2 ((j:Int)+1) r p) (λ x=>∃ i:Int,x=(l,i)∧match Sd r p l with|some b=>∃ n:Nat,i=(n:Int)∧n<l.length∧l.getD n My=b.1|none=>i = -1):=λ h2=>next ((n:Int),s2) ⟨some (b,s2),⟨rfl,n,rfl,hn,e3⟩,h2⟩
     refine Tot.ndec (by omega) ?_
     have e4:l.getD n ((0:Int),((0:Int),(0:Int)))=b:=e3
     dsimp only at h
     have cmp:∀ {z:Bool},Ny (Jz p l) d.2.1=z→((!z)==s2)=true→(!z && !s2)=false→Tot (λ k=>(Cd k r d.1).bind λ r5=>cond (decide ((0:Int)≤(n:Int))) (cond (decide ((n:Int)<(List.length l:Int))) (cond (decide ((0:Int)≤(n:Int))) (cond (decide ((n:Int)<(List.length l:Int))) ((Cd k r (List.getD l (Int.toNat (n:Int)) ((0:Int),((0:Int),(0:Int)))).1).bind λ r8=>cond (decide ((IntKind.wrap .i64 ((IntKind.wrap .i64 (r5+1)) * (List.getD l (Int.toNat (n:Int)) ((0:Int),((0:Int),(0:Int)))).2.2))<(IntKind.wrap .i64 ((IntKind.wrap .i64 (r8+1)) * d.2.2)))) (Bh k l (Jz p l) (j:Int) s2 ((j:Int)+1) r p) (Bh k l (Jz p l) (n:Int) s2 ((j:Int)+1) r p)) none) none) none) none) (λ x=>∃ i:Int,x=(l,i)∧match Sd r p l with|some b=>∃ n:Nat,i=(n:Int)∧n<l.length∧l.getD n My=b.1|none=>i = -1):=by
      intro z hz e1 e2
      rw [hz,e1,e2,Bool.false_or,Bool.true_and] at h
      refine Tot.bind (Wr r d.1 hr) ?_
      rintro x rfl
      refine Tot.dec (by omega) (Tot.dec (by omega) (Tot.dec (by omega) (Tot.dec (by omega) ?_)))
      rw [Int.toNat_natCast,e4]
      refine Tot.bind (Wr r b.1 hr) ?_
      rintro x rfl
      rw [w64 (n:=M2 r d.1+1) (by omega) (by omega),w64 (n:=M2 r b.1+1) (by omega) (by omega),w64 m1.1 m1.2,w64 m2.1 m2.2]
      refine Tot.ite (λ hc=>?_) (λ hc=>?_)
      ·rw [hc,cond_true] at h
       rw [show s2 = !z by rw [← eq_of_beq e1]]
       exact take h
      ·rw [hc] at h; exact stay h
     cases hz:Ny (Jz p l) d.2.1 with
     |false=>
      have cm:=cmp hz
      rw [hz] at h
      cases s2 with
      |false=>exact Tot.yes rfl (Tot.yes rfl (take h))
      |true=>exact Tot.yes rfl (Tot.no rfl (Tot.yes rfl (cm rfl rfl)))
     |true=>
      have cm:=cmp hz
      rw [hz] at h
      cases s2 with
      |false=>exact Tot.no rfl (Tot.yes rfl (cm rfl rfl))
      |true=>exact Tot.no rfl (Tot.no rfl (stay h))
 ·rintro x ⟨i,rfl,hi⟩
  unfold Ata
  cases hb:Sd r p l with
  |none=>
   rw [hb] at hi
   subst hi
   exact Tot.dec (show (-1:Int)<0 by decide) (Tot.pure rfl)
  |some b=>
   rw [hb] at hi
   obtain ⟨n,rfl,hn,e⟩:=hi
   dsimp only
   refine Tot.ndec (by omega) (Tot.dec (by omega) (Tot.dec (by omega) (Tot.pure ?_)))
   rw [Int.toNat_natCast,show l.getD n ((0:Int),((0:Int),(0:Int)))=b.1 from e]

theorem Rka {l:List Dev} (h:Lb l=true) {d:Dev} (hd:d∈l):Jo l d.1=some d:=by
 have hp:=(Hs.1 h).1
 clear h
 induction l with
 |nil=>cases hd
 |cons x l ih=>
  obtain ⟨h1,h2⟩:=List.pairwise_cons.1 hp
  unfold Jo
  rw [List.find?_cons]
  rcases List.mem_cons.1 hd with rfl|hd
  ·rw [beq_self_eq_true]
  ·have:=h1 d hd
   rw [show (x.1==d.1)=false from beq_eq_false_iff_ne.2 (by omega)]
   exact ih hd h2
theorem X4a:∀ (p:List Int) (l:List Dev),l.Pairwise (λ a b=>a.1<b.1)→p.length<l.length→∃ d∈l,d.1∉p
 |p,[],_,h=>by simp at h
 |p,d::l,hl,h=>by
  obtain ⟨h1,h2⟩:=List.pairwise_cons.1 hl
  by_cases hd:d.1∈p
  ·have hlen:(p.erase d.1).length=p.length - 1:=List.length_erase_of_mem hd
   have hpos:=List.length_pos_of_mem hd
   rw [List.length_cons] at h
   obtain ⟨x,hx,hn⟩:=X4a (p.erase d.1) l h2 (by omega)
   refine ⟨x,List.mem_cons_of_mem _ hx,λ c=>hn ?_⟩
   have:=h1 x hx
   exact (List.mem_erase_of_ne (by omega)).2 c
  ·exact ⟨d,List.mem_cons_self,hd⟩
def N8a (l:List Dev) (n:Nat) (p:List Int):Prop:=p.Nodup∧p.length=n∧∀ id∈p,∃ d,Jo l id=some d
theorem Rla {r:Rng} {l:List Dev} {n:Nat} {p:List Int} (hl:Lb l=true) (h:N8a l n p) (hn:n<l.length):N8a l (n+1) (p++[Ata r p l]):=by
 obtain ⟨h1,h2,h3⟩:=h
 obtain ⟨d,hd,e,hne⟩:=V7a (r:=r) (X4a p l (Hs.1 hl).1 (by omega))
 rw [e]
 refine ⟨?_,by rw [List.length_append]; simp [h2],λ id hid=>?_⟩
 ·rw [List.nodup_append]
  exact ⟨h1,by simp,λ a ha b hb c=>by rw [List.mem_singleton.1 hb] at c; subst c; exact hne ha⟩
 ·rcases List.mem_append.1 hid with hid|hid
  ·exact h3 id hid
  ·rw [List.mem_singleton.1 hid]; exact ⟨d,Rka hl hd⟩
def G5a (l:List Dev) (reps:Int) (ps:List (List Int)):Nat→List Int→List Int
 |0,p=>p
 |n+1,p=>G5a l reps ps n (p++[Ata (reps,ps++[p]) p l])
def Nua (l:List Dev) (reps:Int):Nat→List (List Int)→List (List Int)
 |0,ps=>ps
 |n+1,ps=>Nua l reps n (ps++[G5a l reps ps reps.toNat []])
def build (l:List Dev) (parts reps:Int):Rng×Bool:=bif Lb l&&(inR parts 1 64&&(inR reps 1 5 && !(decide (reps > (l.length:Int))))) then ((reps,Nua l reps parts.toNat []),true) else ((0,[]),false)
theorem Lia {l:List Dev} {reps:Int} {ps:List (List Int)} (hl:Lb l=true):∀ (n m:Nat) (p:List Int),N8a l m p→m+n≤l.length→N8a l (m+n) (G5a l reps ps n p)
 |0,_,_,h,_=>h
 |n+1,m,p,h,hm=>by
  have:=Lia (reps:=reps) (ps:=ps) hl n (m+1) _ (Rla (r:=(reps,ps++[p])) hl h (by omega)) (by omega)
  rwa [show m+1+n=m+(n+1) by omega] at this
theorem Rma {l:List Dev} {reps:Int} (hl:Lb l=true) (hr:reps≤(l.length:Int)):∀ (n:Nat) (ps:List (List Int)),(∀ p∈ps,N8a l reps.toNat p)→(Nua l reps n ps).length=ps.length+n∧∀ p∈Nua l reps n ps,N8a l reps.toNat p
 |0,ps,h=>⟨rfl,h⟩
 |n+1,ps,h=>by
  have hf:=Lia (reps:=reps) (ps:=ps) hl reps.toNat 0 [] ⟨List.nodup_nil,rfl,λ _ h=>by cases h⟩ (by omega)
  rw [Nat.zero_add] at hf
  obtain ⟨h1,h2⟩:=Rma hl hr n (ps++[G5a l reps ps reps.toNat []]) (λ p hp=>by
   rcases List.mem_append.1 hp with hp|hp
   ·exact h p hp
   ·rw [List.mem_singleton.1 hp]; exact hf)
  refine ⟨?_,h2⟩
  show (Nua l reps n _).length=_
  rw [h1,List.length_append]
  simp only [List.length_cons,List.length_nil]
  omega
theorem Lja {l:List Dev} {parts reps:Int} (h:(build l parts reps).2=true):Lb l=true∧Ir (build l parts reps).1 l=true∧(build l parts reps).1.1=reps∧((build l parts reps).1.2.length:Int)=parts:=by
 unfold build at h ⊢
 cases hc:Lb l&&(inR parts 1 64&&(inR reps 1 5 && !(decide (reps > (l.length:Int))))) with
 |false=>rw [hc] at h; cases h
 |true=>
  rw [Bool.and_eq_true,Bool.and_eq_true,Bool.and_eq_true,Bool.not_eq_true',decide_eq_false_iff_not,Ew,Ew] at hc
  obtain ⟨h1,h2,h3,h4⟩:=hc
  obtain ⟨b1,b2⟩:=Rma (reps:=reps) h1 (by omega) parts.toNat [] (λ p hp=>by cases hp)
  rw [List.length_nil,Nat.zero_add] at b1
  have b1':((Nua l reps parts.toNat []).length:Int)=parts:=by rw [b1]; omega
  refine ⟨h1,Dj.2 ⟨h1,h3,⟨by show 1≤(Nua l reps parts.toNat []).length; omega,by show (Nua l reps parts.toNat []).length≤64; omega⟩,λ p hp=>?_⟩,rfl,b1'⟩
  obtain ⟨c1,c2,c3⟩:=b2 p hp
  exact ⟨c1,by rw [c2]; show ((reps.toNat:Nat):Int)=reps; omega,c3⟩
theorem G6a {l:List Dev} {reps:Int} {ps:List (List Int)}:∀ (n:Nat) (p:List Int),(G5a l reps ps n p).length=p.length+n
 |0,_=>rfl
 |n+1,p=>by
  show (G5a l reps ps n _).length=_
  rw [G6a n,List.length_append]
  simp only [List.length_cons,List.length_nil]
  omega
theorem Rna {α:Type} (l:List α) (x d:α):(l++[x]).getD l.length d=x:=by
 rw [List.getD_eq_getElem?_getD,List.getElem?_append_right (Nat.le_refl _),Nat.sub_self]
 rfl
theorem V8a {α:Type} (l:List α) (x y:α):(l++[x]).set l.length y=l++[y]:=by
 rw [List.set_append_right _ _ (Nat.le_refl _),Nat.sub_self]
 rfl
theorem G7a (l:List Dev) (parts reps:Int) (z:Rng) (hl:Lb l=true) (h0:0≤reps) (h5:reps≤5) (ps:List (List Int)) (hps:ps.length≤100) (hq:∀ q∈ps,q.length≤100):∀ (n:Nat) (p:List Int),p.length+n=reps.toNat→
  Tot (λ k=>Hw k l parts reps (ps.length:Int) (p.length:Int) z (reps,ps++[p])) (λ x=>x=(l,parts,reps,(ps.length:Int),z,(reps,ps++[G5a l reps ps n p]))):=by
 intro n
 induction n with
 |zero=>
  intro p hp
  refine Tot.succ ?_
  simp (disch:=omega) only [Hw,dF]
  exact Tot.pure rfl
 |succ n ih=>
  intro p hp
  refine Tot.succ ?_
  have hrb:RBd (reps,ps++[p]):=⟨by simp only [List.length_append,List.length_cons,List.length_nil]; omega,λ q hq'=>by
   rcases List.mem_append.1 hq' with h|h
   ·have:=hq q h; omega
   ·rw [List.mem_singleton.1 h]; omega⟩
  have hlen:(ps++[p]).length=ps.length+1:=by simp
  simp (disch:=omega) only [Hw,dT,Int.toNat_natCast,w64,hlen,Rna,V8a]
  refine Tot.bind (Lha (reps,ps++[p]) p l hrb (by omega) hl) ?_
  rintro x rfl
  refine Tot.yes (decide_eq_true trivial) (Tot.ble (by simp only [List.length_cons,List.length_nil]; omega) (Tot.yes (decide_eq_true trivial) ?_))
  have:=ih (p++[Ata (reps,ps++[p]) p l]) (by simp only [List.length_append,List.length_cons,List.length_nil]; omega)
  rw [show (((p++[Ata (reps,ps++[p]) p l]).length:Nat):Int)=(p.length:Int)+1 by simp] at this
  exact this
theorem Roa (l:List Dev) (parts reps:Int) (hll:l.length≤5000000):Tot (λ k=>Gk k l parts reps) (λ x=>x=build l parts reps):=by
 unfold Gk build
 refine Tot.bind (W9 l (by omega)) ?_
 rintro b rfl
 cases hl:Lb l with
 |false=>exact Tot.yes rfl (Tot.pure rfl)
 |true=>
  simp only [Bool.not_true,cond_false,Ng,Option.bind_some,Bool.true_and]
  cases hp:inR parts 1 64 with
  |false=>exact Tot.yes rfl (Tot.pure rfl)
  |true=>
   refine Tot.no rfl ?_
   cases hr:inR reps 1 5 with
   |false=>exact Tot.yes rfl (Tot.pure rfl)
   |true=>
    obtain ⟨r1,r2⟩:=Ew.1 hr
    obtain ⟨p1,p2⟩:=Ew.1 hp
    refine Tot.no rfl ?_
    cases hc:decide (reps > (l.length:Int)) with
    |true=>exact Tot.yes rfl (Tot.pure rfl)
    |false=>
     refine Tot.no rfl (Tot.bind (Q:=λ x=>x=(((0:Int),([]:List (List Int))),(reps,Nua l reps parts.toNat []))) ?_ (by rintro x rfl; exact Tot.pure rfl))
     obtain ⟨n,rfl⟩:∃ n:Nat,parts=(n:Int):=⟨parts.toNat,by omega⟩
     refine Tot.up (L:=λ k i (s:Rng)=>Hx k l (n:Int) reps i (0,[]) s) (Q:=λ x=>x=(((0:Int),([]:List (List Int))),(reps,Nua l reps n []))) n (λ j s=>∃ ps,s=(reps,ps)∧ps.length=j∧(∀ q∈ps,q.length≤100)∧Nua l reps (n - j) ps=Nua l reps n []) ?_ ?_ 0 (reps,[]) (Nat.zero_le _) ⟨[],rfl,rfl,λ q h=>(by cases h),rfl⟩
     ·rintro s ⟨ps,rfl,hps,_,h⟩
      rw [Nat.sub_self] at h
      simp (disch:=omega) only [Hx,dF]
      exact Tot.pure (by rw [← h]; rfl)
     ·rintro j s hj ⟨ps,rfl,hps,hq,h⟩ next
      simp (disch:=omega) only [Hx,dT]
      refine Tot.ble (by simp only [List.length_cons,List.length_nil]; omega) ?_
      have h9:=G7a l (n:Int) reps (0,[]) hl (by omega) r2 ps (by omega) hq reps.toNat [] (by simp)
      rw [hps] at h9
      refine Tot.bind h9 ?_
      rintro x rfl
      simp (disch:=omega) only [w64]
      refine next _ ⟨ps++[G5a l reps ps reps.toNat []],rfl,by rw [List.length_append,hps]; rfl,λ q hq'=>?_,?_⟩
      ·rcases List.mem_append.1 hq' with h'|h'
       ·exact hq q h'
       ·rw [List.mem_singleton.1 h',G6a,List.length_nil]; omega
      ·rw [show n - j=(n - (j+1))+1 by omega] at h
       exact h

theorem Lka:∀ (p q:List Int),p.Nodup→(∀ x∈p,x∈q)→p.length≤q.length
 |[],_,_,_=>Nat.zero_le _
 |x::p,q,h,hs=>by
  obtain ⟨h1,h2⟩:=List.nodup_cons.1 h
  have hx:=hs x List.mem_cons_self
  have hlen:(q.erase x).length=q.length - 1:=List.length_erase_of_mem hx
  have hpos:=List.length_pos_of_mem hx
  have:=Lka p (q.erase x) h2 (λ y hy=>(List.mem_erase_of_ne (λ c=>by subst c; exact h1 hy)).2 (hs y (List.mem_cons_of_mem _ hy)))
  rw [List.length_cons]
  omega
theorem Rpa {r:Rng} {l:List Dev} (h:Ir r l=true):r.1≤(l.length:Int):=by
 obtain ⟨_,_,h3,h4⟩:=Dj.1 h
 obtain ⟨p,hp⟩:=List.exists_mem_of_length_pos (show 0<r.2.length by omega)
 obtain ⟨q1,q2,q3⟩:=h4 p hp
 have:=Lka p (l.map (·.1)) q1 (λ x hx=>by
  obtain ⟨d,hd⟩:=q3 x hx
  obtain ⟨hm,he⟩:=Uc hd
  exact List.mem_map.2 ⟨d,hm,he⟩)
 rw [List.length_map] at this
 omega
theorem Ira {r:Rng} {l:List Dev} (h:Ir r l=true):Tot (λ k=>Jh k r l) (λ b=>b=true):=by
 have hrp:=Rpa h
 obtain ⟨h1,h2,h3,h4⟩:=Dj.1 h
 obtain ⟨_,_,_,h12⟩:=Hs.1 h1
 unfold Jh
 refine Tot.bind (W9 l (by omega)) ?_
 rintro b rfl
 refine Tot.no (by rw [h1]; rfl) ?_
 simp only [Ng,Option.bind_some]
 refine Tot.no (by rw [Ew.2 h2]; rfl) (Tot.ndec (by omega) (Tot.no (by rw [Ew.2 (by omega)]; rfl) ?_))
 refine Tot.bind (Q:=λ b=>b = .inr ()) ?_ (by rintro b rfl; exact Tot.pure rfl)
 refine Tot.up (L:=λ k i (_:Unit)=>J4 k i r) (Q:=λ b=>b = .inr ()) r.2.length (λ _ _=>True) ?_ ?_ 0 () (Nat.zero_le _) trivial
 ·intro _ _
  simp (disch:=omega) only [J4,dF]
  exact Tot.pure rfl
 ·intro j _ hj _ next
  obtain ⟨q1,q2,_⟩:=h4 _ (A4 (d:=[]) hj)
  simp (disch:=omega) only [J4,dT,Int.toNat_natCast,w64]
  refine Tot.bind (Lea _ _ (by omega)) ?_
  rintro b rfl
  exact Tot.no (by rw [decide_eq_true q1,q2]; simp) (next () trivial)
theorem V9a (p:List Int) (l:List Dev) (h:∀ id∈p,∃ d,Jo l id=some d) (hp:p.length≤5000000) (hl:l.length≤5000000):Tot (λ k=>G8 k p l) (λ x=>x = -1):=by
 unfold G8
 refine Tot.bind (Q:=λ x=>x = .inr ()) ?_ (by rintro x rfl; exact Tot.pure rfl)
 refine Tot.up (L:=λ k i (_:Unit)=>Gx k l i p) (Q:=λ x=>x = .inr ()) p.length (λ _ _=>True) ?_ ?_ 0 () (Nat.zero_le _) trivial
 ·intro _ _
  simp (disch:=omega) only [Gx,dF]
  exact Tot.pure rfl
 ·intro j _ hj _ next
  simp (disch:=omega) only [Gx,dT,Int.toNat_natCast,w64]
  refine Tot.bind (Qq l _ (by omega)) ?_
  rintro x rfl
  obtain ⟨d,hd⟩:=h _ (A4 (d:=0) hj)
  exact Tot.no (by rw [hd]; rfl) (next () trivial)
def hv (r:Rng) (l:List Dev) (b id:Int):Bool:=match Jo l b with
 |none=>false
 |some x=>match Jo l id with
  |none=>false
  |some d=>(d.2.1==x.2.1)&&decide (M2 r id - M2 r b≥2)
def Nva (r:Rng) (l:List Dev) (p:List Int) (b:Int):Option Nat:=p.findIdx? (hv r l b)
def oI:Option Nat→Int
 |some i=>(i:Int)
 |none => -1
theorem G8a {f:Int→Bool} {p:List Int} {j:Nat} (hj:j<p.length) (h:((p.drop j).findIdx? f).map (· + j)=p.findIdx? f):
  (f (p.getD j 0)=true→p.findIdx? f=some j)∧(f (p.getD j 0)=false→((p.drop (j+1)).findIdx? f).map (· + (j+1))=p.findIdx? f):=by
 rw [Aq (d:=0) hj,List.findIdx?_cons] at h
 constructor
 ·intro c
  rw [if_pos c] at h
  rw [← h,Option.map_some,Nat.zero_add]
 ·intro c
  rw [if_neg (by rw [c]; simp)] at h
  rw [← h,Option.map_map]
  congr 1
  funext x
  show x+(j+1)=x+1+j
  omega
theorem Rqa (r:Rng) (p:List Int) (l:List Dev) (b:Int) (hr:RBd r) (hp:p.length≤2000000) (hl:l.length≤2000000):Tot (λ k=>Ef k r p l b) (λ x=>x=oI (Nva r l p b)):=by
 unfold Ef
 refine Tot.bind (Qq l b (by omega)) ?_
 rintro x rfl
 refine Tot.bind (Q:=λ x=>x=match Nva r l p b with|some i => .inl (i:Int)|none => .inr ()) ?_ (by rintro x rfl; cases Nva r l p b<;>exact Tot.pure rfl)
 cases hb:Jo l b with
 |none=>
  have hn:Nva r l p b=none:=by unfold Nva; rw [List.findIdx?_eq_none_iff]; intro x _; unfold hv; rw [hb]
  rw [hn]
  refine Tot.succ ?_
  by_cases hp0:(0:Int)<(p.length:Int)
  ·simp (disch:=omega) only [C1,dT,D1b,cond_false]
   exact Tot.pure rfl
  ·simp (disch:=omega) only [C1,dF]
   exact Tot.pure rfl
 |some x=>
  have hvI:∀ id,hv r l b id=match Jo l id with|none=>false|some d=>(d.2.1==x.2.1)&&decide (M2 r id - M2 r b≥2):=λ id=>by unfold hv; rw [hb]
  refine Tot.up (L:=λ k i (_:Unit)=>C1 k l b true i r p x) (Q:=λ x=>x=match Nva r l p b with|some i => .inl (i:Int)|none => .inr ()) p.length (λ j _=>((p.drop j).findIdx? (hv r l b)).map (· + j)=p.findIdx? (hv r l b)) ?_ ?_ 0 () (Nat.zero_le _) (by simp)
  ·intro _ h
   rw [List.drop_length] at h
   have hn:Nva r l p b=none:=h.symm
   rw [hn]
   simp (disch:=omega) only [C1,dF]
   exact Tot.pure rfl
  ·intro j _ hj h next
   obtain ⟨k1,k2⟩:=G8a hj h
   simp (disch:=omega) only [C1,dT,Int.toNat_natCast,w64,cond_true]
   generalize p.getD j 0=id at *
   refine Tot.bind (Qq l id (by omega)) ?_
   rintro y rfl
   rw [hvI] at k1 k2
   cases hd:Jo l id with
   |none=>
    rw [hd] at k2
    exact Tot.no rfl (next () (k2 rfl))
   |some d=>
    rw [hd] at k1 k2
    obtain ⟨_,e⟩:=Uc hd
    refine Tot.yes rfl ?_
    cases hz:d.2.1==x.2.1 with
    |false=>exact Tot.no hz (next () (k2 (by simp only [hz,Bool.false_and])))
    |true=>
     refine Tot.yes hz (Tot.bind (Wr r d.1 hr) ?_)
     rintro a rfl
     refine Tot.bind (Wr r b hr) ?_
     rintro c rfl
     have l1:=Te hr d.1
     have l2:=Te hr b
     simp (disch:=omega) only [w64]
     refine Tot.dite (λ hc=>Tot.pure ?_) (λ hc=>next () (k2 ?_))
     ·have hn:Nva r l p b=some j:=k1 (by simp only [hz,Bool.true_and]; rw [← e]; exact decide_eq_true hc)
      rw [hn]
     ·simp only [hz,Bool.true_and]; rw [← e]; exact decide_eq_false hc
def rb1 (l:List Dev) (s:Int×Rng) (j:Nat):Int×Rng:=match Nva s.2 l (s.2.2.getD j []) (Ata s.2 (s.2.2.getD j []) l) with
 |none=>s
 |some i=>(s.1+1,(s.2.1,s.2.2.set j ((s.2.2.getD j []).set i (Ata s.2 (s.2.2.getD j []) l))))
def rbs (l:List Dev) (r:Rng) (n:Nat):Int×Rng:=(List.range n).foldl (rb1 l) (0,r)
def Isa (r:Rng) (l:List Dev):Rng×Int:=((rbs l r r.2.length).2,(rbs l r r.2.length).1)
theorem Lla (l:List Dev) (r:Rng) (n:Nat):rbs l r (n+1)=rb1 l (rbs l r n) n:=by
 unfold rbs
 rw [List.range_succ,List.foldl_append]
 rfl
theorem Ur {r:Rng} {l:List Dev} {p:List Int} {i:Nat} (hl:Lb l=true) (h:Nva r l p (Ata r p l)=some i):i<p.length∧Ata r p l∉p∧0≤Ata r p l∧∃ d,Jo l (Ata r p l)=some d:=by
 obtain ⟨h1,h2,_⟩:=List.findIdx?_eq_some_iff_getElem.1 h
 refine ⟨h1,?_⟩
 unfold hv at h2
 cases hb:Jo l (Ata r p l) with
 |none=>rw [hb] at h2; cases h2
 |some d=>
  obtain ⟨hd,he⟩:=Uc hb
  obtain ⟨⟨i0,_⟩,_⟩:=N6.1 ((Hs.1 hl).2.1 _ hd)
  refine ⟨?_,by omega,d,rfl⟩
  rcases N7a r p l with ⟨_,e⟩|⟨b,_,e,_,hn⟩
  ·omega
  ·rw [e]; exact hn
theorem Rra {p:List Int} {b:Int} (h:p.Nodup) (hb:b∉p) (i:Nat):(p.set i b).Nodup:=by
 induction p generalizing i with
 |nil=>exact h
 |cons x p ih=>
  obtain ⟨h1,h2⟩:=List.nodup_cons.1 h
  cases i with
  |zero=>exact List.nodup_cons.2 ⟨λ c=>hb (List.mem_cons_of_mem _ c),h2⟩
  |succ i=>
   refine List.nodup_cons.2 ⟨λ c=>?_,ih h2 (λ c=>hb (List.mem_cons_of_mem _ c)) i⟩
   rcases List.mem_or_eq_of_mem_set c with c|c
   ·exact h1 c
   ·exact hb (c ▸ List.mem_cons_self)
theorem Bqb {l:List Dev} {s:Int×Rng} {j:Nat} (hj:j<s.2.2.length) (h:Ir s.2 l=true):Ir (rb1 l s j).2 l=true∧(rb1 l s j).2.1=s.2.1∧(rb1 l s j).2.2.length=s.2.2.length∧s.1≤(rb1 l s j).1∧(rb1 l s j).1≤s.1+1:=by
 unfold rb1
 obtain ⟨h1,h2,h3,h4⟩:=Dj.1 h
 cases hx:Nva s.2 l (s.2.2.getD j []) (Ata s.2 (s.2.2.getD j []) l) with
 |none=>exact ⟨h,rfl,rfl,by dsimp only; omega,by dsimp only; omega⟩
 |some i=>
  obtain ⟨b1,b2,_,b3⟩:=Ur h1 hx
  obtain ⟨q1,q2,q3⟩:=h4 _ (A4 (d:=[]) hj)
  refine ⟨Dj.2 ⟨h1,h2,by dsimp only; rw [List.length_set]; exact h3,λ p hp=>?_⟩,rfl,by dsimp only; rw [List.length_set],by dsimp only; omega,by dsimp only; omega⟩
  rcases List.mem_or_eq_of_mem_set hp with hp|hp
  ·exact h4 p hp
  ·subst hp
   refine ⟨Rra q1 b2 i,by rw [List.length_set]; exact q2,λ id hid=>?_⟩
   rcases List.mem_or_eq_of_mem_set hid with hid|hid
   ·exact q3 id hid
   ·rw [hid]; exact b3
theorem Lma {l:List Dev} {r:Rng} (h:Ir r l=true):∀ (n:Nat),n≤r.2.length→Ir (rbs l r n).2 l=true∧(rbs l r n).2.1=r.1∧(rbs l r n).2.2.length=r.2.length∧0≤(rbs l r n).1∧(rbs l r n).1≤n
 |0,_=>⟨h,rfl,rfl,Int.le_refl _,Int.le_refl _⟩
 |n+1,hn=>by
  obtain ⟨h1,h2,h3,h4,h5⟩:=Lma h n (by omega)
  obtain ⟨g1,g2,g3,g4,g5⟩:=Bqb (j:=n) (by omega) h1
  rw [Lla]
  exact ⟨g1,by rw [g2,h2],by rw [g3,h3],by omega,by omega⟩
theorem Vaa {r:Rng} {l:List Dev} (h:Ir r l=true):Ir (Isa r l).1 l=true∧(Isa r l).1.1=r.1∧(Isa r l).1.2.length=r.2.length∧0≤(Isa r l).2:=by
 obtain ⟨h1,h2,h3,h4,_⟩:=Lma h r.2.length (Nat.le_refl _)
 exact ⟨h1,h2,h3,h4⟩
theorem Rsa {r:Rng} {l:List Dev} (h:Ir r l=true):Tot (λ k=>Cb k r l) (λ x=>x=Isa r l):=by
 obtain ⟨_,_,h64,_⟩:=Dj.1 h
 unfold Cb
 refine Tot.bind (Uq r (Nz h)) ?_
 rintro x rfl
 refine Tot.bind (Ira h) ?_
 rintro b rfl
 refine Tot.no rfl (Tot.bind (Q:=λ y=>y=((rbs l x x.2.length).1,((0:Int),([]:List (List Int))),(rbs l x x.2.length).2)) ?_ (by rintro y rfl; exact Tot.pure rfl))
 refine Tot.up (L:=λ k i (s:Int×Rng)=>Ay k l s.1 i (0,[]) s.2) (Q:=λ y=>y=((rbs l x x.2.length).1,((0:Int),([]:List (List Int))),(rbs l x x.2.length).2)) x.2.length (λ j s=>s=rbs l x j) ?_ ?_ 0 (0,x) (Nat.zero_le _) rfl
 ·rintro s rfl
  obtain ⟨_,_,g3,_⟩:=Lma h x.2.length (Nat.le_refl _)
  simp (disch:=omega) only [Ay,dF]
  exact Tot.pure rfl
 ·rintro j s hj rfl next
  obtain ⟨g1,g2,g3,g4,g5⟩:=Lma h j (by omega)
  rw [Lla] at next
  generalize rbs l x j=s at *
  obtain ⟨c,r⟩:=s
  dsimp only at g1 g2 g3 g4 g5
  obtain ⟨q0,_,_,q4⟩:=Dj.1 g1
  obtain ⟨p1,p2,p3⟩:=q4 _ (A4 (d:=[]) (show j<r.2.length by omega))
  have hx2:=(Dj.1 h).2.1
  have l12:=(Hs.1 q0).2.2.2
  unfold rb1 at next
  dsimp only at next
  obtain ⟨p,hp⟩:∃ p,r.2.getD j []=p:=⟨_,rfl⟩
  rw [hp] at p1 p2 p3
  simp only [hp] at next
  simp (disch:=omega) only [Ay,dT,Int.toNat_natCast,w64,hp]
  refine Tot.bind (V9a p l p3 (by omega) (by omega)) ?_
  rintro x rfl
  refine Tot.ndec (by omega) (Tot.bind (Lha r p l (Nz g1) (by omega) q0) ?_)
  rintro b rfl
  refine Tot.bind (Rqa r p l _ (Nz g1) (by omega) (by omega)) ?_
  rintro y rfl
  cases hi:Nva r l p (Ata r p l) with
  |none=>
   rw [hi] at next
   exact Tot.ndec (by show ¬ ((-1:Int)≥0); omega) (next _ rfl)
  |some i=>
   obtain ⟨b1,b2,b3,_⟩:=Ur q0 hi
   rw [hi] at next
   have e:oI (some i)=(i:Int):=rfl
   simp (disch:=omega) only [e,dT,Int.toNat_natCast]
   exact next _ rfl
def wgt (l:List Dev) (i:Nat) (w:Int):List Dev:=l.set i ((l.getD i My).1,(l.getD i My).2.1,w)
theorem Ita (l:List Dev) (i:Nat) (w:Int):(wgt l i w).map (·.1)=l.map (·.1):=by
 unfold wgt
 rw [List.map_set]
 by_cases hi:i<l.length
 ·have:(l.getD i My).1=(l.map (·.1)).getD i 0:=by
   simp only [List.getD_eq_getElem?_getD,List.getElem?_map,List.getElem?_eq_getElem hi,Option.map_some,Option.getD_some]
  rw [this,List.getD_eq_getElem?_getD,List.getElem?_eq_getElem (by simpa using hi),Option.getD_some]
  exact List.set_getElem_self _
 ·rw [List.set_eq_of_length_le (by simpa using hi)]
theorem Qs {l:List Dev} {id:Int}:(∃ d,Jo l id=some d)↔id∈l.map (·.1):=by
 unfold Jo
 rw [← Option.isSome_iff_exists,List.find?_isSome,List.mem_map]
 exact ⟨λ ⟨x,h,e⟩=>⟨x,h,eq_of_beq e⟩,λ ⟨x,h,e⟩=>⟨x,h,beq_iff_eq.2 e⟩⟩
theorem Brb {l:List Dev} {i:Nat} {w:Int} (h:Lb l=true) (hi:i<l.length) (h1:1≤w) (h2:w≤1000):Lb (wgt l i w)=true:=by
 obtain ⟨g1,g2,g3,g4⟩:=Hs.1 h
 refine Hs.2 ⟨?_,λ d hd=>?_,?_⟩
 ·have e:(l.map (·.1)).Pairwise (· < ·):=List.pairwise_map.2 g1
  rw [← Ita l i w] at e
  exact List.pairwise_map.1 e
 ·rcases List.mem_or_eq_of_mem_set hd with hd|hd
  ·exact g2 d hd
  ·obtain ⟨e1,e2,_⟩:=N6.1 (g2 _ (A4 (d:=My) hi))
   subst hd
   exact N6.2 ⟨e1,e2,h1,h2⟩
 ·unfold wgt
  rw [List.length_set]
  exact ⟨g3,g4⟩
theorem Lna {r:Rng} {l:List Dev} {i:Nat} {w:Int} (h:Ir r l=true) (hi:i<l.length) (h1:1≤w) (h2:w≤1000):Ir r (wgt l i w)=true:=by
 obtain ⟨g1,g2,g3,g4⟩:=Dj.1 h
 refine Dj.2 ⟨Brb g1 hi h1 h2,g2,g3,λ p hp=>?_⟩
 obtain ⟨q1,q2,q3⟩:=g4 p hp
 exact ⟨q1,q2,λ id hid=>by rw [Qs,Ita,← Qs]; exact q3 id hid⟩

theorem Rta (x:BitVec 32):(cst x).getLsbD 31=x.getLsbD 0:=by
 have h0:(x >>> 1).getLsbD 31=false:=by
  rw [BitVec.getLsbD_ushiftRight]
  exact BitVec.getLsbD_of_ge _ _ (by decide)
 unfold cst
 cases h:x.getLsbD 0 with
 |true=>
  rw [if_pos rfl,BitVec.getLsbD_xor,h0]
  decide
 |false=>
  rw [if_neg (by simp),h0]
theorem Ud {n:Nat} {x y c:BitVec n} (h:x ^^^ c=y ^^^ c):x=y:=by
 have:=congrArg (λ z=>z ^^^ c) h
 simpa [BitVec.xor_assoc] using this
theorem Z8a {x y:BitVec 32} (h:cst x=cst y):x=y:=by
 have h0:x.getLsbD 0=y.getLsbD 0:=by rw [← Rta,← Rta,h]
 have h1:x >>> 1=y >>> 1:=by
  unfold cst at h
  rw [h0] at h
  cases hb:y.getLsbD 0 with
  |true=>rw [hb,if_pos rfl,if_pos rfl] at h; exact Ud h
  |false=>rw [hb,if_neg (by simp),if_neg (by simp)] at h; exact h
 refine BitVec.eq_of_getLsbD_eq λ i hi=>?_
 cases i with
 |zero=>exact h0
 |succ i=>
  have:=congrArg (λ z=>z.getLsbD i) h1
  simpa [BitVec.getLsbD_ushiftRight,Nat.add_comm] using this
theorem A0a:∀ (n:Nat) {x y:BitVec 32},Aqa n x=Aqa n y→x=y
 |0,_,_,h=>h
 |n+1,_,_,h=>Z8a (A0a n h)
theorem Z9a {x y:BitVec 32} {b:Int} (h:cby x b=cby y b):x=y:=Ud (A0a 8 h)
theorem Vba {x:BitVec 32} {a b:Int} (ha:0≤a∧a≤255) (hb:0≤b∧b≤255) (h:cby x a=cby x b):a=b:=by
 have h1:x ^^^ BitVec.ofInt 32 a=x ^^^ BitVec.ofInt 32 b:=A0a 8 h
 rw [BitVec.xor_comm,BitVec.xor_comm x] at h1
 have h2:=Ud h1
 rw [L8a ha,L8a hb,h2]
theorem Loa:∀ (l:List Int) {x y:BitVec 32},l.foldl cby x=l.foldl cby y→x=y
 |[],_,_,h=>h
 |_::l,_,_,h=>Z9a (Loa l h)
theorem X5a (l:List Int):0≤crc l∧crc l≤4294967295:=by
 unfold crc
 have:=(A4b l).isLt
 omega
theorem Zaa {l:List Int} {i:Nat} {y:Int} (hi:i<l.length) (hy:0≤y∧y≤255) (hb:Aj l) (hne:y≠l.getD i 0):crc (l.set i y)≠crc l:=by
 intro h
 have h1:A4b (l.set i y)=A4b l:=BitVec.eq_of_toNat_eq (by unfold crc at h; omega)
 unfold A4b at h1
 have h2:=BitVec.not_inj.1 h1
 have e1:l.set i y=l.take i++y::l.drop (i+1):=by rw [List.set_eq_take_append_cons_drop,if_pos hi]
 have e2:l=l.take i++l.getD i 0::l.drop (i+1):=by
  conv => { lhs; rw [← List.take_append_drop i l] }
  rw [Aq (d:=0) hi]
 rw [e1,List.foldl_append,List.foldl_cons] at h2
 rw [e2] at h2
 rw [List.foldl_append,List.foldl_cons] at h2
 have e3:(l.take i++l.getD i 0::l.drop (i+1)).take i=l.take i:=by rw [← e2]
 have e4:(l.take i++l.getD i 0::l.drop (i+1)).drop (i+1)=l.drop (i+1):=by rw [← e2]
 rw [e3,e4] at h2
 exact hne (Vba hy (hb _ (A4 hi)) (Loa _ h2))
theorem Bsb {a b:Int} (ha:0≤a∧a≤4294967295) (hb:0≤b∧b≤4294967295) (h:c4 a=c4 b):a=b:=by
 have e:∀ c:Int,0≤c→c4 c=[c / 16777216 % 256,c / 65536 % 256,c / 256 % 256,c % 256]:=λ c hc=>by
  unfold c4
  rw [show (2:Int) ^ (min (Int.toNat 24) (IntKind.bits .i64))=16777216 from by decide,show (2:Int) ^ (min (Int.toNat 16) (IntKind.bits .i64))=65536 from by decide,show (2:Int) ^ (min (Int.toNat 8) (IntKind.bits .i64))=256 from by decide,
   Int.fdiv_eq_ediv_of_nonneg _ (by omega),Int.fdiv_eq_ediv_of_nonneg _ (by omega),Int.fdiv_eq_ediv_of_nonneg _ (by omega),IntKind.wrap_u8,IntKind.wrap_u8,IntKind.wrap_u8,IntKind.wrap_u8]
 rw [e a ha.1,e b hb.1] at h
 simp only [List.cons.injEq,and_true] at h
 omega
theorem N9a {l m:List Int} {j:Nat} (h:j<l.length):(l++m).getD j 0=l.getD j 0:=by rw [List.getD_eq_getElem?_getD,List.getD_eq_getElem?_getD,List.getElem?_append_left h]
theorem Naa {l m:List Int} {j:Nat} (h:l.length≤j):(l++m).getD j 0=m.getD (j - l.length) 0:=by rw [List.getD_eq_getElem?_getD,List.getD_eq_getElem?_getD,List.getElem?_append_right h]
theorem Vca {f:Fil} (hf:G6 f=true) {n:Nat} (hn:n<8 * (Li f).length):Nk (Mx (Li f) n)=none:=by
 cases hg:Nk (Mx (Li f) n) with
 |none=>rfl
 |some g=>
  exfalso
  obtain ⟨g1,_,g3⟩:=Z0a hg
  have hpb:=P8 f
  have hj:n / 8<(Li f).length:=by omega
  have hy:=Lba ((Li f).getD (n / 8) 0) (n % 8)
  have hne:=Uwa (hpb _ (A4 (d:=0) hj)) (Nat.mod_lt n (show 0<8 by omega))
  unfold Mx at g3
  generalize Ara ((Li f).getD (n / 8) 0) (n % 8)=y at g3 hy hne
  generalize n / 8=j at g3 hj hne
  have ef:Li f=Oj f++c4 (crc (Oj f)):=by unfold Li; rw [hf]; rfl
  have eg:Li g=Oj g++c4 (crc (Oj g)):=by unfold Li; rw [g1]; rfl
  have l4:∀ c,(c4 c).length=4:=λ c=>rfl
  rw [eg] at g3
  rw [ef] at g3 hj hne
  have hlen:(Oj g).length=(Oj f).length:=by
   have:=congrArg List.length g3
   rw [List.length_set,List.length_append,List.length_append,l4,l4] at this
   omega
  by_cases hjb:j<(Oj f).length
  ·rw [List.set_append_left _ _ hjb] at g3
   obtain ⟨a1,a2⟩:=List.append_inj g3 (by rw [List.length_set]; exact hlen)
   rw [N9a hjb] at hne
   have:=Bsb (X5a _) (X5a _) a2
   rw [a1] at this
   exact Zaa hjb hy (Ps f) hne this
  ·rw [List.set_append_right _ _ (by omega)] at g3
   obtain ⟨a1,a2⟩:=List.append_inj g3 hlen
   rw [a1] at a2
   rw [Naa (by omega)] at hne
   rw [List.length_append,l4] at hj
   have:(c4 (crc (Oj f))).getD (j - (Oj f).length) 0=y:=by
    rw [a2,List.getD_eq_getElem?_getD,List.getElem?_set_self (by rw [l4]; omega),Option.getD_some]
   exact hne this.symm

def Q1 (l:List Nmd) (ns:List ByteArray):List ByteArray:=l.foldl (λ ns x=>wt ns x.1) ns
def nms (d:Dsk):List ByteArray:=Q1 (d.1++d.2) []
def pk1:Option Nmd→List Nmd
 |some x=>[x]
 |none=>[]
theorem Zba (o:Option Nmd):(pk1 o).length≤1:=by cases o<;>simp [pk1]
def Si (kp:List Bool) (a b:List Nmd):List ByteArray→Nat→List Nmd
 |[],_=>[]
 |s::ns,i=>pk1 (pk (bif kp.getD i false then a else b) s)++Si kp a b ns (i+1)
theorem Zca (kp:List Bool) (a b:List Nmd) (i:Nat):Si kp a b [] i=[]:=rfl
theorem Vda (kp:List Bool) (a b:List Nmd) (s:ByteArray) (ns:List ByteArray) (i:Nat):Si kp a b (s::ns) i=pk1 (pk (bif kp.getD i false then a else b) s)++Si kp a b ns (i+1):=rfl
def Se (d:Dsk) (kp:List Bool):Dsk:=bif decide ((Si kp d.1 d.2 (nms d) 0).length > 60) then d else (Si kp d.1 d.2 (nms d) 0,Si kp d.1 d.2 (nms d) 0)
theorem Dha:∀ (l:List Nmd) (ns:List ByteArray),TS ns→TS (Q1 l ns)
 |[],_,h=>h
 |_::l,_,h=>Dha l _ (Qn h)
theorem G9a:∀ (l:List Nmd) (ns:List ByteArray) (t:ByteArray),t∈Q1 l ns↔(∃ x∈l,x.1=t)∨t∈ns
 |[],ns,t=>by simp [Q1]
 |x::l,ns,t=>by
  show t∈Q1 l (wt ns x.1)↔_
  rw [G9a l,L6a]
  simp only [List.mem_cons,exists_eq_or_imp]
  constructor
  ·rintro (h|rfl|h)
   ·exact .inl (.inr h)
   ·exact .inl (.inl rfl)
   ·exact .inr h
  ·rintro ((h|h)|h)
   ·exact .inr (.inl h.symm)
   ·exact .inl h
   ·exact .inr (.inr h)
theorem Tf:∀ (l:List Nmd) (ns:List ByteArray),(Q1 l ns).length≤ns.length+l.length
 |[],_=>by simp [Q1]
 |x::l,ns=>by
  have h1:=Tf l (wt ns x.1)
  have h2:=R2a (l:=ns) (s:=x.1)
  show (Q1 l (wt ns x.1)).length≤_
  rw [List.length_cons]
  omega
theorem X6a (d:Dsk):TS (nms d):=Dha _ _ List.Pairwise.nil
theorem Zda {d:Dsk} {t:ByteArray}:t∈nms d↔(gt d.1 t).isSome=true∨(gt d.2 t).isSome=true:=by
 have h:∀ l:List Nmd,(gt l t).isSome=true↔∃ x∈l,x.1=t:=λ l=>by
  cases hg:gt l t with
  |none=>
   constructor
   ·intro h; cases h
   ·rintro ⟨x,hx,e⟩; exact absurd e (Mu.1 hg x hx)
  |some b=>simp only [Option.isSome_some,true_iff]; exact ⟨_,Od hg,rfl⟩
 unfold nms
 rw [G9a,h,h]
 simp only [List.mem_append,List.not_mem_nil,or_false]
 constructor
 ·rintro ⟨x,h1|h1,h2⟩
  ·exact .inl ⟨x,h1,h2⟩
  ·exact .inr ⟨x,h1,h2⟩
 ·rintro (⟨x,h1,h2⟩|⟨x,h1,h2⟩)
  ·exact ⟨x,.inl h1,h2⟩
  ·exact ⟨x,.inr h1,h2⟩
theorem Zea (l:List Nmd) (s:ByteArray):pk l s=(gt l s).map λ b=>(s,b):=by
 unfold pk gt
 cases h:fnd l s with
 |none=>rfl
 |some i=>rw [Option.map_some,← (Qm h).2]
theorem Ue (kp:List Bool) (a b:List Nmd):∀ (ns:List ByteArray) (i:Nat),((Si kp a b ns i).map Prod.fst).Sublist ns
 |[],_=>List.Sublist.slnil
 |s::ns,i=>by
  unfold Si
  rw [Zea]
  cases gt (bif kp.getD i false then a else b) s with
  |none=>exact (Ue kp a b ns (i+1)).cons s
  |some c=>exact (Ue kp a b ns (i+1)).cons_cons s
theorem Zfa (kp:List Bool) (a b:List Nmd) (ns:List ByteArray) (i:Nat):(Si kp a b ns i).length≤ns.length:=by
 have:=(Ue kp a b ns i).length_le
 rwa [List.length_map] at this
theorem Nba {kp:List Bool} {a b:List Nmd} {ns:List ByteArray} {i:Nat} (h:TS ns):G4 (Si kp a b ns i):=by
 have:=List.Pairwise.sublist (Ue kp a b ns i) h
 rwa [List.pairwise_map] at this
theorem Rua {kp:List Bool} {a b:List Nmd}:∀ {ns:List ByteArray} {i:Nat} {x:Nmd},x∈Si kp a b ns i→gt a x.1=some x.2∨gt b x.1=some x.2
 |[],_,_,h=>by cases h
 |s::ns,i,x,h=>by
  unfold Si at h
  rw [Zea] at h
  rcases List.mem_append.1 h with h|h
  ·cases hg:gt (bif kp.getD i false then a else b) s with
   |none=>rw [hg] at h; cases h
   |some c=>
    rw [hg] at h
    rw [List.mem_singleton.1 h]
    cases hk:kp.getD i false with
    |true=>rw [hk] at hg; exact .inl hg
    |false=>rw [hk] at hg; exact .inr hg
  ·exact Rua h
theorem X7a {kp:List Bool} {a b:List Nmd} {t:ByteArray}:∀ {ns:List ByteArray} {i:Nat},TS ns→t∈ns→∃ j,i≤j∧gt (Si kp a b ns i) t=gt (bif kp.getD j false then a else b) t
 |[],_,_,h=>by cases h
 |s::ns,i,hs,h=>by
  obtain ⟨h1,h2⟩:=List.pairwise_cons.1 hs
  have hn:∀ j,gt (Si kp a b ns j) s=none:=λ j=>Mu.2 λ x hx e=>by
   have:=h1 x.1 ((Ue kp a b ns j).subset (List.mem_map_of_mem hx))
   rw [e,Kw] at this
   cases this
  unfold Si
  rw [Zea]
  rcases List.mem_cons.1 h with rfl|h
  ·refine ⟨i,Nat.le_refl _,?_⟩
   cases hg:gt (bif kp.getD i false then a else b) t with
   |none=>exact hn _
   |some c=>
    show gt ((t,c)::Si kp a b ns (i+1)) t=_
    rw [Iia,if_pos rfl]
  ·obtain ⟨j,hj,e⟩:=X7a (kp:=kp) (a:=a) (b:=b) (i:=i+1) h2 h
   refine ⟨j,by omega,?_⟩
   rw [← e]
   have hst:s≠t:=λ e=>by
    have:=h1 t h
    rw [e,Kw] at this
    cases this
   cases gt (bif kp.getD i false then a else b) s with
   |none=>rfl
   |some c=>
    show gt ((s,c)::Si kp a b ns (i+1)) t=_
    rw [Iia,if_neg hst]
theorem Rva {d:Dsk} {kp:List Bool} (h:DG d):DG (Se d kp):=by
 unfold Se
 cases hc:decide ((Si kp d.1 d.2 (nms d) 0).length > 60) with
 |true=>exact h
 |false=>
  have hl:=of_decide_eq_false hc
  have n1:=(Ac.1 (D5.1 h.1).1).2.1
  have n2:=(Ac.1 (D5.1 h.1).2).2.1
  have q:Iw (Si kp d.1 d.2 (nms d) 0)=true:=Ac.2 ⟨Nba (X6a d),λ x hx=>(Rua hx).elim (λ e=>n1 _ (Od e)) (λ e=>n2 _ (Od e)),by omega⟩
  have b:LB (Si kp d.1 d.2 (nms d) 0):=λ x hx=>(Rua hx).elim (λ e=>h.2.1.gt e) (λ e=>h.2.2.gt e)
  exact ⟨D5.2 ⟨q,q⟩,b,b⟩
theorem Rwa {d:Dsk} {kp:List Bool} (t:ByteArray):Se d kp=d∨((Se d kp).2=(Se d kp).1∧(gt (Se d kp).1 t=gt d.1 t∨gt (Se d kp).1 t=gt d.2 t)):=by
 unfold Se
 cases hc:decide ((Si kp d.1 d.2 (nms d) 0).length > 60) with
 |true=>exact .inl rfl
 |false=>
  refine .inr ⟨rfl,?_⟩
  show gt (Si kp d.1 d.2 (nms d) 0) t=_∨gt (Si kp d.1 d.2 (nms d) 0) t=_
  by_cases ht:t∈nms d
  ·obtain ⟨j,_,e⟩:=X7a (kp:=kp) (a:=d.1) (b:=d.2) (i:=0) (X6a d) ht
   rw [e]
   cases kp.getD j false with
   |true=>exact .inl rfl
   |false=>exact .inr rfl
  ·have h1:gt d.1 t=none:=by
    cases hg:gt d.1 t with
    |none=>rfl
    |some b=>exact absurd (Zda.2 (.inl (by rw [hg]; rfl))) ht
   left
   rw [h1]
   exact Mu.2 λ x hx e=>ht (by rw [← e]; exact (Ue _ _ _ _ _).subset (List.mem_map_of_mem hx))
theorem Dia {R:Type} {L:Nat→List Nmd→Option R} {Q:R→Prop} (c:List Nmd) (s:ByteArray) (acc:List Nmd) (hc:c.length≤5000000) (ha:acc.length≤5000000) (next:Tot (λ k=>L k (acc++pk1 (pk c s))) Q):
  Tot (λ k=>(C0 k c s).bind λ r=>cond (decide (r≥0)) (cond (decide ((0:Int)≤r)) (cond (decide (r<(List.length c:Int))) (cond (Nat.ble ((List.length acc+List.length [List.getD c (Int.toNat r) ((⟨#[]⟩:ByteArray),[])]) * 40) 140737488355328) (L k (acc++[List.getD c (Int.toNat r) ((⟨#[]⟩:ByteArray),[])])) none) none) none) (L k acc)) Q:=by
 refine Tot.bind (Y8 c s (by omega)) ?_
 rintro r rfl
 unfold pk at next
 unfold Gqa
 cases h:fnd c s with
 |none=>
  rw [h] at next
  simp only [pk1,List.append_nil] at next
  exact Tot.ndec (by decide) next
 |some i=>
  rw [h] at next
  have:=(Qm h).1
  simp only [Int.toNat_natCast]
  exact Tot.dec (by omega) (Tot.dec (by omega) (Tot.dec (by omega) (Tot.ble (by simp only [List.length_cons,List.length_nil]; omega) next)))

def mk0 (s:ByteArray):Nmd:=(s,[])
theorem Uf {ns:List ByteArray} (h:TS ns):G4 (ns.map mk0):=by
 unfold G4
 rw [List.pairwise_map]
 exact h
theorem X8a {ns:List ByteArray} (h:TS ns) {t:ByteArray}:(t∈ns→gt (ns.map mk0) t=some [])∧(t∉ns→gt (ns.map mk0) t=none):=by
 refine ⟨λ ht=>?_,λ ht=>Mu.2 λ x hx e=>?_⟩
 ·exact R5a (Uf h) (x:=mk0 t) (List.mem_map_of_mem ht)
 ·obtain ⟨s,hs,rfl⟩:=List.mem_map.1 hx
  exact ht (by rw [← e]; exact hs)
theorem Btb {ns:List ByteArray} (h:TS ns) (s:ByteArray):ptl (s,[]) false (ns.map mk0)=(wt ns s).map mk0:=by
 have h1:=Uf h
 rw [U9 _ h1]
 refine Wua (Re (Mt h1) Yy) (Uf (Qn h)) λ t=>?_
 have e:=Ika h1 (s:=s) (t:=t) (b:=[])
 unfold wr at e
 rw [e]
 have g1:=X8a h (t:=t)
 have g2:=X8a (Qn (s:=s) h) (t:=t)
 by_cases hst:s=t
 ·rw [if_pos hst,g2.1 (L6a.2 (.inl hst.symm))]
 ·rw [if_neg hst]
  by_cases ht:t∈ns
  ·rw [g1.1 ht,g2.1 (L6a.2 (.inr ht))]
  ·rw [g1.2 ht,g2.2 (λ c=>(L6a.1 c).elim (λ e=>hst e.symm) ht)]
theorem Rxa (a b:List Nmd) (ha:a.length≤2000000) (hb:b.length≤2000000):Tot (λ k=>C9 k a b) (λ r=>r=nms (a,b)):=by
 unfold C9
 have put:∀ {ns:List ByteArray} (x:Nmd),TS ns→ns.length≤5000000→Tot (λ k=>Ez k (ns.map mk0) x.1 []) (λ r=>r=(wt ns x.1).map mk0):=λ x ht hl=>(Dea _ x.1 [] (by rw [List.length_map]; omega) (by simp)).mono λ r hr=>by rw [hr,Btb ht]
 refine Tot.bind (Q:=λ r=>r=(b,(Q1 a []).map mk0)) ?_ ?_
 ·refine Tot.up (L:=λ k i s=>F9 k a b s i) (Q:=λ r=>r=(b,(Q1 a []).map mk0)) a.length (λ j s=>∃ ns,s=ns.map mk0∧TS ns∧Q1 (a.drop j) ns=Q1 a []∧ns.length≤j) ?_ ?_ 0 [] (Nat.zero_le _) ⟨[],rfl,List.Pairwise.nil,rfl,Nat.le_refl _⟩
  ·rintro s ⟨ns,rfl,_,h,_⟩
   rw [List.drop_length] at h
   simp (disch:=omega) only [F9,dF]
   exact Tot.pure (by rw [← h]; rfl)
  ·rintro j s hj ⟨ns,rfl,ht,h,hl⟩ next
   rw [Aq (d:=Eu) hj] at h
   simp (disch:=omega) only [F9,dT,Int.toNat_natCast,w64]
   refine Tot.bind (put (a.getD j Eu) ht (by omega)) ?_
   rintro r rfl
   have:=R2a (l:=ns) (s:=(a.getD j Eu).1)
   exact next _ ⟨_,rfl,Qn ht,h,by omega⟩
 ·rintro r rfl
  have hla:(Q1 a []).length≤2000000:=by have:=Tf a []; rw [List.length_nil] at this; omega
  have e:Q1 b (Q1 a [])=nms (a,b):=by unfold nms Q1; rw [List.foldl_append]
  refine Tot.bind (Q:=λ r=>r=(nms (a,b)).map mk0) ?_ ?_
  ·refine Tot.up (L:=λ k i s=>F8 k b s i) (Q:=λ r=>r=(nms (a,b)).map mk0) b.length (λ j s=>∃ ns,s=ns.map mk0∧TS ns∧Q1 (b.drop j) ns=nms (a,b)∧ns.length≤2000000+j) ?_ ?_ 0 _ (Nat.zero_le _) ⟨_,rfl,Dha _ _ List.Pairwise.nil,e,by omega⟩
   ·rintro s ⟨ns,rfl,_,h,_⟩
    rw [List.drop_length] at h
    simp (disch:=omega) only [F8,dF]
    exact Tot.pure (by rw [← h]; rfl)
   ·rintro j s hj ⟨ns,rfl,ht,h,hl⟩ next
    rw [Aq (d:=Eu) hj] at h
    simp (disch:=omega) only [F8,dT,Int.toNat_natCast,w64]
    refine Tot.bind (put (b.getD j Eu) ht (by omega)) ?_
    rintro r rfl
    have:=R2a (l:=ns) (s:=(b.getD j Eu).1)
    exact next _ ⟨_,rfl,Qn ht,h,by omega⟩
  ·rintro r rfl
   have hln:(nms (a,b)).length≤4000000:=by rw [← e]; have:=Tf b (Q1 a []); omega
   refine Tot.bind (Q:=λ r=>r=nms (a,b)) ?_ (by rintro r rfl; exact Tot.pure rfl)
   refine Tot.up (L:=λ k i s=>Dy k ((nms (a,b)).map mk0) s i) (Q:=λ r=>r=nms (a,b)) (nms (a,b)).length (λ j s=>s=(nms (a,b)).take j) ?_ ?_ 0 [] (Nat.zero_le _) rfl
   ·rintro s rfl
    simp (disch:=omega) only [Dy,List.length_map,dF,List.take_length]
    exact Tot.pure rfl
   ·rintro j s hj rfl next
    simp (disch:=omega) only [Dy,List.length_map,dT,Int.toNat_natCast,w64]
    refine Tot.ble (by simp only [List.length_take,List.length_cons,List.length_nil]; omega) (next _ ?_)
    rw [List.take_succ_eq_append_getElem hj,List.getD_eq_getElem?_getD,List.getElem?_map,List.getElem?_eq_getElem hj]
    rfl
theorem Rya (d:Dsk) (kp:List Bool) (hd:DG d) (hk:kp.length≤4000000000000):Tot (λ k=>Cu k d kp) (λ r=>r=Se d kp):=by
 have hin:=Nw hd.1
 have g1:=(Ac.1 (D5.1 hd.1).1).2.2
 have g2:=(Ac.1 (D5.1 hd.1).2).2.2
 unfold Cu
 refine Tot.bind (Pp d hin.1.1 hin.1.2) ?_
 rintro b rfl
 rw [hd.1]
 refine Tot.no rfl (Tot.bind (Rxa d.1 d.2 (by omega) (by omega)) ?_)
 rintro r rfl
 have hn:(nms d).length≤120:=by
  have:=Tf (d.1++d.2) []
  rw [List.length_nil,List.length_append] at this
  exact Nat.le_trans this (by omega)
 refine Tot.bind (Q:=λ r=>r=(Si kp d.1 d.2 (nms d) 0,d,([],[]))) ?_ ?_
 ·refine Tot.up (L:=λ k i s=>Am k kp (nms d) s i d ([],[])) (Q:=λ r=>r=(Si kp d.1 d.2 (nms d) 0,d,([],[]))) (nms d).length (λ j s=>s++Si kp d.1 d.2 ((nms d).drop j) j=Si kp d.1 d.2 (nms d) 0∧s.length≤j) ?_ ?_ 0 [] (Nat.zero_le _) ⟨rfl,Nat.le_refl _⟩
  ·rintro s ⟨h,_⟩
   rw [List.drop_length,Zca,List.append_nil] at h
   simp (disch:=omega) only [Am,dF]
   exact Tot.pure (by rw [h])
  ·rintro j s hj ⟨h,hs⟩ next
   rw [Aq (d:=Oi) hj] at h
   rw [Vda,← List.append_assoc] at h
   simp (disch:=omega) only [Am,dT,Int.toNat_natCast,w64]
   have hl:=Zba (pk (bif kp.getD j false then d.1 else d.2) ((nms d).getD j Oi))
   have nx:=next (s++pk1 (pk (bif kp.getD j false then d.1 else d.2) ((nms d).getD j Oi))) ⟨h,by rw [List.length_append]; omega⟩
   have e0:(nms d).getD j (⟨#[]⟩:ByteArray)=(nms d).getD j Oi:=rfl
   rw [e0]
   refine Tot.dite (λ hc=>?_) (λ hc=>?_)
   ·refine Tot.dec (by omega) (Tot.ite (λ hk=>?_) (λ hk=>?_))
    ·rw [hk] at nx
     exact Dia (L:=λ k acc=>Am k kp (nms d) acc ((j:Int)+1) d ([],[])) d.1 _ s (by omega) (by omega) nx
    ·rw [hk] at nx
     exact Dia (L:=λ k acc=>Am k kp (nms d) acc ((j:Int)+1) d ([],[])) d.2 _ s (by omega) (by omega) nx
   ·have hk:kp.getD j false=false:=by rw [List.getD_eq_getElem?_getD,List.getElem?_eq_none (by omega)]; rfl
    rw [hk] at nx
    exact Dia (L:=λ k acc=>Am k kp (nms d) acc ((j:Int)+1) d ([],[])) d.2 _ s (by omega) (by omega) nx
 ·rintro r rfl
  have hp:=Zfa kp d.1 d.2 (nms d) 0
  unfold Se
  refine Tot.dite (λ h=>?_) (λ h=>?_)
  ·dsimp only at h
   rw [decide_eq_true (show (Si kp d.1 d.2 (nms d) 0).length > 60 by omega)]
   refine Tot.bind (Ll d hin.1.1) ?_
   rintro r rfl
   exact Tot.pure rfl
  ·dsimp only at h
   have hc:decide ((Si kp d.1 d.2 (nms d) 0).length > 60)=false:=decide_eq_false (by omega)
   have hg:=Rva (kp:=kp) hd
   unfold Se at hg
   rw [hc] at hg ⊢
   rw [cond_false] at hg
   have hf:=(Nw hg.1).1.1.1
   refine Tot.bind (Oc _ hf) ?_
   rintro r rfl
   refine Tot.bind (Oc _ hf) ?_
   rintro r rfl
   exact Tot.pure rfl
def clS (o:Dsk×Int) (x:Nmd):Dsk×Int:=match Nk x.2 with
 |some _=>o
 |none=>((cut o.1.1 x.1,cut o.1.2 x.1),o.2+1)
def O3 (d:Dsk):Dsk×Int:=d.1.foldl clS (d,0)
theorem Nca {l:List Nmd} {s:ByteArray} (h:gt l s=none):cut l s=l:=by
 refine List.filter_eq_self.2 λ x hx=>?_
 cases ht:teq x.1 s with
 |false=>rfl
 |true=>exact absurd (Jl.1 ht) (Mu.1 h x hx)
theorem Bub {d:Dsk} {s:ByteArray} (h:DG d):DG (cut d.1 s,cut d.2 s):=⟨D5.2 ⟨Uo (D5.1 h.1).1,Uo (D5.1 h.1).2⟩,h.2.1.cut s,h.2.2.cut s⟩
theorem Zga {o:Dsk×Int} {x:Nmd} (h:DG o.1):DG (clS o x).1:=by
 unfold clS
 cases Nk x.2 with
 |some _=>exact h
 |none=>exact Bub h
theorem Lpa:∀ (l:List Nmd) (o:Dsk×Int),DG o.1→DG (l.foldl clS o).1
 |[],_,h=>h
 |_::l,_,h=>Lpa l _ (Zga h)
theorem Vea {d:Dsk} (h:DG d):DG (O3 d).1:=Lpa _ _ h
def Dra (l:List Nmd):List ByteArray:=(l.filter λ x=>(Nk x.2).isNone).map Prod.fst
theorem A1a:∀ (l:List Nmd) (o:Dsk×Int),DG o.1→((l.foldl clS o).2=o.2+((Dra l).length:Int))∧∀ t,(t∈Dra l→gt (l.foldl clS o).1.1 t=none∧gt (l.foldl clS o).1.2 t=none)∧(t∉Dra l→gt (l.foldl clS o).1.1 t=gt o.1.1 t∧gt (l.foldl clS o).1.2 t=gt o.1.2 t)
 |[],o,h=>⟨by simp [Dra],λ t=>⟨λ c=>by simp [Dra] at c,λ _=>⟨rfl,rfl⟩⟩⟩
 |x::l,o,h=>by
  obtain ⟨h1,h2⟩:=A1a l (clS o x) (Zga h)
  rw [List.foldl_cons]
  cases hx:Nk x.2 with
  |some f=>
   have e:Dra (x::l)=Dra l:=by unfold Dra; rw [List.filter_cons,hx]; rfl
   have ec:clS o x=o:=by unfold clS; rw [hx]
   rw [e]
   rw [ec] at h1 h2 ⊢
   exact ⟨h1,h2⟩
  |none=>
   have e:Dra (x::l)=x.1::Dra l:=by unfold Dra; rw [List.filter_cons,hx]; rfl
   have ec:clS o x=((cut o.1.1 x.1,cut o.1.2 x.1),o.2+1):=by unfold clS; rw [hx]
   rw [e]
   rw [ec] at h1 h2 ⊢
   refine ⟨by rw [h1,List.length_cons]; omega,λ t=>⟨λ ht=>?_,λ ht=>?_⟩⟩
   ·by_cases hb:t∈Dra l
    ·exact (h2 t).1 hb
    ·obtain ⟨a1,a2⟩:=(h2 t).2 hb
     have:x.1=t:=by
      rcases List.mem_cons.1 ht with e|e
      ·exact e.symm
      ·exact absurd e hb
     rw [a1,a2,Tc (Mv h.1),Tc (Qp h.1),if_pos this,if_pos this]
     exact ⟨rfl,rfl⟩
   ·obtain ⟨a1,a2⟩:=(h2 t).2 (λ c=>ht (List.mem_cons_of_mem _ c))
    have:x.1≠t:=λ e=>ht (by rw [← e]; exact List.mem_cons_self)
    rw [a1,a2,Tc (Mv h.1),Tc (Qp h.1),if_neg this,if_neg this]
    exact ⟨rfl,rfl⟩
theorem Vfa {d:Dsk} (hd:Al d=true) {t:ByteArray}:t∈Dra d.1↔∃ b,gt d.1 t=some b∧Nk b=none:=by
 unfold Dra
 rw [List.mem_map]
 constructor
 ·rintro ⟨x,hx,rfl⟩
  obtain ⟨h1,h2⟩:=List.mem_filter.1 hx
  exact ⟨x.2,R5a (Mv hd) h1,by simpa using h2⟩
 ·rintro ⟨b,h1,h2⟩
  exact ⟨(t,b),List.mem_filter.2 ⟨Od h1,by simp [h2]⟩,rfl⟩
theorem Rza (d:Dsk) (hd:DG d):Tot (λ k=>Ie k d) (λ r=>r=O3 d):=by
 have hin:=Nw hd.1
 have hl:=(Ac.1 (D5.1 hd.1).1).2.2
 have hnk:=(Ac.1 (D5.1 hd.1).1).2.1
 unfold Ie
 refine Tot.bind (Ll d hin.1.1) ?_
 rintro d rfl
 refine Tot.bind (Q:=λ r=>r=((O3 d).2,([],[]),(O3 d).1)) ?_ (by rintro r rfl; exact Tot.pure rfl)
 refine Tot.up (L:=λ k i (s:Dsk×Int)=>Hf k s.2 i d ([],[]) s.1) (Q:=λ r=>r=((O3 d).2,([],[]),(O3 d).1)) d.1.length (λ j s=>(d.1.drop j).foldl clS s=O3 d∧DG s.1∧0≤s.2∧s.2≤j) ?_ ?_ 0 (d,0) (Nat.zero_le _) ⟨rfl,hd,Int.le_refl 0,by simp⟩
 ·rintro s ⟨h,_⟩
  rw [List.drop_length] at h
  simp (disch:=omega) only [Hf,dF]
  exact Tot.pure (by rw [← h]; rfl)
 ·rintro j s hj ⟨h,hg,s0,s1⟩ next
  rw [Aq (d:=Eu) hj,List.foldl_cons] at h
  have hsi:=Nw hg.1
  have hx:=A4 (d:=Eu) hj
  simp (disch:=omega) only [Hf,dT,Int.toNat_natCast,w64]
  have e0:d.1.getD j ((⟨#[]⟩:ByteArray),([]:List Int))=d.1.getD j Eu:=rfl
  rw [e0]
  refine Tot.bind (Pp d hin.1.1 hin.1.2) ?_
  rintro r rfl
  refine Tot.yes hd.1 (Tot.bind (W6 hin.1.1.1 hd.2.1 _) ?_)
  rintro r rfl
  have hnm:=(Pq.1 (hnk _ hx)).1
  have hcg:=Zga (x:=d.1.getD j Eu) hg
  unfold clS at h hcg
  unfold lkD
  rw [R5a (Mv hd.1) hx]
  simp only
  cases hf:Nk (d.1.getD j Eu).2 with
  |some f=>
   rw [hf] at h
   exact Tot.no rfl (next _ ⟨h,hg,s0,by omega⟩)
  |none=>
   rw [hf] at h hcg
   refine Tot.yes rfl (Tot.bind (Sa hg.1 (Kx hnm)) ?_)
   rintro r rfl
   have er:(rmD s.1 (d.1.getD j Eu).1).1=(cut s.1.1 (d.1.getD j Eu).1,s.1.2):=by
    unfold rmD
    cases hg1:gt s.1.1 (d.1.getD j Eu).1 with
    |none=>rw [Nca hg1]; rfl
    |some b=>rfl
   have hrg:=Uva (s:=(d.1.getD j Eu).1) hg
   rw [er] at hrg ⊢
   refine Tot.bind (Td hrg.1 hnm) ?_
   rintro r rfl
   have es:(syD (cut s.1.1 (d.1.getD j Eu).1,s.1.2) (d.1.getD j Eu).1).1=(cut s.1.1 (d.1.getD j Eu).1,cut s.1.2 (d.1.getD j Eu).1):=by
    have e2:sy (cut s.1.1 (d.1.getD j Eu).1,s.1.2) (d.1.getD j Eu).1=cut s.1.2 (d.1.getD j Eu).1:=by
     unfold sy
     rw [Tc (Mv hg.1),if_pos rfl]
    unfold syD
    rw [e2,decide_eq_true (Ac.1 (D5.1 hcg.1).2).2.2]
    rfl
   rw [es]
   exact next ((cut s.1.1 (d.1.getD j Eu).1,cut s.1.2 (d.1.getD j Eu).1),s.2+1) ⟨h,hcg,by dsimp only; omega,by dsimp only; omega⟩

end Go.Proofs.YtcgfpppmikhgmaaGreat.Vf
