import Derived.Test.YtcpligincipmhaaGreatMam
import Derived.Test.YtcpligincipmhaaGreatMal
set_option linter.all false
namespace Go.Proofs.YtcpligincipmhaaGreat.Vf
open Go
open List (length getD)
open Int (toNat)
open Go.IntKind (wrap)
open BitVec (ofInt)
def Wl:=@List.take_succ_eq_append_getElem
def Gzb:=@List.length_pos_of_mem
def Hob:=@List.foldl_append
def Hwb:=@List.length_erase_of_mem
def Iib:=@List.exists_mem_of_length_pos
def Inb:=@List.mem_erase_of_ne
def Ivb:=@List.range_succ
def Iwb:=@BitVec.getLsbD_ushiftRight
def Jlb:=@List.find?_cons
def Jmb:=@List.set_append_right
def Jqb:=@List.nodup_nil

abbrev Nod:=Int×Dsk×List Row×List Row
def qOk (l:List Row):Bool:=l.all Nd
def Mp (n:Nod):Bool:=qOk n.2.2.2&&(inR n.1 0 20&&(Ap n.2.1&&(L5 n.2.2.1&&decide ((n.2.2.2.length:Int)≤60))))
def RF (l:List Row):Prop:=l.length≤2000000∧Qm l
def NIn (n:Nod):Prop:=(DIn n.2.1∧DB n.2.1)∧RF n.2.2.1∧RF n.2.2.2
def NG (n:Nod):Prop:=Mp n=true∧DB n.2.1
def C2 {n:Nod}:Mp n=true↔(∀ r∈n.2.2.2,Nd r=true)∧(0≤n.1∧n.1≤20)∧Ap n.2.1=true∧L5 n.2.2.1=true∧n.2.2.2.length≤60:=by
 unfold Mp qOk;simp only[Va,Yp,Dg,decide_eq_true_iff];constructor
 ·rintro⟨h1,h2,h3,h4,h5⟩;exact⟨h1,h2,h3,h4,by omega⟩
 ·rintro⟨h1,h2,h3,h4,h5⟩;exact⟨h1,h2,h3,h4,by omega⟩
def K5a {l:List Row} (h:L5 l=true):RF l:=by
 obtain⟨_,h2,h3⟩:=Mm.1 h;exact⟨by omega,λ r hr=>J0 (Cua (h2 r hr))⟩
def Xf {n:Nod} (h:NG n):NIn n:=by
 obtain⟨h1,_,h3,h4,h5⟩:=C2.1 h.1;exact⟨⟨Nz h3,h.2⟩,K5a h4,by omega,λ r hr=>J0 (Cua (h1 r hr))⟩
def NG.g {n:Nod} (h:NG n):DG n.2.1:=⟨(C2.1 h.1).2.2.1,h.2⟩
def N0a (n:Nod) (hn:NIn n):Tot (λ k=>Eo k n) (λ r=>r=Mp n):=by
 obtain⟨i,⟨a,b⟩,ro,q⟩:=n;obtain⟨⟨hd,_⟩,hr,hq⟩:=hn;dsimp only at hd hr hq;unfold Eo;have hl:=hq.1;refine Gab (Q:=λ r=>r=bif qOk q then .inr (i,a,b,ro,q) else .inl false) ?_ ?_
 ·refine Gib (L:=λ k i' (_:Unit)=>Hr k q (q.length:Int) i' i a b ro q) (Q:=λ r=>r=bif qOk q then .inr (i,a,b,ro,q) else .inl false) q.length (λ j _=>(q.drop j).all Nd=q.all Nd) ?_ ?_ 0 () (Vt _) (by rw[Yd])
  ·intro _ hj;rw[Wf]at hj;simp only[Hr];exact Geb (by omega) (G9b (by unfold qOk;rw[← hj];rfl))
  ·intro j _ hj hi next;simp only[Hr];rw[Au (d:=Nl) hj,Grb]at hi;refine Gdb (by omega) (Gdb (by omega) (Gdb (by omega) ?_));rw[Vg,w64 (n:=(j:Int)+1) (by omega) (by omega)];refine Glb (S9a (q.getD j Nl) (hq.2 _ (A4 hj))) ?_
   cases hc:Nd (q.getD j Nl) with
   |false=>exact Gcb rfl (G9b (by unfold qOk;rw[← hi,hc];rfl))
   |true=>exact Gbb rfl (next () (by rw[hc,Vy]at hi;exact hi))
 ·rintro r rfl;unfold Mp;dsimp only;cases qOk q
  ·exact G9b rfl
  simp only[cond_true,Hhb,Vy];refine Glb (Gmb (Q:=λ r=>r=inR i 0 20) (U4 _ _ _) rfl) ?_;cases inR i 0 20
  ·exact Gbb rfl (G9b rfl)
  refine Gcb rfl (Glb (Xw (a,b) hd.1.1 hd.1.2) ?_);cases Ap (a,b)
  ·exact Gbb rfl (G9b rfl)
  refine Gcb rfl (Glb (Wma ro (by have:=hr.1;unfold Few;omega) hr.2) ?_)
  cases L5 ro with
  |false=>exact Gbb rfl (G9b rfl)
  |true=>exact Gcb rfl (G9b rfl)
def Y0 (n:Nod) (hn:NIn n):Tot (λ k=>Bz k n) (λ r=>r=Mp n):=by
 obtain⟨i,⟨a,b⟩,ro,q⟩:=n;obtain⟨⟨hd,_⟩,hr,hq⟩:=hn;dsimp only at hd hr hq;unfold Bz;have hl:=hq.1;refine Gab (Q:=λ r=>r=bif qOk q then .inr (i,a,b,ro,q) else .inl false) ?_ ?_
 ·refine Gib (L:=λ k i' (_:Unit)=>Hj k i' i a b ro q) (Q:=λ r=>r=bif qOk q then .inr (i,a,b,ro,q) else .inl false) q.length (λ j _=>(q.drop j).all Nd=q.all Nd) ?_ ?_ 0 () (Vt _) (by rw[Yd])
  ·intro _ hj;rw[Wf]at hj;simp only[Hj];exact Geb (by omega) (G9b (by unfold qOk;rw[← hj];rfl))
  ·intro j _ hj hi next;simp only[Hj];rw[Au (d:=Nl) hj,Grb]at hi;refine Gdb (by omega) (Gdb (by omega) (Gdb (by omega) ?_));rw[Vg,w64 (n:=(j:Int)+1) (by omega) (by omega)];refine Glb (Saa (q.getD j Nl) (hq.2 _ (A4 hj))) ?_
   cases hc:Nd (q.getD j Nl) with
   |false=>exact Gcb rfl (G9b (by unfold qOk;rw[← hi,hc];rfl))
   |true=>exact Gbb rfl (next () (by rw[hc,Vy]at hi;exact hi))
 ·rintro r rfl;unfold Mp;dsimp only;cases qOk q
  ·exact G9b rfl
  simp only[cond_true,Hhb,Vy];refine Glb (Gmb (Q:=λ r=>r=inR i 0 20) (Ob _ _ _) rfl) ?_;cases inR i 0 20
  ·exact Gbb rfl (G9b rfl)
  refine Gcb rfl (Glb (Qo (a,b) hd.1.1 hd.1.2) ?_);cases Ap (a,b)
  ·exact Gbb rfl (G9b rfl)
  refine Gcb rfl (Glb (Mca ro (by have:=hr.1;unfold Few;omega) hr.2) ?_)
  cases L5 ro with
  |false=>exact Gbb rfl (G9b rfl)
  |true=>exact Gcb rfl (G9b rfl)
def Wz (n:Nod) (hn:NIn n):Tot (λ k=>Fo k n) (λ r=>r=n):=by
 unfold Fo;have h1:=hn.2.1.1;have h2:=hn.2.2.1;refine Glb (L6 n.2.1 hn.1.1.1.1) ?_;refine Glb (Gmb (Q:=λ r=>r=n.2.2.1) (M9a _ (by unfold Few;omega)) rfl) ?_;refine Glb (Gmb (Q:=λ r=>r=n.2.2.2) (M9a _ (by unfold Few;omega)) rfl) ?_;exact G9b rfl
def O4 (n:Nod) (hn:NIn n):Tot (λ k=>Bi k n) (λ r=>r=n):=by
 unfold Bi;have h1:=hn.2.1.1;have h2:=hn.2.2.1;refine Glb (M5 n.2.1 hn.1.1.1.1) ?_;refine Ghb (by simp only[Vj];omega) (Ghb (by simp only[Vj];omega) (G9b ?_));rw[Wb,Wb]
def Ota (a b:List Row) (hf:a.length+b.length≤10000000000):Tot (λ k=>Bu k a b) (λ r=>r=Xu a b):=by
 unfold Bu;refine Ghb (by simp only[Vj];omega) ?_;rw[Wb];refine Gab (Q:=λ r=>r=Xu a b) ?_ (by rintro r rfl;exact G9b rfl);refine Gib (L:=λ k i s=>Dw k b s i) (Q:=λ r=>r=Xu a b) b.length (λ i s=>Xu s (b.drop i)=Xu a b∧s.length≤a.length+i) ?_ ?_ 0 a (Vt _) ⟨by rw[Yd],Nat.le_add_right _ _⟩
 ·rintro s ⟨hs,_⟩;rw[Wf]at hs;simp only[Dw];exact Geb (by omega) (G9b hs)
 ·rintro i s hi ⟨hs,hl⟩ next;simp only[Dw];refine Gdb (by omega) (Gdb (by omega) (Gdb (by omega) ?_));rw[Vg,w64 (n:=(i:Int)+1) (by omega) (by omega)];rw[Au (d:=Nl) hi]at hs;refine Glb (Gma s (b.getD i Nl) (by unfold Few;omega)) ?_;have:=S7a s (b.getD i Nl);exact next _ ⟨hs,by omega⟩
def X5a (n:Nod) (l:List Row):Nod×Bool:=bif Mp n&&L5 l then (bif decide ((Xu n.2.2.1 l).length > 60) then (n,false) else ((n.1,n.2.1,Xu n.2.2.1 l,n.2.2.2),true)) else (n,false)
def Axa {a b:List Row} (ha:L5 a=true) (hb:L5 b=true) (h:(Xu a b).length≤60):L5 (Xu a b)=true:=by
 obtain⟨a1,a2,_⟩:=Mm.1 ha;obtain⟨b1,b2,_⟩:=Mm.1 hb;exact Mm.2 ⟨Jpa a1,λ r hr=>(Mda hr).elim (a2 r) (b2 r),h⟩
def Taa {n:Nod} {l:List Row} (hn:NG n):NG (X5a n l).1:=by
 unfold X5a;rw[hn.1,Vy];cases hl:L5 l
 ·exact hn
 rw[cond_true];cases hc:decide ((Xu n.2.2.1 l).length > 60)
 case true=>exact hn
 obtain⟨h1,h2,h3,h4,h5⟩:=C2.1 hn.1;exact⟨C2.2 ⟨h1,h2,h3,Axa h4 hl (by have:=of_decide_eq_false hc;omega),h5⟩,hn.2⟩
def D3a (n:Nod) (l:List Row) (h1:n.2.2.1.length≤2000000) (h2:l.length≤2000000):Tot (λ k=>Hg k n l) (λ r=>r=bif decide ((Xu n.2.2.1 l).length > 60) then (false,n) else (true,(n.1,n.2.1,Xu n.2.2.1 l,n.2.2.2))):=by
 unfold Hg I9;refine Gab (Ota n.2.2.1 l (by omega)) ?_;rintro r rfl;refine Ggb (λ h=>?_) (λ h=>?_)
 ·rw[decide_eq_true (show (Xu n.2.2.1 l).length > 60 by omega)];exact G9b rfl
 ·rw[decide_eq_false (show ¬ (Xu n.2.2.1 l).length > 60 by omega)];exact G9b rfl
def X6a (n:Nod) (l:List Row) (hn:NIn n) (hl:RF l):Tot (λ k=>Im k n l) (λ r=>r=X5a n l):=by
 have copy:Tot (λ k=>(Bi k n).bind λ r3=>some (r3,false)) (λ r=>r=(n,false)):=by
  refine Glb (O4 n hn) ?_;exact G9b rfl
 unfold Im X5a;refine Glb (O4 n hn) ?_;refine Glb (Y0 n hn) ?_;cases Mp n
 ·exact Gcb rfl copy
 refine Gbb rfl (Glb (Mca l (by have:=hl.1;unfold Few;omega) hl.2) ?_);cases L5 l
 ·exact Gcb rfl copy
 refine Gbb rfl (Glb (D3a n l hn.2.1.1 hl.1) ?_)
 cases decide ((Xu n.2.2.1 l).length > 60) with
 |true=>exact Gcb rfl copy
 |false=>exact Gbb rfl (G9b rfl)
def W2 (s:ByteArray) (f:Fil):Row:=(s,f.1,f.2.1,(f.2.2.length:Int))
def Pg (n:Nod) (s:ByteArray) (f:Fil) (sure:Bool):Nod×Int:=bif (n.2.2.2.length:Int)==60 then (n,3) else
 ((n.1,(keep n.2.1 s f sure).1,n.2.2.1,bif (keep n.2.1 s f sure).2==0&&sure then n.2.2.2++[W2 s f] else n.2.2.2),(keep n.2.1 s f sure).2)
def Z9a (n:Nod) (s:ByteArray) (f:Fil) (sure:Bool):Nod×Int:=bif Mp n&&(Ao s&&Cu f) then Pg n s f sure else (n,2)
def X7a {s:ByteArray} {f:Fil} (hs:Ao s=true) (hf:Cu f=true):Nd (W2 s f)=true:=by
 obtain⟨h1,h2,h3⟩:=J9.1 hf;unfold Nd W2;dsimp only;rw[hs,h1,Dg.2 ⟨by omega,by omega⟩]
 cases hd:f.2.1 with
 |false=>rfl
 |true=>rw[h3 hd];rfl
def H9a {n:Nod} {s:ByteArray} {f:Fil} {sure:Bool} (hn:NG n) (hs:Ao s=true) (hf:Cu f=true):NG (Pg n s f sure).1:=by
 obtain⟨h1,h2,h3,h4,h5⟩:=C2.1 hn.1;have hk:=Z7a (s:=s) (f:=f) (sure:=sure) hn.g;unfold Pg;cases hl:((n.2.2.2.length:Int)==60)
 case true=>exact hn
 have hl':n.2.2.2.length≠60:=by
  intro e;rw[e]at hl;cases hl
 refine⟨C2.2 ⟨?_,h2,hk.1,h4,?_⟩,hk.2⟩
 ·show ∀ r∈bif (keep n.2.1 s f sure).2==0&&sure then n.2.2.2++[W2 s f] else n.2.2.2,Nd r=true
  cases (keep n.2.1 s f sure).2==0&&sure
  ·exact h1
  intro r hr;rcases Vo.1 hr with hr|hr
  ·exact h1 r hr
  ·rw[Vs.1 hr];exact X7a hs hf
 ·show (bif (keep n.2.1 s f sure).2==0&&sure then n.2.2.2++[W2 s f] else n.2.2.2).length≤60
  cases (keep n.2.1 s f sure).2==0&&sure with
  |false=>exact h5
  |true=>rw[cond_true,Vd];simp only[Vb,Vj];omega
def E7b {n:Nod} {s:ByteArray} {f:Fil} {sure:Bool} (hn:NG n):NG (Z9a n s f sure).1:=by
 unfold Z9a;cases hs:Ao s
 ·rw[hn.1];exact hn
 cases hf:Cu f with
 |false=>rw[hn.1];exact hn
 |true=>rw[hn.1];exact H9a hn hs hf
def Haa (n:Nod) (s:ByteArray) (f:Fil) (sure:Bool) (hn:NIn n) (hs:Jr s):Tot (λ k=>Ij k n s f sure) (λ r=>r=((Pg n s f sure).2,(Pg n s f sure).1)):=by
 have h1:=hn.2.2.1;unfold Ij Ke Pg
 cases (n.2.2.2.length:Int)==60 with
 |true=>exact Gcb rfl (G9b rfl)
 |false=>
  refine Gbb rfl (Gab (Mxa n.2.1 s f sure hn.1.1 hn.1.2.1 hs) ?_);rintro r rfl
  cases (keep n.2.1 s f sure).2==0 with
  |false=>exact Gbb rfl (G9b rfl)
  |true=>
   refine Gcb rfl ?_
   cases sure with
   |false=>exact Gbb rfl (G9b rfl)
   |true=>
    refine Gcb rfl (Ghb (by simp only[Vj];omega) ?_);refine Gab (Gmb (Q:=λ r=>r=W2 s f) (show Iw s f=some (W2 s f) from rfl) rfl) ?_;rintro r rfl;refine Ghb (by simp only[Vd,Vb,Vj];omega) (G9b ?_);rw[Wb];rfl
def K6a (n:Nod) (s:ByteArray) (f:Fil) (sure:Bool) (hn:NIn n) (hs:Jr s):Tot (λ k=>Jl k n s f sure) (λ r=>r=Z9a n s f sure):=by
 unfold Jl Z9a;refine Glb (O4 n hn) ?_;refine Glb (Y0 n hn) ?_;cases Mp n
 ·exact Gcb rfl (G9b rfl)
 refine Gbb rfl (Glb (Pd s hs) ?_);cases Ao s
 ·exact Gcb rfl (G9b rfl)
 refine Gbb rfl (Glb (Gmb (Q:=λ r=>r=Cu f) (Ua f) rfl) ?_);cases Cu f
 ·exact Gcb rfl (G9b rfl)
 refine Gbb rfl (Glb (Haa n s f sure hn hs) ?_);exact G9b rfl
def N1a (n:Nod) (s:ByteArray) (b:Int):Nod×Bool:=bif Mp n&&((lkD n.2.1 s).2==0&&(I8a n.2.1 s b).2) then ((n.1,(I8a n.2.1 s b).1,n.2.2),true) else (n,false)
def Tba {n:Nod} {s:ByteArray} {b:Int} (hn:NG n):NG (N1a n s b).1:=by
 obtain⟨h1,h2,h3,h4,h5⟩:=C2.1 hn.1;have hr:=E5b (s:=s) (n:=b) hn.g;unfold N1a
 cases Mp n&&((lkD n.2.1 s).2==0&&(I8a n.2.1 s b).2) with
 |false=>exact hn
 |true=>exact⟨C2.2 ⟨h1,h2,hr.1,h4,h5⟩,hr.2⟩
def Aya (n:Nod) (s:ByteArray) (b:Int) (hn:NIn n) (h1:b≤9223372036854775807) (h0 : -9223372036854775808≤b):Tot (λ k=>Fb k n s b) (λ r=>r=N1a n s b):=by
 unfold Fb N1a;refine Glb (O4 n hn) ?_;refine Glb (Xz hn.1.1.1.1.1 hn.1.2.1 s) ?_;refine Glb (Y0 n hn) ?_;cases h:Mp n
 ·exact Gcb rfl (G9b rfl)
 refine Gbb rfl ?_;cases hl:(lkD n.2.1 s).2==0
 ·exact Gcb (by unfold bne;rw[hl];rfl) (G9b rfl)
 refine Gbb (by unfold bne;rw[hl];rfl) (Glb (Bib (NG.g ⟨h,hn.1.2⟩) h1 h0) ?_)
 cases (I8a n.2.1 s b).2 with
 |false=>exact Gcb rfl (G9b rfl)
 |true=>exact Gbb rfl (G9b rfl)
def Oua:∀ (m:Nat) (i:Int) (c:Cur) (z:Nod) (n:Nod),i=m→m≤6→Ct c→NG n→
  Tot (λ k=>G9 k i c.1 c.2.1 c.2.2 z.1 z.2.1.1 z.2.1.2 z.2.2.1 z.2.2.2 n.1 n.2.1.1 n.2.1.2 n.2.2.1 n.2.2.2) (λ r=>∃ c' n',Ct c'∧NG n'∧r=(c'.1,c'.2.1,c'.2.2,z.1,z.2.1.1,z.2.1.2,z.2.2.1,z.2.2.2,n'.1,n'.2.1.1,n'.2.1.2,n'.2.2.1,n'.2.2.2)):=by
 intro m
 induction m with
 |zero=>
  intro i c z n hi h6 hc hn;refine Tot.succ ?_;simp only[G9];exact Geb (by omega) (G9b ⟨c,n,hc,hn,rfl⟩)
 |succ m ih=>
  intro i c z n hi h6 hc hn;refine Tot.succ ?_;simp only[G9];refine Gdb (by omega) ?_;rw[w64 (n:=i-1) (by omega) (by omega)];obtain⟨s,c1,e1,hs,k1⟩:=Oo c hc;refine Glb (Gmb (Q:=λ r=>r=(s,c1)) e1 rfl) ?_;refine Gab (Q3 c1 k1) (λ f hf=>?_);obtain⟨b,c2,e2,k2⟩:=On f.2 hf.2 3 (by decide);refine Glb (Gmb (Q:=λ r=>r=(b,c2)) e2 rfl) ?_;refine Glb (K6a n s f.1 (!b) (Xf hn) (Md s hs).1) ?_;exact ih (i-1) c2 z _ (by omega) (by omega) k2 (E7b hn)
def C9:Nod:=((0:Int),(([]:List Nmd),([]:List Nmd)),([]:List Row),([]:List Row))
def Aza (i:Int):H5 i=some (bif inR i 0 20 then (i,([],[]),[],[]) else C9):=by
 unfold H5;rw[Ob];simp only[Vn]
 cases inR i 0 20<;>rfl
def Tca {l:List Row} (h:Maa l) (hl:l.length≤60):L5 l=true:=Mm.2 ⟨h.1,λ r hr=>Wpa (h.2 r hr),hl⟩
def Tda (c:Cur) (hc:Ct c):Tot (λ k=>Fe k c) (λ r=>NG r.1∧Ct r.2):=by
 unfold Fe;obtain⟨x,c1,e1,x0,x1,_,k1⟩:=Av c hc 6 (by decide);have x1:=x1 (by decide);refine Glb (Gmb (Q:=λ r=>r=(x,c1)) e1 rfl) ?_;refine Glb (Gmb (Q:=λ r=>r=(x,([],[]),[],[])) (by rw[Aza,Dg.2 ⟨by dsimp only;omega,by dsimp only;omega⟩];rfl) rfl) ?_;obtain⟨y,c2,e2,y0,y1,_,k2⟩:=Av c1 k1 6 (by decide);have y1:=y1 (by decide);refine Glb (Gmb (Q:=λ r=>r=(y,c2)) e2 rfl) ?_;have hn0:NG (x,(([]:List Nmd),([]:List Nmd)),([]:List Row),([]:List Row)):=⟨C2.2 ⟨(by simp),⟨by dsimp only;omega,by dsimp only;omega⟩,(show Ap ([],[])=true by decide),(show L5 []=true by decide),(by simp)⟩,λ x hx=>(by cases hx),λ x hx=>(by cases hx)⟩;refine Gab (Oua y.toNat y c2 C9 _ (by omega) (by omega) k2 hn0) ?_;rintro r ⟨c3,n,k3,hn,rfl⟩
 have rot:∀ (n:Nod) (c:Cur),NG n→Ct c→Tot (λ k=>(Bt c).bind λ r9=>(A3 r9.2 40).bind λ r10=>(Fb k n r9.1 r10.1).bind λ r11=>some (r11.1,r10.2)) (λ r=>NG r.1∧Ct r.2):=by
  intro n c hn hc;obtain⟨s,c1,e1,hs,k1⟩:=Oo c hc;refine Glb (Gmb (Q:=λ r=>r=(s,c1)) e1 rfl) ?_;obtain⟨x,c2,e2,x0,x1,_,k2⟩:=Av c1 k1 40 (by decide);have x1:=x1 (by decide);refine Glb (Gmb (Q:=λ r=>r=(x,c2)) e2 rfl) ?_;refine Glb (Aya n s x (Xf hn) (by omega) (by omega)) ?_;exact G9b ⟨Tba hn,k2⟩
 obtain⟨b,c4,e4,k4⟩:=On c3 k3 2 (by decide);refine Glb (Gmb (Q:=λ r=>r=(b,c4)) e4 rfl) ?_;refine Gfb (λ _=>?_) (λ _=>?_)
 ·refine Gab (Aka c4 k4) ?_;rintro⟨l,c5⟩ ⟨k5,hl,hl5⟩;refine Glb (X6a n l (Xf hn) (K5a (Tca hl (by dsimp only at hl5;omega)))) ?_;obtain⟨b,c6,e6,k6⟩:=On c5 k5 3 (by decide);refine Glb (Gmb (Q:=λ r=>r=(b,c6)) e6 rfl) ?_;exact Gfb (λ _=>rot _ c6 (Taa hn) k6) (λ _=>G9b ⟨Taa hn,k6⟩)
 ·obtain⟨b,c6,e6,k6⟩:=On c4 k4 3 (by decide);refine Glb (Gmb (Q:=λ r=>r=(b,c6)) e6 rfl) ?_;exact Gfb (λ _=>rot n c6 hn k6) (λ _=>G9b ⟨hn,k6⟩)
def Zaa {l:List Row} {x:Row} (h:RF l) (hl:l.length≤999) (hx:Jr x.1):RF (l++[x]):=by
 refine⟨by simp only[Vd,Vb,Vj];omega,λ y hy=>?_⟩;rcases Vo.1 hy with hy|hy
 ·exact h.2 y hy
 ·rw[Vs.1 hy];exact hx
def Ova (z n:Nod) (hs:Jr ((⟨#[97]⟩:ByteArray))):∀ (m:Nat) (c:Cur) (q:List Row),61-q.length≤m→Ct c→RF q→q.length≤61→
  Tot (λ k=>Ga k c.1 c.2.1 c.2.2 z.1 z.2.1.1 z.2.1.2 z.2.2.1 z.2.2.2 n.1 n.2.1.1 n.2.1.2 n.2.2.1 q) (λ r=>∃ c' q',Ct c'∧RF q'∧r=(z.1,z.2.1.1,z.2.1.2,z.2.2.1,z.2.2.2,n.1,n.2.1.1,n.2.1.2,n.2.2.1,q',c'.1,c'.2.1,c'.2.2)):=by
 intro m
 induction m with
 |zero=>
  intro c q hm hc hq hl;refine Tot.succ ?_;simp only[Ga];obtain⟨x,c1,e1,x0,x1,_,k1⟩:=Av c hc 2 (by decide);have x1:=x1 (by decide);refine Glb (Gmb (Q:=λ r=>r=(x,c1)) e1 rfl) ?_;dsimp only;rw[w64 (n:=60+x) (by omega) (by omega)];exact Geb (by omega) (G9b ⟨c1,q,k1,hq,rfl⟩)
 |succ m ih=>
  intro c q hm hc hq hl;refine Tot.succ ?_;simp only[Ga];obtain⟨x,c1,e1,x0,x1,_,k1⟩:=Av c hc 2 (by decide);have x1:=x1 (by decide);refine Glb (Gmb (Q:=λ r=>r=(x,c1)) e1 rfl) ?_;dsimp only;rw[w64 (n:=60+x) (by omega) (by omega)];refine Ggb (λ h=>Ghb (by simp only[List.length_cons,List.length_nil];omega) ?_) (λ h=>G9b ⟨c1,q,k1,hq,rfl⟩);exact ih c1 _ (by simp only[List.length_append,List.length_cons,List.length_nil];omega) k1 (Zaa hq (by omega) hs) (by simp only[List.length_append,List.length_cons,List.length_nil];omega)
def Tea (c:Cur) (hc:Ct c):Tot (λ k=>Gb k c) (λ r=>NIn r.1∧Ct r.2):=by
 unfold Gb;refine Gab (Tda c hc) ?_;rintro⟨n,c1⟩ ⟨hg,k1⟩;have hn:=Xf hg;have hq60:=(C2.1 hg.1).2.2.2.2;obtain⟨x,c2,e2,_,_,_,k2⟩:=Av c1 k1 12 (by decide);refine Glb (Gmb (Q:=λ r=>r=(x,c2)) e2 rfl) ?_;refine Gfb (λ _=>?_) (λ _=>Gfb (λ _=>?_) (λ _=>Gfb (λ _=>?_) (λ _=>Gfb (λ _=>?_) (λ _=>Gfb (λ _=>?_) (λ _=>G9b ⟨hn,k2⟩)))))
 ·obtain⟨y,c3,e3,_,k3⟩:=Kz c2 k2 [(-1),20,21] (by decide) (by decide);refine Glb (Gmb (Q:=λ r=>r=(y,c3)) e3 rfl) ?_;exact G9b ⟨hn,k3⟩
 ·refine Gab (E6b c2 k2) (λ r hr=>G9b ⟨⟨hr.1,hn.2⟩,hr.2⟩)
 ·refine Gab (Gra c2 k2) (λ r hr=>G9b ⟨⟨hn.1,⟨by have:=hr.2.1;dsimp only;omega,hr.2.2⟩,hn.2.2⟩,hr.1⟩)
 ·obtain⟨s,c3,e3,hs,k3⟩:=Pf c2 k2;refine Glb (Gmb (Q:=λ r=>r=(s,c3)) e3 rfl) ?_;exact Ghb (by dsimp only at hq60 ⊢;simp only[List.length_cons,List.length_nil];omega) (G9b ⟨⟨hn.1,hn.2.1,Zaa hn.2.2 (by dsimp only at hq60 ⊢;omega) hs⟩,k3⟩)
 ·refine Gab (Ova C9 n (by unfold Jr;decide) 61 c2 n.2.2.2 (by omega) k2 hn.2.2 (by dsimp only at hq60;omega)) ?_;rintro r ⟨c3,q,k3,hq,rfl⟩;exact G9b ⟨⟨hn.1,hn.2.1,hq⟩,k3⟩

abbrev Dev:=Int×Int×Int
abbrev Rng:=Int×List (List Int)
def Ni:Dev:=((0:Int),((0:Int),(0:Int)))
def Nn (l:List Int) (n:Int):Bool:=l.any (· == n)
def Of {l:List Int} {n:Int}:Nn l n=true↔n∈l:=by
 unfold Nn;rw[Gtb];constructor
 ·rintro⟨x,hx,e⟩;rw[← eq_of_beq e];exact hx
 ·intro h;exact⟨n,h,beq_self_eq_true n⟩
def Ega (l:List Int) (n:Int) (hl:l.length≤4000000000000000):Tot (λ k=>Em k l n) (λ r=>r=Nn l n):=by
 unfold Em
 refine Gab (Q:=λ r=>r=bif Nn l n then .inl true else .inr ()) ?_ (by rintro r rfl;cases Nn l n<;>exact G9b rfl)
 refine Gib (L:=λ k i (_:Unit)=>Ho k n l (l.length:Int) i) (Q:=λ r=>r=bif Nn l n then .inl true else .inr ()) l.length (λ j _=>Nn (l.drop j) n=Nn l n) ?_ ?_ 0 () (Vt _) rfl
 ·intro _ h;rw[Wf]at h;simp (disch:=omega) only [Ho,dF,← h];exact G9b rfl
 ·intro j _ hj h next;rw[Au (d:=0) hj]at h;simp (disch:=omega) only [Ho,dT,Vg,w64];unfold Nn at h;rw[Iob]at h;refine Gfb (λ hc=>G9b ?_) (λ hc=>next () ?_)
  ·rw[hc,Jib]at h;unfold Nn;rw[← h];rfl
  ·rw[hc,H5b]at h;exact h
def T9 (l:List Int) (n:Int) (hl:l.length≤4000000000000000):Tot (λ k=>Cm k l n) (λ r=>r=Nn l n):=by
 unfold Cm
 refine Gab (Q:=λ r=>r=bif Nn l n then .inl true else .inr ()) ?_ (by rintro r rfl;cases Nn l n<;>exact G9b rfl)
 refine Gib (L:=λ k i (_:Unit)=>Ie k l n i) (Q:=λ r=>r=bif Nn l n then .inl true else .inr ()) l.length (λ j _=>Nn (l.drop j) n=Nn l n) ?_ ?_ 0 () (Vt _) rfl
 ·intro _ h;rw[Wf]at h;simp (disch:=omega) only [Ie,dF,← h];exact G9b rfl
 ·intro j _ hj h next;rw[Au (d:=0) hj]at h;simp (disch:=omega) only [Ie,dT,Vg,w64];unfold Nn at h;rw[Iob]at h;refine Gfb (λ hc=>G9b ?_) (λ hc=>next () ?_)
  ·rw[hc,Jib]at h;unfold Nn;rw[← h];rfl
  ·rw[hc,H5b]at h;exact h
def K6 (l:List Dev) (id:Int):Option Dev:=l.find? (λ d=>d.1==id)
def Fkb:Option Dev→Dev×Bool
 |some d=>(d,true)
 |none=>(Ni,false)
def W3 {l:List Dev} {id:Int} {d:Dev} (h:K6 l id=some d):d∈l∧d.1=id:=⟨List.mem_of_find?_eq_some h,eq_of_beq (List.find?_some (p:=λ d:Dev=>d.1==id) h)⟩
def Hba (l:List Dev) (id:Int) (hl:l.length≤1000000000):Tot (λ k=>J7 k l id) (λ r=>r=Fkb (K6 l id)):=by
 unfold J7
 refine Gab (Q:=λ r=>r=match K6 l id with|some d => .inl (true,d)|none => .inr (0,0,0)) ?_ (by rintro r rfl;cases K6 l id<;>exact G9b rfl)
 refine Gib (L:=λ k i (_:Unit)=>Iq k id l (l.length:Int) i (0,0,0)) (Q:=λ r=>r=match K6 l id with|some d => .inl (true,d)|none => .inr (0,0,0)) l.length (λ j _=>K6 (l.drop j) id=K6 l id) ?_ ?_ 0 () (Vt _) rfl
 ·intro _ h;rw[Wf]at h;simp (disch:=omega) only [Iq,dF,← h];exact G9b rfl
 ·intro j _ hj h next;rw[Au (d:=Ni) hj]at h;unfold K6 at h;rw[Jlb]at h;simp (disch:=omega) only [Iq,dT,Vg,w64];refine Gfb (λ hc=>G9b ?_) (λ hc=>next () ?_)
  ·rw[show ((l.getD j Ni).1==id)=true from hc]at h;unfold K6;rw[← h];rfl
  ·rw[show ((l.getD j Ni).1==id)=false from hc]at h;exact h
def Rr (l:List Dev) (id:Int) (hl:l.length≤1000000000):Tot (λ k=>Eh k l id) (λ r=>r=Fkb (K6 l id)):=by
 unfold Eh
 refine Gab (Q:=λ r=>r=match K6 l id with|some d => .inl (true,d)|none => .inr (0,0,0)) ?_ (by rintro r rfl;cases K6 l id<;>exact G9b rfl)
 refine Gib (L:=λ k i (_:Unit)=>Id k l id i (0,0,0)) (Q:=λ r=>r=match K6 l id with|some d => .inl (true,d)|none => .inr (0,0,0)) l.length (λ j _=>K6 (l.drop j) id=K6 l id) ?_ ?_ 0 () (Vt _) rfl
 ·intro _ h;rw[Wf]at h;simp (disch:=omega) only [Id,dF,← h];exact G9b rfl
 ·intro j _ hj h next;rw[Au (d:=Ni) hj]at h;unfold K6 at h;rw[Jlb]at h;simp (disch:=omega) only [Id,dT,Vg,w64];refine Gfb (λ hc=>G9b ?_) (λ hc=>next () ?_)
  ·rw[show ((l.getD j Ni).1==id)=true from hc]at h;unfold K6;rw[← h];rfl
  ·rw[show ((l.getD j Ni).1==id)=false from hc]at h;exact h
def B0a (d:Dev):Bool:=inR d.1 0 20&&(inR d.2.1 0 20&&inR d.2.2 1 1000)
def Xg:Option Int→List Dev→Bool
 |_,[]=>true
 |none,d::l=>B0a d&&Xg (some d.1) l
 |some q,d::l=>B0a d&&(decide (q<d.1)&&Xg (some d.1) l)
def M1 (l:List Dev):Bool:=Xg none l&&inR (l.length:Int) 1 12
def Hca (l:List Dev):Nat→Option Int
 |0=>none
 |i+1=>some (l.getD i Ni).1
def Eha:∀ (p:Option Int) (l:List Dev),Xg p l=true↔l.Pairwise (λ a b=>a.1<b.1)∧(∀ d∈l,B0a d=true)∧(∀ q,p=some q→∀ d∈l,q<d.1)
 |p,[]=>by cases p<;>simp[Xg]
 |none,d::l=>by
  simp only[Xg,Va,Eha (some d.1) l,Wi,Vl,forall_eq_or_imp,Ve];constructor
  ·rintro⟨h1,h2,h3,h4⟩;exact⟨⟨h4 _ rfl,h2⟩,⟨h1,h3⟩,λ q h=>by cases h⟩
  ·rintro⟨⟨h1,h2⟩,⟨h3,h4⟩,_⟩;exact⟨h3,h2,h4,λ q e=>by subst e;exact h1⟩
 |some q,d::l=>by
  simp only[Xg,Va,decide_eq_true_iff,Eha (some d.1) l,Wi,Vl,forall_eq_or_imp,Ve];constructor
  ·rintro⟨h1,hq,h2,h3,h4⟩;exact⟨⟨h4 _ rfl,h2⟩,⟨h1,h3⟩,λ q' e=>by subst e;exact⟨hq,λ x hx=>by have:=h4 _ rfl x hx;omega⟩⟩
  ·rintro⟨⟨h1,h2⟩,⟨h3,h4⟩,h5⟩;exact⟨h3,(h5 q rfl).1,h2,h4,λ q e=>by subst e;exact h1⟩
def De {l:List Dev}:M1 l=true↔l.Pairwise (λ a b=>a.1<b.1)∧(∀ d∈l,B0a d=true)∧1≤l.length∧l.length≤12:=by
 unfold M1;rw[Va,Eha,Dg];constructor
 ·rintro⟨⟨h1,h2,_⟩,h3,h4⟩;exact⟨h1,h2,by omega,by omega⟩
 ·rintro⟨h1,h2,h3,h4⟩;exact⟨⟨h1,h2,λ q h=>by cases h⟩,by omega,by omega⟩
def O5 {d:Dev}:B0a d=true↔(0≤d.1∧d.1≤20)∧(0≤d.2.1∧d.2.1≤20)∧1≤d.2.2∧d.2.2≤1000:=by
 unfold B0a;rw[Va,Va,Dg,Dg,Dg]
def Hda {l:List Dev} {j:Nat} (hj:j<l.length):Xg (Hca l j) (l.drop j)=(B0a (l.getD j Ni)&&((bif decide (0<j) then decide ((l.getD (j-1) Ni).1<(l.getD j Ni).1) else true)&&Xg (Hca l (j+1)) (l.drop (j+1)))):=by
 rw[Au (d:=Ni) hj]
 cases j with
 |zero=>simp[Hca,Xg]
 |succ j=>simp[Hca,Xg]
def X8a (l:List Dev) (hl:l.length≤1000000000):Tot (λ k=>H0 k l) (λ r=>r=M1 l):=by
 unfold H0 M1;refine Gab (Q:=λ r=>r=bif Xg none l then .inr l else .inl false) ?_ ?_
 ·refine Gib (L:=λ k i (_:Unit)=>Gr k l l (l.length:Int) i) (Q:=λ r=>r=bif Xg none l then .inr l else .inl false) l.length (λ j _=>Xg (Hca l j) (l.drop j)=Xg none l) ?_ ?_ 0 () (Vt _) rfl
  ·intro _ h;rw[Wf]at h
   have:Xg none l=true:=by rw[← h];cases Hca l l.length<;>rfl
   simp (disch:=omega) only [Gr,dF,this];exact G9b rfl
  ·intro j _ hj h next;rw[Hda hj]at h;simp (disch:=omega) only [Gr,dT,Vg,w64,U4,Vn];have e0:l.getD j ((0:Int),((0:Int),(0:Int)))=l.getD j Ni:=rfl;rw[e0]
   have no:B0a (l.getD j Ni)=false→Xg none l=false:=λ c=>by rw[← h,c];rfl
   unfold B0a at no h;refine Gfb (λ hc=>G9b ?_) (λ h1=>Gfb (λ hc=>G9b ?_) (λ h2=>Gfb (λ hc=>G9b ?_) (λ h3=>?_)))
   ·rw[no (by rw[Vv]at hc;rw[hc];rfl)];rfl
   ·rw[no (by rw[Vv]at hc;rw[hc,Zs,Yr])];rfl
   ·rw[no (by rw[Vv]at hc;rw[hc,Yr,Yr])];rfl
   ·rw[Wg]at h1 h2 h3;rw[h1,h2,h3]at h;refine Ggb (λ h0=>?_) (λ h0=>next () ?_)
    ·simp (disch:=omega) only [dT,w64,show toNat ((j:Int)-1)=j-1 by omega];rw[decide_eq_true (show 0<j by omega)]at h;refine Ggb (λ hc=>G9b ?_) (λ hc=>next () ?_)
     ·have hc':¬ ((l.getD (j-1) Ni).1<(l.getD j Ni).1):=by
       have:(l.getD (j-1) Ni).1≥(l.getD j Ni).1:=hc;omega
      rw[decide_eq_false hc']at h;rw[← h];rfl
     ·have hc':(l.getD (j-1) Ni).1<(l.getD j Ni).1:=by
       have:¬ ((l.getD (j-1) Ni).1≥(l.getD j Ni).1):=hc;omega
      rw[decide_eq_true hc']at h;exact h
    ·rw[decide_eq_false (show ¬ 0<j by omega)]at h;exact h
 ·rintro r rfl;cases Xg none l
  ·exact G9b rfl
  simp only[cond_true,Hhb,U4,Vn];exact G9b rfl
def Y1 (l:List Dev) (hl:l.length≤1000000000):Tot (λ k=>Bw k l) (λ r=>r=M1 l):=by
 unfold Bw M1;refine Gab (Q:=λ r=>r=bif Xg none l then .inr l else .inl false) ?_ ?_
 ·refine Gib (L:=λ k i (_:Unit)=>Gk k l i) (Q:=λ r=>r=bif Xg none l then .inr l else .inl false) l.length (λ j _=>Xg (Hca l j) (l.drop j)=Xg none l) ?_ ?_ 0 () (Vt _) rfl
  ·intro _ h;rw[Wf]at h
   have:Xg none l=true:=by rw[← h];cases Hca l l.length<;>rfl
   simp (disch:=omega) only [Gk,dF,this];exact G9b rfl
  ·intro j _ hj h next;rw[Hda hj]at h;simp (disch:=omega) only [Gk,dT,Vg,w64,Ob,Vn];have e0:l.getD j ((0:Int),((0:Int),(0:Int)))=l.getD j Ni:=rfl;rw[e0]
   have no:B0a (l.getD j Ni)=false→Xg none l=false:=λ c=>by rw[← h,c];rfl
   unfold B0a at no h;refine Gfb (λ hc=>G9b ?_) (λ h1=>Gfb (λ hc=>G9b ?_) (λ h2=>Gfb (λ hc=>G9b ?_) (λ h3=>?_)))
   ·rw[no (by rw[Vv]at hc;rw[hc];rfl)];rfl
   ·rw[no (by rw[Vv]at hc;rw[hc,Zs,Yr])];rfl
   ·rw[no (by rw[Vv]at hc;rw[hc,Yr,Yr])];rfl
   ·rw[Wg]at h1 h2 h3;rw[h1,h2,h3]at h;refine Ggb (λ h0=>?_) (λ h0=>next () ?_)
    ·simp (disch:=omega) only [dT,w64,show toNat ((j:Int)-1)=j-1 by omega];rw[decide_eq_true (show 0<j by omega)]at h;refine Ggb (λ hc=>G9b ?_) (λ hc=>next () ?_)
     ·have hc':¬ ((l.getD (j-1) Ni).1<(l.getD j Ni).1):=by
       have:(l.getD (j-1) Ni).1≥(l.getD j Ni).1:=hc;omega
      rw[decide_eq_false hc']at h;rw[← h];rfl
     ·have hc':(l.getD (j-1) Ni).1<(l.getD j Ni).1:=by
       have:¬ ((l.getD (j-1) Ni).1≥(l.getD j Ni).1):=hc;omega
      rw[decide_eq_true hc']at h;exact h
    ·rw[decide_eq_false (show ¬ 0<j by omega)]at h;exact h
 ·rintro r rfl;cases Xg none l
  ·exact G9b rfl
  simp only[cond_true,Hhb,Ob,Vn];exact G9b rfl
def Eia (l:List Dev) (out:List Int) (id:Int):List Int:=match K6 l id with
 |some d=>bif Nn out d.2.1 then out else out++[d.2.1]
 |none=>out
def H4 (ids:List Int) (l:List Dev):List Int:=ids.foldl (Eia l) []
def B1a (l:List Dev) (out:List Int) (id:Int):(Eia l out id).length≤out.length+1:=by
 unfold Eia
 cases K6 l id with
 |none=>exact H7b _
 |some d=>
  simp only
  cases Nn out d.2.1 with
  |true=>exact H7b _
  |false=>rw[cond_false,Vd];exact Vw _
def Hea (l:List Dev):∀ (ids out:List Int),(ids.foldl (Eia l) out).length≤out.length+ids.length
 |[],out=>by simp
 |id::ids,out=>by
  have h1:=Hea l ids (Eia l out id);have h2:=B1a l out id;rw[Ze,Vb];omega
def Tfa (ids:List Int) (l:List Dev) (hi:ids.length≤5000000) (hl:l.length≤5000000):Tot (λ k=>Ff k ids l) (λ r=>r=H4 ids l):=by
 unfold Ff;refine Gab (Q:=λ r=>r=H4 ids l) ?_ (by rintro r rfl;exact G9b rfl);refine Gib (L:=λ k i s=>E7 k l s ids (ids.length:Int) i) (Q:=λ r=>r=H4 ids l) ids.length (λ j s=>(ids.drop j).foldl (Eia l) s=H4 ids l∧s.length≤j) ?_ ?_ 0 [] (Vt _) ⟨rfl,Vw _⟩
 ·rintro s ⟨h,_⟩;rw[Wf]at h;simp (disch:=omega) only [E7,dF];exact G9b h
 ·rintro j s hj ⟨h,hs⟩ next;rw[Au (d:=0) hj,Ze]at h;simp (disch:=omega) only [E7,dT,Vg,w64];have hz:=B1a l s (ids.getD j 0);refine Glb (Hba l (ids.getD j 0) (by omega)) ?_;unfold Eia at h hz
  cases hd:K6 l (ids.getD j 0) with
  |none=>
   rw[hd]at h;exact Gbb rfl (next _ ⟨h,by omega⟩)
  |some d=>
   rw[hd]at h hz;refine Gcb rfl (Glb (Ega s d.2.1 (by omega)) ?_);simp only at h hz
   cases hh:Nn s d.2.1 with
   |true=>
    rw[hh]at h;exact Gbb rfl (next _ ⟨h,by omega⟩)
   |false=>
    rw[hh]at h hz;exact Gcb rfl (Ghb (by simp only[Vb,Vj];omega) (next _ ⟨h,by rw[cond_false]at hz;exact Zo hz (by omega)⟩))
def Hfa (ids:List Int) (l:List Dev) (hi:ids.length≤5000000) (hl:l.length≤5000000):Tot (λ k=>D0 k ids l) (λ r=>r=H4 ids l):=by
 unfold D0;refine Gab (Q:=λ r=>r=H4 ids l) ?_ (by rintro r rfl;exact G9b rfl);refine Gib (L:=λ k i s=>Dr k ids l s i) (Q:=λ r=>r=H4 ids l) ids.length (λ j s=>(ids.drop j).foldl (Eia l) s=H4 ids l∧s.length≤j) ?_ ?_ 0 [] (Vt _) ⟨rfl,Vw _⟩
 ·rintro s ⟨h,_⟩;rw[Wf]at h;simp (disch:=omega) only [Dr,dF];exact G9b h
 ·rintro j s hj ⟨h,hs⟩ next;rw[Au (d:=0) hj,Ze]at h;simp (disch:=omega) only [Dr,dT,Vg,w64];have hz:=B1a l s (ids.getD j 0);refine Glb (Rr l (ids.getD j 0) (by omega)) ?_;unfold Eia at h hz
  cases hd:K6 l (ids.getD j 0) with
  |none=>
   rw[hd]at h;exact Gbb rfl (next _ ⟨h,by omega⟩)
  |some d=>
   rw[hd]at h hz;refine Gcb rfl (Glb (T9 s d.2.1 (by omega)) ?_);simp only at h hz
   cases hh:Nn s d.2.1 with
   |true=>
    rw[hh]at h;exact Gbb rfl (next _ ⟨h,by omega⟩)
   |false=>
    rw[hh]at h hz;exact Gcb rfl (Ghb (by simp only[Vb,Vj];omega) (next _ ⟨h,by rw[cond_false]at hz;exact Zo hz (by omega)⟩))

def Rs {l:List Int} {j:Nat} (hj:j<l.length) (h:(l.take j).Nodup) (hn:l.getD j 0∉l.take j):(l.take (j+1)).Nodup:=by
 rw[Wl hj,Ya];rw[Vc,Vk hj,Ye]at hn;exact⟨h,by simp,λ a ha b hb e=>by rw[Vs.1 hb]at e;subst e;exact hn ha⟩
def Hga {l:List Int} {j:Nat} (hj:j<l.length) (hn:l.getD j 0∈l.take j):¬ l.Nodup:=by
 intro h;have h1:(l.take (j+1)).Nodup:=h.sublist (J7b _ _);rw[Wl hj,Ya]at h1;rw[Vc,Vk hj,Ye]at hn;exact h1.2.2 _ hn _ (by simp) rfl
def Tga (l:List Int) (hl:l.length≤5000000):Tot (λ k=>Iy k l) (λ r=>r=decide l.Nodup):=by
 unfold Iy
 refine Gab (Q:=λ r=>r=bif decide l.Nodup then .inr () else .inl false) ?_ (by rintro r rfl;cases decide l.Nodup<;>exact G9b rfl)
 refine Gib (L:=λ k i (_:Unit)=>Ip k l l (l.length:Int) i) (Q:=λ r=>r=bif decide l.Nodup then .inr () else .inl false) l.length (λ j _=>(l.take j).Nodup) ?_ ?_ 0 () (Vt _) (by simp)
 ·intro _ h;rw[Yx]at h;simp (disch:=omega) only [Ip,dF,decide_eq_true h];exact G9b rfl
 ·intro j _ hj h next;simp (disch:=omega) only [Ip,dT,Vg,w64];refine Glb (Ega (l.take j) (l.getD j 0) (by rw[Vu];omega)) ?_;refine Gfb (λ hc=>G9b ?_) (λ hc=>next () (Rs hj h (λ c=>by rw[Of.2 c]at hc;cases hc)));rw[decide_eq_false (Hga hj (Of.1 hc))];rfl
def N2a (l:List Int) (n:Int) (hl:l.length≤5000000):Tot (λ k=>El k l n) (λ r=>r=(decide l.Nodup&&((l.length:Int)==n))):=by
 unfold El
 refine Gab (Q:=λ r=>r=bif decide l.Nodup then .inr (n,l) else .inl false) ?_ (by rintro r rfl;cases decide l.Nodup<;>exact G9b rfl)
 refine Gib (L:=λ k i (_:Unit)=>Hl k n i l) (Q:=λ r=>r=bif decide l.Nodup then .inr (n,l) else .inl false) l.length (λ j _=>(l.take j).Nodup) ?_ ?_ 0 () (Vt _) (by simp)
 ·intro _ h;rw[Yx]at h;simp (disch:=omega) only [Hl,dF,decide_eq_true h];exact G9b rfl
 ·intro j _ hj h next;simp (disch:=omega) only [Hl,dT,Vg,w64];refine Glb (T9 (l.take j) (l.getD j 0) (by rw[Vu];omega)) ?_;refine Gfb (λ hc=>G9b ?_) (λ hc=>next () (Rs hj h (λ c=>by rw[Of.2 c]at hc;cases hc)));rw[decide_eq_false (Hga hj (Of.1 hc))];rfl
def RBd (r:Rng):Prop:=r.2.length≤2000000∧∀ p∈r.2,p.length≤2000000
def Mf (l:List Dev) (n:Int) (p:List Int):Bool:=(decide p.Nodup&&((p.length:Int)==n))&&p.all λ id=>(K6 l id).isSome
def Ha (r:Rng) (l:List Dev):Bool:=M1 l&&(inR r.1 1 5&&(inR (r.2.length:Int) 1 64&&r.2.all (Mf l r.1)))
def Ay {r:Rng} {l:List Dev}:Ha r l=true↔M1 l=true∧(1≤r.1∧r.1≤5)∧(1≤r.2.length∧r.2.length≤64)∧∀ p∈r.2,p.Nodup∧(p.length:Int)=r.1∧∀ id∈p,∃ d,K6 l id=some d:=by
 unfold Ha Mf;simp only[Va,Dg,Yp,decide_eq_true_iff,beq_iff_eq,Zm];constructor
 ·rintro⟨h1,h2,⟨h3,h4⟩,h5⟩;exact⟨h1,h2,⟨by omega,by omega⟩,λ p hp=>⟨(h5 p hp).1.1,(h5 p hp).1.2,(h5 p hp).2⟩⟩
 ·rintro⟨h1,h2,⟨h3,h4⟩,h5⟩;exact⟨h1,h2,⟨by omega,by omega⟩,λ p hp=>⟨⟨(h5 p hp).1,(h5 p hp).2.1⟩,(h5 p hp).2.2⟩⟩
def Nj {r:Rng} {l:List Dev} (h:Ha r l=true):RBd r:=by
 obtain⟨_,h2,h3,h4⟩:=Ay.1 h;exact⟨by omega,λ p hp=>by have:=(h4 p hp).2.1;omega⟩
def X9a (r:Rng) (l:List Dev) (hr:RBd r) (hl:l.length≤5000000):Tot (λ k=>Fj k r l) (λ b=>b=Ha r l):=by
 unfold Fj Ha;refine Glb (X8a l (by omega)) ?_;cases hd:M1 l
 ·exact Gcb rfl (G9b rfl)
 have hrl:=hr.1;simp only[Zb,cond_false,U4,Vn,Vy];cases inR r.1 1 5
 ·exact Gcb rfl (G9b rfl)
 refine Gbb rfl ?_;cases inR (r.2.length:Int) 1 64
 ·exact Gcb rfl (G9b rfl)
 refine Gbb rfl (Gab (Q:=λ b=>b=bif r.2.all (Mf l r.1) then .inr () else .inl false) ?_ (by rintro r' rfl;cases r.2.all (Mf l r.1)<;>exact G9b rfl))
 refine Gib (L:=λ k i (_:Unit)=>Hq k l r.2 (r.2.length:Int) i r) (Q:=λ b=>b=bif r.2.all (Mf l r.1) then .inr () else .inl false) r.2.length (λ j _=>(r.2.drop j).all (Mf l r.1)=r.2.all (Mf l r.1)) ?_ ?_ 0 () (Vt _) rfl
 ·intro _ h;rw[Wf]at h;simp (disch:=omega) only [Hq,dF,← h];exact G9b rfl
 ·intro j _ hj h next;rw[Au (d:=[]) hj,Grb]at h;have hp:=hr.2 _ (A4 (d:=[]) hj);simp (disch:=omega) only [Hq,dT,Vg,w64]
  have no:Mf l r.1 (r.2.getD j [])=false→r.2.all (Mf l r.1)=false:=λ c=>by rw[← h,c];rfl
  unfold Mf at no h;refine Gfb (λ hc=>G9b ?_) (λ h1=>Gab (Tga (r.2.getD j []) (by omega)) ?_)
  ·have hc':(((r.2.getD j []).length:Int)==r.1)=false:=by simpa using hc
   rw[show r.2.all (Mf l r.1)=false from no (by rw[hc',Yr,Zs])];rfl
  ·have h1':(((r.2.getD j []).length:Int)==r.1)=true:=by simpa using h1
   rintro b rfl;refine Gfb (λ hc=>G9b ?_) (λ h2=>?_)
   ·rw[show r.2.all (Mf l r.1)=false from no (by rw[Vv]at hc;rw[hc];rfl)];rfl
   ·rw[Wg]at h2;generalize r.2.getD j []=p at *;refine Gab (Q:=λ b=>b=bif p.all (λ id=>(K6 l id).isSome) then .inr (l,r.2,(r.2.length:Int),(j:Int),r) else .inl false) ?_ ?_
    ·refine Gib (L:=λ k i (_:Unit)=>Hp k l r.2 (r.2.length:Int) (j:Int) p (p.length:Int) i r) (Q:=λ b=>b=bif p.all (λ id=>(K6 l id).isSome) then .inr (l,r.2,(r.2.length:Int),(j:Int),r) else .inl false) p.length (λ m _=>(p.drop m).all (λ id=>(K6 l id).isSome)=p.all (λ id=>(K6 l id).isSome)) ?_ ?_ 0 () (Vt _) rfl
     ·intro _ h;rw[Wf]at h;simp (disch:=omega) only [Hp,dF,← h];exact G9b rfl
     ·intro m _ hm h next;rw[Au (d:=0) hm,Grb]at h;simp (disch:=omega) only [Hp,dT,Vg,w64];refine Glb (Hba l (p.getD m 0) (by omega)) ?_
      cases hd:K6 l (p.getD m 0) with
      |none=>exact Gcb rfl (G9b (by rw[← h,hd];rfl))
      |some d=>exact Gbb rfl (next () (by rw[hd]at h;exact h))
    ·rintro b rfl;cases hc:p.all (λ id=>(K6 l id).isSome)
     ·exact G9b (by rw[show r.2.all (Mf l r.1)=false from no (by rw[hc,Yr])];rfl)
     simp (disch:=omega) only [cond_true,Hhb,w64];exact next () (by rw[h2,h1',hc]at h;exact h)
def Xaa (r:Rng) (l:List Dev) (hr:RBd r) (hl:l.length≤5000000):Tot (λ k=>Fl k r l) (λ b=>b=Ha r l):=by
 unfold Fl Ha;refine Glb (Y1 l (by omega)) ?_;cases hd:M1 l
 ·exact Gcb rfl (G9b rfl)
 have hrl:=hr.1;simp only[Zb,cond_false,Ob,Vn,Vy];cases inR r.1 1 5
 ·exact Gcb rfl (G9b rfl)
 refine Gbb rfl ?_;cases inR (r.2.length:Int) 1 64
 ·exact Gcb rfl (G9b rfl)
 refine Gbb rfl (Gab (Q:=λ b=>b=bif r.2.all (Mf l r.1) then .inr () else .inl false) ?_ (by rintro r' rfl;cases r.2.all (Mf l r.1)<;>exact G9b rfl))
 refine Gib (L:=λ k i (_:Unit)=>Hv k l i r) (Q:=λ b=>b=bif r.2.all (Mf l r.1) then .inr () else .inl false) r.2.length (λ j _=>(r.2.drop j).all (Mf l r.1)=r.2.all (Mf l r.1)) ?_ ?_ 0 () (Vt _) rfl
 ·intro _ h;rw[Wf]at h;simp (disch:=omega) only [Hv,dF,← h];exact G9b rfl
 ·intro j _ hj h next;rw[Au (d:=[]) hj,Grb]at h;have hp:=hr.2 _ (A4 (d:=[]) hj);simp (disch:=omega) only [Hv,dT,Vg,w64]
  have no:Mf l r.1 (r.2.getD j [])=false→r.2.all (Mf l r.1)=false:=λ c=>by rw[← h,c];rfl
  unfold Mf at no h;refine Glb (N2a (r.2.getD j []) r.1 (by omega)) ?_;refine Gfb (λ hc=>G9b ?_) (λ h2=>?_)
  ·rw[show r.2.all (Mf l r.1)=false from no (by rw[Vv]at hc;rw[hc];rfl)];rfl
  ·rw[Wg]at h2;refine Gab (Q:=λ b=>b=bif (r.2.getD j []).all (λ id=>(K6 l id).isSome) then .inr (l,(j:Int),r) else .inl false) ?_ ?_
   ·refine Gib (L:=λ k i (_:Unit)=>Hu k l (j:Int) i r) (Q:=λ b=>b=bif (r.2.getD j []).all (λ id=>(K6 l id).isSome) then .inr (l,(j:Int),r) else .inl false) (r.2.getD j []).length (λ m _=>((r.2.getD j []).drop m).all (λ id=>(K6 l id).isSome)=(r.2.getD j []).all (λ id=>(K6 l id).isSome)) ?_ ?_ 0 () (Vt _) rfl
    ·intro _ h;rw[Wf]at h;simp (disch:=omega) only [Hu,dT,dF,Vg,← h];exact G9b rfl
    ·intro m _ hm h next;rw[Au (d:=0) hm,Grb]at h;simp (disch:=omega) only [Hu,dT,Vg,w64];refine Glb (Rr l ((r.2.getD j []).getD m 0) (by omega)) ?_
     cases hd:K6 l ((r.2.getD j []).getD m 0) with
     |none=>exact Gcb rfl (G9b (by rw[← h,hd];rfl))
     |some d=>exact Gbb rfl (next () (by rw[hd]at h;exact h))
   ·rintro b rfl;cases hc:(r.2.getD j []).all (λ id=>(K6 l id).isSome)
    ·exact G9b (by rw[show r.2.all (Mf l r.1)=false from no (by rw[hc,Yr])];rfl)
    simp (disch:=omega) only [cond_true,Hhb,w64];exact next () (by rw[h2,hc]at h;exact h)
def X1 (l:List Int) (hl:l.length≤5000000):Fn l=some l:=by
 unfold Fn;rw[bT (by simp only[Vj];omega),Wb]
def Hha (r:Rng) (hr:RBd r):Tot (λ k=>Dl k r) (λ x=>x=r):=by
 have hrl:=hr.1;unfold Dl;refine Gab (Q:=λ x=>x=((0,[]),r)) ?_ (by rintro x rfl;exact G9b rfl);refine Gib (L:=λ k i s=>F7 k r.2 (r.2.length:Int) i (0,[]) (r.1,s)) (Q:=λ x=>x=((0,[]),r)) r.2.length (λ j s=>s=r.2.take j) ?_ ?_ 0 [] (Vt _) rfl
 ·rintro s rfl;simp (disch:=omega) only [F7,dF,Yx];exact G9b rfl
 ·rintro j s hj rfl next;have hp:=hr.2 _ (A4 (d:=[]) hj);simp (disch:=omega) only [F7,dT,Vg,w64,X1,Vn];refine Ghb (by simp only[Vu,Vb,Vj];omega) (next _ ?_);rw[Wl hj,Vc,Vk hj,Ye]
def X2 (r:Rng) (hr:RBd r):Tot (λ k=>J5 k r) (λ x=>x=r):=by
 have hrl:=hr.1;unfold J5;refine Gab (Q:=λ x=>x=((0,[]),r)) ?_ (by rintro x rfl;exact G9b rfl);refine Gib (L:=λ k i s=>Gq k i r (0,[]) (r.1,s)) (Q:=λ x=>x=((0,[]),r)) r.2.length (λ j s=>s=r.2.take j) ?_ ?_ 0 [] (Vt _) rfl
 ·rintro s rfl;simp (disch:=omega) only [Gq,dF,Yx];exact G9b rfl
 ·rintro j s hj rfl next;have hp:=hr.2 _ (A4 (d:=[]) hj);simp (disch:=omega) only [Gq,dT,Vg,w64];refine Ghb (by simp only[Vj];omega) (Ghb (by simp only[Vu,Vb,Vj];omega) (next _ ?_));rw[Wl hj,Vc,Vk hj,Ye,Wb]
def cnt (id n x:Int):Int:=bif x==id then n+1 else n
def K7a (id n:Int) (p:List Int):Int:=p.foldl (cnt id) n
def Mq (r:Rng) (id:Int):Int:=r.2.foldl (K7a id) 0
def K8a (id:Int):∀ (p:List Int) (n:Int),n≤K7a id n p∧K7a id n p≤n+p.length
 |[],n=>by simp[K7a]
 |x::p,n=>by
  have h:=K8a id p (cnt id n x);unfold K7a at h ⊢
  have hc:n≤cnt id n x∧cnt id n x≤n+1:=by unfold cnt;cases x==id<;>simp<;>omega
  rw[Ze,Vb];omega
def Tha (id:Int) (m:Nat):∀ (ps:List (List Int)) (n:Int),(∀ p∈ps,p.length≤m)→n≤ps.foldl (K7a id) n∧ps.foldl (K7a id) n≤n+(m*ps.length:Nat)
 |[],n,_=>by simp
 |p::ps,n,h=>by
  have h1:=Tha id m ps (K7a id n p) (λ q hq=>h q (Vi _ hq));have h2:=K8a id p n;have h3:=h p Yu;rw[Ze,Vb,Nat.mul_succ];omega
def Uf {r:Rng} (hr:RBd r) (id:Int):0≤Mq r id∧Mq r id≤4000000000000:=by
 have h:=Tha id 2000000 r.2 0 hr.2;have h2:=hr.1;unfold Mq;omega
def Y2 (r:Rng) (id:Int) (hr:RBd r):Tot (λ k=>Cs k r id) (λ x=>x=Mq r id):=by
 have hrl:=hr.1;unfold Cs;refine Gab (Q:=λ x=>x=Mq r id) ?_ (by rintro x rfl;exact G9b rfl);refine Gib (L:=λ k i s=>Hd k id s i r) (Q:=λ x=>x=Mq r id) r.2.length (λ j s=>(r.2.drop j).foldl (K7a id) s=Mq r id∧0≤s∧s≤2000000*j) ?_ ?_ 0 0 (Vt _) ⟨rfl,by omega,by omega⟩
 ·rintro s ⟨h,_⟩;rw[Wf]at h;simp (disch:=omega) only [Hd,dF];exact G9b h
 ·rintro j s hj ⟨h,h0,h1⟩ next;rw[Au (d:=[]) hj,Ze]at h;have hp:=hr.2 _ (A4 (d:=[]) hj);have hc:=K8a id (r.2.getD j []) s;simp (disch:=omega) only [Hd,dT];refine Gab (Q:=λ x=>x=(id,K7a id s (r.2.getD j []),(j:Int),r)) ?_ ?_
  ·refine Gib (L:=λ k i s=>Gl k id s (j:Int) i r) (Q:=λ x=>x=(id,K7a id s (r.2.getD j []),(j:Int),r)) (r.2.getD j []).length (λ m z=>K7a id z ((r.2.getD j []).drop m)=K7a id s (r.2.getD j [])∧0≤z∧z≤2000000*j+m) ?_ ?_ 0 s (Vt _) ⟨rfl,h0,by omega⟩
   ·rintro z ⟨h,_⟩;rw[Wf]at h;simp (disch:=omega) only [Gl,dT,dF,Vg];exact G9b (by rw[← h];rfl)
   ·rintro m z hm ⟨h,z0,z1⟩ next;rw[Au (d:=0) hm]at h;simp (disch:=omega) only [Gl,dT,Vg,w64];have h':K7a id (cnt id z ((r.2.getD j []).getD m 0)) ((r.2.getD j []).drop (m+1))=K7a id s (r.2.getD j []):=h;unfold cnt at h';refine Gfb (λ hc=>next _ ?_) (λ hc=>next _ ?_)
    ·rw[hc]at h';exact⟨h',by omega,by omega⟩
    ·rw[hc]at h';exact⟨h',by omega,by omega⟩
  ·rintro x rfl;simp (disch:=omega) only [w64];exact next _ ⟨h,by omega,by omega⟩

def Fyb {a w:Int} (h0:0≤a) (h1:a≤4000000000001) (w0:0≤w) (w1:w≤1000) : -9223372036854775808≤a*w∧a*w≤9223372036854775807:=by
 have e1:=Int.mul_nonneg h0 w0;have e2:a*w≤4000000000001*1000:=Int.mul_le_mul h1 w1 w0 (by decide);omega
def B2a (r:Rng) (p zs:List Int) (a:Option (Dev×Bool)) (d:Dev):Option (Dev×Bool):=
 bif Nn p d.1 then a else match a with
 |none=>some (d,!(Nn zs d.2.1))
 |some (b,fr)=>bif (!(Nn zs d.2.1)&&!fr)||(((!(Nn zs d.2.1))==fr)&&decide ((Mq r d.1+1)*b.2.2<(Mq r b.1+1)*d.2.2)) then some (d,!(Nn zs d.2.1)) else some (b,fr)
def Ta (r:Rng) (p:List Int) (l:List Dev):Option (Dev×Bool):=l.foldl (B2a r p (H4 p l)) none
def Bra (r:Rng) (p:List Int) (l:List Dev):Int:=match Ta r p l with
 |some b=>b.1.1
 |none => -1
def Xba {r:Rng} {p zs:List Int} {l:List Dev} {a:Option (Dev×Bool)} {d:Dev} (ha:∀ b,a=some b→b.1∈l∧b.1.1∉p) (hd:d∈l):∀ b,B2a r p zs a d=some b→b.1∈l∧b.1.1∉p:=by
 intro b hb;unfold B2a at hb;cases hp:Nn p d.1
 case true=>rw[hp]at hb;exact ha b hb
 have hn:d.1∉p:=λ c=>by rw[Of.2 c]at hp;cases hp
 rw[hp,cond_false]at hb
 cases a with
 |none=>cases hb;exact⟨hd,hn⟩
 |some c=>
  obtain⟨c,fr⟩:=c;simp only at hb
  cases hq:(!(Nn zs d.2.1)&&!fr)||(((!(Nn zs d.2.1))==fr)&&decide ((Mq r d.1+1)*c.2.2<(Mq r c.1+1)*d.2.2)) with
  |true=>rw[hq]at hb;cases hb;exact⟨hd,hn⟩
  |false=>rw[hq]at hb;cases hb;exact ha _ rfl
def N3a {r:Rng} {p zs:List Int} {l:List Dev}:∀ (m:List Dev) (a:Option (Dev×Bool)),(∀ b,a=some b→b.1∈l∧b.1.1∉p)→(∀ d∈m,d∈l)→∀ b,m.foldl (B2a r p zs) a=some b→b.1∈l∧b.1.1∉p
 |[],_,ha,_=>ha
 |d::m,_,ha,hm=>N3a m _ (Xba ha (hm d Yu)) (λ x hx=>hm x (Vi _ hx))
def N4a {r:Rng} {p:List Int} {l:List Dev} {b:Dev×Bool} (h:Ta r p l=some b):b.1∈l∧b.1.1∉p:=N3a l none (λ b h=>by cases h) (λ _ h=>h) b h
def Owa {r:Rng} {p zs:List Int} {a:Option (Dev×Bool)} {d:Dev} (h:a.isSome=true∨d.1∉p):(B2a r p zs a d).isSome=true:=by
 unfold B2a
 cases hp:Nn p d.1 with
 |true=>
  rcases h with h|h
  ·exact h
  ·exact absurd (Of.1 hp) h
 |false=>
  cases a with
  |none=>rfl
  |some c=>
   obtain⟨c,fr⟩:=c;simp only[cond_false]
   cases (!(Nn zs d.2.1)&&!fr)||(((!(Nn zs d.2.1))==fr)&&decide ((Mq r d.1+1)*c.2.2<(Mq r c.1+1)*d.2.2))<;>rfl
def D4a {r:Rng} {p zs:List Int}:∀ (m:List Dev) (a:Option (Dev×Bool)),(a.isSome=true∨∃ d∈m,d.1∉p)→(m.foldl (B2a r p zs) a).isSome=true
 |[],a,h=>by
  rcases h with h|⟨d,h,_⟩
  ·exact h
  ·cases h
 |d::m,a,h=>by
  refine D4a m _ ?_
  by_cases hd:a.isSome=true∨d.1∉p
  ·exact .inl (Owa hd)
  ·rcases h with h|⟨x,hx,hn⟩
   ·exact absurd (.inl h) hd
   ·rcases Vl.1 hx with rfl|hx
    ·exact absurd (.inr hn) hd
    ·exact .inr ⟨x,hx,hn⟩
def Xca {r:Rng} {p:List Int} {l:List Dev} (h:∃ d∈l,d.1∉p):∃ d∈l,Bra r p l=d.1∧d.1∉p:=by
 obtain⟨b,hb⟩:=Zm.1 (D4a (r:=r) (zs:=H4 p l) l none (.inr h));obtain⟨h1,h2⟩:=N4a hb;exact⟨b.1,h1,by unfold Bra;rw[show Ta r p l=some b from hb],h2⟩
def Oxa (r:Rng) (p:List Int) (l:List Dev):(Ta r p l=none∧Bra r p l = -1)∨∃ b,Ta r p l=some b∧Bra r p l=b.1.1∧b.1∈l∧b.1.1∉p:=by
 cases h:Ta r p l with
 |none=>exact .inl ⟨rfl,by unfold Bra;rw[h]⟩
 |some b=>exact .inr ⟨b,rfl,by unfold Bra;rw[h],N4a h⟩
def Tb (p:List Int) (l:List Dev):(H4 p l).length≤p.length:=by
 have:=Hea l p [];rwa [Vj,Wj]at this
def bs (r:Rng):Option (Dev×Bool)→Int×Bool×Dev
 |some (b,fr)=>(Mq r b.1+1,fr,b)
 |none=>(0,false,-1,0,0)
def N5a (r:Rng) (p:List Int) (l:List Dev) (hr:RBd r) (hp:p.length≤2000000) (hl:M1 l=true):Tot (λ k=>I7 k r p l) (λ x=>x=Bra r p l):=by
 obtain⟨_,hdv,_,h12⟩:=De.1 hl;have hz:=Tb p l;unfold I7;refine Glb (Hfa p l (by omega) (by omega)) ?_;refine Gab (Q:=λ x=>∃ i:Int,x=(l,i)∧match Ta r p l with|some b=>∃ n:Nat,i=(n:Int)∧n<l.length∧l.getD n Ni=b.1|none=>i = -1) ?_ ?_
 ·refine Gib (L:=λ k i (s:Int×Bool)=>Bs k l (H4 p l) s.1 s.2 i r p) (Q:=λ x=>∃ i:Int,x=(l,i)∧match Ta r p l with|some b=>∃ n:Nat,i=(n:Int)∧n<l.length∧l.getD n Ni=b.1|none=>i = -1) l.length
   (λ j s=>∃ a,(match a with|some (b,fr)=>s.2=fr∧∃ n:Nat,s.1=(n:Int)∧n<l.length∧l.getD n Ni=b|none=>s=(-1,false))∧(l.drop j).foldl (B2a r p (H4 p l)) a=Ta r p l) ?_ ?_ 0 (-1,false) (Vt _) ⟨none,rfl,rfl⟩
  ·rintro⟨s1,s2⟩ ⟨a,hs,h⟩;rw[Wf]at h;simp (disch:=omega) only [Bs,dF];refine G9b ⟨s1,rfl,?_⟩;rw[← h]
   cases a with
   |none=>exact(Prod.mk.inj hs).1
   |some bf=>exact hs.2
  ·rintro j ⟨s1,s2⟩ hj ⟨a,hs,h⟩ next;rw[Au (d:=Ni) hj,Ze]at h;have hd:=A4 (d:=Ni) hj;obtain⟨d,ed⟩:∃ d:Dev,l.getD j Ni=d:=⟨_,rfl⟩;rw[ed]at h hd;have e0:l.getD j ((0:Int),((0:Int),(0:Int)))=d:=ed;obtain⟨_,_,w0,w1⟩:=O5.1 (hdv _ hd);have l1:=Uf hr d.1;simp (disch:=omega) only [Bs,dT,Vg,w64,e0];refine Glb (Y1 l (by omega)) ?_;refine Gcb hl (Glb (T9 p d.1 (by omega)) ?_);unfold B2a at h
   cases hp':Nn p d.1 with
   |true=>
    rw[hp']at h;exact Gcb rfl (next _ ⟨a,hs,h⟩)
   |false=>
    rw[hp',cond_false]at h;refine Gbb rfl (Glb (T9 (H4 p l) d.2.1 (by omega)) ?_);have take:∀ {z:Bool},(l.drop (j+1)).foldl (B2a r p (H4 p l)) (some (d,z))=Ta r p l→Tot (λ k=>Bs k l (H4 p l) (j:Int) z ((j:Int)+1) r p) (λ x=>∃ i:Int,x=(l,i)∧match Ta r p l with|some b=>∃ n:Nat,i=(n:Int)∧n<l.length∧l.getD n Ni=b.1|none=>i = -1):=λ {z} h2=>next ((j:Int),z) ⟨some (d,z),⟨rfl,j,rfl,hj,ed⟩,h2⟩
    cases a with
    |none=>
     obtain⟨rfl,rfl⟩:=Prod.mk.inj hs;exact Gdb (by decide) (take h)
    |some bf=>
     obtain⟨b,fr⟩:=bf;obtain⟨e1,n,e2,hn,e3⟩:=hs;dsimp only at e1 e2;subst e1 e2;have hb:=A4 (d:=Ni) hn;rw[e3]at hb;obtain⟨⟨i0,_⟩,_,v0,v1⟩:=O5.1 (hdv _ hb);have l2:=Uf hr b.1;have m1:=Fyb (a:=Mq r d.1+1) (w:=b.2.2) (by omega) (by omega) (by omega) v1;have m2:=Fyb (a:=Mq r b.1+1) (w:=d.2.2) (by omega) (by omega) (by omega) w1;have stay:(l.drop (j+1)).foldl (B2a r p (H4 p l)) (some (b,s2))=Ta r p l→Tot (λ k=>Bs k l (H4 p l) (n:Int) s2 ((j:Int)+1) r p) (λ x=>∃ i:Int,x=(l,i)∧match Ta r p l with|some b=>∃ n:Nat,i=(n:Int)∧n<l.length∧l.getD n Ni=b.1|none=>i = -1):=λ h2=>next ((n:Int),s2) ⟨some (b,s2),⟨rfl,n,rfl,hn,e3⟩,h2⟩;refine Geb (by omega) ?_;have e4:l.getD n ((0:Int),((0:Int),(0:Int)))=b:=e3;dsimp only at h
     have cmp:∀ {z:Bool},Nn (H4 p l) d.2.1=z→((!z)==s2)=true→(!z&&!s2)=false→Tot (λ k=>(Cs k r d.1).bind λ r5=>cond (decide ((0:Int)≤(n:Int))) (cond (decide ((n:Int)<(length l:Int))) (cond (decide ((0:Int)≤(n:Int))) (cond (decide ((n:Int)<(length l:Int))) ((Cs k r (getD l (toNat (n:Int)) ((0:Int),((0:Int),(0:Int)))).1).bind λ r8=>cond (decide ((wrap .i64 ((wrap .i64 (r5+1))*(getD l (toNat (n:Int)) ((0:Int),((0:Int),(0:Int)))).2.2))<(wrap .i64 ((wrap .i64 (r8+1))*d.2.2)))) (Bs k l (H4 p l) (j:Int) s2 ((j:Int)+1) r p) (Bs k l (H4 p l) (n:Int) s2 ((j:Int)+1) r p)) none) none) none) none) (λ x=>∃ i:Int,x=(l,i)∧match Ta r p l with|some b=>∃ n:Nat,i=(n:Int)∧n<l.length∧l.getD n Ni=b.1|none=>i = -1):=by
      intro z hz e1 e2;rw[hz,e1,e2,H5b,Vy]at h;refine Glb (Y2 r d.1 hr) ?_;refine Gdb (by omega) (Gdb (by omega) (Gdb (by omega) (Gdb (by omega) ?_)));rw[Vg,e4];refine Glb (Y2 r b.1 hr) ?_;rw[w64 (n:=Mq r d.1+1) (by omega) (by omega),w64 (n:=Mq r b.1+1) (by omega) (by omega),w64 m1.1 m1.2,w64 m2.1 m2.2];refine Gfb (λ hc=>?_) (λ hc=>?_)
      ·rw[hc,cond_true]at h;rw[show s2 = !z by rw[← eq_of_beq e1]];exact take h
      ·rw[hc]at h;exact stay h
     cases hz:Nn (H4 p l) d.2.1 with
     |false=>
      have cm:=cmp hz;rw[hz]at h
      cases s2 with
      |false=>exact Gcb rfl (Gcb rfl (take h))
      |true=>exact Gcb rfl (Gbb rfl (Gcb rfl (cm rfl rfl)))
     |true=>
      have cm:=cmp hz;rw[hz]at h
      cases s2 with
      |false=>exact Gbb rfl (Gcb rfl (cm rfl rfl))
      |true=>exact Gbb rfl (Gbb rfl (stay h))
 ·rintro x ⟨i,rfl,hi⟩;unfold Bra
  cases hb:Ta r p l with
  |none=>
   rw[hb]at hi;subst hi;exact Gdb (show (-1:Int)<0 by decide) (G9b rfl)
  |some b=>
   rw[hb]at hi;obtain⟨n,rfl,hn,e⟩:=hi;dsimp only;refine Geb (by omega) (Gdb (by omega) (Gdb (by omega) (G9b ?_)));rw[Int.toNat_natCast,show l.getD n ((0:Int),((0:Int),(0:Int)))=b.1 from e]

def Tia {l:List Dev} (h:M1 l=true) {d:Dev} (hd:d∈l):K6 l d.1=some d:=by
 have hp:=(De.1 h).1;clear h
 induction l with
 |nil=>cases hd
 |cons x l ih=>
  obtain⟨h1,h2⟩:=Wi.1 hp;unfold K6;rw[Jlb];rcases Vl.1 hd with rfl|hd
  ·rw[beq_self_eq_true]
  ·have:=h1 d hd;rw[show (x.1==d.1)=false from beq_eq_false_iff_ne.2 (by omega)];exact ih hd h2
def Zba:∀ (p:List Int) (l:List Dev),l.Pairwise (λ a b=>a.1<b.1)→p.length<l.length→∃ d∈l,d.1∉p
 |p,[],_,h=>by simp at h
 |p,d::l,hl,h=>by
  obtain⟨h1,h2⟩:=Wi.1 hl
  by_cases hd:d.1∈p
  ·have hlen:(p.erase d.1).length=p.length-1:=Hwb hd;have hpos:=Gzb hd;rw[Vb]at h;obtain⟨x,hx,hn⟩:=Zba (p.erase d.1) l h2 (by omega);refine⟨x,Vi _ hx,λ c=>hn ?_⟩;have:=h1 x hx;exact(Inb (by omega)).2 c
  ·exact⟨d,Yu,hd⟩
def Oya (l:List Dev) (n:Nat) (p:List Int):Prop:=p.Nodup∧p.length=n∧∀ id∈p,∃ d,K6 l id=some d
def Tja {r:Rng} {l:List Dev} {n:Nat} {p:List Int} (hl:M1 l=true) (h:Oya l n p) (hn:n<l.length):Oya l (n+1) (p++[Bra r p l]):=by
 obtain⟨h1,h2,h3⟩:=h;obtain⟨d,hd,e,hne⟩:=Xca (r:=r) (Zba p l (De.1 hl).1 (by omega));rw[e];refine⟨?_,by rw[Vd];simp[h2],λ id hid=>?_⟩
 ·rw[Ya];exact⟨h1,by simp,λ a ha b hb c=>by rw[Vs.1 hb]at c;subst c;exact hne ha⟩
 ·rcases Vo.1 hid with hid|hid
  ·exact h3 id hid
  ·rw[Vs.1 hid];exact⟨d,Tia hl hd⟩
def Hia (l:List Dev) (reps:Int) (ps:List (List Int)):Nat→List Int→List Int
 |0,p=>p
 |n+1,p=>Hia l reps ps n (p++[Bra (reps,ps++[p]) p l])
def Pja (l:List Dev) (reps:Int):Nat→List (List Int)→List (List Int)
 |0,ps=>ps
 |n+1,ps=>Pja l reps n (ps++[Hia l reps ps reps.toNat []])
def build (l:List Dev) (parts reps:Int):Rng×Bool:=bif M1 l&&(inR parts 1 64&&(inR reps 1 5&&!(decide (reps > (l.length:Int))))) then ((reps,Pja l reps parts.toNat []),true) else ((0,[]),false)
def N6a {l:List Dev} {reps:Int} {ps:List (List Int)} (hl:M1 l=true):∀ (n m:Nat) (p:List Int),Oya l m p→m+n≤l.length→Oya l (m+n) (Hia l reps ps n p)
 |0,_,_,h,_=>h
 |n+1,m,p,h,hm=>by
  have:=N6a (reps:=reps) (ps:=ps) hl n (m+1) _ (Tja (r:=(reps,ps++[p])) hl h (by omega)) (by omega);rwa [show m+1+n=m+(n+1) by omega]at this
def Tka {l:List Dev} {reps:Int} (hl:M1 l=true) (hr:reps≤(l.length:Int)):∀ (n:Nat) (ps:List (List Int)),(∀ p∈ps,Oya l reps.toNat p)→(Pja l reps n ps).length=ps.length+n∧∀ p∈Pja l reps n ps,Oya l reps.toNat p
 |0,ps,h=>⟨rfl,h⟩
 |n+1,ps,h=>by
  have hf:=N6a (reps:=reps) (ps:=ps) hl reps.toNat 0 [] ⟨Jqb,rfl,λ _ h=>by cases h⟩ (by omega);rw[Wj]at hf
  obtain⟨h1,h2⟩:=Tka hl hr n (ps++[Hia l reps ps reps.toNat []]) (λ p hp=>by
   rcases Vo.1 hp with hp|hp
   ·exact h p hp
   ·rw[Vs.1 hp];exact hf)
  refine⟨?_,h2⟩;show (Pja l reps n _).length=_;rw[h1,Vd];simp only[Vb,Vj];omega
def N7a {l:List Dev} {parts reps:Int} (h:(build l parts reps).2=true):M1 l=true∧Ha (build l parts reps).1 l=true∧(build l parts reps).1.1=reps∧((build l parts reps).1.2.length:Int)=parts:=by
 unfold build at h ⊢;cases hc:M1 l&&(inR parts 1 64&&(inR reps 1 5&&!(decide (reps > (l.length:Int)))))
 ·rw[hc]at h;cases h
 rw[Va,Va,Va,Vv,decide_eq_false_iff_not,Dg,Dg]at hc;obtain⟨h1,h2,h3,h4⟩:=hc;obtain⟨b1,b2⟩:=Tka (reps:=reps) h1 (by omega) parts.toNat [] (λ p hp=>by cases hp);rw[Vj,Wj]at b1
 have b1':((Pja l reps parts.toNat []).length:Int)=parts:=by rw[b1];omega
 refine⟨h1,Ay.2 ⟨h1,h3,⟨by show 1≤(Pja l reps parts.toNat []).length;omega,by show (Pja l reps parts.toNat []).length≤64;omega⟩,λ p hp=>?_⟩,rfl,b1'⟩;obtain⟨c1,c2,c3⟩:=b2 p hp;exact⟨c1,by rw[c2];show ((reps.toNat:Nat):Int)=reps;omega,c3⟩
def Hja {l:List Dev} {reps:Int} {ps:List (List Int)}:∀ (n:Nat) (p:List Int),(Hia l reps ps n p).length=p.length+n
 |0,_=>rfl
 |n+1,p=>by
  show (Hia l reps ps n _).length=_;rw[Hja n,Vd];simp only[Vb,Vj];omega
def Tla {α:Type} (l:List α) (x d:α):(l++[x]).getD l.length d=x:=by
 rw[Vc,Yi (Vw _),Hgb];rfl
def Xda {α:Type} (l:List α) (x y:α):(l++[x]).set l.length y=l++[y]:=by
 rw[Jmb _ _ (Vw _),Hgb];rfl
def Hka (l:List Dev) (parts reps:Int) (z:Rng) (hl:M1 l=true) (h0:0≤reps) (h5:reps≤5) (ps:List (List Int)) (hps:ps.length≤100) (hq:∀ q∈ps,q.length≤100):∀ (n:Nat) (p:List Int),p.length+n=reps.toNat→
  Tot (λ k=>Ig k l parts reps (ps.length:Int) (p.length:Int) z (reps,ps++[p])) (λ x=>x=(l,parts,reps,(ps.length:Int),z,(reps,ps++[Hia l reps ps n p]))):=by
 intro n
 induction n with
 |zero=>
  intro p hp;refine Tot.succ ?_;simp (disch:=omega) only [Ig,dF];exact G9b rfl
 |succ n ih=>
  intro p hp;refine Tot.succ ?_
  have hrb:RBd (reps,ps++[p]):=⟨by simp only[Vd,Vb,Vj];omega,λ q hq'=>by
   rcases Vo.1 hq' with h|h
   ·have:=hq q h;omega
   ·rw[Vs.1 h];omega⟩
  have hlen:(ps++[p]).length=ps.length+1:=by simp
  simp (disch:=omega) only [Ig,dT,Vg,w64,hlen,Tla,Xda];refine Glb (N5a (reps,ps++[p]) p l hrb (by omega) hl) ?_;refine Gcb (decide_eq_true trivial) (Ghb (by simp only[Vb,Vj];omega) (Gcb (decide_eq_true trivial) ?_));have:=ih (p++[Bra (reps,ps++[p]) p l]) (by simp only[Vd,Vb,Vj];omega);rw[show (((p++[Bra (reps,ps++[p]) p l]).length:Nat):Int)=(p.length:Int)+1 by simp]at this;exact this
def Tma (l:List Dev) (parts reps:Int) (hll:l.length≤5000000):Tot (λ k=>Hb k l parts reps) (λ x=>x=build l parts reps):=by
 unfold Hb build;refine Glb (Y1 l (by omega)) ?_;cases hl:M1 l
 ·exact Gcb rfl (G9b rfl)
 simp only[Zb,cond_false,Ob,Vn,Vy];cases hp:inR parts 1 64
 ·exact Gcb rfl (G9b rfl)
 refine Gbb rfl ?_;cases hr:inR reps 1 5
 ·exact Gcb rfl (G9b rfl)
 obtain⟨r1,r2⟩:=Dg.1 hr;obtain⟨p1,p2⟩:=Dg.1 hp;refine Gbb rfl ?_;cases hc:decide (reps > (l.length:Int))
 case true=>exact Gcb rfl (G9b rfl)
 refine Gbb rfl (Gab (Q:=λ x=>x=(((0:Int),([]:List (List Int))),(reps,Pja l reps parts.toNat []))) ?_ (by rintro x rfl;exact G9b rfl));obtain⟨n,rfl⟩:∃ n:Nat,parts=(n:Int):=⟨parts.toNat,by omega⟩;refine Gib (L:=λ k i (s:Rng)=>Ih k l (n:Int) reps i (0,[]) s) (Q:=λ x=>x=(((0:Int),([]:List (List Int))),(reps,Pja l reps n []))) n (λ j s=>∃ ps,s=(reps,ps)∧ps.length=j∧(∀ q∈ps,q.length≤100)∧Pja l reps (n-j) ps=Pja l reps n []) ?_ ?_ 0 (reps,[]) (Vt _) ⟨[],rfl,rfl,λ q h=>(by cases h),rfl⟩
 ·rintro s ⟨ps,rfl,hps,_,h⟩;rw[Hgb]at h;simp (disch:=omega) only [Ih,dF];exact G9b (by rw[← h];rfl)
 ·rintro j s hj ⟨ps,rfl,hps,hq,h⟩ next;simp (disch:=omega) only [Ih,dT];refine Ghb (by simp only[Vb,Vj];omega) ?_;have h9:=Hka l (n:Int) reps (0,[]) hl (by omega) r2 ps (by omega) hq reps.toNat [] (by simp);rw[hps]at h9;refine Gab h9 ?_;rintro x rfl;simp (disch:=omega) only [w64];refine next _ ⟨ps++[Hia l reps ps reps.toNat []],rfl,by rw[Vd,hps];rfl,λ q hq'=>?_,?_⟩
  ·rcases Vo.1 hq' with h'|h'
   ·exact hq q h'
   ·rw[Vs.1 h',Hja,Vj];omega
  ·rw[show n-j=(n-(j+1))+1 by omega]at h;exact h

def Eja:∀ (p q:List Int),p.Nodup→(∀ x∈p,x∈q)→p.length≤q.length
 |[],_,_,_=>Vt _
 |x::p,q,h,hs=>by
  obtain⟨h1,h2⟩:=Yo.1 h;have hx:=hs x Yu;have hlen:(q.erase x).length=q.length-1:=Hwb hx;have hpos:=Gzb hx;have:=Eja p (q.erase x) h2 (λ y hy=>(Inb (λ c=>by subst c;exact h1 hy)).2 (hs y (Vi _ hy)));rw[Vb];omega
def Tna {r:Rng} {l:List Dev} (h:Ha r l=true):r.1≤(l.length:Int):=by
 obtain⟨_,_,h3,h4⟩:=Ay.1 h;obtain⟨p,hp⟩:=Iib (show 0<r.2.length by omega);obtain⟨q1,q2,q3⟩:=h4 p hp
 have:=Eja p (l.map (·.1)) q1 (λ x hx=>by
  obtain⟨d,hd⟩:=q3 x hx;obtain⟨hm,he⟩:=W3 hd
  exact Yt.2 ⟨d,hm,he⟩)
 rw[Wd]at this;omega
def K9a {r:Rng} {l:List Dev} (h:Ha r l=true):Tot (λ k=>Jz k r l) (λ b=>b=true):=by
 have hrp:=Tna h;obtain⟨h1,h2,h3,h4⟩:=Ay.1 h;obtain⟨_,_,_,h12⟩:=De.1 h1;unfold Jz;refine Glb (Y1 l (by omega)) ?_;refine Gbb (by rw[h1];rfl) ?_;simp only[Ob,Vn];refine Gbb (by rw[Dg.2 h2];rfl) (Geb (by omega) (Gbb (by rw[Dg.2 (by omega)];rfl) ?_));refine Gab (Q:=λ b=>b = .inr ()) ?_ (by rintro b rfl;exact G9b rfl);refine Gib (L:=λ k i (_:Unit)=>Jj k i r) (Q:=λ b=>b = .inr ()) r.2.length (λ _ _=>True) ?_ ?_ 0 () (Vt _) trivial
 ·intro _ _;simp (disch:=omega) only [Jj,dF];exact G9b rfl
 ·intro j _ hj _ next;obtain⟨q1,q2,_⟩:=h4 _ (A4 (d:=[]) hj);simp (disch:=omega) only [Jj,dT,Vg,w64];refine Glb (N2a _ _ (by omega)) ?_;exact Gbb (by rw[decide_eq_true q1,q2];simp) (next () trivial)
def Xea (p:List Int) (l:List Dev) (h:∀ id∈p,∃ d,K6 l id=some d) (hp:p.length≤5000000) (hl:l.length≤5000000):Tot (λ k=>Gz k p l) (λ x=>x = -1):=by
 unfold Gz;refine Gab (Q:=λ x=>x = .inr ()) ?_ (by rintro x rfl;exact G9b rfl);refine Gib (L:=λ k i (_:Unit)=>Hm k l i p) (Q:=λ x=>x = .inr ()) p.length (λ _ _=>True) ?_ ?_ 0 () (Vt _) trivial
 ·intro _ _;simp (disch:=omega) only [Hm,dF];exact G9b rfl
 ·intro j _ hj _ next;simp (disch:=omega) only [Hm,dT,Vg,w64];refine Glb (Rr l _ (by omega)) ?_;obtain⟨d,hd⟩:=h _ (A4 (d:=0) hj);exact Gbb (by rw[hd];rfl) (next () trivial)
def hv (r:Rng) (l:List Dev) (b id:Int):Bool:=match K6 l b with
 |none=>false
 |some x=>match K6 l id with
  |none=>false
  |some d=>(d.2.1==x.2.1)&&decide (Mq r id-Mq r b≥2)
def Pka (r:Rng) (l:List Dev) (p:List Int) (b:Int):Option Nat:=p.findIdx? (hv r l b)
def oI:Option Nat→Int
 |some i=>(i:Int)
 |none => -1
def Hla {f:Int→Bool} {p:List Int} {j:Nat} (hj:j<p.length) (h:((p.drop j).findIdx? f).map (· + j)=p.findIdx? f):
  (f (p.getD j 0)=true→p.findIdx? f=some j)∧(f (p.getD j 0)=false→((p.drop (j+1)).findIdx? f).map (· + (j+1))=p.findIdx? f):=by
 rw[Au (d:=0) hj,I4b]at h;constructor
 ·intro c;rw[if_pos c]at h;rw[← h,Hxb,Wj]
 ·intro c;rw[if_neg (by rw[c];simp)]at h;rw[← h,Option.map_map];congr 1;funext x;show x+(j+1)=x+1+j;omega
def Toa (r:Rng) (p:List Int) (l:List Dev) (b:Int) (hr:RBd r) (hp:p.length≤2000000) (hl:l.length≤2000000):Tot (λ k=>Fc k r p l b) (λ x=>x=oI (Pka r l p b)):=by
 unfold Fc;refine Glb (Rr l b (by omega)) ?_
 refine Gab (Q:=λ x=>x=match Pka r l p b with|some i => .inl (i:Int)|none => .inr ()) ?_ (by rintro x rfl;cases Pka r l p b<;>exact G9b rfl)
 cases hb:K6 l b with
 |none=>
  have hn:Pka r l p b=none:=by unfold Pka;rw[J5b];intro x _;unfold hv;rw[hb]
  rw[hn];refine Tot.succ ?_
  by_cases hp0:(0:Int)<(p.length:Int)
  ·simp (disch:=omega) only [Cd,dT,Fkb,cond_false];exact G9b rfl
  ·simp (disch:=omega) only [Cd,dF];exact G9b rfl
 |some x=>
  have hvI:∀ id,hv r l b id=match K6 l id with|none=>false|some d=>(d.2.1==x.2.1)&&decide (Mq r id-Mq r b≥2):=λ id=>by unfold hv;rw[hb]
  refine Gib (L:=λ k i (_:Unit)=>Cd k l b true i r p x) (Q:=λ x=>x=match Pka r l p b with|some i => .inl (i:Int)|none => .inr ()) p.length (λ j _=>((p.drop j).findIdx? (hv r l b)).map (· + j)=p.findIdx? (hv r l b)) ?_ ?_ 0 () (Vt _) (by simp)
  ·intro _ h;rw[Wf]at h;have hn:Pka r l p b=none:=h.symm;rw[hn];simp (disch:=omega) only [Cd,dF];exact G9b rfl
  ·intro j _ hj h next;obtain⟨k1,k2⟩:=Hla hj h;simp (disch:=omega) only [Cd,dT,Vg,w64,cond_true];generalize p.getD j 0=id at *;refine Glb (Rr l id (by omega)) ?_;rw[hvI]at k1 k2
   cases hd:K6 l id with
   |none=>
    rw[hd]at k2;exact Gbb rfl (next () (k2 rfl))
   |some d=>
    rw[hd]at k1 k2;obtain⟨_,e⟩:=W3 hd;refine Gcb rfl ?_;cases hz:d.2.1==x.2.1
    ·exact Gbb hz (next () (k2 (by simp only[hz,Zs])))
    refine Gcb hz (Glb (Y2 r d.1 hr) ?_);refine Glb (Y2 r b hr) ?_;have l1:=Uf hr d.1;have l2:=Uf hr b;simp (disch:=omega) only [w64];refine Ggb (λ hc=>G9b ?_) (λ hc=>next () (k2 ?_))
    ·have hn:Pka r l p b=some j:=k1 (by simp only[hz,Vy];rw[← e];exact decide_eq_true hc);rw[hn]
    ·simp only[hz,Vy];rw[← e];exact decide_eq_false hc
def rb1 (l:List Dev) (s:Int×Rng) (j:Nat):Int×Rng:=match Pka s.2 l (s.2.2.getD j []) (Bra s.2 (s.2.2.getD j []) l) with
 |none=>s
 |some i=>(s.1+1,(s.2.1,s.2.2.set j ((s.2.2.getD j []).set i (Bra s.2 (s.2.2.getD j []) l))))
def rbs (l:List Dev) (r:Rng) (n:Nat):Int×Rng:=(List.range n).foldl (rb1 l) (0,r)
def Kaa (r:Rng) (l:List Dev):Rng×Int:=((rbs l r r.2.length).2,(rbs l r r.2.length).1)
def N8a (l:List Dev) (r:Rng) (n:Nat):rbs l r (n+1)=rb1 l (rbs l r n) n:=by
 unfold rbs;rw[Ivb,Hob];rfl
def X3 {r:Rng} {l:List Dev} {p:List Int} {i:Nat} (hl:M1 l=true) (h:Pka r l p (Bra r p l)=some i):i<p.length∧Bra r p l∉p∧0≤Bra r p l∧∃ d,K6 l (Bra r p l)=some d:=by
 obtain⟨h1,h2,_⟩:=I5b.1 h;refine⟨h1,?_⟩;unfold hv at h2
 cases hb:K6 l (Bra r p l) with
 |none=>rw[hb]at h2;cases h2
 |some d=>
  obtain⟨hd,he⟩:=W3 hb;obtain⟨⟨i0,_⟩,_⟩:=O5.1 ((De.1 hl).2.1 _ hd);refine⟨?_,by omega,d,rfl⟩;rcases Oxa r p l with⟨_,e⟩|⟨b,_,e,_,hn⟩
  ·omega
  ·rw[e];exact hn
def Tpa {p:List Int} {b:Int} (h:p.Nodup) (hb:b∉p) (i:Nat):(p.set i b).Nodup:=by
 induction p generalizing i with
 |nil=>exact h
 |cons x p ih=>
  obtain⟨h1,h2⟩:=Yo.1 h
  cases i with
  |zero=>exact Yo.2 ⟨λ c=>hb (Vi _ c),h2⟩
  |succ i=>
   refine Yo.2 ⟨λ c=>?_,ih h2 (λ c=>hb (Vi _ c)) i⟩;rcases Yg c with c|c
   ·exact h1 c
   ·exact hb (c ▸ Yu)
def E8b {l:List Dev} {s:Int×Rng} {j:Nat} (hj:j<s.2.2.length) (h:Ha s.2 l=true):Ha (rb1 l s j).2 l=true∧(rb1 l s j).2.1=s.2.1∧(rb1 l s j).2.2.length=s.2.2.length∧s.1≤(rb1 l s j).1∧(rb1 l s j).1≤s.1+1:=by
 unfold rb1;obtain⟨h1,h2,h3,h4⟩:=Ay.1 h
 cases hx:Pka s.2 l (s.2.2.getD j []) (Bra s.2 (s.2.2.getD j []) l) with
 |none=>exact⟨h,rfl,rfl,by dsimp only;omega,by dsimp only;omega⟩
 |some i=>
  obtain⟨b1,b2,_,b3⟩:=X3 h1 hx;obtain⟨q1,q2,q3⟩:=h4 _ (A4 (d:=[]) hj);refine⟨Ay.2 ⟨h1,h2,by dsimp only;rw[List.length_set];exact h3,λ p hp=>?_⟩,rfl,by dsimp only;rw[List.length_set],by dsimp only;omega,by dsimp only;omega⟩;rcases List.mem_or_eq_of_mem_set hp with hp|hp
  ·exact h4 p hp
  ·subst hp;refine⟨Tpa q1 b2 i,by rw[Vz];exact q2,λ id hid=>?_⟩;rcases Yg hid with hid|hid
   ·exact q3 id hid
   ·rw[hid];exact b3
def N9a {l:List Dev} {r:Rng} (h:Ha r l=true):∀ (n:Nat),n≤r.2.length→Ha (rbs l r n).2 l=true∧(rbs l r n).2.1=r.1∧(rbs l r n).2.2.length=r.2.length∧0≤(rbs l r n).1∧(rbs l r n).1≤n
 |0,_=>⟨h,rfl,rfl,Zh _,Zh _⟩
 |n+1,hn=>by
  obtain⟨h1,h2,h3,h4,h5⟩:=N9a h n (by omega);obtain⟨g1,g2,g3,g4,g5⟩:=E8b (j:=n) (by omega) h1;rw[N8a];exact⟨g1,by rw[g2,h2],by rw[g3,h3],by omega,by omega⟩
def Naa {r:Rng} {l:List Dev} (h:Ha r l=true):Ha (Kaa r l).1 l=true∧(Kaa r l).1.1=r.1∧(Kaa r l).1.2.length=r.2.length∧0≤(Kaa r l).2:=by
 obtain⟨h1,h2,h3,h4,_⟩:=N9a h r.2.length (Vw _);exact⟨h1,h2,h3,h4⟩
def Tqa {r:Rng} {l:List Dev} (h:Ha r l=true):Tot (λ k=>Cq k r l) (λ x=>x=Kaa r l):=by
 obtain⟨_,_,h64,_⟩:=Ay.1 h;unfold Cq;refine Gab (X2 r (Nj h)) ?_;rintro x rfl;refine Gab (K9a h) ?_;rintro b rfl;refine Gbb rfl (Gab (Q:=λ y=>y=((rbs l x x.2.length).1,((0:Int),([]:List (List Int))),(rbs l x x.2.length).2)) ?_ (by rintro y rfl;exact G9b rfl));refine Gib (L:=λ k i (s:Int×Rng)=>B7 k l s.1 i (0,[]) s.2) (Q:=λ y=>y=((rbs l x x.2.length).1,((0:Int),([]:List (List Int))),(rbs l x x.2.length).2)) x.2.length (λ j s=>s=rbs l x j) ?_ ?_ 0 (0,x) (Vt _) rfl
 ·rintro s rfl;obtain⟨_,_,g3,_⟩:=N9a h x.2.length (Vw _);simp (disch:=omega) only [B7,dF];exact G9b rfl
 ·rintro j s hj rfl next;obtain⟨g1,g2,g3,g4,g5⟩:=N9a h j (by omega);rw[N8a]at next;generalize rbs l x j=s at *;obtain⟨c,r⟩:=s;dsimp only at g1 g2 g3 g4 g5;obtain⟨q0,_,_,q4⟩:=Ay.1 g1;obtain⟨p1,p2,p3⟩:=q4 _ (A4 (d:=[]) (show j<r.2.length by omega));have hx2:=(Ay.1 h).2.1;have l12:=(De.1 q0).2.2.2;unfold rb1 at next;dsimp only at next;obtain⟨p,hp⟩:∃ p,r.2.getD j []=p:=⟨_,rfl⟩;rw[hp]at p1 p2 p3;simp only[hp]at next;simp (disch:=omega) only [B7,dT,Int.toNat_natCast,w64,hp];refine Gab (Xea p l p3 (by omega) (by omega)) ?_;rintro x rfl;refine Geb (by omega) (Gab (N5a r p l (Nj g1) (by omega) q0) ?_);rintro b rfl;refine Gab (Toa r p l _ (Nj g1) (by omega) (by omega)) ?_;rintro y rfl
  cases hi:Pka r l p (Bra r p l) with
  |none=>
   rw[hi]at next;exact Geb (by show ¬ ((-1:Int)≥0);omega) (next _ rfl)
  |some i=>
   obtain⟨b1,b2,b3,_⟩:=X3 q0 hi;rw[hi]at next;have e:oI (some i)=(i:Int):=rfl;simp (disch:=omega) only [e,dT,Vg];exact next _ rfl
def wgt (l:List Dev) (i:Nat) (w:Int):List Dev:=l.set i ((l.getD i Ni).1,(l.getD i Ni).2.1,w)
def Eka (l:List Dev) (i:Nat) (w:Int):(wgt l i w).map (·.1)=l.map (·.1):=by
 unfold wgt;rw[List.map_set]
 by_cases hi:i<l.length
 ·have:(l.getD i Ni).1=(l.map (·.1)).getD i 0:=by
   simp only[Vc,Gvb,Vk hi,Hxb,Ye]
  rw[this,Vc,Vk (by simpa using hi),Ye];exact List.set_getElem_self _
 ·rw[List.set_eq_of_length_le (by simpa using hi)]
def Ph {l:List Dev} {id:Int}:(∃ d,K6 l id=some d)↔id∈l.map (·.1):=by
 unfold K6;rw[← Zm,List.find?_isSome,Yt];exact⟨λ ⟨x,h,e⟩=>⟨x,h,eq_of_beq e⟩,λ ⟨x,h,e⟩=>⟨x,h,beq_iff_eq.2 e⟩⟩
def E9b {l:List Dev} {i:Nat} {w:Int} (h:M1 l=true) (hi:i<l.length) (h1:1≤w) (h2:w≤1000):M1 (wgt l i w)=true:=by
 obtain⟨g1,g2,g3,g4⟩:=De.1 h;refine De.2 ⟨?_,λ d hd=>?_,?_⟩
 ·have e:(l.map (·.1)).Pairwise (· < ·):=Zz.2 g1;rw[← Eka l i w]at e;exact Zz.1 e
 ·rcases Yg hd with hd|hd
  ·exact g2 d hd
  ·obtain⟨e1,e2,_⟩:=O5.1 (g2 _ (A4 (d:=Ni) hi));subst hd;exact O5.2 ⟨e1,e2,h1,h2⟩
 ·unfold wgt;rw[Vz];exact⟨g3,g4⟩
def Ela {r:Rng} {l:List Dev} {i:Nat} {w:Int} (h:Ha r l=true) (hi:i<l.length) (h1:1≤w) (h2:w≤1000):Ha r (wgt l i w)=true:=by
 obtain⟨g1,g2,g3,g4⟩:=Ay.1 h;refine Ay.2 ⟨E9b g1 hi h1 h2,g2,g3,λ p hp=>?_⟩;obtain⟨q1,q2,q3⟩:=g4 p hp;exact⟨q1,q2,λ id hid=>by rw[Ph,Eka,← Ph];exact q3 id hid⟩

def Tra (x:BitVec 32):(cst x).getLsbD 31=x.getLsbD 0:=by
 have h0:(x >>> 1).getLsbD 31=false:=by
  rw[Iwb];exact BitVec.getLsbD_of_ge _ _ (by decide)
 unfold cst
 cases h:x.getLsbD 0 with
 |true=>
  rw[if_pos rfl,BitVec.getLsbD_xor,h0]
  decide
 |false=>
  rw[if_neg (by simp),h0]
def W4 {n:Nat} {x y c:BitVec n} (h:x ^^^ c=y ^^^ c):x=y:=by
 have:=congrArg (λ z=>z ^^^ c) h
 simpa[BitVec.xor_assoc] using this
def Bkb {x y:BitVec 32} (h:cst x=cst y):x=y:=by
 have h0:x.getLsbD 0=y.getLsbD 0:=by rw[← Tra,← Tra,h]
 have h1:x >>> 1=y >>> 1:=by
  unfold cst at h;rw[h0]at h
  cases hb:y.getLsbD 0 with
  |true=>rw[hb,if_pos rfl,if_pos rfl]at h;exact W4 h
  |false=>rw[hb,if_neg (by simp),if_neg (by simp)]at h;exact h
 refine BitVec.eq_of_getLsbD_eq λ i hi=>?_
 cases i with
 |zero=>exact h0
 |succ i=>
  have:=congrArg (λ z=>z.getLsbD i) h1
  simpa[Iwb,Zx] using this
def B3a:∀ (n:Nat) {x y:BitVec 32},Bpa n x=Bpa n y→x=y
 |0,_,_,h=>h
 |n+1,_,_,h=>Bkb (B3a n h)
def Blb {x y:BitVec 32} {b:Int} (h:cby x b=cby y b):x=y:=W4 (B3a 8 h)
def Xfa {x:BitVec 32} {a b:Int} (ha:0≤a∧a≤255) (hb:0≤b∧b≤255) (h:cby x a=cby x b):a=b:=by
 have h1:x ^^^ ofInt 32 a=x ^^^ ofInt 32 b:=B3a 8 h;rw[Jjb,Jjb x]at h1;have h2:=W4 h1;rw[Mva ha,Mva hb,h2]
def Nba:∀ (l:List Int) {x y:BitVec 32},l.foldl cby x=l.foldl cby y→x=y
 |[],_,_,h=>h
 |_::l,_,_,h=>Blb (Nba l h)
def Zca (l:List Int):0≤crc l∧crc l≤4294967295:=by
 unfold crc;have:=(Cqb l).isLt;omega
def Bmb {l:List Int} {i:Nat} {y:Int} (hi:i<l.length) (hy:0≤y∧y≤255) (hb:Aj l) (hne:y≠l.getD i 0):crc (l.set i y)≠crc l:=by
 intro h;have h1:Cqb (l.set i y)=Cqb l:=Jkb (by unfold crc at h;omega);unfold Cqb at h1;have h2:=BitVec.not_inj.1 h1
 have e1:l.set i y=l.take i++y::l.drop (i+1):=by rw[H4b,if_pos hi]
 have e2:l=l.take i++l.getD i 0::l.drop (i+1):=by
  conv => { lhs;rw[← Wm i l] }
  rw[Au (d:=0) hi]
 rw[e1,Hob,Ze]at h2;rw[e2]at h2;rw[Hob,Ze]at h2
 have e3:(l.take i++l.getD i 0::l.drop (i+1)).take i=l.take i:=by rw[← e2]
 have e4:(l.take i++l.getD i 0::l.drop (i+1)).drop (i+1)=l.drop (i+1):=by rw[← e2]
 rw[e3,e4]at h2;exact hne (Xfa hy (hb _ (A4 hi)) (Nba _ h2))
def Eab {a b:Int} (ha:0≤a∧a≤4294967295) (hb:0≤b∧b≤4294967295) (h:c4 a=c4 b):a=b:=by
 have e:∀ c:Int,0≤c→c4 c=[c/16777216 % 256,c/65536 % 256,c/256 % 256,c % 256]:=λ c hc=>by
  unfold c4
  rw[show (2:Int) ^ (min (toNat 24) (IntKind.bits .i64))=16777216 from by decide,show (2:Int) ^ (min (toNat 16) (IntKind.bits .i64))=65536 from by decide,show (2:Int) ^ (min (toNat 8) (IntKind.bits .i64))=256 from by decide,
   Gqb _ (by omega),Gqb _ (by omega),Gqb _ (by omega),I3b,I3b,I3b,I3b]
 rw[e a ha.1,e b hb.1]at h;simp only[Yl,and_true]at h;omega
def Oza {l m:List Int} {j:Nat} (h:j<l.length):(l++m).getD j 0=l.getD j 0:=by rw[Vc,Vc,Yf h]
def P0a {l m:List Int} {j:Nat} (h:l.length≤j):(l++m).getD j 0=m.getD (j-l.length) 0:=by rw[Vc,Vc,Yi h]
def Xga {f:Fil} (hf:Cu f=true) {n:Nat} (hn:n<8*(Lr f).length):O3 (Nt (Lr f) n)=none:=by
 cases hg:O3 (Nt (Lr f) n) with
 |none=>rfl
 |some g=>
  exfalso;obtain⟨g1,_,g3⟩:=K1a hg;have hpb:=Q6 f
  have hj:n/8<(Lr f).length:=by omega
  have hy:=Mya ((Lr f).getD (n/8) 0) (n % 8);have hne:=X3a (hpb _ (A4 (d:=0) hj)) (Jnb n (show 0<8 by omega));unfold Nt at g3;generalize Bqa ((Lr f).getD (n/8) 0) (n % 8)=y at g3 hy hne;generalize n/8=j at g3 hj hne
  have ef:Lr f=Po f++c4 (crc (Po f)):=by unfold Lr;rw[hf];rfl
  have eg:Lr g=Po g++c4 (crc (Po g)):=by unfold Lr;rw[g1];rfl
  have l4:∀ c,(c4 c).length=4:=λ c=>rfl;rw[eg]at g3;rw[ef]at g3 hj hne
  have hlen:(Po g).length=(Po f).length:=by
   have:=congrArg length g3;rw[Vz,Vd,Vd,l4,l4]at this;omega
  by_cases hjb:j<(Po f).length
  ·rw[List.set_append_left _ _ hjb]at g3;obtain⟨a1,a2⟩:=List.append_inj g3 (by rw[Vz];exact hlen);rw[Oza hjb]at hne;have:=Eab (Zca _) (Zca _) a2;rw[a1]at this;exact Bmb hjb hy (Qq f) hne this
  ·rw[Jmb _ _ (by omega)]at g3;obtain⟨a1,a2⟩:=List.append_inj g3 hlen;rw[a1]at a2;rw[P0a (by omega)]at hne;rw[Vd,l4]at hj
   have:(c4 (crc (Po f))).getD (j-(Po f).length) 0=y:=by
    rw[a2,Vc,I9b (by rw[l4];omega),Ye]
   exact hne this.symm

def Qy (l:List Nmd) (ns:List ByteArray):List ByteArray:=l.foldl (λ ns x=>wt ns x.1) ns
def nms (d:Dsk):List ByteArray:=Qy (d.1++d.2) []
def pk1:Option Nmd→List Nmd
 |some x=>[x]
 |none=>[]
def Bnb (o:Option Nmd):(pk1 o).length≤1:=by cases o<;>simp[pk1]
def Tf (kp:List Bool) (a b:List Nmd):List ByteArray→Nat→List Nmd
 |[],_=>[]
 |s::ns,i=>pk1 (pk (bif kp.getD i false then a else b) s)++Tf kp a b ns (i+1)
def Bob (kp:List Bool) (a b:List Nmd) (i:Nat):Tf kp a b [] i=[]:=rfl
def Xha (kp:List Bool) (a b:List Nmd) (s:ByteArray) (ns:List ByteArray) (i:Nat):Tf kp a b (s::ns) i=pk1 (pk (bif kp.getD i false then a else b) s)++Tf kp a b ns (i+1):=rfl
def Tc (d:Dsk) (kp:List Bool):Dsk:=bif decide ((Tf kp d.1 d.2 (nms d) 0).length > 60) then d else (Tf kp d.1 d.2 (nms d) 0,Tf kp d.1 d.2 (nms d) 0)
def Ema:∀ (l:List Nmd) (ns:List ByteArray),TS ns→TS (Qy l ns)
 |[],_,h=>h
 |_::l,_,h=>Ema l _ (Ro h)
def Hma:∀ (l:List Nmd) (ns:List ByteArray) (t:ByteArray),t∈Qy l ns↔(∃ x∈l,x.1=t)∨t∈ns
 |[],ns,t=>by simp[Qy]
 |x::l,ns,t=>by
  show t∈Qy l (wt ns x.1)↔_;rw[Hma l,Mta];simp only[Vl,exists_eq_or_imp];constructor
  ·rintro (h|rfl|h)
   ·exact .inl (.inr h)
   ·exact .inl (.inl rfl)
   ·exact .inr h
  ·rintro ((h|h)|h)
   ·exact .inr (.inl h.symm)
   ·exact .inl h
   ·exact .inr (.inr h)
def Ug:∀ (l:List Nmd) (ns:List ByteArray),(Qy l ns).length≤ns.length+l.length
 |[],_=>by simp[Qy]
 |x::l,ns=>by
  have h1:=Ug l (wt ns x.1);have h2:=Sua (l:=ns) (s:=x.1);show (Qy l (wt ns x.1)).length≤_;rw[Vb];omega
def Zda (d:Dsk):TS (nms d):=Ema _ _ List.Pairwise.nil
def Bpb {d:Dsk} {t:ByteArray}:t∈nms d↔(gt d.1 t).isSome=true∨(gt d.2 t).isSome=true:=by
 have h:∀ l:List Nmd,(gt l t).isSome=true↔∃ x∈l,x.1=t:=λ l=>by
  cases hg:gt l t with
  |none=>
   constructor
   ·intro h;cases h
   ·rintro⟨x,hx,e⟩;exact absurd e (Ns.1 hg x hx)
  |some b=>simp only[Option.isSome_some,true_iff];exact⟨_,Ow hg,rfl⟩
 unfold nms;rw[Hma,h,h];simp only[Vo,Zr,or_false];constructor
 ·rintro⟨x,h1|h1,h2⟩
  ·exact .inl ⟨x,h1,h2⟩
  ·exact .inr ⟨x,h1,h2⟩
 ·rintro (⟨x,h1,h2⟩|⟨x,h1,h2⟩)
  ·exact⟨x,.inl h1,h2⟩
  ·exact⟨x,.inr h1,h2⟩
def Bqb (l:List Nmd) (s:ByteArray):pk l s=(gt l s).map λ b=>(s,b):=by
 unfold pk gt
 cases h:fnd l s with
 |none=>rfl
 |some i=>rw[Hxb,← (Ot h).2]
def W5 (kp:List Bool) (a b:List Nmd):∀ (ns:List ByteArray) (i:Nat),((Tf kp a b ns i).map Prod.fst).Sublist ns
 |[],_=>List.Sublist.slnil
 |s::ns,i=>by
  unfold Tf;rw[Bqb]
  cases gt (bif kp.getD i false then a else b) s with
  |none=>exact(W5 kp a b ns (i+1)).cons s
  |some c=>exact(W5 kp a b ns (i+1)).cons_cons s
def Brb (kp:List Bool) (a b:List Nmd) (ns:List ByteArray) (i:Nat):(Tf kp a b ns i).length≤ns.length:=by
 have:=(W5 kp a b ns i).length_le;rwa [Wd]at this
def P1a {kp:List Bool} {a b:List Nmd} {ns:List ByteArray} {i:Nat} (h:TS ns):Gw (Tf kp a b ns i):=by
 have:=Ifb (W5 kp a b ns i) h;rwa [Zz]at this
def Tsa {kp:List Bool} {a b:List Nmd}:∀ {ns:List ByteArray} {i:Nat} {x:Nmd},x∈Tf kp a b ns i→gt a x.1=some x.2∨gt b x.1=some x.2
 |[],_,_,h=>by cases h
 |s::ns,i,x,h=>by
  unfold Tf at h;rw[Bqb]at h;rcases Vo.1 h with h|h
  ·cases hg:gt (bif kp.getD i false then a else b) s with
   |none=>rw[hg]at h;cases h
   |some c=>
    rw[hg]at h;rw[Vs.1 h]
    cases hk:kp.getD i false with
    |true=>rw[hk]at hg;exact .inl hg
    |false=>rw[hk]at hg;exact .inr hg
  ·exact Tsa h
def Zea {kp:List Bool} {a b:List Nmd} {t:ByteArray}:∀ {ns:List ByteArray} {i:Nat},TS ns→t∈ns→∃ j,i≤j∧gt (Tf kp a b ns i) t=gt (bif kp.getD j false then a else b) t
 |[],_,_,h=>by cases h
 |s::ns,i,hs,h=>by
  obtain⟨h1,h2⟩:=Wi.1 hs
  have hn:∀ j,gt (Tf kp a b ns j) s=none:=λ j=>Ns.2 λ x hx e=>by
   have:=h1 x.1 ((W5 kp a b ns j).subset (Yc hx));rw[e,Lm]at this;cases this
  unfold Tf;rw[Bqb];rcases Vl.1 h with rfl|h
  ·refine⟨i,Vw _,?_⟩
   cases hg:gt (bif kp.getD i false then a else b) t with
   |none=>exact hn _
   |some c=>
    show gt ((t,c)::Tf kp a b ns (i+1)) t=_;rw[K2a,if_pos rfl]
  ·obtain⟨j,hj,e⟩:=Zea (kp:=kp) (a:=a) (b:=b) (i:=i+1) h2 h;refine⟨j,by omega,?_⟩;rw[← e]
   have hst:s≠t:=λ e=>by
    have:=h1 t h;rw[e,Lm]at this;cases this
   cases gt (bif kp.getD i false then a else b) s with
   |none=>rfl
   |some c=>
    show gt ((s,c)::Tf kp a b ns (i+1)) t=_;rw[K2a,if_neg hst]
def Tta {d:Dsk} {kp:List Bool} (h:DG d):DG (Tc d kp):=by
 unfold Tc;cases hc:decide ((Tf kp d.1 d.2 (nms d) 0).length > 60)
 case true=>exact h
 have hl:=of_decide_eq_false hc;have n1:=(Al.1 (Ec.1 h.1).1).2.1;have n2:=(Al.1 (Ec.1 h.1).2).2.1;have q:Jc (Tf kp d.1 d.2 (nms d) 0)=true:=Al.2 ⟨P1a (Zda d),λ x hx=>(Tsa hx).elim (λ e=>n1 _ (Ow e)) (λ e=>n2 _ (Ow e)),by omega⟩;have b:LB (Tf kp d.1 d.2 (nms d) 0):=λ x hx=>(Tsa hx).elim (λ e=>h.2.1.gt e) (λ e=>h.2.2.gt e);exact⟨Ec.2 ⟨q,q⟩,b,b⟩
def Tua {d:Dsk} {kp:List Bool} (t:ByteArray):Tc d kp=d∨((Tc d kp).2=(Tc d kp).1∧(gt (Tc d kp).1 t=gt d.1 t∨gt (Tc d kp).1 t=gt d.2 t)):=by
 unfold Tc;cases hc:decide ((Tf kp d.1 d.2 (nms d) 0).length > 60)
 case true=>exact .inl rfl
 refine .inr ⟨rfl,?_⟩;show gt (Tf kp d.1 d.2 (nms d) 0) t=_∨gt (Tf kp d.1 d.2 (nms d) 0) t=_
 by_cases ht:t∈nms d
 ·obtain⟨j,_,e⟩:=Zea (kp:=kp) (a:=d.1) (b:=d.2) (i:=0) (Zda d) ht;rw[e]
  cases kp.getD j false with
  |true=>exact .inl rfl
  |false=>exact .inr rfl
 ·have h1:gt d.1 t=none:=by
   cases hg:gt d.1 t with
   |none=>rfl
   |some b=>exact absurd (Bpb.2 (.inl (by rw[hg];rfl))) ht
  left;rw[h1];exact Ns.2 λ x hx e=>ht (by rw[← e];exact(W5 _ _ _ _ _).subset (Yc hx))
def Ena {R:Type} {L:Nat→List Nmd→Option R} {Q:R→Prop} (c:List Nmd) (s:ByteArray) (acc:List Nmd) (hc:c.length≤5000000) (ha:acc.length≤5000000) (next:Tot (λ k=>L k (acc++pk1 (pk c s))) Q):
  Tot (λ k=>(Df k c s).bind λ r=>cond (decide (r≥0)) (cond (decide ((0:Int)≤r)) (cond (decide (r<(length c:Int))) (cond (Nat.ble ((length acc+length [getD c (toNat r) ((⟨#[]⟩:ByteArray),[])])*40) 140737488355328) (L k (acc++[getD c (toNat r) ((⟨#[]⟩:ByteArray),[])])) none) none) none) (L k acc)) Q:=by
 refine Glb (Cxa c s (by omega)) ?_;unfold pk at next;unfold I7a
 cases h:fnd c s with
 |none=>
  rw[h]at next;simp only[pk1,Wn]at next;exact Geb (by decide) next
 |some i=>
  rw[h]at next;have:=(Ot h).1;simp only[Vg];exact Gdb (by omega) (Gdb (by omega) (Gdb (by omega) (Ghb (by simp only[Vb,Vj];omega) next)))

def mk0 (s:ByteArray):Nmd:=(s,[])
def W6 {ns:List ByteArray} (h:TS ns):Gw (ns.map mk0):=by
 unfold Gw;rw[Zz];exact h
def Zfa {ns:List ByteArray} (h:TS ns) {t:ByteArray}:(t∈ns→gt (ns.map mk0) t=some [])∧(t∉ns→gt (ns.map mk0) t=none):=by
 refine⟨λ ht=>?_,λ ht=>Ns.2 λ x hx e=>?_⟩
 ·exact Sya (W6 h) (x:=mk0 t) (Yc ht)
 ·obtain⟨s,hs,rfl⟩:=Yt.1 hx;exact ht (by rw[← e];exact hs)
def Ebb {ns:List ByteArray} (h:TS ns) (s:ByteArray):ptl (s,[]) false (ns.map mk0)=(wt ns s).map mk0:=by
 have h1:=W6 h;rw[Vr _ h1];refine Z3a (Sc (Nr h1) Asa) (W6 (Ro h)) λ t=>?_;have e:=H8a h1 (s:=s) (t:=t) (b:=[]);unfold wr at e;rw[e];have g1:=Zfa h (t:=t);have g2:=Zfa (Ro (s:=s) h) (t:=t)
 by_cases hst:s=t
 ·rw[if_pos hst,g2.1 (Mta.2 (.inl hst.symm))]
 ·rw[if_neg hst]
  by_cases ht:t∈ns
  ·rw[g1.1 ht,g2.1 (Mta.2 (.inr ht))]
  ·rw[g1.2 ht,g2.2 (λ c=>(Mta.1 c).elim (λ e=>hst e.symm) ht)]
def Tva (a b:List Nmd) (ha:a.length≤2000000) (hb:b.length≤2000000):Tot (λ k=>Cn k a b) (λ r=>r=nms (a,b)):=by
 unfold Cn
 have put:∀ {ns:List ByteArray} (x:Nmd),TS ns→ns.length≤5000000→Tot (λ k=>Ft k (ns.map mk0) x.1 []) (λ r=>r=(wt ns x.1).map mk0):=λ x ht hl=>(Efa _ x.1 [] (by rw[Wd];omega) (by simp)).mono λ r hr=>by rw[hr,Ebb ht]
 refine Gab (Q:=λ r=>r=(b,(Qy a []).map mk0)) ?_ ?_
 ·refine Gib (L:=λ k i s=>Fz k a b s i) (Q:=λ r=>r=(b,(Qy a []).map mk0)) a.length (λ j s=>∃ ns,s=ns.map mk0∧TS ns∧Qy (a.drop j) ns=Qy a []∧ns.length≤j) ?_ ?_ 0 [] (Vt _) ⟨[],rfl,List.Pairwise.nil,rfl,Vw _⟩
  ·rintro s ⟨ns,rfl,_,h,_⟩;rw[Wf]at h;simp (disch:=omega) only [Fz,dF];exact G9b (by rw[← h];rfl)
  ·rintro j s hj ⟨ns,rfl,ht,h,hl⟩ next;rw[Au (d:=Er) hj]at h;simp (disch:=omega) only [Fz,dT,Vg,w64];refine Glb (put (a.getD j Er) ht (by omega)) ?_;have:=Sua (l:=ns) (s:=(a.getD j Er).1);exact next _ ⟨_,rfl,Ro ht,h,by omega⟩
 ·rintro r rfl
  have hla:(Qy a []).length≤2000000:=by have:=Ug a [];rw[Vj]at this;omega
  have e:Qy b (Qy a [])=nms (a,b):=by unfold nms Qy;rw[Hob]
  refine Gab (Q:=λ r=>r=(nms (a,b)).map mk0) ?_ ?_
  ·refine Gib (L:=λ k i s=>Fy k b s i) (Q:=λ r=>r=(nms (a,b)).map mk0) b.length (λ j s=>∃ ns,s=ns.map mk0∧TS ns∧Qy (b.drop j) ns=nms (a,b)∧ns.length≤2000000+j) ?_ ?_ 0 _ (Vt _) ⟨_,rfl,Ema _ _ List.Pairwise.nil,e,by omega⟩
   ·rintro s ⟨ns,rfl,_,h,_⟩;rw[Wf]at h;simp (disch:=omega) only [Fy,dF];exact G9b (by rw[← h];rfl)
   ·rintro j s hj ⟨ns,rfl,ht,h,hl⟩ next;rw[Au (d:=Er) hj]at h;simp (disch:=omega) only [Fy,dT,Vg,w64];refine Glb (put (b.getD j Er) ht (by omega)) ?_;have:=Sua (l:=ns) (s:=(b.getD j Er).1);exact next _ ⟨_,rfl,Ro ht,h,by omega⟩
  ·rintro r rfl
   have hln:(nms (a,b)).length≤4000000:=by rw[← e];have:=Ug b (Qy a []);omega
   refine Gab (Q:=λ r=>r=nms (a,b)) ?_ (by rintro r rfl;exact G9b rfl);refine Gib (L:=λ k i s=>Ew k ((nms (a,b)).map mk0) s i) (Q:=λ r=>r=nms (a,b)) (nms (a,b)).length (λ j s=>s=(nms (a,b)).take j) ?_ ?_ 0 [] (Vt _) rfl
   ·rintro s rfl;simp (disch:=omega) only [Ew,Wd,dF,Yx];exact G9b rfl
   ·rintro j s hj rfl next;simp (disch:=omega) only [Ew,Wd,dT,Vg,w64];refine Ghb (by simp only[Vu,Vb,Vj];omega) (next _ ?_);rw[Wl hj,Vc,Gvb,Vk hj];rfl
def Twa (d:Dsk) (kp:List Bool) (hd:DG d) (hk:kp.length≤4000000000000):Tot (λ k=>Di k d kp) (λ r=>r=Tc d kp):=by
 have hin:=Nz hd.1;have g1:=(Al.1 (Ec.1 hd.1).1).2.2;have g2:=(Al.1 (Ec.1 hd.1).2).2.2;unfold Di;refine Glb (Qo d hin.1.1 hin.1.2) ?_;rw[hd.1];refine Gbb rfl (Glb (Tva d.1 d.2 (by omega) (by omega)) ?_)
 have hn:(nms d).length≤120:=by
  have:=Ug (d.1++d.2) [];rw[Vj,Vd]at this;exact Zo this (by omega)
 refine Gab (Q:=λ r=>r=(Tf kp d.1 d.2 (nms d) 0,d,([],[]))) ?_ ?_
 ·refine Gib (L:=λ k i s=>B0 k kp (nms d) s i d ([],[])) (Q:=λ r=>r=(Tf kp d.1 d.2 (nms d) 0,d,([],[]))) (nms d).length (λ j s=>s++Tf kp d.1 d.2 ((nms d).drop j) j=Tf kp d.1 d.2 (nms d) 0∧s.length≤j) ?_ ?_ 0 [] (Vt _) ⟨rfl,Vw _⟩
  ·rintro s ⟨h,_⟩;rw[Wf,Bob,Wn]at h;simp (disch:=omega) only [B0,dF];exact G9b (by rw[h])
  ·rintro j s hj ⟨h,hs⟩ next;rw[Au (d:=P3) hj]at h;rw[Xha,← Vp]at h;simp (disch:=omega) only [B0,dT,Vg,w64];have hl:=Bnb (pk (bif kp.getD j false then d.1 else d.2) ((nms d).getD j P3));have nx:=next (s++pk1 (pk (bif kp.getD j false then d.1 else d.2) ((nms d).getD j P3))) ⟨h,by rw[Vd];omega⟩;have e0:(nms d).getD j (⟨#[]⟩:ByteArray)=(nms d).getD j P3:=rfl;rw[e0];refine Ggb (λ hc=>?_) (λ hc=>?_)
   ·refine Gdb (by omega) (Gfb (λ hk=>?_) (λ hk=>?_))
    ·rw[hk]at nx;exact Ena (L:=λ k acc=>B0 k kp (nms d) acc ((j:Int)+1) d ([],[])) d.1 _ s (by omega) (by omega) nx
    ·rw[hk]at nx;exact Ena (L:=λ k acc=>B0 k kp (nms d) acc ((j:Int)+1) d ([],[])) d.2 _ s (by omega) (by omega) nx
   ·have hk:kp.getD j false=false:=by rw[Vc,Zy (by omega)];rfl
    rw[hk]at nx;exact Ena (L:=λ k acc=>B0 k kp (nms d) acc ((j:Int)+1) d ([],[])) d.2 _ s (by omega) (by omega) nx
 ·rintro r rfl;have hp:=Brb kp d.1 d.2 (nms d) 0;unfold Tc;refine Ggb (λ h=>?_) (λ h=>?_)
  ·dsimp only at h;rw[decide_eq_true (show (Tf kp d.1 d.2 (nms d) 0).length > 60 by omega)];refine Glb (M5 d hin.1.1) ?_;exact G9b rfl
  ·dsimp only at h;have hc:decide ((Tf kp d.1 d.2 (nms d) 0).length > 60)=false:=decide_eq_false (by omega);have hg:=Tta (kp:=kp) hd;unfold Tc at hg;rw[hc]at hg ⊢;rw[cond_false]at hg;have hf:=(Nz hg.1).1.1.1;refine Glb (Pe _ hf) ?_;refine Glb (Pe _ hf) ?_;exact G9b rfl
def clS (o:Dsk×Int) (x:Nmd):Dsk×Int:=match O3 x.2 with
 |some _=>o
 |none=>((cut o.1.1 x.1,cut o.1.2 x.1),o.2+1)
def Oy (d:Dsk):Dsk×Int:=d.1.foldl clS (d,0)
def P2a {l:List Nmd} {s:ByteArray} (h:gt l s=none):cut l s=l:=by
 refine List.filter_eq_self.2 λ x hx=>?_
 cases ht:teq x.1 s with
 |false=>rfl
 |true=>exact absurd (Jq.1 ht) (Ns.1 h x hx)
def Ecb {d:Dsk} {s:ByteArray} (h:DG d):DG (cut d.1 s,cut d.2 s):=⟨Ec.2 ⟨Wy (Ec.1 h.1).1,Wy (Ec.1 h.1).2⟩,h.2.1.cut s,h.2.2.cut s⟩
def Bsb {o:Dsk×Int} {x:Nmd} (h:DG o.1):DG (clS o x).1:=by
 unfold clS
 cases O3 x.2 with
 |some _=>exact h
 |none=>exact Ecb h
def Nca:∀ (l:List Nmd) (o:Dsk×Int),DG o.1→DG (l.foldl clS o).1
 |[],_,h=>h
 |_::l,_,h=>Nca l _ (Bsb h)
def Xia {d:Dsk} (h:DG d):DG (Oy d).1:=Nca _ _ h
def Eya (l:List Nmd):List ByteArray:=(l.filter λ x=>(O3 x.2).isNone).map Prod.fst
def B4a:∀ (l:List Nmd) (o:Dsk×Int),DG o.1→((l.foldl clS o).2=o.2+((Eya l).length:Int))∧∀ t,(t∈Eya l→gt (l.foldl clS o).1.1 t=none∧gt (l.foldl clS o).1.2 t=none)∧(t∉Eya l→gt (l.foldl clS o).1.1 t=gt o.1.1 t∧gt (l.foldl clS o).1.2 t=gt o.1.2 t)
 |[],o,h=>⟨by simp[Eya],λ t=>⟨λ c=>by simp[Eya]at c,λ _=>⟨rfl,rfl⟩⟩⟩
 |x::l,o,h=>by
  obtain⟨h1,h2⟩:=B4a l (clS o x) (Bsb h);rw[Ze]
  cases hx:O3 x.2 with
  |some f=>
   have e:Eya (x::l)=Eya l:=by unfold Eya;rw[Gob,hx];rfl
   have ec:clS o x=o:=by unfold clS;rw[hx]
   rw[e];rw[ec]at h1 h2 ⊢;exact⟨h1,h2⟩
  |none=>
   have e:Eya (x::l)=x.1::Eya l:=by unfold Eya;rw[Gob,hx];rfl
   have ec:clS o x=((cut o.1.1 x.1,cut o.1.2 x.1),o.2+1):=by unfold clS;rw[hx]
   rw[e];rw[ec]at h1 h2 ⊢;refine⟨by rw[h1,Vb];omega,λ t=>⟨λ ht=>?_,λ ht=>?_⟩⟩
   ·by_cases hb:t∈Eya l
    ·exact(h2 t).1 hb
    ·obtain⟨a1,a2⟩:=(h2 t).2 hb
     have:x.1=t:=by
      rcases Vl.1 ht with e|e
      ·exact e.symm
      ·exact absurd e hb
     rw[a1,a2,Ud (Ng h.1),Ud (Rq h.1),if_pos this,if_pos this];exact⟨rfl,rfl⟩
   ·obtain⟨a1,a2⟩:=(h2 t).2 (λ c=>ht (Vi _ c));have:x.1≠t:=λ e=>ht (by rw[← e];exact Yu);rw[a1,a2,Ud (Ng h.1),Ud (Rq h.1),if_neg this,if_neg this];exact⟨rfl,rfl⟩
def Xja {d:Dsk} (hd:Ap d=true) {t:ByteArray}:t∈Eya d.1↔∃ b,gt d.1 t=some b∧O3 b=none:=by
 unfold Eya;rw[Yt];constructor
 ·rintro⟨x,hx,rfl⟩;obtain⟨h1,h2⟩:=Hdb.1 hx;exact⟨x.2,Sya (Ng hd) h1,by simpa using h2⟩
 ·rintro⟨b,h1,h2⟩;exact⟨(t,b),Hdb.2 ⟨Ow h1,by simp[h2]⟩,rfl⟩
def Txa (d:Dsk) (hd:DG d):Tot (λ k=>Ix k d) (λ r=>r=Oy d):=by
 have hin:=Nz hd.1;have hl:=(Al.1 (Ec.1 hd.1).1).2.2;have hnk:=(Al.1 (Ec.1 hd.1).1).2.1;unfold Ix;refine Glb (M5 d hin.1.1) ?_;refine Gab (Q:=λ r=>r=((Oy d).2,([],[]),(Oy d).1)) ?_ (by rintro r rfl;exact G9b rfl);refine Gib (L:=λ k i (s:Dsk×Int)=>Hz k s.2 i d ([],[]) s.1) (Q:=λ r=>r=((Oy d).2,([],[]),(Oy d).1)) d.1.length (λ j s=>(d.1.drop j).foldl clS s=Oy d∧DG s.1∧0≤s.2∧s.2≤j) ?_ ?_ 0 (d,0) (Vt _) ⟨rfl,hd,Zh 0,by simp⟩
 ·rintro s ⟨h,_⟩;rw[Wf]at h;simp (disch:=omega) only [Hz,dF];exact G9b (by rw[← h];rfl)
 ·rintro j s hj ⟨h,hg,s0,s1⟩ next;rw[Au (d:=Er) hj,Ze]at h;have hsi:=Nz hg.1;have hx:=A4 (d:=Er) hj;simp (disch:=omega) only [Hz,dT,Vg,w64];have e0:d.1.getD j ((⟨#[]⟩:ByteArray),([]:List Int))=d.1.getD j Er:=rfl;rw[e0];refine Glb (Qo d hin.1.1 hin.1.2) ?_;refine Gcb hd.1 (Glb (Xz hin.1.1.1 hd.2.1 _) ?_);have hnm:=(Qp.1 (hnk _ hx)).1;have hcg:=Bsb (x:=d.1.getD j Er) hg;unfold clS at h hcg;unfold lkD;rw[Sya (Ng hd.1) hx];simp only
  cases hf:O3 (d.1.getD j Er).2 with
  |some f=>
   rw[hf]at h;exact Gbb rfl (next _ ⟨h,hg,s0,by omega⟩)
  |none=>
   rw[hf]at h hcg;refine Gcb rfl (Glb (T8 hg.1 (J0 hnm)) ?_)
   have er:(rmD s.1 (d.1.getD j Er).1).1=(cut s.1.1 (d.1.getD j Er).1,s.1.2):=by
    unfold rmD
    cases hg1:gt s.1.1 (d.1.getD j Er).1 with
    |none=>rw[P2a hg1];rfl
    |some b=>rfl
   have hrg:=X2a (s:=(d.1.getD j Er).1) hg;rw[er]at hrg ⊢;refine Glb (Ue hrg.1 hnm) ?_
   have es:(syD (cut s.1.1 (d.1.getD j Er).1,s.1.2) (d.1.getD j Er).1).1=(cut s.1.1 (d.1.getD j Er).1,cut s.1.2 (d.1.getD j Er).1):=by
    have e2:sy (cut s.1.1 (d.1.getD j Er).1,s.1.2) (d.1.getD j Er).1=cut s.1.2 (d.1.getD j Er).1:=by
     unfold sy;rw[Ud (Ng hg.1),if_pos rfl]
    unfold syD;rw[e2,decide_eq_true (Al.1 (Ec.1 hcg.1).2).2.2];rfl
   rw[es];exact next ((cut s.1.1 (d.1.getD j Er).1,cut s.1.2 (d.1.getD j Er).1),s.2+1) ⟨h,hcg,by dsimp only;omega,by dsimp only;omega⟩

end Go.Proofs.YtcpligincipmhaaGreat.Vf
