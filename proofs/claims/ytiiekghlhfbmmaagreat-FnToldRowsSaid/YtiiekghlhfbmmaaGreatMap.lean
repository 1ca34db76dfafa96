import Derived.Test.YtiiekghlhfbmmaaGreatMao
import Derived.Test.YtiiekghlhfbmmaaGreatMak
set_option linter.all false
namespace Go.Proofs.YtiiekghlhfbmmaaGreat.Vf
open Go
open List (length getD)
open Int (toNat)
open Go.IntKind (wrap)
open BitVec (ofInt)

def F3b (l:List Dev) (last:Int):Prop:=l.Pairwise (λ a b=>a.1<b.1)∧∀ d∈l,(0≤d.1∧d.1≤last)∧(0≤d.2.1∧d.2.1≤20)∧1≤d.2.2∧d.2.2≤1000
def Tda (z:Int) (hz:1≤z∧z≤20):∀ (n:Nat) (i:Int) (l:List Dev) (last:Int) (c:Cur),i=n→n≤6→Bn c→F3b l last→0≤last→last+2*n≤12→l.length+n≤6→
  Tot (λ k=>Gr k l z last i c) (λ r=>(∃ last,F3b r.1 last∧last≤20)∧r.1.length=l.length+n∧Bn r.2):=by
 intro n
 induction n with
 |zero=>
  rintro i l last c rfl _ hc h h0 h1 _
  refine Tot.succ ?_
  simp (disch:=omega) only [Gr,dF]
  exact Fdb ⟨⟨last,h,by omega⟩,rfl,hc⟩
 |succ n ih=>
  rintro i l last c rfl hn hc h h0 h1 hl
  refine Tot.succ ?_
  simp (disch:=omega) only [Gr,dT]
  obtain⟨x,c1,e1,hx,k1⟩:=Ja c hc [1,1,2] (by decide) (by decide)
  obtain⟨y,c2,e2,y0,y1,_,k2⟩:=Ac c1 k1 z (by omega)
  obtain⟨v,c3,e3,hv,k3⟩:=Ja c2 k2 [1,1,1,2,10,100] (by decide) (by decide)
  have y1:=y1 (by omega)
  have hx':1≤x∧x≤2:=by
   simp only[Vl,Zq,or_false]at hx
   omega
  have hv':1≤v∧v≤1000:=by
   simp only[Vl,Zq,or_false]at hv
   omega
  refine Fpb (Fqb (Q:=λ r=>r=(x,c1)) e1 rfl) ?_
  refine Fpb (Fqb (Q:=λ r=>r=(y,c2)) e2 rfl) ?_
  refine Fpb (Fqb (Q:=λ r=>r=(v,c3)) e3 rfl) ?_
  simp (disch:=omega) only [w64]
  refine Flb (by simp only[Vc,Vj];omega) ?_
  refine(ih _ (l++[(last+x,y,v)]) (last+x) c3 (by omega) (by omega) k3 ⟨?_,?_⟩ (by omega) (by omega) (by rw[Ve];simp only[Vc,Vj];omega)).mono ?_
  ·refine Zb.2 ⟨h.1,Gjb _ _,λ a ha b hb=>?_⟩
   rw[Vt.1 hb]
   have:=(h.2 a ha).1.2
   show a.1<last+x
   omega
  ·intro d hd
   rcases Vn.1 hd with hd|hd
   ·obtain⟨⟨a1,a2⟩,a3⟩:=h.2 d hd
    exact⟨⟨a1,by omega⟩,a3⟩
   ·rw[Vt.1 hd]
    exact⟨⟨by show 0≤last+x;omega,Fvb _⟩,⟨y0,by show y≤20;omega⟩,hv'⟩
  ·rintro r ⟨g1,g2,g3⟩
   refine⟨g1,?_,g3⟩
   rw[g2,Ve]
   simp only[Vc,Vj]
   omega
def Oba (c:Cur) (hc:Bn c):Tot (λ k=>Gc k c) (λ r=>Lc r.1=true∧(2≤r.1.length∧r.1.length≤6)∧Bn r.2):=by
 unfold Gc
 obtain⟨x,c1,e1,x0,x1,_,k1⟩:=Ac c hc 4 (by decide)
 obtain⟨y,c2,e2,y0,y1,_,k2⟩:=Ac c1 k1 5 (by decide)
 have x1:=x1 (by decide)
 have y1:=y1 (by decide)
 refine Fpb (Fqb (Q:=λ r=>r=(x,c1)) e1 rfl) ?_
 refine Fpb (Fqb (Q:=λ r=>r=(y,c2)) e2 rfl) ?_
 simp (disch:=omega) only [w64]
 refine Feb (Tda (1+x) (by omega) (2+y).toNat (2+y) [] 0 c2 (by omega) (by omega) k2 ⟨List.Pairwise.nil,λ d hd=>(nomatch hd)⟩ (Fvb _) (by omega) (by simp only[Vj];omega)) ?_
 rintro r ⟨⟨last,g1,g2⟩,g3,g4⟩
 rw[Vj]at g3
 exact Fdb ⟨Fg.2 ⟨g1.1,λ d hd=>Nf.2 ⟨⟨(g1.2 d hd).1.1,by have:=(g1.2 d hd).1.2;omega⟩,(g1.2 d hd).2⟩,by dsimp only;omega,by dsimp only;omega⟩,⟨by dsimp only;omega,by dsimp only;omega⟩,g4⟩
abbrev Hsa:Wld:=(([]:List Dev),((0:Int),([]:List (List Int))),([]:List Nod),((0:Int),((0:Int),(0:Int))),([]:List Wri),([]:List ByteArray))
def Yfa (d:Dev):Nod:=(d.1,([],[]),[],[])
def Awb (l:List Dev) (parts reps:Int):Wld:=(l,(build l parts reps).1,l.map Yfa,(0,0,0),[],[])
def Axb {ws:List Wri} {sp:List ByteArray} {l:List Dev} (h:Lc l=true) {d:Dev} (hd:d∈l):NI ws sp (Yfa d):=by
 obtain⟨⟨i0,i1⟩,_⟩:=Nf.1 ((Fg.1 h).2.1 d hd)
 refine⟨⟨B1.2 ⟨(λ r hr=>nomatch hr),⟨i0,i1⟩,dg0.1,V3,Vs _⟩,dg0.2⟩,λ s=>⟨λ b hb=>?_,λ b hb=>?_,λ _ b f hb=>?_⟩,(λ r hr=>nomatch hr),(λ r hr=>nomatch hr)⟩
 ·rw[show gt (Yfa d).2.1.1 s=none from rfl]at hb;cases hb
 ·rw[show gt (Yfa d).2.1.2 s=none from rfl]at hb;cases hb
 ·rw[show gt (Yfa d).2.1.2 s=none from rfl]at hb;cases hb
def Tea {l:List Dev} {parts reps:Int} (hb:(build l parts reps).2=true):WI (Awb l parts reps):=by
 obtain⟨h1,h2,_,_⟩:=Mda hb
 exact {
  ring:=h2
  ids:=by show (l.map Yfa).map (·.1)=_;rw[Gmb];rfl
  nodes:=λ n hn=>by
   obtain⟨d,hd,rfl⟩:=Yu.1 hn
   exact Axb h1 hd
  clk:=rfl
  wlen:=Vs _
  wok:=λ x hx=>nomatch hx
  wge:=λ x hx=>nomatch hx
  asc:=List.Pairwise.nil
  kept:=λ x hx=>nomatch hx
  sps:=List.Pairwise.nil
  spw:=λ s hs=>nomatch hs }
def Hga (l:List Dev) (parts reps:Int) (hb:(build l parts reps).2=true):Tot (λ k=>Ci k l parts reps) (λ r=>r=Awb l parts reps):=by
 obtain⟨h1,_,_,_⟩:=Mda hb
 have h12:=(Fg.1 h1).2.2.2
 unfold Ci
 refine Fpb (Ska l parts reps (by omega)) ?_
 refine Flb (by rw[Vj];omega) (Ffb (by rw[hb];rfl) ?_)
 rw[Vz]
 refine Feb (Q:=λ r=>r=(Hsa,Awb l parts reps)) ?_ (by rintro r rfl;exact Fdb rfl)
 refine Fmb (L:=λ k i (s:List Nod)=>Ei k l i Hsa (l,(build l parts reps).1,s,(0,0,0),[],[])) (Q:=λ r=>r=(Hsa,Awb l parts reps)) l.length (λ j s=>s=(l.take j).map Yfa) ?_ ?_ 0 [] (Vs _) rfl
 ·rintro s rfl
  simp (disch:=omega) only [Ei,dF]
  exact Fdb (by rw[Yt];rfl)
 ·rintro j s hj rfl next
  have hd:=A4 (d:=Mv) hj
  obtain⟨d,ed⟩:∃ d:Dev,l.getD j Mv=d:=⟨_,rfl⟩
  rw[ed]at hd
  have e0:l.getD j ((0:Int),((0:Int),(0:Int)))=d:=ed
  have e1:l[j]=d:=by rw[← ed,Vd,Vk hj];rfl
  have hid:=(Nf.1 ((Fg.1 h1).2.1 d hd)).1
  simp (disch:=omega) only [Ei,dT,Vb,w64,e0,Sm,Vo]
  have hl:((l.take j).map Yfa).length=j:=by rw[Wc,Vu];omega
  rw[Cy.2 hid,cond_true]
  refine Flb (by rw[hl];simp only[Vc,Vj];omega) (next _ ?_)
  rw[Wj hj,G1b,e1]
  rfl
def WD (w:Wld):Prop:=WI w∧∀ x∈w.2.2.2.2.1,x.1∈Ku
def Jya (c:Cur) (hc:Bn c):Tot (λ k=>Jm k c) (λ r=>(∃ l p n,(build l p n).2=true∧r.1=Awb l p n)∧Bn r.2):=by
 unfold Jm
 refine Feb (Oba c hc) ?_
 rintro⟨l,c1⟩ ⟨hl,hn,k1⟩
 dsimp only at hl hn k1 ⊢
 obtain⟨x,c2,e2,hx,k2⟩:=Ja c1 k1 [3,2,3,1] (by decide) (by decide)
 obtain⟨y,c3,e3,hy,k3⟩:=Ja c2 k2 [4,2,8] (by decide) (by decide)
 have hx':1≤x∧x≤3:=by
  simp only[Vl,Zq,or_false]at hx
  omega
 have hy':1≤y∧y≤8:=by
  simp only[Vl,Zq,or_false]at hy
  omega
 have one:∀ n:Int,1≤n→n≤5→n≤(l.length:Int)→Tot (λ k=>(A9 c2 [4,2,8]).bind λ r3=>(Ci k l r3.1 n).bind λ r4=>some (r4,r3.2)) (λ r=>(∃ l p n,(build l p n).2=true∧r.1=Awb l p n)∧Bn r.2):=by
  intro n n0 n5 nl
  have hb:(build l y n).2=true:=by
   unfold build
   rw[hl,Cy.2 (show 1≤y∧y≤64 by omega),Cy.2 (show 1≤n∧n≤5 by omega),decide_eq_false (show ¬ n > (l.length:Int) by omega)]
   rfl
  refine Fpb (Fqb (Q:=λ r=>r=(y,c3)) e3 rfl) ?_
  refine Fpb (Hga l y n hb) ?_
  exact Fdb ⟨⟨l,y,n,hb,rfl⟩,k3⟩
 refine Fpb (Fqb (Q:=λ r=>r=(x,c2)) e2 rfl) ?_
 exact Fkb (λ h=>one (l.length:Int) (by omega) (by dsimp only at h;omega) (Int.le_refl _)) (λ h=>one x (by omega) (by omega) (by dsimp only at h;omega))
def W5 (c:Cur) (hc:Bn c):Tot (λ k=>Cn k c) (λ r=>r.1.length=6∧Bn r.2):=by
 unfold Cn
 refine Feb (Q:=λ r=>r.1.length=6∧Bn r.2) ?_ (λ r h=>Fdb h)
 refine Fmb (L:=λ k i (s:List Int×Cur)=>Fo k s.1 i s.2) (Q:=λ r=>r.1.length=6∧Bn r.2) 6 (λ j s=>s.1.length=j∧Bn s.2) ?_ ?_ 0 ([],c) (Vs _) ⟨rfl,hc⟩
 ·rintro s ⟨h1,h2⟩
  simp (disch:=omega) only [Fo,dF]
  exact Fdb ⟨h1,h2⟩
 ·rintro j s hj ⟨h1,h2⟩ next
  obtain⟨x,c1,e1,_,k1⟩:=Ja s.2 h2 [1,1,1,1,0,2,3] (by decide) (by decide)
  simp (disch:=omega) only [Fo,dT,w64]
  refine Fpb (Fqb (Q:=λ r=>r=(x,c1)) e1 rfl) ?_
  exact Flb (by simp only[Vc,Vj];omega) (next (s.1++[x],c1) ⟨by rw[Ve,h1];rfl,k1⟩)
def Jza (c:Cur) (hc:Bn c):Tot (λ k=>Cn k c) (λ r=>r.1.length≤6∧Bn r.2):=(W5 c hc).mono λ r h=>⟨by have:=h.1;omega,h.2⟩
def Yga (r:Evt×Cur×Wld) (w:Wld):Prop:=E7b r.1∧Aw r.1.2.2.2.1∧Bn r.2.1∧r.2.2=w
def Ayb {d:Dsk} (hd:DIn d) (hb:DB d):Tot (λ k=>Gb k d) (λ r=>r.length≤2000000∧∀ t∈r,Kd t):=by
 refine(Wga d hd hb).mono ?_
 rintro r rfl
 obtain⟨a1,a2⟩:=Deb d.1 hd.1.2.1 d.1 0 [] (λ x hx=>hx) (λ y hy=>nomatch hy)
 have:=hd.2.1
 rw[Vj]at a1
 exact⟨by unfold O7a;omega,a2⟩
def Tfa (e:Evt):Prop:=e.1=1∨e.1=2→e.2.2.1∈Ku
def Eba (c:Cur) (w:Wld) (hc:Bn c) (hn1:1≤w.2.2.1.length) (hnl:w.2.2.1.length≤2000000) (hnn:∀ n∈w.2.2.1,NIn n):Tot (λ k=>Ep k c w w) (λ r=>Yga r w∧Tfa r.1):=by
 unfold Ep
 obtain⟨i,c1,e1,i0,i1,_,k1⟩:=Ac c hc (w.2.2.1.length:Int) (by omega)
 have i1:=i1 (by omega)
 obtain⟨s,c2,e2,hs,k2⟩:=M6 c1 k1
 have hsn:=hs
 have hs:=(Kh s hs).1
 refine Fpb (Fqb (Q:=λ r=>r=(i,c1)) e1 rfl) ?_
 refine Fpb (Fqb (Q:=λ r=>r=(s,c2)) e2 rfl) ?_
 refine Feb (Jza c2 k2) ?_
 rintro⟨rc,c3⟩ ⟨hrc,k3⟩
 dsimp only at hrc k3 ⊢
 obtain⟨n,c4,e4,_,_,_,k4⟩:=Ac c3 k3 20 (by decide)
 refine Fpb (Fqb (Q:=λ r=>r=(n,c4)) e4 rfl) ?_
 dsimp only
 have ok:∀ (kd:Int) (s:ByteArray) (l:List Int) (x:Int) (c:Cur),Kd s→Aw l→l.length≤2000000 → -9223372036854775808≤x→x≤9223372036854775807→Bn c→(kd=1∨kd=2→s∈Ku)→Yga ((kd,i,s,l,x,rc),c,w) w∧Tfa (kd,i,s,l,x,rc):=λ kd s l x c h1 h2 h3 h4 h5 h6 h7=>⟨⟨⟨h1,by show l.length≤_;omega,⟨h4,h5⟩,by show rc.length≤_;omega⟩,h2,h6,rfl⟩,h7⟩
 have plain:∀ kd:Int,Tot (λ _=>some ((kd,i,s,([]:List Int),(0:Int),rc),c4,w)) (λ r=>Yga r w∧Tfa r.1):=λ kd=>Fdb (ok kd s [] 0 c4 hs Nc (Vs _) (by decide) (by decide) k4 λ _=>hsn)
 have put:Tot (λ k=>(A3 c4 2).bind λ r5=>(Dp k r5.2).bind λ r6=>some ((1,i,s,r6.1,wrap .i64 (w.2.2.2.1.1+r5.1),rc),r6.2,w)) (λ r=>Yga r w∧Tfa r.1):=by
  obtain⟨x,c5,e5,x0,x1,_,k5⟩:=Ac c4 k4 2 (by decide)
  have x1:=x1 (by decide)
  refine Fpb (Fqb (Q:=λ r=>r=(x,c5)) e5 rfl) ?_
  refine Feb (Bwa c5 k5) ?_
  rintro⟨l,c6⟩ ⟨g1,g2,g3⟩
  dsimp only at g1 g2 g3 ⊢
  have hw:=Bva (w.2.2.2.1.1+x)
  exact Fdb (ok 1 s l _ c6 hs g2 (by omega) hw.1 hw.2 g1 λ _=>hsn)
 have drop:Tot (λ k=>(A3 c4 2).bind λ r17=>some ((2,i,s,([]:List Int),wrap .i64 (w.2.2.2.1.1+r17.1),rc),r17.2,w)) (λ r=>Yga r w∧Tfa r.1):=by
  obtain⟨x,c5,e5,x0,x1,_,k5⟩:=Ac c4 k4 2 (by decide)
  have x1:=x1 (by decide)
  refine Fpb (Fqb (Q:=λ r=>r=(x,c5)) e5 rfl) ?_
  have hw:=Bva (w.2.2.2.1.1+x)
  exact Fdb (ok 2 s [] _ c5 hs Nc (Vs _) hw.1 hw.2 k5 λ _=>hsn)
 have rot:Tot (λ k=>(A3 c4 60).bind λ r31=>some ((8,i,s,([]:List Int),r31.1,rc),r31.2,w)) (λ r=>Yga r w∧Tfa r.1):=by
  obtain⟨x,c5,e5,x0,x1,_,k5⟩:=Ac c4 k4 60 (by decide)
  have x1:=x1 (by decide)
  refine Fpb (Fqb (Q:=λ r=>r=(x,c5)) e5 rfl) ?_
  exact Fdb (ok 8 s [] x c5 hs Nc (Vs _) (by omega) (by omega) k5 λ _=>hsn)
 have ring:Tot (λ k=>(A9 c4 [1,2,10,1000]).bind λ r33=>some ((9,i,s,([]:List Int),r33.1,rc),r33.2,w)) (λ r=>Yga r w∧Tfa r.1):=by
  obtain⟨x,c5,e5,hx,k5⟩:=Ja c4 k4 [1,2,10,1000] (by decide) (by decide)
  refine Fpb (Fqb (Q:=λ r=>r=(x,c5)) e5 rfl) ?_
  have hx':1≤x∧x≤1000:=by
   simp only[Vl,Zq,or_false]at hx
   omega
  exact Fdb (ok 9 s [] x c5 hs Nc (Vs _) (by omega) (by omega) k5 λ _=>hsn)
 have push:Tot (λ k=>cond (decide ((0:Int)≤i)) (cond (decide (i<(length w.2.2.1:Int))) ((Gb k (getD w.2.2.1 (toNat i) ((0:Int),(([],[]),([],[])))).2.1).bind λ r20=>cond (decide ((length r20:Int) > 0)) ((A3 c4 (length r20:Int)).bind λ r21=>cond (decide ((0:Int)≤r21.1)) (cond (decide (r21.1<(length r20:Int))) (some ((3,i,(getD r20 (toNat r21.1) (⟨#[]⟩:ByteArray)),([]:List Int),0,rc),r21.2,w)) none) none) (some ((3,i,s,([]:List Int),0,rc),c4,w))) none) none) (λ r=>Yga r w∧Tfa r.1):=by
  refine Fhb i0 (Fhb i1 ?_)
  have hm:=hnn _ (A4 (d:=Ar) (show i.toNat<w.2.2.1.length by omega))
  refine Feb (Ayb hm.1.1 hm.1.2) ?_
  rintro l ⟨hl,hl'⟩
  refine Fkb (λ h0=>?_) (λ h0=>plain 3)
  obtain⟨x,c5,e5,x0,x1,_,k5⟩:=Ac c4 k4 (l.length:Int) (by omega)
  have x1:=x1 (by omega)
  refine Fpb (Fqb (Q:=λ r=>r=(x,c5)) e5 rfl) ?_
  exact Fhb x0 (Fhb x1 (Fdb (ok 3 _ [] 0 c5 (hl' _ (A4 (d:=O7) (show x.toNat<l.length by omega))) Nc (Vs _) (by decide) (by decide) k5 (by omega))))
 refine Fjb (λ _=>put) (λ _=>?_)
 refine Fjb (λ _=>put) (λ _=>?_)
 refine Fjb (λ _=>put) (λ _=>?_)
 refine Fjb (λ _=>put) (λ _=>?_)
 refine Fjb (λ _=>put) (λ _=>?_)
 refine Fjb (λ _=>put) (λ _=>?_)
 refine Fjb (λ _=>drop) (λ _=>?_)
 refine Fjb (λ _=>drop) (λ _=>?_)
 refine Fjb (λ _=>push) (λ _=>?_)
 refine Fjb (λ _=>push) (λ _=>?_)
 refine Fjb (λ _=>push) (λ _=>?_)
 refine Fjb (λ _=>plain 5) (λ _=>?_)
 refine Fjb (λ _=>plain 5) (λ _=>?_)
 refine Fjb (λ _=>plain 4) (λ _=>?_)
 refine Fjb (λ _=>plain 6) (λ _=>?_)
 refine Fjb (λ _=>plain 7) (λ _=>?_)
 refine Fjb (λ _=>plain 7) (λ _=>?_)
 refine Fjb (λ _=>rot) (λ _=>?_)
 exact Fjb (λ _=>rot) (λ _=>ring)
def Azb {w:Wld} (h:WI w) {e:Evt} (he:E7b e):Tot (λ k=>Ih k w e) (λ r=>r=doW w e):=
 Dkb w e he h.ring h.ns h.clk (by have:=h.wlen;omega) (by have:=h.splen;omega)
def Wwa (w:Wld) (e:Evt) (i:Nat):(B9a w e i).2.2.2.2.2.1=w.2.2.2.2.1:=by
 unfold B9a E9a Mt Ng Aqb
 cases e.1==3
 case true=>cases (lkD (w.2.2.1.getD i Ar).2.1 e.2.2.1).2 != 0<;>rfl
 cases e.1==4
 case true=>cases ((w.2.2.1.getD i Ar).2.2.1.length:Int)==0<;>rfl
 cases e.1==5
 case true=>cases ((w.2.2.1.getD i Ar).2.2.2.length:Int)==0<;>rfl
 cases e.1==6
 case true=>rfl
 cases e.1==7
 case true=>rfl
 rw[cond_false,cond_false,cond_false,cond_false,cond_false]
 cases (Gra (w.2.2.1.getD i Ar) e.2.2.1 e.2.2.2.2.1).2<;>rfl
def Yha (w:Wld) (s:ByteArray) (f:Fil) (t:Int) (rc:List Int):∀ x∈(ask w s f t rc).2.2.2.2.2.1,x∈w.2.2.2.2.1∨x.1=s:=by
 intro x
 unfold ask
 cases !(Bc s)
 case true=>exact .inl
 cases decide ((f.2.2.length:Int) > 200)
 case true=>exact .inl
 cases !(inR t 0 1000000000)
 case true=>exact .inl
 cases (w.2.2.2.2.1.length:Int)==200
 case true=>exact .inl
 cases (Ms w.2.2.2.1 t 0).1==w.2.2.2.1.1&&((Ms w.2.2.2.1 t 0).2.1==w.2.2.2.1.2.1&&(Ms w.2.2.2.1 t 0).2.2==w.2.2.2.1.2.2)
 case true=>exact .inl
 intro hx
 rcases Vn.1 hx with h|h
 ·exact .inl h
 ·rw[Vt.1 h];exact .inr rfl
def WD.ev {w:Wld} (h:WD w) {e:Evt} (hb:Aw e.2.2.2.1) (hn:Tfa e):WD (doW w e).2:=by
 refine⟨h.1.ev hb,λ x=>?_⟩
 have ae:∀ q:Int×Wld,(Tza q).2=q.2:=λ q=>by
  unfold Tza
  cases q.1 != 2<;>rfl
 unfold doW
 cases h1:e.1==1 with
 |true=>
  rw[cond_true,ae]
  exact λ hx=>(Yha _ _ _ _ _ x hx).elim (h.2 x) (λ c=>by rw[c];exact hn (.inl (eq_of_beq h1)))
 |false=>
  cases h2:e.1==2 with
  |true=>
   rw[cond_false,cond_true,ae]
   exact λ hx=>(Yha _ _ _ _ _ x hx).elim (h.2 x) (λ c=>by rw[c];exact hn (.inr (eq_of_beq h2)))
  |false=>
   rw[cond_false,cond_false]
   cases e.1==3||(e.1==4||(e.1==5||(e.1==6||(e.1==7||e.1==8)))) with
   |true=>
    rw[cond_true]
    cases inR e.2.1 0 ((w.2.2.1.length:Int)-1) with
    |true=>rw[cond_true,Wwa];exact h.2 x
    |false=>exact h.2 x
   |false=>
    rw[cond_false]
    unfold Hea
    cases e.1==9
    case false=>exact h.2 x
    cases !(inR e.2.1 0 ((w.1.length:Int)-1))
    case true=>exact h.2 x
    cases !(inR e.2.2.2.2.1 1 1000)<;>exact h.2 x
def Oca {I:Wld→Prop} (hI:∀ w,I w→WI w) (hE:∀ w e,I w→Aw e.2.2.2.1→Tfa e→I (doW w e).2):∀ (n:Nat) (i:Int) (c:Cur) (w:Wld),i=n→n≤1000→Bn c→I w→Tot (λ k=>Fs k i c Hsa w) (λ r=>I r.2.1∧Bn r.2.2):=by
 intro n
 induction n with
 |zero=>
  rintro i c w rfl _ hc h
  refine Tot.succ ?_
  simp (disch:=omega) only [Fs,dF]
  exact Fdb ⟨h,hc⟩
 |succ n ih=>
  rintro i c w rfl hn hc h
  refine Tot.succ ?_
  simp (disch:=omega) only [Fs,dT]
  have hw:=hI w h
  refine Feb (Eba c w hc (by have:=hw.nlen;have:=hw.dlen;omega) hw.ns.1 hw.win.2.2.1.2) ?_
  rintro⟨e,c1,w1⟩ ⟨⟨g1,g2,g3,g4⟩,g5⟩
  dsimp only at g1 g2 g3 g4 g5 ⊢
  subst g4
  refine Fpb (Azb hw g1) ?_
  rw[w64 (n:=((n+1:Nat):Int)-1) (by omega) (by omega)]
  exact ih _ c1 _ (by omega) (by omega) g3 (hE _ _ h g2 g5)
def W6 {I:Wld→Prop} (hI:∀ w,I w→WI w) (hE:∀ w e,I w→Aw e.2.2.2.1→Tfa e→I (doW w e).2) (hN:∀ l p n,(build l p n).2=true→I (Awb l p n)) (c:Cur) (hc:Bn c) (n:Int) (hn:n≤1000):Tot (λ k=>E6 k c n) (λ r=>I r.1∧Bn r.2):=by
 unfold E6
 refine Feb (Jya c hc) ?_
 rintro⟨w,c1⟩ ⟨⟨l,p,m,hb,e⟩,k1⟩
 dsimp only at e k1 ⊢
 have h:I w:=by rw[e];exact hN l p m hb
 obtain⟨x,c2,e2,x0,x1,x2,k2⟩:=Ac c1 k1 n (by omega)
 refine Fpb (Fqb (Q:=λ r=>r=(x,c2)) e2 rfl) ?_
 refine Feb (Oca hI hE x.toNat x c2 w (by omega) (by by_cases h:0<n<;>omega) k2 h) ?_
 rintro r hr
 exact Fdb hr
def K0a (c:Cur) (hc:Bn c) (n:Int) (hn:n≤1000):Tot (λ k=>E6 k c n) (λ r=>WI r.1∧Bn r.2):=W6 (λ _ h=>h) (λ _ _ h hb _=>h.ev hb) (λ _ _ _ hb=>Tea hb) c hc n hn
def Wxa (a:List Int) (hb:(a.length:Int)≤1048576) (m:Int) (hm:3≤m∧m≤1000):∃ n,Jl a m=some n∧3≤n∧n≤m:=by
 unfold Jl
 rw[Gqb (by omega),w64 (n:=(a.length:Int)/12) (by omega) (by omega),w64 (n:=3+(a.length:Int)/12) (by omega) (by omega)]
 by_cases h:3+(a.length:Int)/12 > m
 ·exact⟨m,by rw[decide_eq_true h];rfl,hm.1,Fvb _⟩
 ·exact⟨_,by rw[decide_eq_false h];rfl,by omega,by omega⟩

def WIm (m:Nat) (w:Wld):Prop:=RBd w.2.1∧w.1.length≤2000000∧(w.2.2.1.length≤2000000∧∀ n∈w.2.2.1,NIn n)∧(w.2.2.2.2.1.length≤m∧∀ x∈w.2.2.2.2.1,Kd x.1∧x.2.1.2.2.length≤2000000∧Aw x.2.1.2.2)∧(w.2.2.2.2.2.length≤m∧∀ s∈w.2.2.2.2.2,Kd s)
def WIm.win {m:Nat} {w:Wld} (h:WIm m w) (hm:m≤2000000):WIn w:=by
 obtain⟨h1,h2,⟨h3,h4⟩,⟨h5,h6⟩,h7,h8⟩:=h
 exact⟨h1,h2,⟨h3,h4⟩,⟨by omega,λ x hx=>(h6 x hx).1⟩,by omega,h8⟩
def WIm.more {m n:Nat} {w:Wld} (h:WIm m w) (hm:m≤n):WIm n w:=by
 obtain⟨h1,h2,h3,⟨h5,h6⟩,h7,h8⟩:=h
 exact⟨h1,h2,h3,⟨by omega,h6⟩,by omega,h8⟩
def WI.wim {w:Wld} (h:WI w):WIm 200 w:=by
 have hi:=h.win
 have h2:=h.dlen
 have h1:=h.nlen
 exact⟨hi.1,hi.2.1,hi.2.2.1,⟨h.wlen,λ x hx=>⟨Jh (h.wok x hx).1,by have:=(K8.1 (h.wok x hx).2.1).2.1;omega,(h.wok x hx).2.2⟩⟩,h.splen,hi.2.2.2.2.2⟩
def Hha {f:Fil} (h:f.2.2.length≤2000000):Bp f=some f:=by
 unfold Bp
 rw[bT (by simp only[Vj];omega),Vz]
def R4 {m:Nat} {w:Wld} (h:WIm m w) (hm:m≤2000000):Tot (λ k=>Am k w) (λ r=>r=w):=by
 obtain⟨h1,h2,⟨h3,h4⟩,⟨h5,h6⟩,h7,h8⟩:=h
 unfold Am
 refine Flb (by rw[Vj];omega) (Fpb (W2 w.2.1 h1) ?_)
 refine Flb (by rw[Vj];omega) ?_
 rw[Vz,Vz]
 refine Feb (Q:=λ r=>r=(w,Hsa,(w.1,w.2.1,w.2.2.1,w.2.2.2.1,[],w.2.2.2.2.2))) ?_ ?_
 ·refine Fmb (L:=λ k i (s:List Nod)=>Fu k i w Hsa (w.1,w.2.1,s,w.2.2.2.1,[],w.2.2.2.2.2)) (Q:=λ r=>r=(w,Hsa,(w.1,w.2.1,w.2.2.1,w.2.2.2.1,[],w.2.2.2.2.2))) w.2.2.1.length (λ j s=>s=w.2.2.1.take j) ?_ ?_ 0 [] (Vs _) rfl
  ·rintro s rfl
   simp (disch:=omega) only [Fu,dF]
   exact Fdb (by rw[Yt])
  ·rintro j s hj rfl next
   have hm:=h4 _ (A4 (d:=Ar) hj)
   have e0:w.2.2.1.getD j ((0:Int),(([],[]),([],[])))=w.2.2.1.getD j Ar:=rfl
   have hl:(w.2.2.1.take j).length=j:=by rw[Vu];omega
   simp (disch:=omega) only [Fu,dT,Vb,w64,e0]
   refine Fpb (Nd _ hm) ?_
   refine Flb (by rw[hl];simp only[Vc,Vj];omega) (next _ ?_)
   rw[Wj hj,Vd,Vk hj]
   rfl
 ·rintro r rfl
  refine Feb (Q:=λ r=>r=(Hsa,w)) ?_ (by rintro r rfl;exact Fdb rfl)
  refine Fmb (L:=λ k i (s:List Wri)=>Ft k i w Hsa (w.1,w.2.1,w.2.2.1,w.2.2.2.1,s,w.2.2.2.2.2)) (Q:=λ r=>r=(Hsa,w)) w.2.2.2.2.1.length (λ j s=>s=w.2.2.2.2.1.take j) ?_ ?_ 0 [] (Vs _) rfl
  ·rintro s rfl
   simp (disch:=omega) only [Ft,dF]
   exact Fdb (by rw[Yt])
  ·rintro j s hj rfl next
   have hm:=(h6 _ (A4 (d:=Sya) hj)).2.1
   have e0:w.2.2.2.2.1.getD j ((⟨#[]⟩:ByteArray),((((0:Int),((0:Int),(0:Int))),(false,[])),false))=w.2.2.2.2.1.getD j Sya:=rfl
   have hl:(w.2.2.2.2.1.take j).length=j:=by rw[Vu];omega
   simp (disch:=omega) only [Ft,dT,Vb,w64,e0,Hha hm,Vo]
   refine Flb (by rw[hl];simp only[Vc,Vj];omega) (next _ ?_)
   rw[Wj hj,Vd,Vk hj]
   rfl
def WIp (m:Nat) (w:Wld):Prop:=WIm m w∧1≤w.2.2.1.length
def Mqa {m:Nat} {w:Wld} (h:WIp m w) {i:Nat} {n:Nod} (hn:NIn n):WIp m (w.1,w.2.1,w.2.2.1.set i n,w.2.2.2):=by
 obtain⟨⟨h1,h2,⟨h3,h4⟩,h5⟩,h0⟩:=h
 refine⟨⟨h1,h2,⟨by rw[Vx];exact h3,λ x hx=>?_⟩,h5⟩,by show 1≤(w.2.2.1.set i n).length;rw[Vx];exact h0⟩
 rcases Wo hx with hx|rfl
 ·exact h4 x hx
 ·exact hn
def Wya {m:Nat} {w:Wld} {c:Cur} (hc:Bn c) (h:WIp m w) (hm:m≤900):Tot (λ k=>Dr k c w w) (λ r=>WIp (m+1) r.1∧Bn r.2.1):=by
 have h':=h
 obtain⟨⟨h1,h2,⟨h3,h4⟩,⟨h5,h6⟩,h7,h8⟩,h0⟩:=h'
 have hw:WIp (m+1) w:=⟨h.1.more (G0b m),h.2⟩
 unfold Dr
 refine Feb (R4 (w:=w) h.1 (by omega)) ?_
 rintro r rfl
 refine Fhb (by omega) ?_
 obtain⟨i,c1,e1,i0,i1,_,k1⟩:=Ac c hc (r.2.2.1.length:Int) (by omega)
 have i1:=i1 (by omega)
 refine Feb (Fqb (Q:=λ r=>r=(i,c1)) e1 rfl) ?_
 rintro _ rfl
 obtain⟨x,c2,e2,_,_,_,k2⟩:=Ac c1 k1 10 (by decide)
 refine Feb (Fqb (Q:=λ r=>r=(x,c2)) e2 rfl) ?_
 rintro _ rfl
 dsimp only
 refine Fjb (λ _=>?_) (λ _=>?_)
 ·obtain⟨y,c3,e3,_,k3⟩:=Ja c2 k2 [0,1,2,6] (by decide) (by decide)
  refine Feb (Fqb (Q:=λ r=>r=(y,c3)) e3 rfl) ?_
  rintro _ rfl
  exact Fdb ⟨⟨⟨h1,hw.1.2⟩,h0⟩,k3⟩
 refine Fjb (λ _=>?_) (λ _=>?_)
 ·refine Fhb (by omega) (Feb (Sba c2 k2) ?_)
  rintro⟨n,c3⟩ ⟨g1,g2⟩
  exact Fhb i0 (Fhb i1 (Fdb ⟨Mqa hw g1,g2⟩))
 refine Fjb (λ _=>?_) (λ _=>?_)
 ·obtain⟨y,c3,e3,k3⟩:=Dsa c2 k2
  refine Feb (Fqb (Q:=λ r=>r=(y,c3)) e3 rfl) ?_
  rintro _ rfl
  exact Fdb ⟨hw,k3⟩
 refine Fjb (λ _=>?_) (λ _=>?_)
 ·refine Fkb (λ _=>Fhb (by omega) (Fdb ⟨⟨⟨h1,h2,⟨h3,h4⟩,⟨by dsimp only;rw[List.length_drop];omega,λ x hx=>h6 x (List.mem_of_mem_drop hx)⟩,by dsimp only;omega,h8⟩,h0⟩,k2⟩)) (λ _=>Fdb ⟨hw,k2⟩)
 refine Fjb (λ _=>?_) (λ _=>?_)
 ·obtain⟨s,c3,e3,hs,k3⟩:=Ma c2 k2
  refine Feb (Fqb (Q:=λ r=>r=(s,c3)) e3 rfl) ?_
  rintro _ rfl
  refine Feb (Gna c3 k3) ?_
  rintro⟨f,c4⟩ ⟨⟨g0,g1⟩,k4⟩
  refine Flb (by simp only[List.length_cons,List.length_nil];omega) (Fdb ⟨⟨⟨h1,h2,⟨h3,h4⟩,⟨by dsimp only;rw[List.length_append];simp only[List.length_cons,List.length_nil];omega,λ x hx=>?_⟩,by dsimp only;omega,h8⟩,h0⟩,k4⟩)
  rcases Vn.1 hx with hx|hx
  ·exact h6 x hx
  ·rw[Vt.1 hx];exact⟨hs,g1,g0⟩
 refine Fjb (λ _=>?_) (λ _=>?_)
 ·obtain⟨s,c3,e3,hs,k3⟩:=Ma c2 k2
  refine Feb (Fqb (Q:=λ r=>r=(s,c3)) e3 rfl) ?_
  rintro _ rfl
  refine Flb (by simp only[List.length_cons,List.length_nil];omega) (Fdb ⟨⟨⟨h1,h2,⟨h3,h4⟩,⟨by dsimp only;omega,h6⟩,by dsimp only;rw[List.length_append];simp only[List.length_cons,List.length_nil];omega,λ x hx=>?_⟩,h0⟩,k3⟩)
  rcases Vn.1 hx with hx|hx
  ·exact h8 x hx
  ·rw[Vt.1 hx];exact hs
 refine Fjb (λ _=>?_) (λ _=>?_)
 ·have hm:=h4 _ (A4 (d:=Ar) (show i.toNat<r.2.2.1.length by omega))
  refine Fhb (by omega) (Fhb i0 (Fhb i1 (Fdb ⟨Mqa hw ⟨⟨Nz dg0.1,dg0.2⟩,hm.2⟩,k2⟩)))
 refine Fjb (λ _=>?_) (λ _=>Fdb ⟨hw,k2⟩)
 refine Fkb (λ hd=>?_) (λ _=>Fdb ⟨hw,k2⟩)
 obtain⟨y,c3,e3,_,k3⟩:=Ja c2 k2 [0,5,21] (by decide) (by decide)
 refine Feb (Fqb (Q:=λ r=>r=(y,c3)) e3 rfl) ?_
 rintro _ rfl
 exact Fhb (by omega) (Fdb ⟨⟨⟨h1,by dsimp only;rw[List.length_set];exact h2,hw.1.2.2⟩,h0⟩,k3⟩)
def Oda (c:Cur) (hc:Bn c) (n:Int) (hn:n≤1000):Tot (λ k=>I1 k c n) (λ r=>WIp 201 r.1∧Bn r.2):=by
 unfold I1
 refine Feb (K0a c hc n hn) ?_
 rintro⟨w,c1⟩ ⟨h,k1⟩
 dsimp only at h k1 ⊢
 obtain⟨b,c2,e2,k2⟩:=Kt c1 k1 8 (by decide)
 refine Fpb (Fqb (Q:=λ r=>r=(b,c2)) e2 rfl) ?_
 refine Fjb (λ _=>?_) (λ _=>Fdb ⟨⟨h.wim.more (by decide),by show 1≤w.2.2.1.length;have:=h.nlen;have:=h.dlen;omega⟩,k2⟩)
 refine Feb (Wya k2 (m:=200) ⟨h.wim,by have:=h.nlen;have:=h.dlen;omega⟩ (by decide)) ?_
 rintro r ⟨g1,g2⟩
 exact Fdb ⟨g1,g2⟩

def Hia {f:Fil} (h:f.2.2.length≤1000000000):I3 f=some f:=by
 unfold I3
 rw[Tk _ (by omega)]
 rfl

def Wza {n:Nod} {l:List Row} (hn:NG n) (hl:J7 l=true):B3a n l=((tk n l).2,(tk n l).1):=by
 unfold B3a tk
 rw[hn.1,hl]
 cases decide ((Nl n.2.2.1 l).length > 60)<;>rfl
def Hja (w:Wld) (src:Int) (l:List Row) (rc:List Int) (hr:RBd w.2.1) (hn:NS w.2.2.1) (hl:J7 l=true):
  Tot (λ k=>Ao k w l rc src) (λ r=>r=((Kx w src l false rc).2,wN w (Kx w src l false rc).1)):=by
 have hll:=Uw hl
 unfold Ao
 refine Fpb (Sq w hr hn.1) ?_
 have hpl:=O5 hr hn.1
 have hc:=λ x=>N6 (w:=w) (x:=x)
 have hrun:Kx w src l false rc=run (gst src l false rc (D8 w)) (D8 w).length (w.2.2.1,true):=rfl
 have inv:∀ n,n≤(D8 w).length→NS (run (gst src l false rc (D8 w)) n (w.2.2.1,true)).1∧(run (gst src l false rc (D8 w)) n (w.2.2.1,true)).1.length=w.2.2.1.length:=λ n hn'=>
  Mc (λ _ (b:List Nod×Bool)=>NS b.1∧b.1.length=w.2.2.1.length) ⟨hn,rfl⟩ (λ j b hj hb=>T5a hl hb (by have:=hc _ (A4 (d:=0) (show j<(D8 w).length by omega));omega))
 generalize D8 w=ls at *
 refine Feb (Q:=λ r=>r=((Kx w src l false rc).2,wN w (Kx w src l false rc).1)) ?_ (by rintro r rfl;exact Fdb rfl)
 refine Fmb (L:=λ k j (a:List Nod×Bool)=>Ay k l rc src a.2 ls (ls.length:Int) j (wN w a.1)) (Q:=λ r=>r=((Kx w src l false rc).2,wN w (Kx w src l false rc).1)) ls.length (λ j a=>a=run (gst src l false rc ls) j (w.2.2.1,true)) ?_ ?_ 0 (w.2.2.1,true) (Vs _) rfl
 ·rintro a rfl
  simp (disch:=omega) only [Ay,dF]
  exact Fdb (by rw[hrun])
 ·rintro j a hj rfl next
  obtain⟨i1,i2⟩:=inv j (by omega)
  rw[Q0]at next
  generalize run (gst src l false rc ls) j (w.2.2.1,true)=a at *
  obtain⟨ns,g⟩:=a
  dsimp only at i1 i2
  have hci:=hc _ (A4 (d:=0) hj)
  obtain⟨m,em⟩:∃ m:Nat,ls.getD j 0=(m:Int):=⟨(ls.getD j 0).toNat,by omega⟩
  rw[em]at hci
  unfold gst at next
  rw[em,Vb,Zv,Fwb]at next
  have e0:ns.getD m ((0:Int),(([],[]),([],[])))=ns.getD m Ar:=rfl
  have hm:=i1.get (i:=m) (by omega)
  simp (disch:=omega) only [Ay,dT,Vb,w64,em,e0,wN]
  cases hz:(m:Int)==src with
  |true=>
   rw[hz]at next
   exact Fgb rfl (next _ rfl)
  |false=>
   rw[hz]at next
   refine Ffb rfl ?_
   simp only[Aob,Vo]
   cases h1:rch rc j != 1 with
   |true=>
    rw[h1]at next
    exact Fgb rfl (next _ rfl)
   |false=>
    rw[h1]at next
    refine Ffb rfl (Fpb (W0a (ns.getD m Ar) l (Rs hm) hll) ?_)
    rw[Wza hm hl]
    dsimp only at next ⊢
    generalize tk (ns.getD m Ar) l=q at *
    cases g with
    |false=>
     refine Ffb rfl (next (ns.set m q.2,false) ?_)
     cases q.1<;>rfl
    |true=>
     refine Fgb rfl (next (ns.set m q.2,q.1) ?_)
     cases q.1<;>rfl

def R6 {l:List Row} (h:l.length≤2000000000):Aj l=some l:=by
 unfold Aj
 rw[bT (by simp only[Vj];omega),Vz]
def Oea (w:Wld) (src:Int) (l:List Row) (rc:List Int):Kx w (-1) l false rc=Kx w src l true rc:=by
 unfold Kx
 refine Mc (λ n (a:List Nod×Bool)=>a=run (gst src l true rc (D8 w)) n (w.2.2.1,true)) rfl (λ j b hj hb=>?_)
 rw[Q0,← hb]
 have:=(N6 (A4 (d:=0) hj)).1
 unfold gst
 rw[show ((D8 w).getD j 0 == -1)=false by rw[beq_eq_false_iff_ne];omega,Zd,Yd,Ze]
def K1a (w:Wld) (src:Int) (l:List Row) (self:Bool) (rc:List Int) (m:Nat):((Kx w src l self rc).1.getD m Ar).2.2.2=(w.2.2.1.getD m Ar).2.2.2:=by
 unfold Kx
 refine Mc (λ n (a:List Nod×Bool)=>(a.1.getD m Ar).2.2.2=(w.2.2.1.getD m Ar).2.2.2) rfl (λ j b hj hb=>?_)
 unfold gst
 cases (D8 w).getD j 0==src&&!self
 case true=>exact hb
 cases rch rc j != 1
 case true=>exact hb
 rw[cond_false,cond_false]
 generalize ((D8 w).getD j 0).toNat=i
 show ((b.1.set i (tk (b.1.getD i Ar) l).2).getD m Ar).2.2.2=_
 by_cases hm:m<b.1.length
 ·rw[Ld hm]
  by_cases hi:i=m
  ·subst hi
   rw[if_pos rfl,← hb]
   unfold tk
   cases decide ((Nl (b.1.getD i Ar).2.2.1 l).length > 60)<;>rfl
  ·rw[if_neg hi];exact hb
 ·rw[Vd,Zh (by rw[Vx];omega)]
  rw[Vd,Zh (by omega)]at hb
  exact hb
def Tga (w:Wld) (i:Nat) (rc:List Int) (hr:RBd w.2.1) (hn:NS w.2.2.1) (hi:i<w.2.2.1.length):Tot (λ k=>Ba k w (i:Int) rc) (λ r=>r=Mt w i rc):=by
 have hni:=hn.get hi
 have e0:w.2.2.1.getD i ((0:Int),(([],[]),([],[])))=w.2.2.1.getD i Ar:=rfl
 have hl:=(B1.1 hni.1).2.2.2.1
 have hll:=(Uw hl).1
 unfold Ba Mt
 simp (disch:=omega) only [dT,Vb,e0,R6 (show (w.2.2.1.getD i Ar).2.2.1.length≤2000000000 by omega),Vo]
 cases hz:((w.2.2.1.getD i Ar).2.2.1.length:Int)==0
 case true=>exact Fgb rfl (Fdb rfl)
 refine Ffb rfl (Fpb (Hja w (i:Int) _ rc hr hn hl) ?_)
 obtain⟨p1,p2⟩:=Tt (w:=w) (src:=(i:Int)) (self:=false) (rc:=rc) hl hn
 rw[show Kx w (i:Int) (w.2.2.1.getD i Ar).2.2.1 false rc=Mw w i rc from rfl]at p1 p2 ⊢
 generalize Mw w i rc=a at *
 obtain⟨ns,g⟩:=a
 dsimp only at p1 p2 ⊢
 cases g
 ·exact Ffb rfl (Fdb rfl)
 refine Fgb rfl (Fpb (Sq (wN w ns) hr p1.1) ?_)
 refine Fpb (Sca _ _ (by have:=O5 (w:=wN w ns) hr p1.1;omega)) ?_
 cases Mr (D8 (wN w ns)) (i:Int)
 case true=>exact Ffb rfl (Fdb rfl)
 have e1:ns.getD i ((0:Int),(([],[]),([],[])))=ns.getD i Ar:=rfl
 refine Fgb rfl ?_
 simp (disch:=omega) only [dT,Vb,e1]
 exact Fdb rfl
def Tha (w:Wld) (i:Nat) (rc:List Int) (hr:RBd w.2.1) (hn:NS w.2.2.1) (hi:i<w.2.2.1.length):Tot (λ k=>Bq k w (i:Int) rc) (λ r=>r=Ng w i rc):=by
 have hni:=hn.get hi
 have e0:w.2.2.1.getD i ((0:Int),(([],[]),([],[])))=w.2.2.1.getD i Ar:=rfl
 obtain⟨hq,_,_,_,hq60⟩:=B1.1 hni.1
 have hl:=N7 hq
 unfold Bq Ng
 simp (disch:=omega) only [dT,Vb,e0]
 cases hz:((w.2.2.1.getD i Ar).2.2.2.length:Int)==0
 case true=>exact Fgb rfl (Fdb rfl)
 have h1:=beq_eq_false_iff_ne.1 hz
 refine Ffb rfl (Fhb (by omega) ?_)
 rw[show List.take (toNat 1) (w.2.2.1.getD i Ar).2.2.2=List.take 1 (w.2.2.1.getD i Ar).2.2.2 from rfl,R6 (by rw[Vu];omega)]
 simp only[Vo]
 refine Fpb (Hja w (-1) _ rc hr hn hl) ?_
 rw[Oea w (i:Int)]
 obtain⟨p1,p2⟩:=Tt (w:=w) (src:=(i:Int)) (self:=true) (rc:=rc) hl hn
 have hqu:=K1a w (i:Int) ((w.2.2.1.getD i Ar).2.2.2.take 1) true rc i
 rw[show Kx w (i:Int) ((w.2.2.1.getD i Ar).2.2.2.take 1) true rc=O6 w i rc from rfl]at p1 p2 hqu ⊢
 generalize O6 w i rc=a at *
 obtain⟨ns,g⟩:=a
 dsimp only at p1 p2 hqu ⊢
 cases g
 ·exact Ffb rfl (Fdb rfl)
 have e1:ns.getD i ((0:Int),(([],[]),([],[])))=ns.getD i Ar:=rfl
 refine Fgb rfl ?_
 simp (disch:=omega) only [dT,Vb,e1,hqu]
 rw[show List.drop (toNat 1) (w.2.2.1.getD i Ar).2.2.2=List.drop 1 (w.2.2.1.getD i Ar).2.2.2 from rfl,R6 (by rw[Wf];omega)]
 exact Fdb rfl

def NO (ns ms:List Nod):Prop:=NS ms∧ms.map (·.1)=ns.map (·.1)
def NO.len {ns ms:List Nod} (h:NO ns ms):ms.length=ns.length:=by
 have:=congrArg length h.2
 rwa [Wc,Wc]at this
def NO.set {ns ms:List Nod} (h:NO ns ms) {i:Nat} {n:Nod} (hi:i<ms.length) (hn:NG n) (e:n.1=(ms.getD i Ar).1):NO ns (ms.set i n):=⟨h.1.set hn,(Jxa hi e).trans h.2⟩
def B0b (n:Nod) (s:ByteArray) (f:Fil) (sure:Bool):(Ux n s f sure).1.1=n.1:=by
 unfold Ux
 cases (n.2.2.2.length:Int)==60 with
 |true=>rfl
 |false=>rfl
def Esb (n:Nod) (l:List Row):(tk n l).2.1=n.1:=by
 unfold tk
 cases decide ((Nl n.2.2.1 l).length > 60)<;>rfl
def B1b (n:Nod) (s:ByteArray) (b:Int):(Gra n s b).1.1=n.1:=by
 unfold Gra
 cases Lb n&&((lkD n.2.1 s).2==0&&(Dra n.2.1 s b).2)<;>rfl
def Dsb {w:Wld} {s:ByteArray} {f:Fil} {rc:List Int} (hn:NS w.2.2.1) (hs:Bc s=true) (hf:H9 f=true):NO w.2.2.1 (wrN w s f rc).1:=by
 unfold wrN
 refine Mc (λ _ (a:List Nod×Int×Int)=>NO w.2.2.1 a.1) ⟨hn,rfl⟩ (λ j a hj h=>?_)
 have hc:=Sr (A4 (d:=0) hj)
 have hl:=h.len
 unfold wst
 cases decide (a.2.1<w.2.1.1)
 ·exact h
 rw[cond_true]
 cases rch rc j==0 with
 |true=>exact h
 |false=>exact h.set (by omega) (M6a (h.1.get (by omega)) hs hf) (B0b _ _ _ _)
def Dtb {w:Wld} {i:Nat} {s:ByteArray} {rc:List Int} (hn:NS w.2.2.1):NO w.2.2.1 (puN w i s rc).1:=by
 unfold puN
 refine Mc (λ _ (a:List Nod×Bool×Bool)=>NO w.2.2.1 a.1) ⟨hn,rfl⟩ (λ j a hj h=>?_)
 have hc:=Nq (A4 (d:=0) hj)
 have hl:=h.len
 unfold pst
 cases (O4 w s).getD j 0==(i:Int)
 case true=>exact h
 rw[cond_false]
 cases rch rc j != 1 with
 |true=>exact h
 |false=>exact h.set (by omega) (Jwa (h.1.get (by omega))) rfl
def X0a {w:Wld} {i:Nat} {s:ByteArray} {rc:List Int} (hn:NS w.2.2.1) (hi:i<w.2.2.1.length):∃ ns,(E9a w i s rc).2=wN w ns∧NO w.2.2.1 ns:=by
 unfold E9a
 cases hl:(lkD (w.2.2.1.getD i Ar).2.1 s).2 != 0
 case true=>exact⟨w.2.2.1,rfl,hn,rfl⟩
 have h:=Dtb (i:=i) (s:=s) (rc:=rc) hn
 have hlen:=h.len
 have hs:Bc s=true:=by
  rw[bne,Wh,beq_iff_eq]at hl
  obtain⟨b,hb,_⟩:=Qv.1 (show lkD (w.2.2.1.getD i Ar).2.1 s=((lkD (w.2.2.1.getD i Ar).2.1 s).1,0) from by rw[← hl])
  exact S4a (hn.get hi).g.1 (by rw[hb];rfl)
 refine⟨_,rfl,?_⟩
 cases (puN w i s rc).2.2&&!(puN w i s rc).2.1 with
 |false=>exact h
 |true=>exact h.set (by omega) (Yca (h.1.get (by omega)) hs) rfl
def Eca {w:Wld} {src:Int} {l:List Row} {self:Bool} {rc:List Int} (hl:J7 l=true) (hn:NS w.2.2.1):NO w.2.2.1 (Kx w src l self rc).1:=by
 unfold Kx
 refine Mc (λ _ (a:List Nod×Bool)=>NO w.2.2.1 a.1) ⟨hn,rfl⟩ (λ j a hj h=>?_)
 have hc:=N6 (A4 (d:=0) hj)
 have hlen:=h.len
 unfold gst
 cases (D8 w).getD j 0==src&&!self
 case true=>exact h
 rw[cond_false]
 cases rch rc j != 1 with
 |true=>exact h
 |false=>exact h.set (by omega) (Eob (h.1.get (by omega)) hl) (Esb _ _)
def Mra {w:Wld} {i:Nat} {rc:List Int} (hn:NS w.2.2.1) (hi:i<w.2.2.1.length):∃ ns,(Mt w i rc).2=wN w ns∧NO w.2.2.1 ns:=by
 have h:=Eca (w:=w) (src:=(i:Int)) (self:=false) (rc:=rc) (B1.1 (hn.get hi).1).2.2.2.1 hn
 have hlen:=h.len
 unfold Mt
 cases ((w.2.2.1.getD i Ar).2.2.1.length:Int)==0
 case true=>exact⟨w.2.2.1,rfl,hn,rfl⟩
 refine⟨_,rfl,?_⟩
 show NO w.2.2.1 (bif (Mw w i rc).2&&_ then (Mw w i rc).1.set i (Haa ((Mw w i rc).1.getD i Ar)) else (Mw w i rc).1)
 unfold Mw
 cases (Kx w (i:Int) (w.2.2.1.getD i Ar).2.2.1 false rc).2&&_ with
 |false=>exact h
 |true=>exact h.set (by omega) (Mna (h.1.get (by omega))) rfl
def Msa {w:Wld} {i:Nat} {rc:List Int} (hn:NS w.2.2.1) (hi:i<w.2.2.1.length):∃ ns,(Ng w i rc).2=wN w ns∧NO w.2.2.1 ns:=by
 have hq:=B1.1 (hn.get hi).1
 have h:=Eca (w:=w) (src:=(i:Int)) (self:=true) (rc:=rc) (N7 hq.1) hn
 have hlen:=h.len
 unfold Ng
 cases ((w.2.2.1.getD i Ar).2.2.2.length:Int)==0
 case true=>exact⟨w.2.2.1,rfl,hn,rfl⟩
 refine⟨_,rfl,?_⟩
 show NO w.2.2.1 (bif (O6 w i rc).2 then (O6 w i rc).1.set i (Dib ((O6 w i rc).1.getD i Ar) ((w.2.2.1.getD i Ar).2.2.2.drop 1)) else (O6 w i rc).1)
 unfold O6
 cases (Kx w (i:Int) ((w.2.2.1.getD i Ar).2.2.2.take 1) true rc).2 with
 |false=>exact h
 |true=>exact h.set (by omega) (Yea (h.1.get (by omega)) (λ r hr=>hq.1 r (Zk hr)) (by rw[Wf];omega)) rfl
structure WO (w:Wld):Prop where
 ring:Ik w.2.1 w.1=true
 ids:w.2.2.1.map (·.1)=w.1.map (·.1)
 ns:NS w.2.2.1
 clk:Ga w.2.2.2.1=true
 wlen:w.2.2.2.2.1.length≤200
 wok:Hfa w.2.2.2.2.1
 wge:∀ x∈w.2.2.2.2.1,sle w.2.2.2.1 x.2.1.1=false
 sps:TS w.2.2.2.2.2
 spn:∀ s∈w.2.2.2.2.2,Bc s=true
def WI.wo {w:Wld} (h:WI w):WO w:=⟨h.ring,h.ids,h.ns,h.clk,h.wlen,h.wok,h.wge,h.sps,λ s hs=>by
 obtain⟨x,hx,e⟩:=h.spw s hs
 rw[← e]
 exact(h.wok x hx).1⟩
namespace WO
variable {w:Wld}
def nlen (h:WO w):w.2.2.1.length=w.1.length:=by
 have:=congrArg length h.ids
 rwa [Wc,Wc]at this
def dlen (h:WO w):1≤w.1.length∧w.1.length≤12:=(Fg.1 (Cd.1 h.ring).1).2.2
def other (h:WO w) {ns:List Nod} (hn:NO w.2.2.1 ns):WO (wN w ns):=⟨h.ring,hn.2.trans h.ids,hn.1,h.clk,h.wlen,h.wok,h.wge,h.sps,h.spn⟩
def other' (h:WO w) {r:Bool×Wld} (hr:∃ ns,r.2=wN w ns∧NO w.2.2.1 ns):WO r.2:=by
 obtain⟨ns,e,hn⟩:=hr
 rw[e]
 exact h.other hn
def write (h:WO w) {s:ByteArray} {f:Fil} {rc:List Int} (hs:Bc s=true) (hf:H9 f=true) (hb:Aw f.2.2) (hc:sle w.2.2.2.1 f.1=true) (hl:w.2.2.2.2.1.length<200):WO (Aoa (w.1,w.2.1,w.2.2.1,f.1,w.2.2.2.2) s f rc).2:=by
 have g:=Dsb (w:=(w.1,w.2.1,w.2.2.1,f.1,w.2.2.2.2)) (rc:=rc) h.ns hs hf
 unfold Aoa
 generalize wrN (w.1,w.2.1,w.2.2.1,f.1,w.2.2.2.2) s f rc=a at *
 exact {
  ring:=h.ring
  ids:=g.2.trans h.ids
  ns:=g.1
  clk:=(K8.1 hf).1
  wlen:=by show (w.2.2.2.2.1++[_]).length≤200;rw[Ve];simp only[Vc,Vj];omega
  wok:=λ x hx=>by
   rcases Vn.1 hx with hx|hx
   ·exact h.wok x hx
   ·rw[Vt.1 hx];exact⟨hs,hf,hb⟩
  wge:=λ x hx=>by
   rcases Vn.1 hx with hx|hx
   ·exact Cea (Apa hc) (h.wge x hx)
   ·rw[Vt.1 hx];exact P6 _
  sps:=h.sps
  spn:=h.spn }
def ask (h:WO w) {s:ByteArray} {f:Fil} {t:Int} {rc:List Int} (hb:Aw f.2.2) (hd:f.2.1=true→f.2.2=[]):WO (ask w s f t rc).2:=by
 unfold Vf.ask
 cases hs:Bc s
 ·exact h
 rw[Zd,cond_false]
 by_cases hl:(f.2.2.length:Int) > 200
 ·rw[decide_eq_true hl];exact h
 ·rw[decide_eq_false hl,cond_false]
  cases inR t 0 1000000000
  ·exact h
  rw[Zd,cond_false]
  cases hw:(w.2.2.2.2.1.length:Int)==200
  case true=>exact h
  rw[cond_false]
  have hw':=beq_eq_false_iff_ne.1 hw
  have hwl:=h.wlen
  obtain⟨n1,n2⟩:=E8a h.clk t 0
  cases he:(Ms w.2.2.2.1 t 0).1==w.2.2.2.1.1&&((Ms w.2.2.2.1 t 0).2.1==w.2.2.2.1.2.1&&(Ms w.2.2.2.1 t 0).2.2==w.2.2.2.1.2.2)
  case true=>exact h
  rw[cond_false]
  have hlt:sle w.2.2.2.1 (Ms w.2.2.2.1 t 0)=true:=by
   rcases n2 with n2|n2
   ·rw[n2,beq_self_eq_true,beq_self_eq_true,beq_self_eq_true]at he;cases he
   ·exact n2
  exact h.write (f:=(Ms w.2.2.2.1 t 0,f.2)) hs (K8.2 ⟨n1,by show f.2.2.length≤200;omega,hd⟩) hb hlt (by omega)
def rot (h:WO w) {i:Nat} (hi:i<w.2.2.1.length) {s:ByteArray} {b:Int}:WO (Aqb w i s b).2:=by
 have hg:=h.ns.get hi
 unfold Aqb
 cases hr:(Gra (w.2.2.1.getD i Ar) s b).2
 ·exact h
 have hn:NO w.2.2.1 (w.2.2.1.set i (Gra (w.2.2.1.getD i Ar) s b).1):=NO.set ⟨h.ns,rfl⟩ hi (M7a hg) (B1b _ _ _)
 have hs:Bc s=true:=by
  unfold Gra at hr
  cases hc:Lb (w.2.2.1.getD i Ar)&&((lkD (w.2.2.1.getD i Ar).2.1 s).2==0&&(Dra (w.2.2.1.getD i Ar).2.1 s b).2)
  ·rw[hc]at hr;cases hr
  rw[Va,Va,beq_iff_eq]at hc
  obtain⟨b,hb,_⟩:=Qv.1 (show lkD (w.2.2.1.getD i Ar).2.1 s=((lkD (w.2.2.1.getD i Ar).2.1 s).1,0) from by rw[← hc.2.1])
  exact S4a hg.g.1 (by rw[hb];rfl)
 exact⟨h.ring,hn.2.trans h.ids,hn.1,h.clk,h.wlen,h.wok,h.wge,Cda h.sps,λ t ht=>by
  rcases Eaa.1 ht with rfl|ht
  ·exact hs
  ·exact h.spn t ht⟩
def node (h:WO w) {i:Nat} (hi:i<w.2.2.1.length) {e:Evt}:WO (B9a w e i).2:=by
 have hg:=h.ns.get hi
 unfold B9a
 cases e.1==3
 case true=>exact h.other' (X0a h.ns hi)
 cases e.1==4
 case true=>exact h.other' (Mra h.ns hi)
 cases e.1==5
 case true=>exact h.other' (Msa h.ns hi)
 cases e.1==6
 case true=>exact h.other (NO.set ⟨h.ns,rfl⟩ hi (Yba hg) rfl)
 cases e.1==7 with
 |true=>exact h.other (NO.set ⟨h.ns,rfl⟩ hi (Djb hg) rfl)
 |false=>exact h.rot hi
def weigh (h:WO w) {i t:Int}:WO (Hea w i t).2:=by
 unfold Hea
 cases h1:inR i 0 ((w.1.length:Int)-1)
 ·exact h
 cases h2:inR t 1 1000
 ·exact h
 obtain⟨i0,i1⟩:=Cy.1 h1
 obtain⟨w0,w1⟩:=Cy.1 h2
 exact⟨(Mha (Dwa h.ring (by omega) w0 w1)).1,h.ids.trans (Dva _ _ _).symm,h.ns,h.clk,h.wlen,h.wok,h.wge,h.sps,h.spn⟩
def ev (h:WO w) {e:Evt} (hb:Aw e.2.2.2.1):WO (doW w e).2:=by
 have ae:∀ {q:Int×Wld},WO q.2→WO (Tza q).2:=λ {q} hq=>by
  unfold Tza
  cases q.1 != 2<;>exact hq
 unfold doW
 cases e.1==1
 case true=>exact ae (h.ask hb (λ c=>by cases c))
 cases e.1==2
 case true=>exact ae (h.ask Nc (λ _=>rfl))
 cases e.1==3||(e.1==4||(e.1==5||(e.1==6||(e.1==7||e.1==8)))) with
 |true=>
  cases hi:inR e.2.1 0 ((w.2.2.1.length:Int)-1)
  ·exact h
  have:=Cy.1 hi
  exact h.node (by omega)
 |false=>
  cases e.1==9 with
  |true=>exact h.weigh
  |false=>exact h
def nods (h:WO w):R3 w.1 w.2.2.1=true:=by
 have hl:=h.nlen
 unfold R3
 rw[show ((w.2.2.1.length:Int)==(w.1.length:Int))=true by rw[beq_iff_eq];omega,Vy,Ys]
 intro j hj
 have hj':=Zx.1 hj
 rw[Va,beq_iff_eq]
 refine⟨?_,(h.ns.get hj').1⟩
 have e1:(w.2.2.1.getD j Ar).1=(w.2.2.1.map (·.1)).getD j 0:=by
  rw[Vd,Vd,Fyb,Vk hj'];rfl
 have e2:(w.1.getD j Mv).1=(w.1.map (·.1)).getD j 0:=by
  rw[Vd,Vd,Fyb,Vk (by omega)];rfl
 rw[e1,e2,h.ids]
def ok (h:WO w):Py w=true:=by
 unfold Py
 have a2:Wna w.2.2.2.1 w.2.2.2.2.1=true:=by
  unfold Wna
  rw[Va,Ys]
  refine⟨λ x hx=>?_,decide_eq_true (by have:=h.wlen;omega)⟩
  unfold E1a
  rw[(h.wok x hx).1,(h.wok x hx).2.1,h.wge x hx]
  rfl
 have a3:S4 w.2.2.2.2.2=true:=by
  unfold S4
  rw[Ys]
  intro j hj
  have hj':=Zx.1 hj
  rw[Va,Fub]
  refine⟨h.spn _ (A4 hj'),?_⟩
  by_cases h0:j=0
  ·exact .inl (decide_eq_true h0)
  ·right
   have:=Ftb.1 h.sps (j-1) j (by omega) hj' (by omega)
   rwa [Vd,Vd,Vk hj',Vk (by omega)]
 rw[h.ring,h.nods,h.clk,a2,a3]
 rfl
end WO
def Etb {l:List ByteArray} (h:∀ j,0<j→j<l.length→tlt (l.getD (j-1) O7) (l.getD j O7)=true):TS l:=by
 induction l with
 |nil=>exact List.Pairwise.nil
 |cons x l ih=>
  have ht:TS l:=ih (λ j h0 hj=>by
   have:=h (j+1) (by omega) (by simpa using hj)
   obtain⟨m,rfl⟩:∃ m,j=m+1:=⟨j-1,by omega⟩
   simpa using this)
  refine Wg.2 ⟨λ y hy=>?_,ht⟩
  cases l with
  |nil=>cases hy
  |cons z l=>
   have hz:tlt x z=true:=by have:=h 1 (by omega) (by simp);simpa using this
   rcases Vl.1 hy with rfl|hy
   ·exact hz
   ·exact M7 hz ((Wg.1 ht).1 y hy)
def Eub {w:Wld} (h:Py w=true) (hn:∀ n∈w.2.2.1,DB n.2.1) (hb:∀ x∈w.2.2.2.2.1,Aw x.2.1.2.2):WO w:=by
 unfold Py at h
 simp only[Va]at h
 obtain⟨h1,h2,h3,h4,h5⟩:=h
 unfold R3 at h2
 rw[Va,beq_iff_eq,Ys]at h2
 obtain⟨hl,h2⟩:=h2
 have hd:=(Fg.1 (Cd.1 h1).1).2.2
 have hnode:∀ j,j<w.2.2.1.length→(w.2.2.1.getD j Ar).1=(w.1.getD j Mv).1∧Lb (w.2.2.1.getD j Ar)=true:=λ j hj=>by
  have:=h2 j (Zx.2 hj)
  rwa [Va,beq_iff_eq]at this
 unfold Wna at h4
 rw[Va,Ys,decide_eq_true_iff]at h4
 unfold S4 at h5
 rw[Ys]at h5
 have hsp:∀ j,j<w.2.2.2.2.2.length→Bc (w.2.2.2.2.2.getD j O7)=true∧(j=0∨tlt (w.2.2.2.2.2.getD (j-1) O7) (w.2.2.2.2.2.getD j O7)=true):=λ j hj=>by
  have:=h5 j (Zx.2 hj)
  rwa [Va,Fub,decide_eq_true_iff]at this
 have hx:∀ x∈w.2.2.2.2.1,Bc x.1=true∧H9 x.2.1=true∧sle w.2.2.2.1 x.2.1.1=false:=λ x hx=>by
  have:=h4.1 x hx
  unfold E1a at this
  rwa [Va,Va,Vv]at this
 refine⟨h1,?_,⟨by omega,λ n hm=>?_⟩,h3,by omega,λ x hm=>⟨(hx x hm).1,(hx x hm).2.1,hb x hm⟩,λ x hm=>(hx x hm).2.2,Etb (λ j h0 hj=>?_),λ s hs=>?_⟩
 ·refine Idb (by rw[Wc,Wc];omega) (λ j a b=>?_)
  rw[Wc]at a b
  have:=(hnode j a).1
  rw[Vd,Vd,Vk a,Vk b]at this
  rw[Hob,Hob]
  exact this
 ·obtain⟨j,hj,rfl⟩:=Zl.1 hm
  have:=(hnode j hj).2
  rw[Vd,Vk hj]at this
  exact⟨this,hn _ hm⟩
 ·rcases (hsp j hj).2 with h|h
  ·omega
  ·exact h
 ·obtain⟨j,hj,rfl⟩:=Zl.1 hs
  have:=(hsp j hj).1
  rwa [Vd,Vk hj]at this

section
open Go
end

section
open Go
end

def WIm.wo {m:Nat} {w:Wld} (h:WIm m w) (hk:Py w=true):WO w:=Eub hk (λ n hn=>(h.2.2.1.2 n hn).1.2) (λ x hx=>(h.2.2.2.1.2 x hx).2.2)
def WO.wim {w:Wld} (h:WO w) {m:Nat} (h2:200≤m) (hs:w.2.2.2.2.2.length≤m):WIm m w:=
 ⟨Lr h.ring,by have:=h.dlen;omega,⟨h.ns.1,λ n hn=>Rs (h.ns.2 n hn)⟩,⟨by have:=h.wlen;omega,λ x hx=>⟨Jh (h.wok x hx).1,by have:=(K8.1 (h.wok x hx).2.1).2.1;omega,(h.wok x hx).2.2⟩⟩,hs,λ s hs=>Jh (h.spn s hs)⟩
def Aqa {m:Nat} {w:Wld} (h:WIm m w) (hm:m≤2000000):Tot (λ k=>Ad k w) (λ r=>r=w):=by
 obtain⟨h1,h2,⟨h3,h4⟩,⟨h5,h6⟩,h7,h8⟩:=h
 unfold Ad
 refine Flb (by rw[Vj];omega) (Fpb (Gza w.2.1 h1) ?_)
 refine Flb (by rw[Vj];omega) ?_
 rw[Vz,Vz]
 refine Feb (Q:=λ r=>r=(w,Hsa,(w.1,w.2.1,w.2.2.1,w.2.2.2.1,[],w.2.2.2.2.2))) ?_ ?_
 ·refine Fmb (L:=λ k i (s:List Nod)=>Du k w.2.2.1 (w.2.2.1.length:Int) i w Hsa (w.1,w.2.1,s,w.2.2.2.1,[],w.2.2.2.2.2)) (Q:=λ r=>r=(w,Hsa,(w.1,w.2.1,w.2.2.1,w.2.2.2.1,[],w.2.2.2.2.2))) w.2.2.1.length (λ j s=>s=w.2.2.1.take j) ?_ ?_ 0 [] (Vs _) rfl
  ·rintro s rfl
   simp (disch:=omega) only [Du,dF]
   exact Fdb (by rw[Yt])
  ·rintro j s hj rfl next
   have hm:=h4 _ (A4 (d:=Ar) hj)
   have e0:w.2.2.1.getD j ((0:Int),(([],[]),([],[])))=w.2.2.1.getD j Ar:=rfl
   have hl:(w.2.2.1.take j).length=j:=by rw[Vu];omega
   simp (disch:=omega) only [Du,dT,Vb,w64,e0]
   refine Fpb (Qw _ hm) ?_
   refine Flb (by rw[hl];simp only[Vc,Vj];omega) (next _ ?_)
   rw[Wj hj,Vd,Vk hj]
   rfl
 ·rintro r rfl
  refine Feb (Q:=λ r=>r=(Hsa,w)) ?_ (by rintro r rfl;exact Fdb rfl)
  refine Fmb (L:=λ k i (s:List Wri)=>Dt k w.2.2.2.2.1 (w.2.2.2.2.1.length:Int) i Hsa (w.1,w.2.1,w.2.2.1,w.2.2.2.1,s,w.2.2.2.2.2)) (Q:=λ r=>r=(Hsa,w)) w.2.2.2.2.1.length (λ j s=>s=w.2.2.2.2.1.take j) ?_ ?_ 0 [] (Vs _) rfl
  ·rintro s rfl
   simp (disch:=omega) only [Dt,dF]
   exact Fdb (by rw[Yt])
  ·rintro j s hj rfl next
   have hm:=(h6 _ (A4 (d:=Sya) hj)).2.1
   have e0:w.2.2.2.2.1.getD j ((⟨#[]⟩:ByteArray),((((0:Int),((0:Int),(0:Int))),(false,[])),false))=w.2.2.2.2.1.getD j Sya:=rfl
   have hl:(w.2.2.2.2.1.take j).length=j:=by rw[Vu];omega
   simp (disch:=omega) only [Dt,dT,Vb,w64,e0,Hia (f:=(w.2.2.2.2.1.getD j Sya).2.1) (by omega),Vo]
   refine Flb (by rw[hl];simp only[Vc,Vj];omega) (next _ ?_)
   rw[Wj hj,Vd,Vk hj]
   rfl

section
open Go
end

def Ofa (c:Cur) (hc:Bn c):Tot (λ k=>Jr k c) (λ r=>r.1.length≤6∧Bn r.2):=by
 unfold Jr
 refine Feb (W5 c hc) ?_
 rintro⟨l,c1⟩ ⟨hl,k1⟩
 dsimp only at hl k1 ⊢
 obtain⟨x,c2,e2,_,_,_,k2⟩:=Ac c1 k1 8 (by decide)
 refine Fpb (Fqb (Q:=λ r=>r=(x,c2)) e2 rfl) ?_
 dsimp only
 refine Fjb (λ _=>?_) (λ _=>Fjb (λ _=>?_) (λ _=>Fdb ⟨by dsimp only;omega,k2⟩))
 ·obtain⟨y,c3,e3,y0,y1,_,k3⟩:=Ac c2 k2 4 (by decide)
  have y1:=y1 (by decide)
  refine Fpb (Fqb (Q:=λ r=>r=(y,c3)) e3 rfl) ?_
  exact Fhb y0 (Fhb (by dsimp only;omega) (Fdb ⟨by dsimp only;rw[List.length_take];omega,k3⟩))
 ·obtain⟨y,c3,e3,_,k3⟩:=Ja c2 k2 [(-1),4] (by decide) (by decide)
  refine Fpb (Fqb (Q:=λ r=>r=(y,c3)) e3 rfl) ?_
  exact Fhb (by omega) (Fdb ⟨by dsimp only;rw[List.length_set];omega,k3⟩)

section
open Go
end

def NW (w v:Wld):Prop:=∃ ns,v=wN w ns∧NO w.2.2.1 ns
def NW.refl {w:Wld} (h:WO w):NW w w:=⟨w.2.2.1,rfl,h.ns,rfl⟩
def NW.trans {u v w:Wld} (h1:NW u v) (h2:NW v w):NW u w:=by
 obtain⟨a,rfl,ha⟩:=h1
 obtain⟨b,rfl,hb⟩:=h2
 exact⟨b,rfl,hb.1,hb.2.trans ha.2⟩
def NW.wo {w v:Wld} (h:NW w v) (hw:WO w):WO v:=by
 obtain⟨ns,rfl,hn⟩:=h
 exact hw.other hn
def NW.len {w v:Wld} (h:NW w v):v.2.2.1.length=w.2.2.1.length:=by
 obtain⟨ns,rfl,hn⟩:=h
 exact hn.len
def Tia {w:Wld} (h:WO w) {i:Nat} (hi:i<w.2.2.1.length) (rc:List Int):NW w (Ng w i rc).2:=Msa h.ns hi
def Tja {w:Wld} (h:WO w) {i:Nat} (hi:i<w.2.2.1.length) (rc:List Int):NW w (Mt w i rc).2:=Mra h.ns hi
def NW.sp {w v:Wld} (h:NW w v):v.2.2.2.2.2=w.2.2.2.2.2:=by obtain⟨ns,rfl,_⟩:=h;rfl

def Evb (nm:List ByteArray) (ws:List Wri):Prop:=nm.length≤60∧∀ x∈ws,x.1∈nm
section
variable {nm:List ByteArray} {ws:List Wri} {sp:List ByteArray} {d:Dsk} {s:ByteArray} {f:Fil}
def Yia (hN:Evb nm ws) (hf:IsW ws s f):s∈nm:=by
 obtain⟨x,hx,rfl,_⟩:=hf
 exact hN.2 x hx
def X1a (hN:Evb nm ws) (hd:Aq d=true) (h:DI ws sp d):(∀ x∈d.1,x.1∈nm)∧∀ x∈d.2,x.1∈nm:=by
 refine⟨λ x hx=>?_,λ x hx=>?_⟩
 ·obtain⟨f,hf,_⟩:=(h x.1).1 _ (Jia (Mb hd) hx)
  exact Yia hN hf
 ·obtain⟨f,hf,_⟩:=(h x.1).2.1 _ (Jia (Oo hd) hx)
  exact Yia hN hf
end
def Tka (id:Int):∀ {ns ms:List Nod} (i:Nat),ms.map (·.1)=ns.map (·.1)→atN ms id i=atN ns id i
 |[],[],_,_=>rfl
 |n::ns,m::ms,i,h=>by
  rw[Yi,Yi,Yj]at h
  unfold atN
  rw[h.1,Tka id (i+1) h.2]
 |[],_::_,_,h=>by cases h
 |_::_,[],_,h=>by cases h
def B2b {ns ms:List Nod} (h:ms.map (·.1)=ns.map (·.1)) (ids:List Int):whr ms ids=whr ns ids:=by
 unfold whr
 congr 1
 funext id
 exact Tka id 0 h
def Tla (id:Int):∀ (ns:List Nod) (i:Nat),(ns.map (·.1)).Nodup→(atN ns id i).length≤1
 |[],_,_=>Vs _
 |n::ns,i,h=>by
  rw[Yi,Yq]at h
  have ih:=Tla id ns (i+1) h.2
  unfold atN
  cases hx:n.1==id with
  |false=>exact ih
  |true=>
   have he:atN ns id (i+1)=[]:=by
    refine Hgb.2 λ x hx'=>?_
    obtain⟨j,h1,h2,_⟩:=(E6a id ns (i+1) x).1 hx'
    refine h.1 ?_
    rw[eq_of_beq hx,← h2]
    exact Yo (A4 h1)
   rw[cond_true,he]
   exact Vw _
def Tma {ns:List Nod} (h:(ns.map (·.1)).Nodup):∀ (ids:List Int),(whr ns ids).length≤ids.length
 |[]=>Vs _
 |id::ids=>by
  rw[E4a,Ve,Vc]
  have:=Tla id ns 0 h
  have:=Tma h ids
  omega
def WO.nodup {w:Wld} (h:WO w):(w.2.2.1.map (·.1)).Nodup:=by
 rw[h.ids]
 have hp:=(Fg.1 (Cd.1 h.ring).1).1
 have hq:(w.1.map (·.1)).Pairwise (λ a b=>a<b):=Zj.2 hp
 exact hq.imp (λ {a b} hab e=>by omega)
def WO.prim5 {w:Wld} (h:WO w) (s:ByteArray):(O4 w s).length≤5:=by
 have h1:=Tma h.nodup (V2 w.2.1 s)
 have h2:=(Aka h.ring s).2.1
 have h3:=(Cd.1 h.ring).2.1
 unfold O4
 omega
def inP (w:Wld) (t:ByteArray) (m:Nat):Bool:=Mr (O4 w t) (m:Int)
def WI.push {w:Wld} (h:WI w) {i:Nat} (hi:i<w.2.2.1.length) (s:ByteArray) (rc:List Int):WI (E9a w i s rc).2:=h.other' (Moa h.wok h.nodes hi h.ring h.ids)

section
variable {α:Type} {bs:Option α→α→α} {le:α→α→Prop} {P:Nat→Bool} {c c':Nat→Option α} {k n:Nat}
end
def NR.trans {ws:List Wri} {sp:List ByteArray} {a b c:List Nod} (h1:NR ws sp a b) (h2:NR ws sp b c):NR ws sp a c:=⟨h2.1,h2.2.1.trans h1.2.1,λ s hs st h=>h2.2.2 s hs st (h1.2.2 s hs st h)⟩
section
variable {w v u:Wld}
end

def Tna (n:Nod) (l:List Row):Nod:=(n.1,n.2.1,Nl n.2.2.1 l,n.2.2.2)
def NI.rows {ws:List Wri} {sp:List ByteArray} {n:Nod} (h:NI ws sp n):Bo n.2.2.1:=(Kw.1 (B1.1 h.1.1).2.2.2.1).1
def WI.give {w:Wld} (h:WI w) (m:Nat) (hm:m<w.2.2.1.length):Bo (w.2.2.1.getD m Ar).2.2.1:=(h.nodes _ (A4 (d:=Ar) hm)).rows

def NG.rows {n:Nod} (h:NG n):Bo n.2.2.1:=(Kw.1 (B1.1 h.1).2.2.2.1).1

section
open Go
end

section
variable {nm:List ByteArray} {w:Wld}
end

section
open Go
end

section
open Go
end

def R5 (rc:List Int):Prop:=∀ j,j<5→rch rc j=1

def Cga {w:Wld} (h:WO w) {src:Int} {l:List Row} {self:Bool} {rc:List Int} (h5r:R5 rc) (hl:J7 l=true) (hr:∀ m,m<w.2.2.1.length→(Nl (w.2.2.1.getD m Ar).2.2.1 l).length≤60):
  (Kx w src l self rc).2=true∧∀ m,m<w.2.2.1.length→(Kx w src l self rc).1.getD m Ar=bif inP w Xk m&&!((m:Int)==src&&!self) then Tna (w.2.2.1.getD m Ar) l else w.2.2.1.getD m Ar:=by
 have h5:(D8 w).length≤5:=h.prim5 Xk
 have hat:=λ x=>N6 (w:=w) (x:=x)
 have hls:=(Kw.1 hl).1
 unfold Kx inP
 rw[show O4 w Xk=D8 w from rfl]
 generalize D8 w=ps at *
 have key:=Mc (st:=gst src l self rc ps) (n:=ps.length) (a:=(w.2.2.1,true)) (λ j (a:List Nod×Bool)=>a.2=true∧a.1.length=w.2.2.1.length∧
  ∀ m,m<w.2.2.1.length→a.1.getD m Ar=bif Mr (ps.take j) (m:Int)&&!((m:Int)==src&&!self) then Tna (w.2.2.1.getD m Ar) l else w.2.2.1.getD m Ar) ?_ ?_
 ·rw[Yt]at key
  exact⟨key.1,key.2.2⟩
 ·exact⟨rfl,rfl,λ m _=>rfl⟩
 ·rintro j ⟨ns,g⟩ hj ⟨a1,a3,a4⟩
  dsimp only at a1 a3 a4
  subst a1
  have hpx:=hat _ (A4 (d:=0) hj)
  obtain⟨p,hp⟩:∃ p:Nat,ps.getD j 0=(p:Int):=⟨(ps.getD j 0).toNat,by omega⟩
  have htk:∀ x:Int,Mr (ps.take (j+1)) x=(Mr (ps.take j) x||(p:Int)==x):=λ x=>by
   have e:ps[j]=(p:Int):=by rw[← hp,Vd,Vk hj];rfl
   unfold Mr
   rw[Wj hj,List.any_append,e,H2b,List.any_nil,Icb]
  have hpn:p<ns.length:=by omega
  have idem:Tna (Tna (w.2.2.1.getD p Ar) l) l=Tna (w.2.2.1.getD p Ar) l:=by
   unfold Tna
   dsimp only
   rw[A2a (NG.rows (h.ns.get (i:=p) (by omega))) hls]
  have htkp:((p:Int)==src&&!self)=false→tk (ns.getD p Ar) l=(true,Tna (w.2.2.1.getD p Ar) l):=λ hps=>by
   have e:=a4 p (by omega)
   rw[hps,Zv,Fwb]at e
   have hroom:=hr p (by omega)
   rw[e]
   unfold tk
   cases Mr (ps.take j) (p:Int) with
   |true=>
    rw[cond_true,show (Nl (Tna (w.2.2.1.getD p Ar) l).2.2.1 l)=Nl (w.2.2.1.getD p Ar).2.2.1 l from congrArg (λ n:Nod=>n.2.2.1) idem,decide_eq_false (by omega),cond_false]
    rfl
   |false=>
    rw[cond_false,decide_eq_false (by omega),cond_false]
    rfl
  unfold gst
  rw[hp,Vb,h5r j (by omega)]
  cases hpi:(p:Int)==src&&!self with
  |true=>
   refine⟨rfl,a3,λ m hm=>?_⟩
   show ns.getD m Ar=_
   rw[a4 m hm,htk]
   by_cases hmp:p=m
   ·subst hmp
    rw[hpi,Zd,Yd,Yd]
   ·rw[show ((p:Int)==(m:Int))=false by rw[beq_eq_false_iff_ne];omega,Icb]
  |false=>
   rw[htkp hpi]
   refine⟨rfl,by show (ns.set _ _).length=_;rw[Vx];exact a3,λ m hm=>?_⟩
   show (ns.set p (Tna (w.2.2.1.getD p Ar) l)).getD m Ar=_
   rw[Ld (show m<ns.length by omega),htk]
   by_cases hpm:p=m
   ·subst hpm
    rw[if_pos rfl,beq_self_eq_true,Bool.or_true,Vy,hpi,Zv,cond_true]
   ·rw[if_neg hpm,show ((p:Int)==(m:Int))=false by rw[beq_eq_false_iff_ne];omega,Icb]
    exact a4 m hm
def Oga {w:Wld} (h:WO w) {i:Nat} (hi:i<w.2.2.1.length) {rc:List Int} (h5r:R5 rc) (hr:∀ m,m<w.2.2.1.length→(Nl (w.2.2.1.getD m Ar).2.2.1 ((w.2.2.1.getD i Ar).2.2.2.take 1)).length≤60) (hz:((w.2.2.1.getD i Ar).2.2.2.length:Int)≠0) {m:Nat} (hm:m<w.2.2.1.length):
  (Ng w i rc).2.2.2.1.getD m Ar=Dib (bif inP w Xk m then Tna (w.2.2.1.getD m Ar) ((w.2.2.1.getD i Ar).2.2.2.take 1) else w.2.2.1.getD m Ar) (bif decide (m=i) then (w.2.2.1.getD m Ar).2.2.2.drop 1 else (w.2.2.1.getD m Ar).2.2.2):=by
 have hni:=h.ns.get hi
 have hq:=(B1.1 hni.1).1
 obtain⟨g1,g2⟩:=Cga h (src:=(i:Int)) (self:=true) h5r (N7 hq) hr
 have gl:(O6 w i rc).1.length=w.2.2.1.length:=(Tt (N7 hq) h.ns).2
 rw[show Kx w (i:Int) ((w.2.2.1.getD i Ar).2.2.2.take 1) true rc=O6 w i rc from rfl]at g1 g2
 have g3:=g2 m hm
 rw[Zd,Yd,Zv,Fwb]at g3
 unfold Ng
 rw[beq_eq_false_iff_ne.2 hz]
 show (bif (O6 w i rc).2 then (O6 w i rc).1.set i (Dib ((O6 w i rc).1.getD i Ar) ((w.2.2.1.getD i Ar).2.2.2.drop 1)) else (O6 w i rc).1).getD m Ar=_
 rw[g1,cond_true,Ld (by omega)]
 by_cases hmi:i=m
 ·subst hmi
  rw[if_pos rfl,g3,decide_eq_true rfl,cond_true]
 ·rw[if_neg hmi,g3,decide_eq_false (λ e=>hmi e.symm),cond_false]
  cases inP w Xk m<;>rfl
def Oha {w:Wld} (h:WO w) {i:Nat} (hi:i<w.2.2.1.length) {rc:List Int} (h5r:R5 rc) (hr:∀ m,m<w.2.2.1.length→(Nl (w.2.2.1.getD m Ar).2.2.1 (w.2.2.1.getD i Ar).2.2.1).length≤60) (hz:((w.2.2.1.getD i Ar).2.2.1.length:Int)≠0) {m:Nat} (hm:m<w.2.2.1.length):
  (Mt w i rc).2.2.2.1.getD m Ar=bif inP w Xk m&&!(decide (m=i)) then Tna (w.2.2.1.getD m Ar) (w.2.2.1.getD i Ar).2.2.1 else bif decide (m=i)&&!(inP w Xk i) then Haa (w.2.2.1.getD m Ar) else w.2.2.1.getD m Ar:=by
 have hni:=h.ns.get hi
 have hro:=(B1.1 hni.1).2.2.2.1
 obtain⟨g1,g2⟩:=Cga h (src:=(i:Int)) (self:=false) h5r hro hr
 have gn:=Eca (w:=w) (src:=(i:Int)) (self:=false) (rc:=rc) hro h.ns
 have gl:(Mw w i rc).1.length=w.2.2.1.length:=gn.len
 rw[show Kx w (i:Int) (w.2.2.1.getD i Ar).2.2.1 false rc=Mw w i rc from rfl]at g1 g2 gn
 have eL:Mr (D8 (wN w (Mw w i rc).1)) (i:Int)=inP w Xk i:=by
  unfold D8 inP O4
  rw[show (wN w (Mw w i rc).1).2.2.1=(Mw w i rc).1 from rfl,B2b gn.2]
 have gq:∀ q:Nat,((q:Int)==(i:Int)&&!false)=decide (q=i):=λ q=>by
  rw[Zv,Fwb]
  by_cases e:q=i
  ·rw[e,beq_self_eq_true,decide_eq_true rfl]
  ·rw[decide_eq_false e,beq_eq_false_iff_ne];omega
 have g3:=g2 m hm
 rw[gq]at g3
 unfold Mt
 rw[beq_eq_false_iff_ne.2 hz]
 show (bif (Mw w i rc).2&&!(Mr (D8 (wN w (Mw w i rc).1)) (i:Int)) then (Mw w i rc).1.set i (Haa ((Mw w i rc).1.getD i Ar)) else (Mw w i rc).1).getD m Ar=_
 rw[g1,Vy,eL]
 cases hin:inP w Xk i with
 |true=>
  rw[Zd,cond_false,g3,Yd,cond_false]
 |false=>
  rw[Zv,cond_true,Ld (by omega)]
  by_cases hmi:i=m
  ·subst hmi
   rw[if_pos rfl,decide_eq_true rfl,hin,Ze,cond_false,Vy,cond_true]
   rw[decide_eq_true rfl,hin,Ze,cond_false]at g3
   rw[g3]
  ·rw[if_neg hmi,g3,decide_eq_false (λ e=>hmi e.symm),Ze,cond_false]
def Toa {a:List Row} (h:Bo a):Nl a a=a:=A1a (N2 h) h λ s=>by
 rw[Um h h]
 cases Lw a s with
 |none=>rfl
 |some b=>show some (mx b b)=some b;unfold mx;cases Mu b b<;>rfl

def Ln (m:Nat) (d:Dsk):Prop:=d.1.length≤m∧d.2.length≤m
def Ro (m:Nat) (n:Nod):Prop:=Ln m n.2.1∧n.2.2.1.length≤m
def Ln.up {m k:Nat} {d:Dsk} (h:Ln m d) (hk:m≤k):Ln k d:=⟨by have:=h.1;omega,by have:=h.2;omega⟩
def Ro.up {m k:Nat} {n:Nod} (h:Ro m n) (hk:m≤k):Ro k n:=⟨h.1.up hk,by have:=h.2;omega⟩
def Tpa (l:List Nmd) (s:ByteArray) (b:List Int):(wr l s b).length≤l.length+1:=by
 show (ins (cut l s) (s,b)).length≤_
 rw[A2b]
 have:=(Mq (l:=l) (s:=s)).length_le
 omega
def B3b (d:Dsk) (s:ByteArray):(sy d s).length≤d.2.length+1:=by
 unfold sy
 cases gt d.1 s with
 |some b=>exact Tpa d.2 s b
 |none=>have:=(Mq (l:=d.2) (s:=s)).length_le;show (cut d.2 s).length≤_;omega
def Dub {m:Nat} {d:Dsk} {s:ByteArray} {b:List Int} (h:Ln m d):Ln (m+1) (wrD d s b).1:=by
 unfold wrD
 cases decide (b.length≤400)&&decide ((wr d.1 s b).length≤60) with
 |false=>exact h.up (by omega)
 |true=>exact⟨by have:=Tpa d.1 s b;have:=h.1;show (wr d.1 s b).length≤_;omega,by have:=h.2;show d.2.length≤_;omega⟩
def Dvb {m:Nat} {d:Dsk} {s:ByteArray} (h:Ln m d):Ln (m+1) (syD d s).1:=by
 unfold syD
 cases decide ((sy d s).length≤60) with
 |false=>exact h.up (by omega)
 |true=>exact⟨by have:=h.1;show d.1.length≤_;omega,by have:=B3b d s;have:=h.2;show (sy d s).length≤_;omega⟩
def Dwb {m:Nat} {d:Dsk} {s:ByteArray} (h:Ln m d):Ln (m+1) (rmD d s).1:=by
 unfold rmD
 cases (gt d.1 s).isSome with
 |false=>exact h.up (by omega)
 |true=>exact⟨by have:=(Mq (l:=d.1) (s:=s)).length_le;have:=h.1;show (cut d.1 s).length≤_;omega,by have:=h.2;show d.2.length≤_;omega⟩
def B4b {m:Nat} {d:Dsk} {s:ByteArray} {f:Fil} {sure:Bool} (hd:DG d) (h:Ln m d):Ln (m+1) (keep d s f sure).1:=by
 unfold keep
 cases hc:Aq d&&(Bc s&&H9 f) with
 |false=>exact h.up (by omega)
 |true=>
  rw[Va,Va]at hc
  rw[cond_true]
  have l1:Ln (m+1) (wr d.1 s (Lo f),d.2):=⟨by have:=Tpa d.1 s (Lo f);have:=h.1;dsimp only;omega,by have:=h.2;dsimp only;omega⟩
  rcases Uv (f:=f) (sure:=sure) hd hc.2.1 with k|⟨o,_,_,_,_,h5⟩|⟨_,_,_,_,h5⟩
  ·rw[k];exact h.up (by omega)
  ·rcases h5 with⟨_,e⟩|⟨_,e⟩<;>rw[e]
   ·exact h.up (by omega)
   ·exact⟨by have:=h.1;dsimp only;omega,by have:=B3b d s;have:=h.2;dsimp only;omega⟩
  ·rcases h5 with⟨_,e⟩|⟨_,e⟩<;>rw[e]
   ·exact l1
   ·exact⟨l1.1,by have a:=B3b (wr d.1 s (Lo f),d.2) s;have b:=h.2;dsimp only at a b ⊢;omega⟩
def B5b {m:Nat} {d:Dsk} {s:ByteArray} {n:Int} (h:Ln m d):Ln (m+1) (Dra d s n).1:=by
 unfold Dra
 cases gt d.1 s with
 |none=>exact h.up (by omega)
 |some b=>
  dsimp only
  cases inR n 0 (8*(b.length:Int)-1) with
  |false=>exact h.up (by omega)
  |true=>
   refine⟨by have:=Tpa d.1 s (M8 b n.toNat);have:=h.1;show (wr d.1 s (M8 b n.toNat)).length≤_;omega,?_⟩
   show (bif decide (gt d.2 s=some b) then wr d.2 s (M8 b n.toNat) else d.2).length≤m+1
   cases decide (gt d.2 s=some b) with
   |true=>have:=Tpa d.2 s (M8 b n.toNat);have:=h.2;show (wr d.2 s (M8 b n.toNat)).length≤_;omega
   |false=>have:=h.2;show d.2.length≤_;omega
def B6b {m:Nat} {n:Nod} {s:ByteArray} {f:Fil} {sure:Bool} (hn:NG n) (h:Ro m n):Ro (m+1) (Bpb n s f sure).1:=by
 unfold Bpb Ux
 cases Lb n&&(Bc s&&H9 f) with
 |false=>exact h.up (by omega)
 |true=>
  cases (n.2.2.2.length:Int)==60 with
  |true=>exact h.up (by omega)
  |false=>exact⟨B4b hn.g h.1,by have:=h.2;show n.2.2.1.length≤_;omega⟩
def B7b {m:Nat} {n:Nod} {s:ByteArray} {b:Int} (h:Ro m n):Ro (m+1) (Gra n s b).1:=by
 unfold Gra
 cases Lb n&&((lkD n.2.1 s).2==0&&(Dra n.2.1 s b).2) with
 |false=>exact h.up (by omega)
 |true=>exact⟨B5b h.1,by have:=h.2;show n.2.2.1.length≤_;omega⟩
def Mta {m k:Nat} {n:Nod} {l:List Row} (h:Ro m n) (hl:l.length≤k):Ro (m+k) (B3a n l).1:=by
 unfold B3a
 cases Lb n&&J7 l with
 |false=>exact h.up (by omega)
 |true=>
  cases decide ((Nl n.2.2.1 l).length > 60) with
  |true=>exact h.up (by omega)
  |false=>exact⟨h.1.up (by omega),by have:=(Dja n.2.2.1 l).2;have:=h.2;show (Nl n.2.2.1 l).length≤_;omega⟩
def Oia:∀ (n:Nat) (i:Int) (c:Cur) (a0 a1:List Nmd) (d:Dsk) (m:Nat),i=n→n≤6→Bn c→DG d→Ln m d→
  Tot (λ k=>Ae k i c.1 c.2.1 c.2.2 a0 a1 d.1 d.2) (λ r=>(DG (r.2.2.1,r.2.2.2.1)∧Ln (m+n) (r.2.2.1,r.2.2.2.1))∧Bn r.2.2.2.2):=by
 intro n
 induction n with
 |zero=>
  intro i c a0 a1 d m hi h6 hc hd hm
  refine Tot.succ ?_
  simp only[Ae]
  exact Fib (by omega) (Fdb ⟨⟨hd,hm⟩,hc⟩)
 |succ n ih=>
  intro i c a0 a1 d m hi h6 hc hd hm
  refine Tot.succ ?_
  simp only[Ae]
  refine Fhb (by omega) ?_
  rw[w64 (n:=i-1) (by omega) (by omega)]
  obtain⟨s,c1,e1,hs,k1⟩:=M6 c hc
  refine Fpb (Fqb (Q:=λ r=>r=(s,c1)) e1 rfl) ?_
  obtain⟨x,c2,e2,_,_,_,k2⟩:=Ac c1 k1 6 (by decide)
  refine Fpb (Fqb (Q:=λ r=>r=(x,c2)) e2 rfl) ?_
  dsimp only
  obtain⟨hsh,hsn⟩:=Kh s hs
  rw[show m+(n+1)=(m+1)+n by omega]
  have wr:Tot (λ k=>(C8 k c2).bind λ r5=>(B9 k r5.1).bind λ r6=>(B3 k (d.1,d.2) s r6).bind λ r7=>Ae k (i-1) r5.2.1 r5.2.2.1 r5.2.2.2 a0 a1 r7.1.1 r7.1.2) (λ r=>(DG (r.2.2.1,r.2.2.2.1)∧Ln (m+1+n) (r.2.2.1,r.2.2.2.1))∧Bn r.2.2.2.2):=by
   refine Feb (N1 c2 k2) (λ f hf=>?_)
   refine Fpb (Pw f.1) ?_
   refine Fpb (Uu hd.1 hsn (by have:=Xd f.1;omega)) ?_
   exact ih (i-1) f.2 a0 a1 _ _ (by omega) (by omega) hf.2 (D5b hd hsn (Pa _)) (Dub hm)
  have sy:Tot (λ k=>(Ah k (d.1,d.2) s).bind λ r4=>Ae k (i-1) c2.1 c2.2.1 c2.2.2 a0 a1 r4.1.1 r4.1.2) (λ r=>(DG (r.2.2.1,r.2.2.2.1)∧Ln (m+1+n) (r.2.2.1,r.2.2.2.1))∧Bn r.2.2.2.2):=by
   refine Fpb (Qu hd.1 hsn) ?_
   exact ih (i-1) c2 a0 a1 _ _ (by omega) (by omega) k2 (Vxa hd hsn) (Dvb hm)
  refine Fjb (λ _=>?_) (λ _=>Fjb (λ h=>Fjb (λ _=>sy) (λ _=>wr)) (λ _=>Fjb (λ _=>sy) (λ _=>wr)))
  refine Fpb (Px hd.1 hsh) ?_
  exact ih (i-1) c2 a0 a1 _ _ (by omega) (by omega) k2 (S5a hd) (Dwb hm)
def B8b (c:Cur) (hc:Bn c):Tot (λ k=>Dq k c) (λ r=>(DG r.1∧Ln 6 r.1)∧Bn r.2):=by
 unfold Dq
 obtain⟨x,c2,e2,h0,h1,_,k2⟩:=Ac c hc 7 (by decide)
 have h1:=h1 (by decide)
 refine Fpb (Fqb (Q:=λ r=>r=(x,c2)) e2 rfl) ?_
 exact Feb (Oia x.toNat x c2 [] [] ([],[]) 0 (by omega) (by omega) k2 dg0 ⟨Vw _,Vw _⟩) (λ r hr=>Fdb ⟨⟨hr.1.1,hr.1.2.up (by omega)⟩,hr.2⟩)
def Dxb (c:Cur) (hc:Bn c):Tot (λ k=>Id k c) (λ r=>Ln 7 r.1):=by
 unfold Id
 refine Feb (B8b c hc) (λ d hd=>?_)
 obtain⟨⟨hd,hm⟩,k0⟩:=hd
 have hin:=Nz hd.1
 obtain⟨m1,m2⟩:=hm
 obtain⟨x,c2,e2,_,_,_,k2⟩:=Ac d.2 k0 12 (by decide)
 refine Fpb (Fqb (Q:=λ r=>r=(x,c2)) e2 rfl) ?_
 refine Fjb (λ _=>?_) (λ _=>Fjb (λ _=>?_) (λ _=>Fdb ⟨by dsimp only;omega,by dsimp only;omega⟩))
 ·obtain⟨s,c3,e3,hs,k3⟩:=Ma c2 k2
  refine Fpb (Fqb (Q:=λ r=>r=(s,c3)) e3 rfl) ?_
  exact Flb (by simp only[List.length_cons,List.length_nil];omega) (Fdb ⟨by simp only[List.length_append,List.length_cons,List.length_nil];omega,by dsimp only;omega⟩)
 ·obtain⟨s,c3,e3,hs,k3⟩:=Ma c2 k2
  refine Fpb (Fqb (Q:=λ r=>r=(s,c3)) e3 rfl) ?_
  obtain⟨y,c4,e4,y0,y1,_,k4⟩:=Ac c3 k3 2 (by decide)
  have y1:=y1 (by decide)
  refine Fpb (Fqb (Q:=λ r=>r=(y,c4)) e4 rfl) ?_
  dsimp only
  rw[w64 (n:=400+y) (by omega) (by omega)]
  exact Fhb rfl (Fhb (by omega) (Fhb (by omega) (Flb (by simp only[List.length_cons,List.length_nil];omega) (Fdb ⟨by dsimp only;omega,by simp only[List.length_append,List.length_cons,List.length_nil];omega⟩))))
def K2a:∀ (m:Nat) (i:Int) (c:Cur) (z:Nod) (n:Nod) (q:Nat),i=m→m≤6→Bn c→NG n→Ro q n→
  Tot (λ k=>Cw k i c.1 c.2.1 c.2.2 z.1 z.2.1.1 z.2.1.2 z.2.2.1 z.2.2.2 n.1 n.2.1.1 n.2.1.2 n.2.2.1 n.2.2.2) (λ r=>∃ c' n',Bn c'∧(NG n'∧Ro (q+m) n')∧r=(c'.1,c'.2.1,c'.2.2,z.1,z.2.1.1,z.2.1.2,z.2.2.1,z.2.2.2,n'.1,n'.2.1.1,n'.2.1.2,n'.2.2.1,n'.2.2.2)):=by
 intro m
 induction m with
 |zero=>
  intro i c z n q hi h6 hc hn hq
  refine Tot.succ ?_
  simp only[Cw]
  exact Fib (by omega) (Fdb ⟨c,n,hc,⟨hn,hq⟩,rfl⟩)
 |succ m ih=>
  intro i c z n q hi h6 hc hn hq
  refine Tot.succ ?_
  simp only[Cw]
  refine Fhb (by omega) ?_
  rw[w64 (n:=i-1) (by omega) (by omega)]
  obtain⟨s,c1,e1,hs,k1⟩:=M6 c hc
  refine Fpb (Fqb (Q:=λ r=>r=(s,c1)) e1 rfl) ?_
  refine Feb (N1 c1 k1) (λ f hf=>?_)
  obtain⟨b,c2,e2,k2⟩:=Kt f.2 hf.2 3 (by decide)
  refine Fpb (Fqb (Q:=λ r=>r=(b,c2)) e2 rfl) ?_
  refine Fpb (Ada n s f.1 (!b) (Rs hn) (Kh s hs).1) ?_
  rw[show q+(m+1)=(q+1)+m by omega]
  exact ih (i-1) c2 z _ _ (by omega) (by omega) k2 (Y3a hn) (B6b hn hq)
def X2a (c:Cur) (hc:Bn c):Tot (λ k=>D9 k c) (λ r=>(NG r.1∧Ro 11 r.1)∧Bn r.2):=by
 unfold D9
 obtain⟨x,c1,e1,x0,x1,_,k1⟩:=Ac c hc 6 (by decide)
 have x1:=x1 (by decide)
 refine Fpb (Fqb (Q:=λ r=>r=(x,c1)) e1 rfl) ?_
 refine Fpb (Fqb (Q:=λ r=>r=(x,([],[]),[],[])) (by rw[Sm,Cy.2 ⟨by dsimp only;omega,by dsimp only;omega⟩];rfl) rfl) ?_
 obtain⟨y,c2,e2,y0,y1,_,k2⟩:=Ac c1 k1 6 (by decide)
 have y1:=y1 (by decide)
 refine Fpb (Fqb (Q:=λ r=>r=(y,c2)) e2 rfl) ?_
 have hn0:NG (x,(([]:List Nmd),([]:List Nmd)),([]:List Row),([]:List Row)):=⟨B1.2 ⟨(by simp),⟨by dsimp only;omega,by dsimp only;omega⟩,(show Aq ([],[])=true by decide),(show J7 []=true by decide),(by simp)⟩,λ x hx=>(by cases hx),λ x hx=>(by cases hx)⟩
 have hr0:Ro 0 (x,(([]:List Nmd),([]:List Nmd)),([]:List Row),([]:List Row)):=⟨⟨Vw _,Vw _⟩,Vw _⟩
 refine Feb (K2a y.toNat y c2 Ar _ 0 (by omega) (by omega) k2 hn0 hr0) ?_
 rintro r ⟨c3,n,k3,⟨hn,hq⟩,rfl⟩
 have hq:Ro 5 n:=hq.up (by omega)
 have rot:∀ (n:Nod) (c:Cur),NG n→Ro 10 n→Bn c→Tot (λ k=>(Bm c).bind λ r9=>(A3 r9.2 40).bind λ r10=>(E5 k n r9.1 r10.1).bind λ r11=>some (r11.1,r10.2)) (λ r=>(NG r.1∧Ro 11 r.1)∧Bn r.2):=by
  intro n c hn hq hc
  obtain⟨s,c1,e1,hs,k1⟩:=M6 c hc
  refine Fpb (Fqb (Q:=λ r=>r=(s,c1)) e1 rfl) ?_
  obtain⟨x,c2,e2,x0,x1,_,k2⟩:=Ac c1 k1 40 (by decide)
  have x1:=x1 (by decide)
  refine Fpb (Fqb (Q:=λ r=>r=(x,c2)) e2 rfl) ?_
  refine Fpb (Sk n s x (Rs hn) (by omega) (by omega)) ?_
  exact Fdb ⟨⟨M7a hn,B7b hq⟩,k2⟩
 obtain⟨b,c4,e4,k4⟩:=Kt c3 k3 2 (by decide)
 refine Fpb (Fqb (Q:=λ r=>r=(b,c4)) e4 rfl) ?_
 refine Fjb (λ _=>?_) (λ _=>?_)
 ·refine Feb (Sh c4 k4) ?_
  rintro⟨l,c5⟩ ⟨k5,hl,hl5⟩
  refine Fpb (M5a n l (Rs hn) (Uw (Gsa hl (by dsimp only at hl5;omega)))) ?_
  obtain⟨b,c6,e6,k6⟩:=Kt c5 k5 3 (by decide)
  refine Fpb (Fqb (Q:=λ r=>r=(b,c6)) e6 rfl) ?_
  exact Fjb (λ _=>rot _ c6 (Dta hn) (Mta hq hl5) k6) (λ _=>Fdb ⟨⟨Dta hn,(Mta hq hl5).up (by omega)⟩,k6⟩)
 ·obtain⟨b,c6,e6,k6⟩:=Kt c4 k4 3 (by decide)
  refine Fpb (Fqb (Q:=λ r=>r=(b,c6)) e6 rfl) ?_
  exact Fjb (λ _=>rot n c6 hn (hq.up (by omega)) k6) (λ _=>Fdb ⟨⟨hn,hq.up (by omega)⟩,k6⟩)
def B9b (c:Cur) (hc:Bn c):Tot (λ k=>Ed k c) (λ r=>Ro 20 r.1):=by
 unfold Ed
 refine Feb (X2a c hc) ?_
 rintro⟨n,c1⟩ ⟨⟨hg,hq⟩,k1⟩
 have hn:=Rs hg
 have hq60:=(B1.1 hg.1).2.2.2.2
 have hr:Ro 20 n:=hq.up (by omega)
 obtain⟨x,c2,e2,_,_,_,k2⟩:=Ac c1 k1 12 (by decide)
 refine Fpb (Fqb (Q:=λ r=>r=(x,c2)) e2 rfl) ?_
 refine Fjb (λ _=>?_) (λ _=>Fjb (λ _=>?_) (λ _=>Fjb (λ _=>?_) (λ _=>Fjb (λ _=>?_) (λ _=>Fjb (λ _=>?_) (λ _=>Fdb hr)))))
 ·obtain⟨y,c3,e3,_,k3⟩:=Ja c2 k2 [(-1),20,21] (by decide) (by decide)
  refine Fpb (Fqb (Q:=λ r=>r=(y,c3)) e3 rfl) ?_
  exact Fdb hr
 ·refine Feb (Dxb c2 k2) (λ r h=>Fdb ⟨h.up (by omega),hr.2⟩)
 ·refine Feb (V9 c2 k2) (λ r h=>Fdb ⟨hr.1,by have:=h.2.1;dsimp only;omega⟩)
 ·obtain⟨s,c3,e3,hs,k3⟩:=Ma c2 k2
  refine Fpb (Fqb (Q:=λ r=>r=(s,c3)) e3 rfl) ?_
  exact Flb (by dsimp only at hq60 ⊢;simp only[List.length_cons,List.length_nil];omega) (Fdb hr)
 ·refine Feb (Caa Ar n (by unfold Kd;decide) 61 c2 n.2.2.2 (by omega) k2 hn.2.2 (by dsimp only at hq60;omega)) ?_
  rintro r ⟨c3,q,k3,hq,rfl⟩
  exact Fdb hr
def RoW (w:Wld):Prop:=∀ n∈w.2.2.1,Ro 20 n
def Yja {ns:List Nod} (h:∀ n∈ns,Ro 20 n) {i:Nat} {x:Nod} (hx:Ro 20 x):∀ n∈ns.set i x,Ro 20 n:=λ n hn=>by
 rcases Wo hn with hn|rfl
 ·exact h n hn
 ·exact hx
def Ewb {m:Nat} {w:Wld} {c:Cur} (hc:Bn c) (h:WIp m w) (hm:m≤900) (hr:RoW w):Tot (λ k=>Dr k c w w) (λ r=>RoW r.1):=by
 have h':=h
 obtain⟨⟨h1,h2,⟨h3,h4⟩,⟨h5,h6⟩,h7,h8⟩,h0⟩:=h'
 unfold Dr
 refine Feb (R4 (w:=w) h.1 (by omega)) ?_
 rintro r rfl
 refine Fhb (by omega) ?_
 obtain⟨i,c1,e1,i0,i1,_,k1⟩:=Ac c hc (r.2.2.1.length:Int) (by omega)
 have i1:=i1 (by omega)
 refine Feb (Fqb (Q:=λ r=>r=(i,c1)) e1 rfl) ?_
 rintro _ rfl
 obtain⟨x,c2,e2,_,_,_,k2⟩:=Ac c1 k1 10 (by decide)
 refine Feb (Fqb (Q:=λ r=>r=(x,c2)) e2 rfl) ?_
 rintro _ rfl
 dsimp only
 refine Fjb (λ _=>?_) (λ _=>?_)
 ·obtain⟨y,c3,e3,_,k3⟩:=Ja c2 k2 [0,1,2,6] (by decide) (by decide)
  refine Feb (Fqb (Q:=λ r=>r=(y,c3)) e3 rfl) ?_
  rintro _ rfl
  exact Fdb hr
 refine Fjb (λ _=>?_) (λ _=>?_)
 ·refine Fhb (by omega) (Feb (B9b c2 k2) ?_)
  rintro⟨n,c3⟩ g1
  exact Fhb i0 (Fhb i1 (Fdb (Yja hr g1)))
 refine Fjb (λ _=>?_) (λ _=>?_)
 ·obtain⟨y,c3,e3,k3⟩:=Dsa c2 k2
  refine Feb (Fqb (Q:=λ r=>r=(y,c3)) e3 rfl) ?_
  rintro _ rfl
  exact Fdb hr
 refine Fjb (λ _=>?_) (λ _=>?_)
 ·exact Fkb (λ _=>Fhb (by omega) (Fdb hr)) (λ _=>Fdb hr)
 refine Fjb (λ _=>?_) (λ _=>?_)
 ·obtain⟨s,c3,e3,hs,k3⟩:=Ma c2 k2
  refine Feb (Fqb (Q:=λ r=>r=(s,c3)) e3 rfl) ?_
  rintro _ rfl
  refine Feb (Gna c3 k3) ?_
  rintro⟨f,c4⟩ ⟨⟨g0,g1⟩,k4⟩
  exact Flb (by simp only[Vc,Vj];omega) (Fdb hr)
 refine Fjb (λ _=>?_) (λ _=>?_)
 ·obtain⟨s,c3,e3,hs,k3⟩:=Ma c2 k2
  refine Feb (Fqb (Q:=λ r=>r=(s,c3)) e3 rfl) ?_
  rintro _ rfl
  exact Flb (by simp only[Vc,Vj];omega) (Fdb hr)
 refine Fjb (λ _=>?_) (λ _=>?_)
 ·have hm:=hr _ (A4 (d:=Ar) (show i.toNat<r.2.2.1.length by omega))
  exact Fhb (by omega) (Fhb i0 (Fhb i1 (Fdb (Yja hr ⟨⟨Vs _,Vs _⟩,hm.2⟩))))
 refine Fjb (λ _=>?_) (λ _=>Fdb hr)
 refine Fkb (λ hd=>?_) (λ _=>Fdb hr)
 obtain⟨y,c3,e3,_,k3⟩:=Ja c2 k2 [0,5,21] (by decide) (by decide)
 refine Feb (Fqb (Q:=λ r=>r=(y,c3)) e3 rfl) ?_
 rintro _ rfl
 exact Fhb (by omega) (Fdb hr)
def Hka {nm:List ByteArray} {l:List Nmd} (hs:Fy l) (h:∀ x∈l,x.1∈nm):l.length≤nm.length:=by
 have hp:(l.map (·.1)).Pairwise (λ a b=>tlt a b=true):=Zj.2 hs
 have hd:(l.map (·.1)).Nodup:=hp.imp (λ {a b} hab e=>by subst e;rw[Ig]at hab;cases hab)
 have:=Tv _ nm hd (λ s hs=>by obtain⟨x,hx,rfl⟩:=Yu.1 hs;exact h x hx)
 rwa [Wc]at this
def Bab {nm:List ByteArray} {ws:List Wri} (hN:∀ x∈ws,x.1∈nm) {a:List Row} (hs:Bo a) (h:∀ r∈a,Ana ws r=true):a.length≤nm.length:=by
 have hp:(a.map (·.1)).Pairwise (λ a b=>tlt a b=true):=Zj.2 hs
 have hd:(a.map (·.1)).Nodup:=hp.imp (λ {a b} hab e=>by subst e;rw[Ig]at hab;cases hab)
 have:=Tv _ nm hd (λ s hs=>by
  obtain⟨r,hr,rfl⟩:=Yu.1 hs
  obtain⟨x,hx,rfl⟩:=Tu.1 (h r hr)
  exact hN x hx)
 rwa [Wc]at this
def WD.ro {w:Wld} (h:WD w):RoW w:=λ n hn=>by
 have hni:=h.1.nodes n hn
 have hF:Evb Ku w.2.2.2.2.1:=⟨by decide,h.2⟩
 obtain⟨n1,n2⟩:=X1a hF hni.1.g.1 hni.2.1
 have a:=Hka (Mb hni.1.g.1) n1
 have b:=Hka (Oo hni.1.g.1) n2
 have c:=Bab h.2 hni.rows hni.2.2.1
 have e:Ku.length=6:=rfl
 exact⟨⟨by omega,by omega⟩,by omega⟩
def Bbb (c:Cur) (hc:Bn c) (n:Int) (hn:n≤1000):Tot (λ k=>I1 k c n) (λ r=>RoW r.1):=by
 unfold I1
 refine Feb (W6 (I:=WD) (λ _ h=>h.1) (λ _ _ h hb hn=>h.ev hb hn) (λ _ _ _ hb=>⟨Tea hb,λ x hx=>nomatch hx⟩) c hc n hn) ?_
 rintro⟨w,c1⟩ ⟨h,k1⟩
 dsimp only at h k1 ⊢
 obtain⟨b,c2,e2,k2⟩:=Kt c1 k1 8 (by decide)
 refine Fpb (Fqb (Q:=λ r=>r=(b,c2)) e2 rfl) ?_
 refine Fjb (λ _=>?_) (λ _=>Fdb h.ro)
 refine Feb (Ewb k2 (m:=200) ⟨h.1.wim,by have:=h.1.nlen;have:=h.1.dlen;omega⟩ (by decide) h.ro) ?_
 intro r g
 exact Fdb g

section
open Go
end

section
open Go
end

def byH (w:Wld) (i:Int) (r:Bool×Wld):Wld×Bool:=bif Py w&&inR i 0 ((w.2.2.1.length:Int)-1) then (bif r.1 then (r.2,true) else (w,false)) else (w,false)
def Tw {w:Wld} {i:Int} {r:Bool×Wld} (h:(byH w i r).2=true):Py w=true∧0≤i∧i<(w.2.2.1.length:Int)∧r.1=true∧byH w i r=(r.2,true):=by
 unfold byH at h ⊢
 cases hk:Py w&&inR i 0 ((w.2.2.1.length:Int)-1)
 ·rw[hk]at h;cases h
 rw[hk,cond_true]at h
 rw[cond_true]
 rw[Va,Cy]at hk
 cases hr:r.1
 ·rw[hr]at h;cases h
 exact⟨hk.1,hk.2.1,by omega,rfl,rfl⟩
def Hla {w:Wld} {i:Int} {r:Bool×Wld} (h:(byH w i r).2=false):byH w i r=(w,false):=by
 unfold byH at h ⊢
 cases hk:Py w&&inR i 0 ((w.2.2.1.length:Int)-1)
 ·rfl
 rw[hk,cond_true]at h
 rw[cond_true]
 cases hr:r.1
 ·rfl
 rw[hr]at h;cases h
def Oja {w:Wld} (hw:WIn w) (i:Int):Tot (λ k=>Hi k w i) (λ r=>r=(Py w&&inR i 0 ((w.2.2.1.length:Int)-1))):=by
 have hl:=hw.2.2.1.1
 unfold Hi
 refine Feb (Sza w hw) ?_
 rintro _ rfl
 cases Py w with
 |false=>exact Ffb rfl (Fdb rfl)
 |true=>
  refine Fgb rfl ?_
  rw[w64 (n:=(w.2.2.1.length:Int)-1) (by omega) (by omega)]
  simp only[Th,Vo]
  exact Fdb rfl
def Tqa {w:Wld} (hw:WIn w) (i:Int):Tot (λ k=>Eh k w i) (λ r=>r=(Py w&&inR i 0 ((w.2.2.1.length:Int)-1))):=by
 have hl:=hw.2.2.1.1
 unfold Eh
 refine Feb (T0a w hw) ?_
 rintro _ rfl
 cases Py w with
 |false=>exact Ffb rfl (Fdb rfl)
 |true=>
  refine Fgb rfl ?_
  rw[w64 (n:=(w.2.2.1.length:Int)-1) (by omega) (by omega)]
  simp only[Nb,Vo]
  exact Fdb rfl
section
variable {m:Nat} {w:Wld}
def Mua (h:WIm m w) (hm:m≤1999000) (i:Int) {f:Nat→Wld→Option (Bool×Wld)} {r:Bool×Wld} (hf:WO w→∀ j:Nat,i=(j:Int)→j<w.2.2.1.length→Tot (λ k=>f k w) (λ x=>x=r)):
  Tot (λ k=>(Ad k w).bind λ r1=>(Hi k w i).bind λ r2=>cond (!r2) ((Ad k w).bind λ r3=>some (r3,false)) ((f k r1).bind λ r4=>cond (!r4.1) ((Ad k w).bind λ r5=>some (r5,false)) (some (r4.2,true)))) (λ x=>x=byH w i r):=by
 have hw:=h.win (by omega)
 refine Feb (Aqa h (by omega)) ?_
 rintro v rfl
 refine Feb (Oja hw i) ?_
 rintro _ rfl
 unfold byH
 cases hk:Py v&&inR i 0 ((v.2.2.1.length:Int)-1) with
 |false=>
  refine Fgb rfl (Feb (Aqa h (by omega)) ?_)
  rintro _ rfl
  exact Fdb rfl
 |true=>
  rw[Va,Cy]at hk
  refine Ffb rfl (Feb (hf (h.wo hk.1) i.toNat (by omega) (by omega)) ?_)
  rintro r rfl
  cases hr:r.1 with
  |false=>
   refine Fgb rfl (Feb (Aqa h (by omega)) ?_)
   rintro _ rfl
   exact Fdb rfl
  |true=>exact Ffb rfl (Fdb rfl)
def Mva (h:WIm m w) (hm:m≤1999000) (i:Int) {f:Nat→Wld→Option (Bool×Wld)} {r:Bool×Wld} (hf:WO w→∀ j:Nat,i=(j:Int)→j<w.2.2.1.length→Tot (λ k=>f k w) (λ x=>x=r)):
  Tot (λ k=>(Am k w).bind λ r1=>(Eh k w i).bind λ r2=>cond (!r2) ((Am k w).bind λ r3=>some (r3,false)) ((f k r1).bind λ r4=>cond (!r4.1) ((Am k w).bind λ r5=>some (r5,false)) (some (r4.2,true)))) (λ x=>x=byH w i r):=by
 have hw:=h.win (by omega)
 refine Feb (R4 h (by omega)) ?_
 rintro v rfl
 refine Feb (Tqa hw i) ?_
 rintro _ rfl
 unfold byH
 cases hk:Py v&&inR i 0 ((v.2.2.1.length:Int)-1) with
 |false=>
  refine Fgb rfl (Feb (R4 h (by omega)) ?_)
  rintro _ rfl
  exact Fdb rfl
 |true=>
  rw[Va,Cy]at hk
  refine Ffb rfl (Feb (hf (h.wo hk.1) i.toNat (by omega) (by omega)) ?_)
  rintro r rfl
  cases hr:r.1 with
  |false=>
   refine Fgb rfl (Feb (R4 h (by omega)) ?_)
   rintro _ rfl
   exact Fdb rfl
  |true=>exact Ffb rfl (Fdb rfl)
def Hma (h:WIm m w) (hm:m≤1999000) (i:Int) (rc:List Int):Tot (λ k=>J6 k w i rc) (λ r=>r=byH w i (Ng w i.toNat rc)):=
 Mua h hm i (f:=λ k w=>Bq k w i rc) (λ ho j e hj=>by subst e;exact Tha w j rc (Lr ho.ring) ho.ns hj)
def Tra (h:WIm m w) (hm:m≤1999000) (i:Int) (rc:List Int):Tot (λ k=>Jf k w i rc) (λ r=>r=byH w i (Ng w i.toNat rc)):=
 Mva h hm i (f:=λ k w=>D5 k w i rc) (λ ho j e hj=>by subst e;exact Hca w j rc (Lr ho.ring) ho.ns hj)
def Ara (h:WIm m w) (hm:m≤1999000) (i:Int) (rc:List Int):Tot (λ k=>Hd k w i rc) (λ r=>r=byH w i (Mt w i.toNat rc)):=
 Mua h hm i (f:=λ k w=>Ba k w i rc) (λ ho j e hj=>by subst e;exact Tga w j rc (Lr ho.ring) ho.ns hj)
def Tsa (h:WIm m w) (hm:m≤1999000) (i:Int) (rc:List Int):Tot (λ k=>It k w i rc) (λ r=>r=byH w i (Mt w i.toNat rc)):=
 Mva h hm i (f:=λ k w=>D6 k w i rc) (λ ho j e hj=>by subst e;exact Hba w j rc (Lr ho.ring) ho.ns hj)
end
def Tta (c:Cur) (hc:Bn c) (w:Wld) (hn:w.2.2.1.length≤2000000):∃ i c',Km c w=some (i,c')∧Bn c':=by
 obtain⟨b,c1,e1,k1⟩:=Kt c hc 12 (by decide)
 obtain⟨x,c2,e2,_,k2⟩:=Ja c1 k1 [(-1),12] (by decide) (by decide)
 obtain⟨y,c3,e3,_,_,_,k3⟩:=Ac c1 k1 (w.2.2.1.length:Int) (by omega)
 unfold Km
 simp only[e1,e2,e3,Vo]
 cases b with
 |true=>exact⟨x,c2,rfl,k2⟩
 |false=>
  cases (w.2.2.1.length:Int)==0 with
  |true=>exact⟨x,c2,rfl,k2⟩
  |false=>exact⟨y,c3,rfl,k3⟩
def Bcb (c:Cur) (hc:Bn c) (n:Int) (hn:n≤1000):Tot (λ k=>I1 k c n) (λ r=>(WIp 201 r.1∧Bn r.2)∧RoW r.1):=(Oda c hc n hn).and (Bbb c hc n hn)
def Hna (a:List Int) (hb:(a.length:Int)≤1048576):Tot (λ k=>Er k a) (λ r=>WIp 201 r.1∧RoW r.1):=by
 unfold Er
 refine Feb (Q:=λ r=>WIp 201 r.1∧RoW r.1) ?_ (λ r hr=>Fdb hr)
 unfold F6
 refine Feb (Raa a hb) ?_
 intro c hc
 obtain⟨n,e,n0,n1⟩:=Wxa a hb 24 (by decide)
 refine Feb (Fqb (Q:=λ r=>r=n) e rfl) ?_
 rintro _ rfl
 refine Feb (Bcb c hc _ (by omega)) ?_
 rintro⟨w,c1⟩ ⟨⟨hp,k1⟩,hr⟩
 dsimp only at hp k1 hr ⊢
 obtain⟨i,c2,e2,k2⟩:=Tta c1 k1 w hp.1.2.2.1.1
 refine Feb (Fqb (Q:=λ r=>r=(i,c2)) e2 rfl) ?_
 rintro _ rfl
 refine Feb (Ofa c2 k2) ?_
 intro r _
 exact Fdb ⟨hp,hr⟩
def Tua:R5 [1,1,1,1,1]:=λ j hj=>by
 match j,hj with
 |0,_=>rfl
 |1,_=>rfl
 |2,_=>rfl
 |3,_=>rfl
 |4,_=>rfl

end Go.Proofs.YtiiekghlhfbmmaaGreat.Vf

section
set_option linter.unusedVariables false
set_option linter.unusedSimpArgs false
namespace Go.Proofs.YtiiekghlhfbmmaaGreat.Pure
open Go Go.RowKit Go.Proofs.YtiiekghlhfbmmaaGreat.Vf
theorem Bdb (l:List Int) (n:Int) (hl:l.length≤1000000000):Tot (λ k=>Le k l n) (λ r=>r=Mr l n):=by
 unfold Le Mr
 refine Feb (Q:=λ r=>r=bif l.any (· == n) then .inl true else .inr ()) ?_ (by
  rintro r rfl
  cases l.any (· == n)<;>exact Fdb rfl)
 rw[Sxa _ 0]
 refine Fob (L:=λ k i=>Jk k l n i) _ _ () ?_ ?_
 ·simp (disch:=omega) only [Jk,dF]
  exact Fdb rfl
 ·intro j hj Q yes no
  simp (disch:=omega) only [Jk,dT,Vb,w64]
  exact Fjb (λ h1=>Fdb (yes h1)) (λ h1=>no h1)
theorem Dyb {w z:Wld} {i:Int} {b:Bool} {rc:List Int} {l:List Int} {r:Row} (hl:l.length≤1000000) (hat:∀ x∈l,0≤x∧x<(z.2.2.1.length:Int)) (hf:∀ n∈z.2.2.1,n.2.2.1.length≤1000) (h:∀ x∈l,mrg (z.2.2.1.getD x.toNat Ar).2.2.1 r=(z.2.2.1.getD x.toNat Ar).2.2.1):
  Tot (λ k=>C5 k i b rc l 0 w z r) (λ x=>x = .inr (i,b,rc,l,w)):=by
 refine Fmb (L:=λ k j (_:Unit)=>C5 k i b rc l j w z r) (Q:=λ x=>x = .inr (i,b,rc,l,w)) l.length (λ _ _=>True) ?_ ?_ 0 () (Vs _) trivial
 ·intro _ _
  simp (disch:=omega) only [C5,dF]
  exact Fdb rfl
 ·intro j _ hj _ next
  have hx:=A4 (d:=0) hj
  have h1:=hat _ hx
  have h2:=h _ hx
  obtain⟨p,ep⟩:∃ p:Nat,l.getD j 0=(p:Int):=⟨(l.getD j 0).toNat,by omega⟩
  rw[ep]at h1 h2
  rw[Vb]at h2
  have h3:=hf _ (A4 (d:=Ar) (show p<z.2.2.1.length by omega))
  have f1:Few (z.2.2.1.getD p Ar).2.2.1:=by unfold Few;omega
  have e0:z.2.2.1.getD p ((0:Int),(([],[]),([],[])))=z.2.2.1.getD p Ar:=rfl
  simp (disch:=omega) only [C5,dT,Vb,w64,ep,e0]
  refine Fpb (G1a _ r f1) ?_
  rw[h2]
  refine Fpb (V8 _ _ f1 f1) (Ffb (by rw[decide_eq_true rfl];rfl) (next () trivial))
theorem Dzb {w z:Wld} {n:Nat} {l:List Int} (hn:n<w.2.2.1.length) (hwl:w.2.2.1.length≤1000000) (hw:(w.2.2.1.getD n Ar).2.2.1.length≤1000) (hl:l.length≤1000000) (hat:∀ x∈l,0≤x∧x<(z.2.2.1.length:Int)) (hf:∀ n∈z.2.2.1,n.2.2.1.length≤1000) (h:∀ x∈l,Nl (z.2.2.1.getD x.toNat Ar).2.2.1 (w.2.2.1.getD n Ar).2.2.1=(z.2.2.1.getD x.toNat Ar).2.2.1):
  Tot (λ k=>B5 k (n:Int) l 0 w z) (λ x=>x = .inr ((n:Int),l,z)):=by
 refine Fmb (L:=λ k j (_:Unit)=>B5 k (n:Int) l j w z) (Q:=λ x=>x = .inr ((n:Int),l,z)) l.length (λ _ _=>True) ?_ ?_ 0 () (Vs _) trivial
 ·intro _ _
  simp (disch:=omega) only [B5,dF]
  exact Fdb rfl
 ·intro j _ hj _ next
  have hx:=A4 (d:=0) hj
  have h1:=hat _ hx
  have h2:=h _ hx
  obtain⟨p,ep⟩:∃ p:Nat,l.getD j 0=(p:Int):=⟨(l.getD j 0).toNat,by omega⟩
  rw[ep]at h1 h2
  rw[Vb]at h2
  have h3:=hf _ (A4 (d:=Ar) (show p<z.2.2.1.length by omega))
  have f1:Few (z.2.2.1.getD p Ar).2.2.1:=by unfold Few;omega
  have e0:z.2.2.1.getD p ((0:Int),(([],[]),([],[])))=z.2.2.1.getD p Ar:=rfl
  have e1:w.2.2.1.getD n ((0:Int),(([],[]),([],[])))=w.2.2.1.getD n Ar:=rfl
  simp (disch:=omega) only [B5,dT,Vb,w64,ep,e0,e1]
  refine Fpb (Bza _ _ (by omega)) ?_
  rw[h2]
  refine Fpb (V8 _ _ f1 f1) (Ffb (by rw[decide_eq_true rfl];rfl) (next () trivial))
theorem Tva (w:Wld) (i:Nat) (rc rd:List Int):(Ng w i rc).1=(Ng w i rd).1:=by
 unfold Ng
 cases ((w.2.2.1.getD i Ar).2.2.2.length:Int)==0<;>rfl
theorem Twa (w:Wld) (i:Nat) (rc rd:List Int):(Mt w i rc).1=(Mt w i rd).1:=by
 unfold Mt
 cases ((w.2.2.1.getD i Ar).2.2.1.length:Int)==0<;>rfl
theorem Beb {a:List Row} (ha:Bo a) (x:Row):mrg (mrg a x) x=mrg a x:=by
 have:=A2a (b:=[x]) ha (Gjb _ _)
 exact this
theorem K3a {v:Wld} (hv:WO v):∀ n∈v.2.2.1,n.2.2.1.length≤1000:=λ n hn=>by
 have:=(Kw.1 (B1.1 (hv.ns.2 n hn).1).2.2.2.1).2.2
 omega
theorem E0b {w:Wld} (ho:WO w) (hro:RoW w) {n:Nat} (hn:n<w.2.2.1.length) (hz:((w.2.2.1.getD n Ar).2.2.1.length:Int)≠0):
  Tot (λ k=>(B5 k (n:Int) (D8 w) 0 w (Mt w n [1,1,1,1,1]).2).bind λ r17=>Sum.elim (λ y18=>some y18) (λ z19=>cond (decide ((0:Int)≤z19.1)) (cond (decide (z19.1<(List.length z19.2.2.2.2.1:Int))) ((Le k z19.2.1 z19.1).bind λ r21=>some (((List.length (List.getD z19.2.2.2.2.1 (Int.toNat z19.1) ((0:Int),(([],[]),([],[])))).2.2.1:Int)==0)==(!r21))) none) none) r17) (λ r=>r=true):=by
 have hwl:=ho.ns.1
 have ny:=Tja ho hn [1,1,1,1,1]
 have hy:=ny.wo ho
 have hyl:=ny.len
 have hll:=O5 (Lr ho.ring) hwl
 have h5:=ho.prim5 Xk
 have hlist:D8 w=O4 w Xk:=rfl
 have hrow:=λ m (hm:m<w.2.2.1.length)=>Oha ho hn Tua (λ m hm=>by
  have a1:=(Dja (w.2.2.1.getD m Ar).2.2.1 (w.2.2.1.getD n Ar).2.2.1).2
  have a2:=(hro _ (A4 (d:=Ar) hm)).2
  have a3:=(hro _ (A4 (d:=Ar) hn)).2
  omega) hz (m:=m) hm
 generalize (Mt w n [1,1,1,1,1]).2=z at *
 have hs:=λ m (hm:m<w.2.2.1.length)=>NG.rows (ho.ns.get hm)
 refine Feb (Dzb hn (by have:=ho.dlen;have:=ho.nlen;omega) (K3a ho _ (A4 hn)) (by rw[hlist];omega) (λ x hx=>by have:=Nq (w:=w) (s:=Xk) hx;omega) (K3a hy) (λ x hx=>?_)) ?_
 ·have hxa:=Nq (w:=w) (s:=Xk) hx
  obtain⟨m,rfl⟩:∃ m:Nat,x=(m:Int):=⟨x.toNat,by omega⟩
  have hm:m<w.2.2.1.length:=by omega
  have hin:inP w Xk m=true:=Oj.2 hx
  rw[Vb]
  by_cases e:m=n
  ·subst e
   rw[hrow m hm,hin,decide_eq_true rfl]
   exact Toa (hs m hm)
  ·rw[hrow m hm,hin,decide_eq_false e]
   exact A2a (hs m hm) (hs n hn)
 rintro _ rfl
 dsimp only[Sum.elim]
 refine Fhb (by omega) (Fhb (by omega) (Feb (Bdb _ _ (by rw[hlist];omega)) ?_))
 rintro _ rfl
 refine Fdb ?_
 have hr:=hrow n hn
 rw[decide_eq_true rfl]at hr
 have e1:Mr (D8 w) (n:Int)=inP w Xk n:=rfl
 rw[e1]
 have e2:z.2.2.1.getD (Int.toNat (n:Int)) ((0:Int),(([],[]),([],[])))=z.2.2.1.getD n Ar:=by rw[Vb];rfl
 rw[e2,hr]
 cases inP w Xk n with
 |false=>rfl
 |true=>
  show ((((w.2.2.1.getD n Ar).2.2.1.length:Int)==0)==false)=true
  rw[beq_eq_false_iff_ne.2 hz]
  rfl
theorem FnToldRows:∀ (a0:List Int),Ty.fit ti (.sl 5 (.i .u8)) a0→∃ k,Bz k a0=some true:=by
 intro a0 _
 refine Tot.law (f:=λ k=>Bz k a0) ?_
 unfold Bz N8
 refine Feb (Fdb (Q:=λ b=>b=decide ((List.length a0:Int) > 1048576)) rfl) ?_
 rintro b rfl
 refine Fkb (λ _=>Fdb rfl) (λ hb=>?_)
 refine Feb (Hna a0 (by omega)) ?_
 rintro⟨w,i,rc⟩ ⟨hp,hro⟩
 dsimp only at hp hro ⊢
 have hm:=hp.1
 have hml:(201:Nat)≤1999000:=by decide
 refine Feb (Hma hm hml i rc) ?_
 rintro _ rfl
 refine Feb (Tra hm hml i rc) ?_
 rintro _ rfl
 refine Feb (Ara hm hml i rc) ?_
 rintro _ rfl
 refine Feb (Tsa hm hml i rc) ?_
 rintro _ rfl
 have l1:(byH w i (Ng w i.toNat rc)).1.2.2.1.length=w.2.2.1.length:=by
  cases hg:(byH w i (Ng w i.toNat rc)).2 with
  |false=>rw[Hla hg]
  |true=>
   obtain⟨hk,i0,i1,_,e⟩:=Tw hg
   rw[e]
   exact(Tia (hm.wo hk) (show i.toNat<w.2.2.1.length by omega) rc).len
 have l2:(byH w i (Mt w i.toNat rc)).1.2.2.1.length=w.2.2.1.length:=by
  cases hg:(byH w i (Mt w i.toNat rc)).2 with
  |false=>rw[Hla hg]
  |true=>
   obtain⟨hk,i0,i1,_,e⟩:=Tw hg
   rw[e]
   exact(Tja (hm.wo hk) (show i.toNat<w.2.2.1.length by omega) rc).len
 refine Ffb (by rw[beq_self_eq_true];rfl) (Ffb (by rw[beq_self_eq_true];rfl) (Ffb (by rw[bne,l1,beq_self_eq_true];rfl) (Ffb (by rw[bne,l2,beq_self_eq_true];rfl) (Feb (Sq w hm.1 hm.2.2.1.1) ?_))))
 rintro _ rfl
 have rows:∀ n:Nat,i=(n:Int)→(byH w i (Mt w i.toNat rc)).2=true→WO w∧n<w.2.2.1.length∧((w.2.2.1.getD n Ar).2.2.1.length:Int)≠0∧byH w i (Mt w i.toNat [1,1,1,1,1])=((Mt w n [1,1,1,1,1]).2,true):=λ n en hg=>by
  obtain⟨hk,i0,i1,h1,_⟩:=Tw hg
  subst en
  have et:Int.toNat (n:Int)=n:=Vb n
  rw[et]at h1 ⊢
  refine⟨hm.wo hk,by omega,λ hz=>?_,?_⟩
  ·unfold Mt at h1
   rw[hz]at h1
   cases h1
  ·have h2:(Mt w n [1,1,1,1,1]).1=true:=by rw[Twa w n _ rc];exact h1
   unfold byH
   rw[hk,Cy.2 ⟨i0,by omega⟩,h2]
   rfl
 cases hg:(byH w i (Ng w i.toNat rc)).2 with
 |false=>
  refine Ffb rfl ?_
  cases hr:(byH w i (Mt w i.toNat rc)).2 with
  |false=>exact Ffb rfl (Fdb rfl)
  |true=>
   obtain⟨_,i0,i1,_,_⟩:=Tw hr
   obtain⟨n,rfl⟩:∃ n:Nat,i=(n:Int):=⟨i.toNat,by omega⟩
   obtain⟨ho,hn,hz,e2⟩:=rows n rfl hr
   refine Fgb rfl (Feb (Ara hm hml (n:Int) [1,1,1,1,1]) ?_)
   rintro _ rfl
   rw[e2]
   exact E0b ho hro hn hz
 |true=>
  obtain⟨hk,i0,i1,h1,_⟩:=Tw hg
  obtain⟨n,rfl⟩:∃ n:Nat,i=(n:Int):=⟨i.toNat,by omega⟩
  have et:Int.toNat (n:Int)=n:=Vb n
  have ho:=hm.wo hk
  have hn:n<w.2.2.1.length:=by omega
  rw[et]at h1
  have hz:((w.2.2.1.getD n Ar).2.2.2.length:Int)≠0:=λ hz=>by
   unfold Ng at h1
   rw[hz]at h1
   cases h1
  have e1:byH w (n:Int) (Ng w (Int.toNat (n:Int)) [1,1,1,1,1])=((Ng w n [1,1,1,1,1]).2,true):=by
   have h2:(Ng w n [1,1,1,1,1]).1=true:=by rw[Tva w n _ rc];exact h1
   rw[et]
   unfold byH
   rw[hk,Cy.2 ⟨i0,by omega⟩,h2]
   rfl
  refine Fgb rfl (Feb (Hma hm hml (n:Int) [1,1,1,1,1]) ?_)
  rintro _ rfl
  rw[e1]
  have hq60:=(B1.1 (ho.ns.get hn).1).2.2.2.2
  have nz:=Tia ho hn [1,1,1,1,1]
  have hzo:=nz.wo ho
  have hzl:=nz.len
  have hwl:=ho.ns.1
  have h5:=ho.prim5 Xk
  have hlist:D8 w=O4 w Xk:=rfl
  have hrow:=λ m (hm:m<w.2.2.1.length)=>Oga ho hn Tua (λ m hm=>by
   have a1:=(Dja (w.2.2.1.getD m Ar).2.2.1 ((w.2.2.1.getD n Ar).2.2.2.take 1)).2
   have a2:=(hro _ (A4 (d:=Ar) hm)).2
   have a3:((w.2.2.1.getD n Ar).2.2.2.take 1).length≤1:=by rw[Vu];omega
   omega) hz (m:=m) hm
  generalize (Ng w n [1,1,1,1,1]).2=z at *
  have q0:∃ r q,(w.2.2.1.getD n Ar).2.2.2=r::q:=by
   cases hq:(w.2.2.1.getD n Ar).2.2.2 with
   |nil=>rw[hq]at hz;exact absurd rfl hz
   |cons r q=>exact⟨r,q,rfl⟩
  obtain⟨r,q,hq⟩:=q0
  have e0:w.2.2.1.getD n ((0:Int),(([],[]),([],[])))=w.2.2.1.getD n Ar:=rfl
  have e3:z.2.2.1.getD n ((0:Int),(([],[]),([],[])))=z.2.2.1.getD n Ar:=rfl
  rw[et,e0,e3,hq]
  have hzq:(z.2.2.1.getD n Ar).2.2.2=q:=by
   rw[hrow n hn,decide_eq_true rfl,hq]
   rfl
  rw[hzq]
  dsimp only
  refine Fhb (by omega) (Fhb (by omega) (Fhb (by rw[Vc];omega) (Fhb (by omega) (Fhb (by omega) (Fhb (by omega) (Fhb (by omega) ?_))))))
  refine Ffb ?_ (Feb (Dyb (by rw[hlist];omega) (λ x hx=>by have:=Nq (w:=w) (s:=Xk) hx;omega) (K3a hzo) (λ x hx=>?_)) ?_)
  ·rw[hq]at hq60
   rw[Vc]at hq60 ⊢
   rw[w64 (by omega) (by omega),bne,show ((q.length:Int)==((q.length+1:Nat):Int)-1)=true from beq_iff_eq.2 (by omega)]
   rfl
  ·have hxa:=Nq (w:=w) (s:=Xk) hx
   obtain⟨m,rfl⟩:∃ m:Nat,x=(m:Int):=⟨x.toNat,by omega⟩
   have hm':m<w.2.2.1.length:=by omega
   have hin:inP w Xk m=true:=Oj.2 hx
   rw[Vb,hrow m hm',hin,hq]
   exact Beb (NG.rows (ho.ns.get hm')) r
  rintro _ rfl
  dsimp only[Sum.elim]
  cases hr:(byH w (n:Int) (Mt w n rc)).2 with
  |false=>exact Ffb rfl (Fdb rfl)
  |true=>
   obtain⟨_,_,hz',e2⟩:=rows n rfl (by rw[et];exact hr)
   refine Fgb rfl (Feb (Ara hm hml (n:Int) [1,1,1,1,1]) ?_)
   rintro _ rfl
   rw[e2]
   exact E0b ho hro hn hz'
end Go.Proofs.YtiiekghlhfbmmaaGreat.Pure
end
