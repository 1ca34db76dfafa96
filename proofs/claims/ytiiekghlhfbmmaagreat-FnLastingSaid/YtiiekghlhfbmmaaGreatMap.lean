import Derived.Test.YtiiekghlhfbmmaaGreatMao
set_option linter.all false
namespace Go.Proofs.YtiiekghlhfbmmaaGreat.Vf
open Go
open List (length getD)
open Int (toNat)
open Go.IntKind (wrap)
open BitVec (ofInt)

structure WI (w:Wld):Prop where
 ring:J6 w.2.1 w.1=true
 ids:w.2.2.1.map (·.1)=w.1.map (·.1)
 nodes:∀ n∈w.2.2.1,NI w.2.2.2.2.1 w.2.2.2.2.2 n
 clk:Hk w.2.2.2.1=true
 wlen:w.2.2.2.2.1.length≤200
 wok:Ewa w.2.2.2.2.1
 wge:∀ x∈w.2.2.2.2.1,sle w.2.2.2.1 x.2.1.1=false
 asc:w.2.2.2.2.1.Pairwise (λ a b=>sle a.2.1.1 b.2.1.1=true)
 kept:∀ x∈w.2.2.2.2.1,x.2.2=true→x.1∉w.2.2.2.2.2→KN w.2.2.1 x.1 x.2.1.1
 sps:TS w.2.2.2.2.2
 spw:∀ s∈w.2.2.2.2.2,∃ x∈w.2.2.2.2.1,x.1=s
theorem Gfb:LawfulBEq ByteArray := { eq_of_beq:=λ {a b} h=>Cu.1 (by rw[← Xr];exact h),rfl:=λ {a}=>by rw[Xr];exact Cu.2 rfl }
def Ui:∀ (p q:List ByteArray),p.Nodup→(∀ x∈p,x∈q)→p.length≤q.length
 |[],_,_,_=>Vp _
 |x::p,q,h,hs=>by
  haveI:=Gfb
  obtain⟨h1,h2⟩:=Yq.1 h
  have hx:=hs x Ya
  have hlen:(q.erase x).length=q.length-1:=Iyb hx
  have hpos:=Hwb hx
  have:=Ui p (q.erase x) h2 (λ y hy=>(Jkb (λ c=>by subst c;exact h1 hy)).2 (hs y (Vh _ hy)))
  rw[Vd]
  omega
namespace WI
variable {w:Wld}
def splen (h:WI w):w.2.2.2.2.2.length≤200:=by
 have hn:w.2.2.2.2.2.Nodup:=h.sps.imp (λ {a b} hab e=>by subst e;rw[Hs]at hab;cases hab)
 have:=Ui _ (w.2.2.2.2.1.map (·.1)) hn (λ s hs=>by
  obtain⟨x,hx,e⟩:=h.spw s hs
  exact Zb.2 ⟨x,hx,e⟩)
 rw[Wd]at this
 have:=h.wlen
 omega
def nlen (h:WI w):w.2.2.1.length=w.1.length:=by
 have:=congrArg length h.ids
 rwa [Wd,Wd]at this
def dlen (h:WI w):1≤w.1.length∧w.1.length≤12:=(Fb.1 (Bz.1 h.ring).1).2.2
def ns (h:WI w):NS w.2.2.1:=⟨by have:=h.nlen;have:=h.dlen;omega,λ n hn=>(h.nodes n hn).1⟩
def win (h:WI w):WIn w:=by
 have h1:=h.nlen
 have h2:=h.dlen
 have h3:=h.wlen
 have h4:=h.splen
 refine⟨Ma h.ring,by omega,⟨by omega,λ n hn=>Xb (h.nodes n hn).1⟩,⟨by omega,λ x hx=>Ib (h.wok x hx).1⟩,by omega,λ s hs=>?_⟩
 obtain⟨x,hx,e⟩:=h.spw s hs
 rw[← e]
 exact Ib (h.wok x hx).1
def other (h:WI w) {ns:List Nod} (hn:NR w.2.2.2.2.1 w.2.2.2.2.2 w.2.2.1 ns):WI (wN w ns):=
 ⟨h.ring,hn.2.1.trans h.ids,hn.1,h.clk,h.wlen,h.wok,h.wge,h.asc,λ x hx hk hs=>hn.2.2 _ hs _ (h.kept x hx hk hs),h.sps,h.spw⟩
def other' (h:WI w) {r:Bool×Wld} (hr:∃ ns,r.2=wN w ns∧NR w.2.2.2.2.1 w.2.2.2.2.2 w.2.2.1 ns):WI r.2:=by
 obtain⟨ns,e,hn⟩:=hr
 rw[e]
 exact h.other hn
def write (h:WI w) {s:ByteArray} {f:Fil} {rc:List Int} (hs:B0 s=true) (hf:F7 f=true) (hb:Al f.2.2) (hc:sle w.2.2.2.1 f.1=true) (hl:w.2.2.2.2.1.length<200):WI (Uf (w.1,w.2.1,w.2.2.1,f.1,w.2.2.2.2) s f rc).2:=by
 obtain⟨g1,g2,g3⟩:=F6b (ws:=w.2.2.2.2.1++[(s,f,decide ((wrN (w.1,w.2.1,w.2.2.1,f.1,w.2.2.2.2) s f rc).2.2≥quo w.2.1.1))]) (sp:=w.2.2.2.2.2) (w:=(w.1,w.2.1,w.2.2.1,f.1,w.2.2.2.2)) (rc:=rc) (s:=s) (f:=f)
  (λ x hx=>by
   rcases Vn.1 hx with hx|hx
   ·exact h.wok x hx
   ·rw[Vu.1 hx];exact⟨hs,hf,hb⟩)
  ⟨_,Vn.2 (.inr (Vu.2 rfl)),rfl,rfl⟩
  (λ n hn=>(h.nodes n hn).mono (λ x hx=>Vn.2 (.inl hx)) (λ _ h=>h))
 unfold Uf
 generalize wrN (w.1,w.2.1,w.2.2.1,f.1,w.2.2.2.2) s f rc=a at *
 have hq:quo w.2.1.1≥1:=by
  have:=(Bz.1 h.ring).2.1
  unfold quo
  omega
 exact {
  ring:=h.ring
  ids:=g1.2.1.trans h.ids
  nodes:=g1.1
  clk:=(J8.1 hf).1
  wlen:=by show (w.2.2.2.2.1++[_]).length≤200;rw[Ve];simp only[Vd,Vk];omega
  wok:=λ x hx=>by
   rcases Vn.1 hx with hx|hx
   ·exact h.wok x hx
   ·rw[Vu.1 hx];exact⟨hs,hf,hb⟩
  wge:=λ x hx=>by
   rcases Vn.1 hx with hx|hx
   ·exact Pj (Re hc) (h.wge x hx)
   ·rw[Vu.1 hx];exact Gk _
  asc:=Zg.2 ⟨h.asc,Igb _ _,λ x hx y hy=>by
   rw[Vu.1 hy]
   have:=h.wge x hx
   cases hxy:sle x.2.1.1 f.1
   case true=>rfl
   have:=Pj this hxy
   rw[this]at hc
   cases hc⟩
  kept:=λ x hx hk hsp=>by
   rcases Vn.1 hx with hx|hx
   ·exact g1.2.2 _ hsp _ (h.kept x hx hk hsp)
   ·rw[Vu.1 hx]at hk hsp ⊢
    have hk':a.2.2≥quo w.2.1.1:=of_decide_eq_true hk
    exact g2 hsp (by omega)
  sps:=h.sps
  spw:=λ s hs=>by
   obtain⟨x,hx,e⟩:=h.spw s hs
   exact⟨x,Vn.2 (.inl hx),e⟩ }
def ask (h:WI w) {s:ByteArray} {f:Fil} {t:Int} {rc:List Int} (hb:Al f.2.2) (hd:f.2.1=true→f.2.2=[]):WI (ask w s f t rc).2:=by
 unfold Vf.ask
 cases hs:B0 s
 ·exact h
 rw[Yw,cond_false]
 by_cases hl:(f.2.2.length:Int) > 200
 ·rw[decide_eq_true hl];exact h
 ·rw[decide_eq_false hl,cond_false]
  cases inR t 0 1000000000
  ·exact h
  rw[Yw,cond_false]
  cases hw:(w.2.2.2.2.1.length:Int)==200
  case true=>exact h
  rw[cond_false]
  have hw':=beq_eq_false_iff_ne.1 hw
  have hwl:=h.wlen
  obtain⟨n1,n2⟩:=Xz h.clk t 0
  cases he:(M5 w.2.2.2.1 t 0).1==w.2.2.2.1.1&&((M5 w.2.2.2.1 t 0).2.1==w.2.2.2.1.2.1&&(M5 w.2.2.2.1 t 0).2.2==w.2.2.2.1.2.2)
  case true=>exact h
  rw[cond_false]
  have hlt:sle w.2.2.2.1 (M5 w.2.2.2.1 t 0)=true:=by
   rcases n2 with n2|n2
   ·rw[n2,beq_self_eq_true,beq_self_eq_true,beq_self_eq_true]at he;cases he
   ·exact n2
  exact h.write (f:=(M5 w.2.2.2.1 t 0,f.2)) hs (J8.2 ⟨n1,by show f.2.2.length≤200;omega,hd⟩) hb hlt (by omega)
def rot (h:WI w) {i:Nat} (hi:i<w.2.2.1.length) {s:ByteArray} {b:Int}:WI (Zwa w i s b).2:=by
 have hni:=h.nodes _ (A3 (d:=A8) hi)
 unfold Zwa
 cases hr:(I6a (w.2.2.1.getD i A8) s b).2
 ·exact h
 have hg:=Zia (s:=s) (b:=b) hni.1
 unfold I6a at hr hg ⊢
 cases hc:N1 (w.2.2.1.getD i A8)&&((lkD (w.2.2.1.getD i A8).2.1 s).2==0&&(F0a (w.2.2.1.getD i A8).2.1 s b).2)
 ·rw[hc]at hr;cases hr
 rw[hc]at hg
 rw[Va,Va,beq_iff_eq]at hc
 obtain⟨d1,d2,f,hf⟩:=F3b h.wok hni.1.g hni.2.1 hc.2.1 hc.2.2 (spl w.2.2.2.2.2 s) (λ t=>Eta)
 have hsub:∀ t∈w.2.2.2.2.2,t∈spl w.2.2.2.2.2 s:=λ t ht=>Eta.2 (.inr ht)
 have hN:NR w.2.2.2.2.1 (spl w.2.2.2.2.2 s) w.2.2.1 (w.2.2.1.set i ((w.2.2.1.getD i A8).1,(F0a (w.2.2.1.getD i A8).2.1 s b).1,(w.2.2.1.getD i A8).2.2)):=
  (NR.refl (λ n hn=>(h.nodes n hn).mono (λ _ h=>h) hsub)).set hi ⟨hg,d1,hni.2.2⟩ rfl d2
 exact {
  ring:=h.ring
  ids:=hN.2.1.trans h.ids
  nodes:=hN.1
  clk:=h.clk
  wlen:=h.wlen
  wok:=h.wok
  wge:=h.wge
  asc:=h.asc
  kept:=λ x hx hk hs=>hN.2.2 _ hs _ (h.kept x hx hk (λ c=>hs (hsub _ c)))
  sps:=Cwa h.sps
  spw:=λ t ht=>by
   rcases Eta.1 ht with rfl|ht
   ·obtain⟨x,hx,e,_⟩:=hf
    exact⟨x,hx,e⟩
   ·exact h.spw t ht }
def node (h:WI w) {i:Nat} (hi:i<w.2.2.1.length) {e:Evt}:WI (B8a w e i).2:=by
 have hni:=h.nodes _ (A3 (d:=A8) hi)
 unfold B8a
 cases e.1==3
 case true=>exact h.other' (Y0 h.wok h.nodes hi h.ring h.ids)
 cases e.1==4
 case true=>exact h.other' (N4a h.nodes hi)
 cases e.1==5
 case true=>exact h.other' (N5a h.nodes hi)
 cases e.1==6 with
 |true=>
  obtain⟨c1,c2⟩:=N3a h.wok hni.1.g hni.2.1
  exact h.other ((NR.refl h.nodes).set hi ⟨Mza hni.1,c1,hni.2.2⟩ rfl c2)
 |false=>
  cases e.1==7 with
  |true=>exact h.other ((NR.refl h.nodes).set hi ⟨Ezb hni.1,Clb hni.1.g hni.2.1 _,hni.2.2⟩ rfl (Cmb hni.1.g hni.2.1 _))
  |false=>exact h.rot hi
def weigh (h:WI w) {i t:Int}:WI (Eva w i t).2:=by
 unfold Eva
 cases h1:inR i 0 ((w.1.length:Int)-1)
 ·exact h
 cases h2:inR t 1 1000
 ·exact h
 obtain⟨i0,i1⟩:=F9.1 h1
 obtain⟨w0,w1⟩:=F9.1 h2
 exact⟨(Mua (Eja h.ring (by omega) w0 w1)).1,h.ids.trans (Eia _ _ _).symm,h.nodes,h.clk,h.wlen,h.wok,h.wge,h.asc,h.kept,h.sps,h.spw⟩
def ev (h:WI w) {e:Evt} (hb:Al e.2.2.2.1):WI (doW w e).2:=by
 have ae:∀ {q:Int×Wld},WI q.2→WI (Pma q).2:=λ {q} hq=>by
  unfold Pma
  cases q.1 != 2<;>exact hq
 unfold doW
 cases e.1==1
 case true=>exact ae (h.ask hb (λ c=>by cases c))
 cases e.1==2
 case true=>exact ae (h.ask Nf (λ _=>rfl))
 cases e.1==3||(e.1==4||(e.1==5||(e.1==6||(e.1==7||e.1==8)))) with
 |true=>
  cases hi:inR e.2.1 0 ((w.2.2.1.length:Int)-1)
  ·exact h
  have:=F9.1 hi
  exact h.node (by omega)
 |false=>
  cases e.1==9 with
  |true=>exact h.weigh
  |false=>exact h
def rightB (h:WI w):B4a w=true:=by
 have h2:=h.dlen
 have hl:=h.nlen
 unfold B4a
 have a1:Si w.1 w.2.2.1=true:=by
  unfold Si
  rw[show ((w.2.2.1.length:Int)==(w.1.length:Int))=true by rw[beq_iff_eq];omega,Vx,Yg]
  intro j hj
  have hj':=Zq.1 hj
  rw[Va,beq_iff_eq]
  refine⟨?_,(h.nodes _ (A3 (d:=A8) hj')).1.1⟩
  have e1:(w.2.2.1.getD j A8).1=(w.2.2.1.map (·.1)).getD j 0:=by
   rw[Vb,Vb,Hgb,Vj hj'];rfl
  have e2:(w.1.getD j N9).1=(w.1.map (·.1)).getD j 0:=by
   rw[Vb,Vb,Hgb,Vj (by omega)];rfl
  rw[e1,e2,h.ids]
 have a2:Y3a w.2.2.2.1 w.2.2.2.2.1=true:=by
  unfold Y3a
  rw[Va,Yg]
  refine⟨λ x hx=>?_,decide_eq_true (by have:=h.wlen;omega)⟩
  unfold K9a
  rw[(h.wok x hx).1,(h.wok x hx).2.1,h.wge x hx]
  rfl
 have a3:Ue w.2.2.2.2.2=true:=by
  unfold Ue
  rw[Yg]
  intro j hj
  have hj':=Zq.1 hj
  rw[Va,Zy]
  refine⟨?_,?_⟩
  ·obtain⟨x,hx,e⟩:=h.spw _ (A3 (d:=Mu) hj')
   rw[← e]
   exact(h.wok x hx).1
  ·by_cases h0:j=0
   ·exact .inl (decide_eq_true h0)
   ·right
    have:=Zj.1 h.sps (j-1) j (by omega) hj' (by omega)
    rwa [Vb,Vb,Vj hj',Vj (by omega)]
 rw[h.ring,a1,h.clk,a2,a3]
 rfl
end WI

def Grb (l:List Dev) (last:Int):Prop:=l.Pairwise (λ a b=>a.1<b.1)∧∀ d∈l,(0≤d.1∧d.1≤last)∧(0≤d.2.1∧d.2.1≤20)∧1≤d.2.2∧d.2.2≤1000
def Ufa (z:Int) (hz:1≤z∧z≤20):∀ (n:Nat) (i:Int) (l:List Dev) (last:Int) (c:Cur),i=n→n≤6→Lj c→Grb l last→0≤last→last+2*n≤12→l.length+n≤6→
  Tot (λ k=>Gx k l z last i c) (λ r=>(∃ last,Grb r.1 last∧last≤20)∧r.1.length=l.length+n∧Lj r.2):=by
 intro n
 induction n with
 |zero=>
  rintro i l last c rfl _ hc h h0 h1 _
  refine Tot.succ ?_
  simp (disch:=omega) only [Gx,dF]
  exact H1b ⟨⟨last,h,by omega⟩,rfl,hc⟩
 |succ n ih=>
  rintro i l last c rfl hn hc h h0 h1 hl
  refine Tot.succ ?_
  simp (disch:=omega) only [Gx,dT]
  obtain⟨x,c1,e1,hx,k1⟩:=Pz c hc [1,1,2] (by decide) (by decide)
  obtain⟨y,c2,e2,y0,y1,_,k2⟩:=Jx c1 k1 z (by omega)
  obtain⟨v,c3,e3,hv,k3⟩:=Pz c2 k2 [1,1,1,2,10,100] (by decide) (by decide)
  have y1:=y1 (by omega)
  have hx':1≤x∧x≤2:=by
   simp only[Vl,Hjb,or_false]at hx
   omega
  have hv':1≤v∧v≤1000:=by
   simp only[Vl,Hjb,or_false]at hv
   omega
  refine Hdb (Heb (Q:=λ r=>r=(x,c1)) e1 rfl) ?_
  refine Hdb (Heb (Q:=λ r=>r=(y,c2)) e2 rfl) ?_
  refine Hdb (Heb (Q:=λ r=>r=(v,c3)) e3 rfl) ?_
  simp (disch:=omega) only [w64]
  refine H9b (by simp only[Vd,Vk];omega) ?_
  refine(ih _ (l++[(last+x,y,v)]) (last+x) c3 (by omega) (by omega) k3 ⟨?_,?_⟩ (by omega) (by omega) (by rw[Ve];simp only[Vd,Vk];omega)).mono ?_
  ·refine Zg.2 ⟨h.1,Igb _ _,λ a ha b hb=>?_⟩
   rw[Vu.1 hb]
   have:=(h.2 a ha).1.2
   show a.1<last+x
   omega
  ·intro d hd
   rcases Vn.1 hd with hd|hd
   ·obtain⟨⟨a1,a2⟩,a3⟩:=h.2 d hd
    exact⟨⟨a1,by omega⟩,a3⟩
   ·rw[Vu.1 hd]
    exact⟨⟨by show 0≤last+x;omega,Hnb _⟩,⟨y0,by show y≤20;omega⟩,hv'⟩
  ·rintro r ⟨g1,g2,g3⟩
   refine⟨g1,?_,g3⟩
   rw[g2,Ve]
   simp only[Vd,Vk]
   omega
def P7a (c:Cur) (hc:Lj c):Tot (λ k=>G7 k c) (λ r=>Lo r.1=true∧(2≤r.1.length∧r.1.length≤6)∧Lj r.2):=by
 unfold G7
 obtain⟨x,c1,e1,x0,x1,_,k1⟩:=Jx c hc 4 (by decide)
 obtain⟨y,c2,e2,y0,y1,_,k2⟩:=Jx c1 k1 5 (by decide)
 have x1:=x1 (by decide)
 have y1:=y1 (by decide)
 refine Hdb (Heb (Q:=λ r=>r=(x,c1)) e1 rfl) ?_
 refine Hdb (Heb (Q:=λ r=>r=(y,c2)) e2 rfl) ?_
 simp (disch:=omega) only [w64]
 refine H2b (Ufa (1+x) (by omega) (2+y).toNat (2+y) [] 0 c2 (by omega) (by omega) k2 ⟨List.Pairwise.nil,λ d hd=>(nomatch hd)⟩ (Hnb _) (by omega) (by simp only[Vk];omega)) ?_
 rintro r ⟨⟨last,g1,g2⟩,g3,g4⟩
 rw[Vk]at g3
 exact H1b ⟨Fb.2 ⟨g1.1,λ d hd=>Ng.2 ⟨⟨(g1.2 d hd).1.1,by have:=(g1.2 d hd).1.2;omega⟩,(g1.2 d hd).2⟩,by dsimp only;omega,by dsimp only;omega⟩,⟨by dsimp only;omega,by dsimp only;omega⟩,g4⟩
abbrev P8a:Wld:=(([]:List Dev),((0:Int),([]:List (List Int))),([]:List Nod),((0:Int),((0:Int),(0:Int))),([]:List Wri),([]:List ByteArray))
def Zxa (d:Dev):Nod:=(d.1,([],[]),[],[])
def Zya (l:List Dev) (parts reps:Int):Wld:=(l,(build l parts reps).1,l.map Zxa,(0,0,0),[],[])
def Cpb {ws:List Wri} {sp:List ByteArray} {l:List Dev} (h:Lo l=true) {d:Dev} (hd:d∈l):NI ws sp (Zxa d):=by
 obtain⟨⟨i0,i1⟩,_⟩:=Ng.1 ((Fb.1 h).2.1 d hd)
 refine⟨⟨Bo.2 ⟨(λ r hr=>nomatch hr),⟨i0,i1⟩,dg0.1,W7,Vp _⟩,dg0.2⟩,λ s=>⟨λ b hb=>?_,λ b hb=>?_,λ _ b f hb=>?_⟩,(λ r hr=>nomatch hr),(λ r hr=>nomatch hr)⟩
 ·rw[show gt (Zxa d).2.1.1 s=none from rfl]at hb;cases hb
 ·rw[show gt (Zxa d).2.1.2 s=none from rfl]at hb;cases hb
 ·rw[show gt (Zxa d).2.1.2 s=none from rfl]at hb;cases hb
def Cqb {l:List Dev} {parts reps:Int} (hb:(build l parts reps).2=true):WI (Zya l parts reps):=by
 obtain⟨h1,h2,_,_⟩:=Mqa hb
 exact {
  ring:=h2
  ids:=by show (l.map Zxa).map (·.1)=_;rw[Ijb];rfl
  nodes:=λ n hn=>by
   obtain⟨d,hd,rfl⟩:=Zb.1 hn
   exact Cpb h1 hd
  clk:=rfl
  wlen:=Vp _
  wok:=λ x hx=>nomatch hx
  wge:=λ x hx=>nomatch hx
  asc:=List.Pairwise.nil
  kept:=λ x hx=>nomatch hx
  sps:=List.Pairwise.nil
  spw:=λ s hs=>nomatch hs }
def Hra (l:List Dev) (parts reps:Int) (hb:(build l parts reps).2=true):Tot (λ k=>Cc k l parts reps) (λ r=>r=Zya l parts reps):=by
 obtain⟨h1,_,_,_⟩:=Mqa hb
 have h12:=(Fb.1 h1).2.2.2
 unfold Cc
 refine Hdb (Tka l parts reps (by omega)) ?_
 refine H9b (by rw[Vk];omega) (H3b (by rw[hb];rfl) ?_)
 rw[Vy]
 refine H2b (Q:=λ r=>r=(P8a,Zya l parts reps)) ?_ (by rintro r rfl;exact H1b rfl)
 refine Hab (L:=λ k i (s:List Nod)=>Eh k l i P8a (l,(build l parts reps).1,s,(0,0,0),[],[])) (Q:=λ r=>r=(P8a,Zya l parts reps)) l.length (λ j s=>s=(l.take j).map Zxa) ?_ ?_ 0 [] (Vp _) rfl
 ·rintro s rfl
  simp (disch:=omega) only [Eh,dF]
  exact H1b (by rw[Yj];rfl)
 ·rintro j s hj rfl next
  have hd:=A3 (d:=N9) hj
  obtain⟨d,ed⟩:∃ d:Dev,l.getD j N9=d:=⟨_,rfl⟩
  rw[ed]at hd
  have e0:l.getD j ((0:Int),((0:Int),(0:Int)))=d:=ed
  have e1:l[j]=d:=by rw[← ed,Vb,Vj hj];rfl
  have hid:=(Ng.1 ((Fb.1 h1).2.1 d hd)).1
  simp (disch:=omega) only [Eh,dT,Vc,w64,e0,K2a,Vs]
  have hl:((l.take j).map Zxa).length=j:=by rw[Wd,Vq];omega
  rw[F9.2 hid,cond_true]
  refine H9b (by rw[hl];simp only[Vd,Vk];omega) (next _ ?_)
  rw[Wi hj,Hub,e1]
  rfl
def WD (w:Wld):Prop:=WI w∧∀ x∈w.2.2.2.2.1,x.1∈Le
def Kea (c:Cur) (hc:Lj c):Tot (λ k=>Jk k c) (λ r=>(∃ l p n,(build l p n).2=true∧r.1=Zya l p n)∧Lj r.2):=by
 unfold Jk
 refine H2b (P7a c hc) ?_
 rintro⟨l,c1⟩ ⟨hl,hn,k1⟩
 dsimp only at hl hn k1 ⊢
 obtain⟨x,c2,e2,hx,k2⟩:=Pz c1 k1 [3,2,3,1] (by decide) (by decide)
 obtain⟨y,c3,e3,hy,k3⟩:=Pz c2 k2 [4,2,8] (by decide) (by decide)
 have hx':1≤x∧x≤3:=by
  simp only[Vl,Hjb,or_false]at hx
  omega
 have hy':1≤y∧y≤8:=by
  simp only[Vl,Hjb,or_false]at hy
  omega
 have one:∀ n:Int,1≤n→n≤5→n≤(l.length:Int)→Tot (λ k=>(Bx c2 [4,2,8]).bind λ r3=>(Cc k l r3.1 n).bind λ r4=>some (r4,r3.2)) (λ r=>(∃ l p n,(build l p n).2=true∧r.1=Zya l p n)∧Lj r.2):=by
  intro n n0 n5 nl
  have hb:(build l y n).2=true:=by
   unfold build
   rw[hl,F9.2 (show 1≤y∧y≤64 by omega),F9.2 (show 1≤n∧n≤5 by omega),decide_eq_false (show ¬ n > (l.length:Int) by omega)]
   rfl
  refine Hdb (Heb (Q:=λ r=>r=(y,c3)) e3 rfl) ?_
  refine Hdb (Hra l y n hb) ?_
  exact H1b ⟨⟨l,y,n,hb,rfl⟩,k3⟩
 refine Hdb (Heb (Q:=λ r=>r=(x,c2)) e2 rfl) ?_
 exact H8b (λ h=>one (l.length:Int) (by omega) (by dsimp only at h;omega) (Int.le_refl _)) (λ h=>one x (by omega) (by omega) (by dsimp only at h;omega))
def Hsa (c:Cur) (hc:Lj c):Tot (λ k=>E3 k c) (λ r=>r.1.length=6∧Lj r.2):=by
 unfold E3
 refine H2b (Q:=λ r=>r.1.length=6∧Lj r.2) ?_ (λ r h=>H1b h)
 refine Hab (L:=λ k i (s:List Int×Cur)=>Fm k s.1 i s.2) (Q:=λ r=>r.1.length=6∧Lj r.2) 6 (λ j s=>s.1.length=j∧Lj s.2) ?_ ?_ 0 ([],c) (Vp _) ⟨rfl,hc⟩
 ·rintro s ⟨h1,h2⟩
  simp (disch:=omega) only [Fm,dF]
  exact H1b ⟨h1,h2⟩
 ·rintro j s hj ⟨h1,h2⟩ next
  obtain⟨x,c1,e1,_,k1⟩:=Pz s.2 h2 [1,1,1,1,0,2,3] (by decide) (by decide)
  simp (disch:=omega) only [Fm,dT,w64]
  refine Hdb (Heb (Q:=λ r=>r=(x,c1)) e1 rfl) ?_
  exact H9b (by simp only[Vd,Vk];omega) (next (s.1++[x],c1) ⟨by rw[Ve,h1];rfl,k1⟩)
def Kfa (c:Cur) (hc:Lj c):Tot (λ k=>E3 k c) (λ r=>r.1.length≤6∧Lj r.2):=(Hsa c hc).mono λ r h=>⟨by have:=h.1;omega,h.2⟩
def A0b (r:Evt×Cur×Wld) (w:Wld):Prop:=Fsb r.1∧Al r.1.2.2.2.1∧Lj r.2.1∧r.2.2=w
def Crb {d:Dsk} (hd:DIn d) (hb:DB d):Tot (λ k=>G4 k d) (λ r=>r.length≤2000000∧∀ t∈r,Lb t):=by
 refine(Xxa d hd hb).mono ?_
 rintro r rfl
 obtain⟨a1,a2⟩:=Ewb d.1 hd.1.2.1 d.1 0 [] (λ x hx=>hx) (λ y hy=>nomatch hy)
 have:=hd.2.1
 rw[Vk]at a1
 exact⟨by unfold P3a;omega,a2⟩
def Pna (e:Evt):Prop:=e.1=1∨e.1=2→e.2.2.1∈Le
def Eya (c:Cur) (w:Wld) (hc:Lj c) (hn1:1≤w.2.2.1.length) (hnl:w.2.2.1.length≤2000000) (hnn:∀ n∈w.2.2.1,NIn n):Tot (λ k=>Ep k c w w) (λ r=>A0b r w∧Pna r.1):=by
 unfold Ep
 obtain⟨i,c1,e1,i0,i1,_,k1⟩:=Jx c hc (w.2.2.1.length:Int) (by omega)
 have i1:=i1 (by omega)
 obtain⟨s,c2,e2,hs,k2⟩:=S9a c1 k1
 have hsn:=hs
 have hs:=(Jna s hs).1
 refine Hdb (Heb (Q:=λ r=>r=(i,c1)) e1 rfl) ?_
 refine Hdb (Heb (Q:=λ r=>r=(s,c2)) e2 rfl) ?_
 refine H2b (Kfa c2 k2) ?_
 rintro⟨rc,c3⟩ ⟨hrc,k3⟩
 dsimp only at hrc k3 ⊢
 obtain⟨n,c4,e4,_,_,_,k4⟩:=Jx c3 k3 20 (by decide)
 refine Hdb (Heb (Q:=λ r=>r=(n,c4)) e4 rfl) ?_
 dsimp only
 have ok:∀ (kd:Int) (s:ByteArray) (l:List Int) (x:Int) (c:Cur),Lb s→Al l→l.length≤2000000 → -9223372036854775808≤x→x≤9223372036854775807→Lj c→(kd=1∨kd=2→s∈Le)→A0b ((kd,i,s,l,x,rc),c,w) w∧Pna (kd,i,s,l,x,rc):=λ kd s l x c h1 h2 h3 h4 h5 h6 h7=>⟨⟨⟨h1,by show l.length≤_;omega,⟨h4,h5⟩,by show rc.length≤_;omega⟩,h2,h6,rfl⟩,h7⟩
 have plain:∀ kd:Int,Tot (λ _=>some ((kd,i,s,([]:List Int),(0:Int),rc),c4,w)) (λ r=>A0b r w∧Pna r.1):=λ kd=>H1b (ok kd s [] 0 c4 hs Nf (Vp _) (by decide) (by decide) k4 λ _=>hsn)
 have put:Tot (λ k=>(A9 c4 2).bind λ r5=>(Fp k r5.2).bind λ r6=>some ((1,i,s,r6.1,wrap .i64 (w.2.2.2.1.1+r5.1),rc),r6.2,w)) (λ r=>A0b r w∧Pna r.1):=by
  obtain⟨x,c5,e5,x0,x1,_,k5⟩:=Jx c4 k4 2 (by decide)
  have x1:=x1 (by decide)
  refine Hdb (Heb (Q:=λ r=>r=(x,c5)) e5 rfl) ?_
  refine H2b (Oea c5 k5) ?_
  rintro⟨l,c6⟩ ⟨g1,g2,g3⟩
  dsimp only at g1 g2 g3 ⊢
  have hw:=Cja (w.2.2.2.1.1+x)
  exact H1b (ok 1 s l _ c6 hs g2 (by omega) hw.1 hw.2 g1 λ _=>hsn)
 have drop:Tot (λ k=>(A9 c4 2).bind λ r17=>some ((2,i,s,([]:List Int),wrap .i64 (w.2.2.2.1.1+r17.1),rc),r17.2,w)) (λ r=>A0b r w∧Pna r.1):=by
  obtain⟨x,c5,e5,x0,x1,_,k5⟩:=Jx c4 k4 2 (by decide)
  have x1:=x1 (by decide)
  refine Hdb (Heb (Q:=λ r=>r=(x,c5)) e5 rfl) ?_
  have hw:=Cja (w.2.2.2.1.1+x)
  exact H1b (ok 2 s [] _ c5 hs Nf (Vp _) hw.1 hw.2 k5 λ _=>hsn)
 have rot:Tot (λ k=>(A9 c4 60).bind λ r31=>some ((8,i,s,([]:List Int),r31.1,rc),r31.2,w)) (λ r=>A0b r w∧Pna r.1):=by
  obtain⟨x,c5,e5,x0,x1,_,k5⟩:=Jx c4 k4 60 (by decide)
  have x1:=x1 (by decide)
  refine Hdb (Heb (Q:=λ r=>r=(x,c5)) e5 rfl) ?_
  exact H1b (ok 8 s [] x c5 hs Nf (Vp _) (by omega) (by omega) k5 λ _=>hsn)
 have ring:Tot (λ k=>(Bx c4 [1,2,10,1000]).bind λ r33=>some ((9,i,s,([]:List Int),r33.1,rc),r33.2,w)) (λ r=>A0b r w∧Pna r.1):=by
  obtain⟨x,c5,e5,hx,k5⟩:=Pz c4 k4 [1,2,10,1000] (by decide) (by decide)
  refine Hdb (Heb (Q:=λ r=>r=(x,c5)) e5 rfl) ?_
  have hx':1≤x∧x≤1000:=by
   simp only[Vl,Hjb,or_false]at hx
   omega
  exact H1b (ok 9 s [] x c5 hs Nf (Vp _) (by omega) (by omega) k5 λ _=>hsn)
 have push:Tot (λ k=>cond (decide ((0:Int)≤i)) (cond (decide (i<(length w.2.2.1:Int))) ((G4 k (getD w.2.2.1 (toNat i) ((0:Int),(([],[]),([],[])))).2.1).bind λ r20=>cond (decide ((length r20:Int) > 0)) ((A9 c4 (length r20:Int)).bind λ r21=>cond (decide ((0:Int)≤r21.1)) (cond (decide (r21.1<(length r20:Int))) (some ((3,i,(getD r20 (toNat r21.1) (⟨#[]⟩:ByteArray)),([]:List Int),0,rc),r21.2,w)) none) none) (some ((3,i,s,([]:List Int),0,rc),c4,w))) none) none) (λ r=>A0b r w∧Pna r.1):=by
  refine H5b i0 (H5b i1 ?_)
  have hm:=hnn _ (A3 (d:=A8) (show i.toNat<w.2.2.1.length by omega))
  refine H2b (Crb hm.1.1 hm.1.2) ?_
  rintro l ⟨hl,hl'⟩
  refine H8b (λ h0=>?_) (λ h0=>plain 3)
  obtain⟨x,c5,e5,x0,x1,_,k5⟩:=Jx c4 k4 (l.length:Int) (by omega)
  have x1:=x1 (by omega)
  refine Hdb (Heb (Q:=λ r=>r=(x,c5)) e5 rfl) ?_
  exact H5b x0 (H5b x1 (H1b (ok 3 _ [] 0 c5 (hl' _ (A3 (d:=Mu) (show x.toNat<l.length by omega))) Nf (Vp _) (by decide) (by decide) k5 (by omega))))
 refine H7b (λ _=>put) (λ _=>?_)
 refine H7b (λ _=>put) (λ _=>?_)
 refine H7b (λ _=>put) (λ _=>?_)
 refine H7b (λ _=>put) (λ _=>?_)
 refine H7b (λ _=>put) (λ _=>?_)
 refine H7b (λ _=>put) (λ _=>?_)
 refine H7b (λ _=>drop) (λ _=>?_)
 refine H7b (λ _=>drop) (λ _=>?_)
 refine H7b (λ _=>push) (λ _=>?_)
 refine H7b (λ _=>push) (λ _=>?_)
 refine H7b (λ _=>push) (λ _=>?_)
 refine H7b (λ _=>plain 5) (λ _=>?_)
 refine H7b (λ _=>plain 5) (λ _=>?_)
 refine H7b (λ _=>plain 4) (λ _=>?_)
 refine H7b (λ _=>plain 6) (λ _=>?_)
 refine H7b (λ _=>plain 7) (λ _=>?_)
 refine H7b (λ _=>plain 7) (λ _=>?_)
 refine H7b (λ _=>rot) (λ _=>?_)
 exact H7b (λ _=>rot) (λ _=>ring)
def Csb {w:Wld} (h:WI w) {e:Evt} (he:Fsb e):Tot (λ k=>Ie k w e) (λ r=>r=doW w e):=
 F0b w e he h.ring h.ns h.clk (by have:=h.wlen;omega) (by have:=h.splen;omega)
def N6a (w:Wld) (e:Evt) (i:Nat):(B8a w e i).2.2.2.2.2.1=w.2.2.2.2.1:=by
 unfold B8a Ph Ow Pi Zwa
 cases e.1==3
 case true=>cases (lkD (w.2.2.1.getD i A8).2.1 e.2.2.1).2 != 0<;>rfl
 cases e.1==4
 case true=>cases ((w.2.2.1.getD i A8).2.2.1.length:Int)==0<;>rfl
 cases e.1==5
 case true=>cases ((w.2.2.1.getD i A8).2.2.2.length:Int)==0<;>rfl
 cases e.1==6
 case true=>rfl
 cases e.1==7
 case true=>rfl
 rw[cond_false,cond_false,cond_false,cond_false,cond_false]
 cases (I6a (w.2.2.1.getD i A8) e.2.2.1 e.2.2.2.2.1).2<;>rfl
def A1b (w:Wld) (s:ByteArray) (f:Fil) (t:Int) (rc:List Int):∀ x∈(ask w s f t rc).2.2.2.2.2.1,x∈w.2.2.2.2.1∨x.1=s:=by
 intro x
 unfold ask
 cases !(B0 s)
 case true=>exact .inl
 cases decide ((f.2.2.length:Int) > 200)
 case true=>exact .inl
 cases !(inR t 0 1000000000)
 case true=>exact .inl
 cases (w.2.2.2.2.1.length:Int)==200
 case true=>exact .inl
 cases (M5 w.2.2.2.1 t 0).1==w.2.2.2.1.1&&((M5 w.2.2.2.1 t 0).2.1==w.2.2.2.1.2.1&&(M5 w.2.2.2.1 t 0).2.2==w.2.2.2.1.2.2)
 case true=>exact .inl
 intro hx
 rcases Vn.1 hx with h|h
 ·exact .inl h
 ·rw[Vu.1 h];exact .inr rfl
def WD.ev {w:Wld} (h:WD w) {e:Evt} (hb:Al e.2.2.2.1) (hn:Pna e):WD (doW w e).2:=by
 refine⟨h.1.ev hb,λ x=>?_⟩
 have ae:∀ q:Int×Wld,(Pma q).2=q.2:=λ q=>by
  unfold Pma
  cases q.1 != 2<;>rfl
 unfold doW
 cases h1:e.1==1 with
 |true=>
  rw[cond_true,ae]
  exact λ hx=>(A1b _ _ _ _ _ x hx).elim (h.2 x) (λ c=>by rw[c];exact hn (.inl (eq_of_beq h1)))
 |false=>
  cases h2:e.1==2 with
  |true=>
   rw[cond_false,cond_true,ae]
   exact λ hx=>(A1b _ _ _ _ _ x hx).elim (h.2 x) (λ c=>by rw[c];exact hn (.inr (eq_of_beq h2)))
  |false=>
   rw[cond_false,cond_false]
   cases e.1==3||(e.1==4||(e.1==5||(e.1==6||(e.1==7||e.1==8)))) with
   |true=>
    rw[cond_true]
    cases inR e.2.1 0 ((w.2.2.1.length:Int)-1) with
    |true=>rw[cond_true,N6a];exact h.2 x
    |false=>exact h.2 x
   |false=>
    rw[cond_false]
    unfold Eva
    cases e.1==9
    case false=>exact h.2 x
    cases !(inR e.2.1 0 ((w.1.length:Int)-1))
    case true=>exact h.2 x
    cases !(inR e.2.2.2.2.1 1 1000)<;>exact h.2 x
def P9a {I:Wld→Prop} (hI:∀ w,I w→WI w) (hE:∀ w e,I w→Al e.2.2.2.1→Pna e→I (doW w e).2):∀ (n:Nat) (i:Int) (c:Cur) (w:Wld),i=n→n≤1000→Lj c→I w→Tot (λ k=>Fq k i c P8a w) (λ r=>I r.2.1∧Lj r.2.2):=by
 intro n
 induction n with
 |zero=>
  rintro i c w rfl _ hc h
  refine Tot.succ ?_
  simp (disch:=omega) only [Fq,dF]
  exact H1b ⟨h,hc⟩
 |succ n ih=>
  rintro i c w rfl hn hc h
  refine Tot.succ ?_
  simp (disch:=omega) only [Fq,dT]
  have hw:=hI w h
  refine H2b (Eya c w hc (by have:=hw.nlen;have:=hw.dlen;omega) hw.ns.1 hw.win.2.2.1.2) ?_
  rintro⟨e,c1,w1⟩ ⟨⟨g1,g2,g3,g4⟩,g5⟩
  dsimp only at g1 g2 g3 g4 g5 ⊢
  subst g4
  refine Hdb (Csb hw g1) ?_
  rw[w64 (n:=((n+1:Nat):Int)-1) (by omega) (by omega)]
  exact ih _ c1 _ (by omega) (by omega) g3 (hE _ _ h g2 g5)
def Hta {I:Wld→Prop} (hI:∀ w,I w→WI w) (hE:∀ w e,I w→Al e.2.2.2.1→Pna e→I (doW w e).2) (hN:∀ l p n,(build l p n).2=true→I (Zya l p n)) (c:Cur) (hc:Lj c) (n:Int) (hn:n≤1000):Tot (λ k=>Ew k c n) (λ r=>I r.1∧Lj r.2):=by
 unfold Ew
 refine H2b (Kea c hc) ?_
 rintro⟨w,c1⟩ ⟨⟨l,p,m,hb,e⟩,k1⟩
 dsimp only at e k1 ⊢
 have h:I w:=by rw[e];exact hN l p m hb
 obtain⟨x,c2,e2,x0,x1,x2,k2⟩:=Jx c1 k1 n (by omega)
 refine Hdb (Heb (Q:=λ r=>r=(x,c2)) e2 rfl) ?_
 refine H2b (P9a hI hE x.toNat x c2 w (by omega) (by by_cases h:0<n<;>omega) k2 h) ?_
 rintro r hr
 exact H1b hr
def Y8a (a:List Int) (hb:(a.length:Int)≤1048576) (m:Int) (hm:3≤m∧m≤1000):∃ n,Jq a m=some n∧3≤n∧n≤m:=by
 unfold Jq
 rw[Hxb (by omega),w64 (n:=(a.length:Int)/12) (by omega) (by omega),w64 (n:=3+(a.length:Int)/12) (by omega) (by omega)]
 by_cases h:3+(a.length:Int)/12 > m
 ·exact⟨m,by rw[decide_eq_true h];rfl,hm.1,Hnb _⟩
 ·exact⟨_,by rw[decide_eq_false h];rfl,by omega,by omega⟩
def Bva {I:Wld→Prop} (hI:∀ w,I w→WI w) (hE:∀ w e,I w→Al e.2.2.2.1→Pna e→I (doW w e).2) (hN:∀ l p n,(build l p n).2=true→I (Zya l p n)) (a:List Int) (hb:(a.length:Int)≤1048576):Tot (λ k=>Fz k a) I:=by
 unfold Fz
 refine H2b (S8a a hb) ?_
 intro c hc
 obtain⟨n,e,n0,n1⟩:=Y8a a hb 50 (by decide)
 refine H2b (Heb (Q:=λ r=>r=n) e rfl) ?_
 rintro r rfl
 rw[w64 (n:=12+r) (by omega) (by omega)]
 refine H2b (Hta hI hE hN c hc _ (by omega)) ?_
 rintro r hr
 exact H1b hr.1

def WIm (m:Nat) (w:Wld):Prop:=RBd w.2.1∧w.1.length≤2000000∧(w.2.2.1.length≤2000000∧∀ n∈w.2.2.1,NIn n)∧(w.2.2.2.2.1.length≤m∧∀ x∈w.2.2.2.2.1,Lb x.1∧x.2.1.2.2.length≤2000000∧Al x.2.1.2.2)∧(w.2.2.2.2.2.length≤m∧∀ s∈w.2.2.2.2.2,Lb s)
def WIm.win {m:Nat} {w:Wld} (h:WIm m w) (hm:m≤2000000):WIn w:=by
 obtain⟨h1,h2,⟨h3,h4⟩,⟨h5,h6⟩,h7,h8⟩:=h
 exact⟨h1,h2,⟨h3,h4⟩,⟨by omega,λ x hx=>(h6 x hx).1⟩,by omega,h8⟩
def WI.wim {w:Wld} (h:WI w):WIm 200 w:=by
 have hi:=h.win
 have h2:=h.dlen
 have h1:=h.nlen
 exact⟨hi.1,hi.2.1,hi.2.2.1,⟨h.wlen,λ x hx=>⟨Ib (h.wok x hx).1,by have:=(J8.1 (h.wok x hx).2.1).2.1;omega,(h.wok x hx).2.2⟩⟩,h.splen,hi.2.2.2.2.2⟩

def Hua {f:Fil} (h:f.2.2.length≤1000000000):Hv f=some f:=by
 unfold Hv
 rw[Mz _ (by omega)]
 rfl

def Y9a (w:Wld) (i:Nat) (s:ByteArray) (rc:List Int) (hr:J6 w.2.1 w.1=true) (hn:NS w.2.2.1) (hi:i<w.2.2.1.length):Tot (λ k=>Af k w (i:Int) s rc) (λ r=>r=Ph w i s rc):=by
 have hni:=hn.get hi
 unfold Af Ph
 have e0:w.2.2.1.getD i ((0:Int),(([],[]),([],[])))=w.2.2.1.getD i A8:=rfl
 simp (disch:=omega) only [dT,Vc,e0]
 have hin:=(Xb hni).1
 refine Hdb (Eda hin.1.1.1.1 hin.2.1 s) ?_
 cases hl:(lkD (w.2.2.1.getD i A8).2.1 s).2 != 0
 case true=>exact H4b rfl (H1b rfl)
 refine H3b rfl ?_
 rw[cond_false]
 have hlk:∃ b,gt (w.2.2.1.getD i A8).2.1.1 s=some b:=by
  rw[bne,Yb,beq_iff_eq]at hl
  obtain⟨b,hb,_⟩:=O7.1 (show lkD (w.2.2.1.getD i A8).2.1 s=((lkD (w.2.2.1.getD i A8).2.1 s).1,0) from by rw[← hl])
  exact⟨b,hb⟩
 have hs:B0 s=true:=Ota hni.g.1 (by obtain⟨b,hb⟩:=hlk;rw[hb];rfl)
 have hsz:s.size≤1000000000:=by
  have:=F9.1 (Va _ _ ▸ hs:_∧_).2
  omega
 refine Hdb (N0a _ s (Ma hr) hsz) ?_
 refine Hdb (B5a w _ hn.1 (S5 (Ma hr) s)) ?_
 have hpl:=Hpa (s:=s) hr hn.1
 have hc:=λ x=>On (w:=w) (s:=s) (x:=x)
 have hrun:puN w i s rc=run (pst (i:Int) s (lkD (w.2.2.1.getD i A8).2.1 s).1 rc (Mi w s)) (Mi w s).length (w.2.2.1,false,true):=rfl
 obtain⟨p1,p2⟩:=Zta (w:=w) (i:=i) (s:=s) (rc:=rc) hn
 have inv:∀ n,n≤(Mi w s).length→NS (run (pst (i:Int) s (lkD (w.2.2.1.getD i A8).2.1 s).1 rc (Mi w s)) n (w.2.2.1,false,true)).1∧(run (pst (i:Int) s (lkD (w.2.2.1.getD i A8).2.1 s).1 rc (Mi w s)) n (w.2.2.1,false,true)).1.length=w.2.2.1.length:=λ n hn'=>
  Ku (λ _ (b:List Nod×Bool×Bool)=>NS b.1∧b.1.length=w.2.2.1.length) ⟨hn,rfl⟩ (λ j b hj hb=>U6a hb (by have:=hc _ (A3 (d:=0) (show j<(Mi w s).length by omega));omega))
 rw[show whr w.2.2.1 (Qm w.2.1 s)=Mi w s from rfl]
 generalize (lkD (w.2.2.1.getD i A8).2.1 s).1=f at *
 generalize Mi w s=ps at *
 refine H2b (Q:=λ r=>r=((i:Int),s,(puN w i s rc).2.2,(puN w i s rc).2.1,wN w (puN w i s rc).1)) ?_ ?_
 ·refine Hab (L:=λ k j (a:List Nod×Bool×Bool)=>Ad k (i:Int) s rc a.2.2 a.2.1 ps (ps.length:Int) j (wN w a.1) f) (Q:=λ r=>r=((i:Int),s,(puN w i s rc).2.2,(puN w i s rc).2.1,wN w (puN w i s rc).1)) ps.length (λ j a=>a=run (pst (i:Int) s f rc ps) j (w.2.2.1,false,true)) ?_ ?_ 0 (w.2.2.1,false,true) (Vp _) rfl
  ·rintro a rfl
   simp (disch:=omega) only [Ad,dF]
   exact H1b (by rw[hrun])
  ·rintro j a hj rfl next
   obtain⟨i1,i2⟩:=inv j (by omega)
   rw[Mm]at next
   generalize run (pst (i:Int) s f rc ps) j (w.2.2.1,false,true)=a at *
   obtain⟨ns,o,g⟩:=a
   dsimp only at i1 i2
   have hci:=hc _ (A3 (d:=0) hj)
   obtain⟨m,em⟩:∃ m:Nat,ps.getD j 0=(m:Int):=⟨(ps.getD j 0).toNat,by omega⟩
   rw[em]at hci
   unfold pst at next
   rw[em,Vc]at next
   have e0:ns.getD m ((0:Int),(([],[]),([],[])))=ns.getD m A8:=rfl
   simp (disch:=omega) only [Ad,dT,Vc,w64,em,wN,e0]
   cases hz:(m:Int)==(i:Int) with
   |true=>
    rw[hz]at next
    exact H4b rfl (next _ rfl)
   |false=>
    rw[hz]at next
    refine H3b rfl ?_
    simp only[U2a,Vs]
    cases h1:rch rc j != 1 with
    |true=>
     rw[h1]at next
     exact H4b rfl (next _ rfl)
    |false=>
     rw[h1]at next
     refine H3b rfl ?_
     have hm:=Xb (i1.get (i:=m) (by omega))
     refine Hdb (X9a (ns.getD m A8).2.1 s f true hm.1.1 hm.1.2.1 (Ib hs)) ?_
     dsimp only at next ⊢
     generalize keep (ns.getD m A8).2.1 s f true=q at *
     cases g with
     |false=>
      refine H3b rfl (next (ns.set m ((ns.getD m A8).1,q.1,(ns.getD m A8).2.2),o,false) ?_)
      cases q.2 != 0&&q.2 != 1<;>rfl
     |true=>
      refine H4b rfl ?_
      cases h2:q.2==0
      case true=>rw[bne,h2]at next;exact H4b rfl (next _ rfl)
      rw[bne,h2]at next
      refine H3b rfl ?_
      cases h3:q.2==1 with
      |true=>rw[bne,h3]at next;exact next _ rfl
      |false=>rw[bne,h3]at next;exact next _ rfl
 ·rintro r rfl
  dsimp only[wN]
  generalize puN w i s rc=a at *
  obtain⟨ns,o,g⟩:=a
  dsimp only at p1 p2 ⊢
  cases o with
  |true=>
   refine H3b rfl (H1b ?_)
   rw[Yw,Wq]
   rfl
  |false=>
   refine H4b rfl ?_
   cases g
   ·exact H3b rfl (H1b rfl)
   refine H4b rfl ?_
   have e0:ns.getD i ((0:Int),(([],[]),([],[])))=ns.getD i A8:=rfl
   simp (disch:=omega) only [dT,Vc,e0]
   have hg:=(p1.get (i:=i) (by omega)).g
   refine Hdb (Jxa hg.1) ?_
   refine Hdb (H2a (Xaa hg).1 hs) ?_
   exact H1b rfl
def Yaa {n:Nod} {l:List Row} (hn:NG n) (hl:Js l=true):Xea n l=((tk n l).2,(tk n l).1):=by
 unfold Xea tk
 rw[hn.1,hl]
 cases decide ((Nj n.2.2.1 l).length > 60)<;>rfl
def Hva (w:Wld) (src:Int) (l:List Row) (rc:List Int) (hr:RBd w.2.1) (hn:NS w.2.2.1) (hl:Js l=true):
  Tot (λ k=>Ao k w l rc src) (λ r=>r=((Jt w src l false rc).2,wN w (Jt w src l false rc).1)):=by
 have hll:=Efa hl
 unfold Ao
 refine Hdb (T5 w hr hn.1) ?_
 have hpl:=Qb hr hn.1
 have hc:=λ x=>Li (w:=w) (x:=x)
 have hrun:Jt w src l false rc=run (gst src l false rc (Aw w)) (Aw w).length (w.2.2.1,true):=rfl
 have inv:∀ n,n≤(Aw w).length→NS (run (gst src l false rc (Aw w)) n (w.2.2.1,true)).1∧(run (gst src l false rc (Aw w)) n (w.2.2.1,true)).1.length=w.2.2.1.length:=λ n hn'=>
  Ku (λ _ (b:List Nod×Bool)=>NS b.1∧b.1.length=w.2.2.1.length) ⟨hn,rfl⟩ (λ j b hj hb=>U7a hl hb (by have:=hc _ (A3 (d:=0) (show j<(Aw w).length by omega));omega))
 generalize Aw w=ls at *
 refine H2b (Q:=λ r=>r=((Jt w src l false rc).2,wN w (Jt w src l false rc).1)) ?_ (by rintro r rfl;exact H1b rfl)
 refine Hab (L:=λ k j (a:List Nod×Bool)=>Ax k l rc src a.2 ls (ls.length:Int) j (wN w a.1)) (Q:=λ r=>r=((Jt w src l false rc).2,wN w (Jt w src l false rc).1)) ls.length (λ j a=>a=run (gst src l false rc ls) j (w.2.2.1,true)) ?_ ?_ 0 (w.2.2.1,true) (Vp _) rfl
 ·rintro a rfl
  simp (disch:=omega) only [Ax,dF]
  exact H1b (by rw[hrun])
 ·rintro j a hj rfl next
  obtain⟨i1,i2⟩:=inv j (by omega)
  rw[Mm]at next
  generalize run (gst src l false rc ls) j (w.2.2.1,true)=a at *
  obtain⟨ns,g⟩:=a
  dsimp only at i1 i2
  have hci:=hc _ (A3 (d:=0) hj)
  obtain⟨m,em⟩:∃ m:Nat,ls.getD j 0=(m:Int):=⟨(ls.getD j 0).toNat,by omega⟩
  rw[em]at hci
  unfold gst at next
  rw[em,Vc,Zh,Zz]at next
  have e0:ns.getD m ((0:Int),(([],[]),([],[])))=ns.getD m A8:=rfl
  have hm:=i1.get (i:=m) (by omega)
  simp (disch:=omega) only [Ax,dT,Vc,w64,em,e0,wN]
  cases hz:(m:Int)==src with
  |true=>
   rw[hz]at next
   exact H4b rfl (next _ rfl)
  |false=>
   rw[hz]at next
   refine H3b rfl ?_
   simp only[U2a,Vs]
   cases h1:rch rc j != 1 with
   |true=>
    rw[h1]at next
    exact H4b rfl (next _ rfl)
   |false=>
    rw[h1]at next
    refine H3b rfl (Hdb (Xfa (ns.getD m A8) l (Xb hm) hll) ?_)
    rw[Yaa hm hl]
    dsimp only at next ⊢
    generalize tk (ns.getD m A8) l=q at *
    cases g with
    |false=>
     refine H3b rfl (next (ns.set m q.2,false) ?_)
     cases q.1<;>rfl
    |true=>
     refine H4b rfl (next (ns.set m q.2,q.1) ?_)
     cases q.1<;>rfl

def Rf {l:List Row} (h:l.length≤2000000000):Aj l=some l:=by
 unfold Aj
 rw[bT (by simp only[Vk];omega),Vy]
def Paa (w:Wld) (src:Int) (l:List Row) (rc:List Int):Jt w (-1) l false rc=Jt w src l true rc:=by
 unfold Jt
 refine Ku (λ n (a:List Nod×Bool)=>a=run (gst src l true rc (Aw w)) n (w.2.2.1,true)) rfl (λ j b hj hb=>?_)
 rw[Mm,← hb]
 have:=(Li (A3 (d:=0) hj)).1
 unfold gst
 rw[show ((Aw w).getD j 0 == -1)=false by rw[beq_eq_false_iff_ne];omega,Yw,Wq,Yv]
def Kga (w:Wld) (src:Int) (l:List Row) (self:Bool) (rc:List Int) (m:Nat):((Jt w src l self rc).1.getD m A8).2.2.2=(w.2.2.1.getD m A8).2.2.2:=by
 unfold Jt
 refine Ku (λ n (a:List Nod×Bool)=>(a.1.getD m A8).2.2.2=(w.2.2.1.getD m A8).2.2.2) rfl (λ j b hj hb=>?_)
 unfold gst
 cases (Aw w).getD j 0==src&&!self
 case true=>exact hb
 cases rch rc j != 1
 case true=>exact hb
 rw[cond_false,cond_false]
 generalize ((Aw w).getD j 0).toNat=i
 show ((b.1.set i (tk (b.1.getD i A8) l).2).getD m A8).2.2.2=_
 by_cases hm:m<b.1.length
 ·rw[Cz hm]
  by_cases hi:i=m
  ·subst hi
   rw[if_pos rfl,← hb]
   unfold tk
   cases decide ((Nj (b.1.getD i A8).2.2.1 l).length > 60)<;>rfl
  ·rw[if_neg hi];exact hb
 ·rw[Vb,Yx (by rw[Vv];omega)]
  rw[Vb,Yx (by omega)]at hb
  exact hb
def Uga (w:Wld) (i:Nat) (rc:List Int) (hr:RBd w.2.1) (hn:NS w.2.2.1) (hi:i<w.2.2.1.length):Tot (λ k=>Bq k w (i:Int) rc) (λ r=>r=Ow w i rc):=by
 have hni:=hn.get hi
 have e0:w.2.2.1.getD i ((0:Int),(([],[]),([],[])))=w.2.2.1.getD i A8:=rfl
 have hl:=(Bo.1 hni.1).2.2.2.1
 have hll:=(Efa hl).1
 unfold Bq Ow
 simp (disch:=omega) only [dT,Vc,e0,Rf (show (w.2.2.1.getD i A8).2.2.1.length≤2000000000 by omega),Vs]
 cases hz:((w.2.2.1.getD i A8).2.2.1.length:Int)==0
 case true=>exact H4b rfl (H1b rfl)
 refine H3b rfl (Hdb (Hva w (i:Int) _ rc hr hn hl) ?_)
 obtain⟨p1,p2⟩:=Qc (w:=w) (src:=(i:Int)) (self:=false) (rc:=rc) hl hn
 rw[show Jt w (i:Int) (w.2.2.1.getD i A8).2.2.1 false rc=Lc w i rc from rfl]at p1 p2 ⊢
 generalize Lc w i rc=a at *
 obtain⟨ns,g⟩:=a
 dsimp only at p1 p2 ⊢
 cases g
 ·exact H3b rfl (H1b rfl)
 refine H4b rfl (Hdb (T5 (wN w ns) hr p1.1) ?_)
 refine Hdb (Tca _ _ (by have:=Qb (w:=wN w ns) hr p1.1;omega)) ?_
 cases Lm (Aw (wN w ns)) (i:Int)
 case true=>exact H3b rfl (H1b rfl)
 have e1:ns.getD i ((0:Int),(([],[]),([],[])))=ns.getD i A8:=rfl
 refine H4b rfl ?_
 simp (disch:=omega) only [dT,Vc,e1]
 exact H1b rfl
def Uha (w:Wld) (i:Nat) (rc:List Int) (hr:RBd w.2.1) (hn:NS w.2.2.1) (hi:i<w.2.2.1.length):Tot (λ k=>Bv k w (i:Int) rc) (λ r=>r=Pi w i rc):=by
 have hni:=hn.get hi
 have e0:w.2.2.1.getD i ((0:Int),(([],[]),([],[])))=w.2.2.1.getD i A8:=rfl
 obtain⟨hq,_,_,_,hq60⟩:=Bo.1 hni.1
 have hl:=Lx hq
 unfold Bv Pi
 simp (disch:=omega) only [dT,Vc,e0]
 cases hz:((w.2.2.1.getD i A8).2.2.2.length:Int)==0
 case true=>exact H4b rfl (H1b rfl)
 have h1:=beq_eq_false_iff_ne.1 hz
 refine H3b rfl (H5b (by omega) ?_)
 rw[show List.take (toNat 1) (w.2.2.1.getD i A8).2.2.2=List.take 1 (w.2.2.1.getD i A8).2.2.2 from rfl,Rf (by rw[Vq];omega)]
 simp only[Vs]
 refine Hdb (Hva w (-1) _ rc hr hn hl) ?_
 rw[Paa w (i:Int)]
 obtain⟨p1,p2⟩:=Qc (w:=w) (src:=(i:Int)) (self:=true) (rc:=rc) hl hn
 have hqu:=Kga w (i:Int) ((w.2.2.1.getD i A8).2.2.2.take 1) true rc i
 rw[show Jt w (i:Int) ((w.2.2.1.getD i A8).2.2.2.take 1) true rc=Mb w i rc from rfl]at p1 p2 hqu ⊢
 generalize Mb w i rc=a at *
 obtain⟨ns,g⟩:=a
 dsimp only at p1 p2 hqu ⊢
 cases g
 ·exact H3b rfl (H1b rfl)
 have e1:ns.getD i ((0:Int),(([],[]),([],[])))=ns.getD i A8:=rfl
 refine H4b rfl ?_
 simp (disch:=omega) only [dT,Vc,e1,hqu]
 rw[show List.drop (toNat 1) (w.2.2.1.getD i A8).2.2.2=List.drop 1 (w.2.2.1.getD i A8).2.2.2 from rfl,Rf (by rw[Wc];omega)]
 exact H1b rfl

def NO (ns ms:List Nod):Prop:=NS ms∧ms.map (·.1)=ns.map (·.1)
def NO.len {ns ms:List Nod} (h:NO ns ms):ms.length=ns.length:=by
 have:=congrArg length h.2
 rwa [Wd,Wd]at this
def NO.set {ns ms:List Nod} (h:NO ns ms) {i:Nat} {n:Nod} (hi:i<ms.length) (hn:NG n) (e:n.1=(ms.getD i A8).1):NO ns (ms.set i n):=⟨h.1.set hn,(Kda hi e).trans h.2⟩
def Ctb (n:Nod) (s:ByteArray) (f:Fil) (sure:Bool):(Qg n s f sure).1.1=n.1:=by
 unfold Qg
 cases (n.2.2.2.length:Int)==60 with
 |true=>rfl
 |false=>rfl
def Ggb (n:Nod) (l:List Row):(tk n l).2.1=n.1:=by
 unfold tk
 cases decide ((Nj n.2.2.1 l).length > 60)<;>rfl
def Cub (n:Nod) (s:ByteArray) (b:Int):(I6a n s b).1.1=n.1:=by
 unfold I6a
 cases N1 n&&((lkD n.2.1 s).2==0&&(F0a n.2.1 s b).2)<;>rfl
def F9b {w:Wld} {s:ByteArray} {f:Fil} {rc:List Int} (hn:NS w.2.2.1) (hs:B0 s=true) (hf:F7 f=true):NO w.2.2.1 (wrN w s f rc).1:=by
 unfold wrN
 refine Ku (λ _ (a:List Nod×Int×Int)=>NO w.2.2.1 a.1) ⟨hn,rfl⟩ (λ j a hj h=>?_)
 have hc:=Qa (A3 (d:=0) hj)
 have hl:=h.len
 unfold wst
 cases decide (a.2.1<w.2.1.1)
 ·exact h
 rw[cond_true]
 cases rch rc j==0 with
 |true=>exact h
 |false=>exact h.set (by omega) (Mla (h.1.get (by omega)) hs hf) (Ctb _ _ _ _)
def Fab {w:Wld} {i:Nat} {s:ByteArray} {rc:List Int} (hn:NS w.2.2.1):NO w.2.2.1 (puN w i s rc).1:=by
 unfold puN
 refine Ku (λ _ (a:List Nod×Bool×Bool)=>NO w.2.2.1 a.1) ⟨hn,rfl⟩ (λ j a hj h=>?_)
 have hc:=On (A3 (d:=0) hj)
 have hl:=h.len
 unfold pst
 cases (Mi w s).getD j 0==(i:Int)
 case true=>exact h
 rw[cond_false]
 cases rch rc j != 1 with
 |true=>exact h
 |false=>exact h.set (by omega) (Esa (h.1.get (by omega))) rfl
def N7a {w:Wld} {i:Nat} {s:ByteArray} {rc:List Int} (hn:NS w.2.2.1) (hi:i<w.2.2.1.length):∃ ns,(Ph w i s rc).2=wN w ns∧NO w.2.2.1 ns:=by
 unfold Ph
 cases hl:(lkD (w.2.2.1.getD i A8).2.1 s).2 != 0
 case true=>exact⟨w.2.2.1,rfl,hn,rfl⟩
 have h:=Fab (i:=i) (s:=s) (rc:=rc) hn
 have hlen:=h.len
 have hs:B0 s=true:=by
  rw[bne,Yb,beq_iff_eq]at hl
  obtain⟨b,hb,_⟩:=O7.1 (show lkD (w.2.2.1.getD i A8).2.1 s=((lkD (w.2.2.1.getD i A8).2.1 s).1,0) from by rw[← hl])
  exact Ota (hn.get hi).g.1 (by rw[hb];rfl)
 refine⟨_,rfl,?_⟩
 cases (puN w i s rc).2.2&&!(puN w i s rc).2.1 with
 |false=>exact h
 |true=>exact h.set (by omega) (Zsa (h.1.get (by omega)) hs) rfl
def Eza {w:Wld} {src:Int} {l:List Row} {self:Bool} {rc:List Int} (hl:Js l=true) (hn:NS w.2.2.1):NO w.2.2.1 (Jt w src l self rc).1:=by
 unfold Jt
 refine Ku (λ _ (a:List Nod×Bool)=>NO w.2.2.1 a.1) ⟨hn,rfl⟩ (λ j a hj h=>?_)
 have hc:=Li (A3 (d:=0) hj)
 have hlen:=h.len
 unfold gst
 cases (Aw w).getD j 0==src&&!self
 case true=>exact h
 rw[cond_false]
 cases rch rc j != 1 with
 |true=>exact h
 |false=>exact h.set (by omega) (Frb (h.1.get (by omega)) hl) (Ggb _ _)
def N8a {w:Wld} {i:Nat} {rc:List Int} (hn:NS w.2.2.1) (hi:i<w.2.2.1.length):∃ ns,(Ow w i rc).2=wN w ns∧NO w.2.2.1 ns:=by
 have h:=Eza (w:=w) (src:=(i:Int)) (self:=false) (rc:=rc) (Bo.1 (hn.get hi).1).2.2.2.1 hn
 have hlen:=h.len
 unfold Ow
 cases ((w.2.2.1.getD i A8).2.2.1.length:Int)==0
 case true=>exact⟨w.2.2.1,rfl,hn,rfl⟩
 refine⟨_,rfl,?_⟩
 show NO w.2.2.1 (bif (Lc w i rc).2&&_ then (Lc w i rc).1.set i (Ug ((Lc w i rc).1.getD i A8)) else (Lc w i rc).1)
 unfold Lc
 cases (Jt w (i:Int) (w.2.2.1.getD i A8).2.2.1 false rc).2&&_ with
 |false=>exact h
 |true=>exact h.set (by omega) (N2a (h.1.get (by omega))) rfl
def N9a {w:Wld} {i:Nat} {rc:List Int} (hn:NS w.2.2.1) (hi:i<w.2.2.1.length):∃ ns,(Pi w i rc).2=wN w ns∧NO w.2.2.1 ns:=by
 have hq:=Bo.1 (hn.get hi).1
 have h:=Eza (w:=w) (src:=(i:Int)) (self:=true) (rc:=rc) (Lx hq.1) hn
 have hlen:=h.len
 unfold Pi
 cases ((w.2.2.1.getD i A8).2.2.2.length:Int)==0
 case true=>exact⟨w.2.2.1,rfl,hn,rfl⟩
 refine⟨_,rfl,?_⟩
 show NO w.2.2.1 (bif (Mb w i rc).2 then (Mb w i rc).1.set i (Zua ((Mb w i rc).1.getD i A8) ((w.2.2.1.getD i A8).2.2.2.drop 1)) else (Mb w i rc).1)
 unfold Mb
 cases (Jt w (i:Int) ((w.2.2.1.getD i A8).2.2.2.take 1) true rc).2 with
 |false=>exact h
 |true=>exact h.set (by omega) (Zva (h.1.get (by omega)) (λ r hr=>hq.1 r (Zr hr)) (by rw[Wc];omega)) rfl
structure WO (w:Wld):Prop where
 ring:J6 w.2.1 w.1=true
 ids:w.2.2.1.map (·.1)=w.1.map (·.1)
 ns:NS w.2.2.1
 clk:Hk w.2.2.2.1=true
 wlen:w.2.2.2.2.1.length≤200
 wok:Ewa w.2.2.2.2.1
 wge:∀ x∈w.2.2.2.2.1,sle w.2.2.2.1 x.2.1.1=false
 sps:TS w.2.2.2.2.2
 spn:∀ s∈w.2.2.2.2.2,B0 s=true
def WI.wo {w:Wld} (h:WI w):WO w:=⟨h.ring,h.ids,h.ns,h.clk,h.wlen,h.wok,h.wge,h.sps,λ s hs=>by
 obtain⟨x,hx,e⟩:=h.spw s hs
 rw[← e]
 exact(h.wok x hx).1⟩
namespace WO
variable {w:Wld}
def nlen (h:WO w):w.2.2.1.length=w.1.length:=by
 have:=congrArg length h.ids
 rwa [Wd,Wd]at this
def dlen (h:WO w):1≤w.1.length∧w.1.length≤12:=(Fb.1 (Bz.1 h.ring).1).2.2
def other (h:WO w) {ns:List Nod} (hn:NO w.2.2.1 ns):WO (wN w ns):=⟨h.ring,hn.2.trans h.ids,hn.1,h.clk,h.wlen,h.wok,h.wge,h.sps,h.spn⟩
def other' (h:WO w) {r:Bool×Wld} (hr:∃ ns,r.2=wN w ns∧NO w.2.2.1 ns):WO r.2:=by
 obtain⟨ns,e,hn⟩:=hr
 rw[e]
 exact h.other hn
def write (h:WO w) {s:ByteArray} {f:Fil} {rc:List Int} (hs:B0 s=true) (hf:F7 f=true) (hb:Al f.2.2) (hc:sle w.2.2.2.1 f.1=true) (hl:w.2.2.2.2.1.length<200):WO (Uf (w.1,w.2.1,w.2.2.1,f.1,w.2.2.2.2) s f rc).2:=by
 have g:=F9b (w:=(w.1,w.2.1,w.2.2.1,f.1,w.2.2.2.2)) (rc:=rc) h.ns hs hf
 unfold Uf
 generalize wrN (w.1,w.2.1,w.2.2.1,f.1,w.2.2.2.2) s f rc=a at *
 exact {
  ring:=h.ring
  ids:=g.2.trans h.ids
  ns:=g.1
  clk:=(J8.1 hf).1
  wlen:=by show (w.2.2.2.2.1++[_]).length≤200;rw[Ve];simp only[Vd,Vk];omega
  wok:=λ x hx=>by
   rcases Vn.1 hx with hx|hx
   ·exact h.wok x hx
   ·rw[Vu.1 hx];exact⟨hs,hf,hb⟩
  wge:=λ x hx=>by
   rcases Vn.1 hx with hx|hx
   ·exact Pj (Re hc) (h.wge x hx)
   ·rw[Vu.1 hx];exact Gk _
  sps:=h.sps
  spn:=h.spn }
def ask (h:WO w) {s:ByteArray} {f:Fil} {t:Int} {rc:List Int} (hb:Al f.2.2) (hd:f.2.1=true→f.2.2=[]):WO (ask w s f t rc).2:=by
 unfold Vf.ask
 cases hs:B0 s
 ·exact h
 rw[Yw,cond_false]
 by_cases hl:(f.2.2.length:Int) > 200
 ·rw[decide_eq_true hl];exact h
 ·rw[decide_eq_false hl,cond_false]
  cases inR t 0 1000000000
  ·exact h
  rw[Yw,cond_false]
  cases hw:(w.2.2.2.2.1.length:Int)==200
  case true=>exact h
  rw[cond_false]
  have hw':=beq_eq_false_iff_ne.1 hw
  have hwl:=h.wlen
  obtain⟨n1,n2⟩:=Xz h.clk t 0
  cases he:(M5 w.2.2.2.1 t 0).1==w.2.2.2.1.1&&((M5 w.2.2.2.1 t 0).2.1==w.2.2.2.1.2.1&&(M5 w.2.2.2.1 t 0).2.2==w.2.2.2.1.2.2)
  case true=>exact h
  rw[cond_false]
  have hlt:sle w.2.2.2.1 (M5 w.2.2.2.1 t 0)=true:=by
   rcases n2 with n2|n2
   ·rw[n2,beq_self_eq_true,beq_self_eq_true,beq_self_eq_true]at he;cases he
   ·exact n2
  exact h.write (f:=(M5 w.2.2.2.1 t 0,f.2)) hs (J8.2 ⟨n1,by show f.2.2.length≤200;omega,hd⟩) hb hlt (by omega)
def rot (h:WO w) {i:Nat} (hi:i<w.2.2.1.length) {s:ByteArray} {b:Int}:WO (Zwa w i s b).2:=by
 have hg:=h.ns.get hi
 unfold Zwa
 cases hr:(I6a (w.2.2.1.getD i A8) s b).2
 ·exact h
 have hn:NO w.2.2.1 (w.2.2.1.set i (I6a (w.2.2.1.getD i A8) s b).1):=NO.set ⟨h.ns,rfl⟩ hi (Zia hg) (Cub _ _ _)
 have hs:B0 s=true:=by
  unfold I6a at hr
  cases hc:N1 (w.2.2.1.getD i A8)&&((lkD (w.2.2.1.getD i A8).2.1 s).2==0&&(F0a (w.2.2.1.getD i A8).2.1 s b).2)
  ·rw[hc]at hr;cases hr
  rw[Va,Va,beq_iff_eq]at hc
  obtain⟨b,hb,_⟩:=O7.1 (show lkD (w.2.2.1.getD i A8).2.1 s=((lkD (w.2.2.1.getD i A8).2.1 s).1,0) from by rw[← hc.2.1])
  exact Ota hg.g.1 (by rw[hb];rfl)
 exact⟨h.ring,hn.2.trans h.ids,hn.1,h.clk,h.wlen,h.wok,h.wge,Cwa h.sps,λ t ht=>by
  rcases Eta.1 ht with rfl|ht
  ·exact hs
  ·exact h.spn t ht⟩
def node (h:WO w) {i:Nat} (hi:i<w.2.2.1.length) {e:Evt}:WO (B8a w e i).2:=by
 have hg:=h.ns.get hi
 unfold B8a
 cases e.1==3
 case true=>exact h.other' (N7a h.ns hi)
 cases e.1==4
 case true=>exact h.other' (N8a h.ns hi)
 cases e.1==5
 case true=>exact h.other' (N9a h.ns hi)
 cases e.1==6
 case true=>exact h.other (NO.set ⟨h.ns,rfl⟩ hi (Mza hg) rfl)
 cases e.1==7 with
 |true=>exact h.other (NO.set ⟨h.ns,rfl⟩ hi (Ezb hg) rfl)
 |false=>exact h.rot hi
def weigh (h:WO w) {i t:Int}:WO (Eva w i t).2:=by
 unfold Eva
 cases h1:inR i 0 ((w.1.length:Int)-1)
 ·exact h
 cases h2:inR t 1 1000
 ·exact h
 obtain⟨i0,i1⟩:=F9.1 h1
 obtain⟨w0,w1⟩:=F9.1 h2
 exact⟨(Mua (Eja h.ring (by omega) w0 w1)).1,h.ids.trans (Eia _ _ _).symm,h.ns,h.clk,h.wlen,h.wok,h.wge,h.sps,h.spn⟩
def ev (h:WO w) {e:Evt} (hb:Al e.2.2.2.1):WO (doW w e).2:=by
 have ae:∀ {q:Int×Wld},WO q.2→WO (Pma q).2:=λ {q} hq=>by
  unfold Pma
  cases q.1 != 2<;>exact hq
 unfold doW
 cases e.1==1
 case true=>exact ae (h.ask hb (λ c=>by cases c))
 cases e.1==2
 case true=>exact ae (h.ask Nf (λ _=>rfl))
 cases e.1==3||(e.1==4||(e.1==5||(e.1==6||(e.1==7||e.1==8)))) with
 |true=>
  cases hi:inR e.2.1 0 ((w.2.2.1.length:Int)-1)
  ·exact h
  have:=F9.1 hi
  exact h.node (by omega)
 |false=>
  cases e.1==9 with
  |true=>exact h.weigh
  |false=>exact h
def nods (h:WO w):Si w.1 w.2.2.1=true:=by
 have hl:=h.nlen
 unfold Si
 rw[show ((w.2.2.1.length:Int)==(w.1.length:Int))=true by rw[beq_iff_eq];omega,Vx,Yg]
 intro j hj
 have hj':=Zq.1 hj
 rw[Va,beq_iff_eq]
 refine⟨?_,(h.ns.get hj').1⟩
 have e1:(w.2.2.1.getD j A8).1=(w.2.2.1.map (·.1)).getD j 0:=by
  rw[Vb,Vb,Hgb,Vj hj'];rfl
 have e2:(w.1.getD j N9).1=(w.1.map (·.1)).getD j 0:=by
  rw[Vb,Vb,Hgb,Vj (by omega)];rfl
 rw[e1,e2,h.ids]
def ok (h:WO w):B4a w=true:=by
 unfold B4a
 have a2:Y3a w.2.2.2.1 w.2.2.2.2.1=true:=by
  unfold Y3a
  rw[Va,Yg]
  refine⟨λ x hx=>?_,decide_eq_true (by have:=h.wlen;omega)⟩
  unfold K9a
  rw[(h.wok x hx).1,(h.wok x hx).2.1,h.wge x hx]
  rfl
 have a3:Ue w.2.2.2.2.2=true:=by
  unfold Ue
  rw[Yg]
  intro j hj
  have hj':=Zq.1 hj
  rw[Va,Zy]
  refine⟨h.spn _ (A3 hj'),?_⟩
  by_cases h0:j=0
  ·exact .inl (decide_eq_true h0)
  ·right
   have:=Zj.1 h.sps (j-1) j (by omega) hj' (by omega)
   rwa [Vb,Vb,Vj hj',Vj (by omega)]
 rw[h.ring,h.nods,h.clk,a2,a3]
 rfl
end WO
def Ghb {l:List ByteArray} (h:∀ j,0<j→j<l.length→tlt (l.getD (j-1) Mu) (l.getD j Mu)=true):TS l:=by
 induction l with
 |nil=>exact List.Pairwise.nil
 |cons x l ih=>
  have ht:TS l:=ih (λ j h0 hj=>by
   have:=h (j+1) (by omega) (by simpa using hj)
   obtain⟨m,rfl⟩:∃ m,j=m+1:=⟨j-1,by omega⟩
   simpa using this)
  refine Wh.2 ⟨λ y hy=>?_,ht⟩
  cases l with
  |nil=>cases hy
  |cons z l=>
   have hz:tlt x z=true:=by have:=h 1 (by omega) (by simp);simpa using this
   rcases Vl.1 hy with rfl|hy
   ·exact hz
   ·exact Mh hz ((Wh.1 ht).1 y hy)
def Gib {w:Wld} (h:B4a w=true) (hn:∀ n∈w.2.2.1,DB n.2.1) (hb:∀ x∈w.2.2.2.2.1,Al x.2.1.2.2):WO w:=by
 unfold B4a at h
 simp only[Va]at h
 obtain⟨h1,h2,h3,h4,h5⟩:=h
 unfold Si at h2
 rw[Va,beq_iff_eq,Yg]at h2
 obtain⟨hl,h2⟩:=h2
 have hd:=(Fb.1 (Bz.1 h1).1).2.2
 have hnode:∀ j,j<w.2.2.1.length→(w.2.2.1.getD j A8).1=(w.1.getD j N9).1∧N1 (w.2.2.1.getD j A8)=true:=λ j hj=>by
  have:=h2 j (Zq.2 hj)
  rwa [Va,beq_iff_eq]at this
 unfold Y3a at h4
 rw[Va,Yg,decide_eq_true_iff]at h4
 unfold Ue at h5
 rw[Yg]at h5
 have hsp:∀ j,j<w.2.2.2.2.2.length→B0 (w.2.2.2.2.2.getD j Mu)=true∧(j=0∨tlt (w.2.2.2.2.2.getD (j-1) Mu) (w.2.2.2.2.2.getD j Mu)=true):=λ j hj=>by
  have:=h5 j (Zq.2 hj)
  rwa [Va,Zy,decide_eq_true_iff]at this
 have hx:∀ x∈w.2.2.2.2.1,B0 x.1=true∧F7 x.2.1=true∧sle w.2.2.2.1 x.2.1.1=false:=λ x hx=>by
  have:=h4.1 x hx
  unfold K9a at this
  rwa [Va,Va,Wa]at this
 refine⟨h1,?_,⟨by omega,λ n hm=>?_⟩,h3,by omega,λ x hm=>⟨(hx x hm).1,(hx x hm).2.1,hb x hm⟩,λ x hm=>(hx x hm).2.2,Ghb (λ j h0 hj=>?_),λ s hs=>?_⟩
 ·refine K8b (by rw[Wd,Wd];omega) (λ j a b=>?_)
  rw[Wd]at a b
  have:=(hnode j a).1
  rw[Vb,Vb,Vj a,Vj b]at this
  rw[Jib,Jib]
  exact this
 ·obtain⟨j,hj,rfl⟩:=Ze.1 hm
  have:=(hnode j hj).2
  rw[Vb,Vj hj]at this
  exact⟨this,hn _ hm⟩
 ·rcases (hsp j hj).2 with h|h
  ·omega
  ·exact h
 ·obtain⟨j,hj,rfl⟩:=Ze.1 hs
  have:=(hsp j hj).1
  rwa [Vb,Vj hj]at this

section
open Go
end

section
open Go
end

def WIm.wo {m:Nat} {w:Wld} (h:WIm m w) (hk:B4a w=true):WO w:=Gib hk (λ n hn=>(h.2.2.1.2 n hn).1.2) (λ x hx=>(h.2.2.2.1.2 x hx).2.2)
def WO.wim {w:Wld} (h:WO w) {m:Nat} (h2:200≤m) (hs:w.2.2.2.2.2.length≤m):WIm m w:=
 ⟨Ma h.ring,by have:=h.dlen;omega,⟨h.ns.1,λ n hn=>Xb (h.ns.2 n hn)⟩,⟨by have:=h.wlen;omega,λ x hx=>⟨Ib (h.wok x hx).1,by have:=(J8.1 (h.wok x hx).2.1).2.1;omega,(h.wok x hx).2.2⟩⟩,hs,λ s hs=>Ib (h.spn s hs)⟩
def Uia {m:Nat} {w:Wld} (h:WIm m w) (hm:m≤2000000):Tot (λ k=>Bu k w) (λ r=>r=w):=by
 obtain⟨h1,h2,⟨h3,h4⟩,⟨h5,h6⟩,h7,h8⟩:=h
 unfold Bu
 refine H9b (by rw[Vk];omega) (Hdb (Hda w.2.1 h1) ?_)
 refine H9b (by rw[Vk];omega) ?_
 rw[Vy,Vy]
 refine H2b (Q:=λ r=>r=(w,P8a,(w.1,w.2.1,w.2.2.1,w.2.2.2.1,[],w.2.2.2.2.2))) ?_ ?_
 ·refine Hab (L:=λ k i (s:List Nod)=>Df k w.2.2.1 (w.2.2.1.length:Int) i w P8a (w.1,w.2.1,s,w.2.2.2.1,[],w.2.2.2.2.2)) (Q:=λ r=>r=(w,P8a,(w.1,w.2.1,w.2.2.1,w.2.2.2.1,[],w.2.2.2.2.2))) w.2.2.1.length (λ j s=>s=w.2.2.1.take j) ?_ ?_ 0 [] (Vp _) rfl
  ·rintro s rfl
   simp (disch:=omega) only [Df,dF]
   exact H1b (by rw[Yj])
  ·rintro j s hj rfl next
   have hm:=h4 _ (A3 (d:=A8) hj)
   have e0:w.2.2.1.getD j ((0:Int),(([],[]),([],[])))=w.2.2.1.getD j A8:=rfl
   have hl:(w.2.2.1.take j).length=j:=by rw[Vq];omega
   simp (disch:=omega) only [Df,dT,Vc,w64,e0]
   refine Hdb (Oj _ hm) ?_
   refine H9b (by rw[hl];simp only[Vd,Vk];omega) (next _ ?_)
   rw[Wi hj,Vb,Vj hj]
   rfl
 ·rintro r rfl
  refine H2b (Q:=λ r=>r=(P8a,w)) ?_ (by rintro r rfl;exact H1b rfl)
  refine Hab (L:=λ k i (s:List Wri)=>De k w.2.2.2.2.1 (w.2.2.2.2.1.length:Int) i P8a (w.1,w.2.1,w.2.2.1,w.2.2.2.1,s,w.2.2.2.2.2)) (Q:=λ r=>r=(P8a,w)) w.2.2.2.2.1.length (λ j s=>s=w.2.2.2.2.1.take j) ?_ ?_ 0 [] (Vp _) rfl
  ·rintro s rfl
   simp (disch:=omega) only [De,dF]
   exact H1b (by rw[Yj])
  ·rintro j s hj rfl next
   have hm:=(h6 _ (A3 (d:=Zra) hj)).2.1
   have e0:w.2.2.2.2.1.getD j ((⟨#[]⟩:ByteArray),((((0:Int),((0:Int),(0:Int))),(false,[])),false))=w.2.2.2.2.1.getD j Zra:=rfl
   have hl:(w.2.2.2.2.1.take j).length=j:=by rw[Vq];omega
   simp (disch:=omega) only [De,dT,Vc,w64,e0,Hua (f:=(w.2.2.2.2.1.getD j Zra).2.1) (by omega),Vs]
   refine H9b (by rw[hl];simp only[Vd,Vk];omega) (next _ ?_)
   rw[Wi hj,Vb,Vj hj]
   rfl
def Gsb (w v:Wld):Prop:=v.2.2.1.length=w.2.2.1.length∧w.2.2.2.2.1.length≤v.2.2.2.2.1.length∧sle v.2.2.2.1 w.2.2.2.1=false
def Gsb.nodes {w:Wld} {ns:List Nod} (h:ns.length=w.2.2.1.length):Gsb w (wN w ns):=⟨h,Vw _,Gk _⟩

def Xd (s:ByteArray) (a:Bool×Fil) (n:Nod):Bool×Fil:=bif (lkD n.2.1 s).2==0 then (bif !a.1||sle a.2.1 (lkD n.2.1 s).1.1 then (true,(lkD n.2.1 s).1) else a) else a
def lat (ns:List Nod) (s:ByteArray):Bool×Fil:=ns.foldl (Xd s) (false,Sxa)
def Hwa {s:ByteArray} {a:Bool×Fil} {n:Nod} (h:a.1=true∨((lkD n.2.1 s).2==0)=true):(Xd s a n).1=true:=by
 unfold Xd
 cases hc:(lkD n.2.1 s).2==0 with
 |false=>
  rw[hc]at h
  rcases h with h|h
  ·exact h
  ·cases h
 |true=>
  rw[cond_true]
  cases ha:a.1 with
  |false=>rfl
  |true=>cases hs:sle a.2.1 (lkD n.2.1 s).1.1<;>simp[ha]
def Naa {s:ByteArray}:∀ (ns:List Nod) (a:Bool×Fil),(a.1=true∨∃ n∈ns,((lkD n.2.1 s).2==0)=true)→(ns.foldl (Xd s) a).1=true
 |[],a,h=>by
  rcases h with h|⟨n,hn,_⟩
  ·exact h
  ·cases hn
 |n::ns,a,h=>by
  rw[Yr]
  refine Naa ns _ ?_
  rcases h with h|⟨m,hm,hg⟩
  ·exact .inl (Hwa (.inl h))
  ·rcases Vl.1 hm with rfl|hm
   ·exact .inl (Hwa (.inr hg))
   ·exact .inr ⟨m,hm,hg⟩
def Pba (w:Wld) (hw:WIn w) (s:ByteArray):Tot (λ k=>Db k w s) (λ r=>r=((lat w.2.2.1 s).2,(lat w.2.2.1 s).1)):=by
 obtain⟨_,_,⟨h1,h2⟩,_⟩:=hw
 unfold Db
 refine H2b (Q:=λ r=>r=((lat w.2.2.1 s).1,Sxa,(lat w.2.2.1 s).2)) ?_ (by rintro r rfl;exact H1b rfl)
 refine Hab (L:=λ k i (a:Bool×Fil)=>C7 k s a.1 w.2.2.1 (w.2.2.1.length:Int) i Sxa a.2) (Q:=λ r=>r=((lat w.2.2.1 s).1,Sxa,(lat w.2.2.1 s).2)) w.2.2.1.length (λ j a=>(w.2.2.1.drop j).foldl (Xd s) a=lat w.2.2.1 s) ?_ ?_ 0 (false,Sxa) (Vp _) rfl
 ·rintro a h
  rw[We]at h
  simp (disch:=omega) only [C7,dF]
  exact H1b (by rw[← h];rfl)
 ·rintro j ⟨b,f⟩ hj h next
  rw[Ah (d:=A8) hj,Yr]at h
  have nx:=next _ h
  have hm:=h2 _ (A3 (d:=A8) hj)
  obtain⟨n,en⟩:∃ n:Nod,w.2.2.1.getD j A8=n:=⟨_,rfl⟩
  rw[en]at hm nx
  have e0:w.2.2.1.getD j ((0:Int),(([],[]),([],[])))=n:=en
  simp (disch:=omega) only [C7,dT,Vc,w64,e0]
  refine Hdb (Eda hm.1.1.1.1.1 hm.1.2.1 s) ?_
  unfold Xd at nx
  cases hc:(lkD n.2.1 s).2==0
  ·rw[hc]at nx;exact H3b rfl nx
  rw[hc]at nx
  refine H4b rfl ?_
  cases b
  ·exact H4b rfl nx
  refine H3b rfl ?_
  simp only[Aqa,Vs]
  dsimp only at nx ⊢
  cases hs:sle f.1 (lkD n.2.1 s).1.1 with
  |true=>rw[hs]at nx;exact H4b rfl nx
  |false=>rw[hs]at nx;exact H3b rfl nx
def lvE (s:ByteArray) (p:List Int) (f:Fil) (n:Nod):Bool:=bif Lm p n.1 then ((lkD n.2.1 s).2==0)&&Cib (lkD n.2.1 s).1 f else !((lkD n.2.1 s).2==0)
def lvN (w:Wld) (s:ByteArray):Bool:=w.2.2.1.all (lvE s (Qm w.2.1 s) (lat w.2.2.1 s).2)
def Yba {ns:List Nod} {p:List Int} {j:Nat} (hj:j<ns.length):Lm (whr ns p) (j:Int)=Lm p (ns.getD j A8).1:=by
 rw[Ilb,Ln,Ln,T4]
 constructor
 ·rintro⟨i,h1,h2,h3⟩
  obtain rfl:j=i:=by omega
  exact h2
 ·intro h
  exact⟨j,hj,h,rfl⟩
def Hxa (d:Dsk) (s:ByteArray):Prop:=((lkD d s).2==0)=true
def Yca {d:Dsk} {s:ByteArray}:Hxa d s↔∃ i,fnd d.1 s=some i∧(Ms (d.1.getD i Dc).2).isSome=true:=by
 unfold Hxa lkD gt
 cases h:fnd d.1 s with
 |none=>simp
 |some i=>
  simp only[Vg]
  constructor
  ·intro hg
   refine⟨i,rfl,?_⟩
   cases hf:Ms (d.1.getD i Dc).2 with
   |none=>simp only[hf]at hg;cases hg
   |some f=>rfl
  ·rintro⟨j,rfl,hg⟩
   cases hf:Ms (d.1.getD i Dc).2 with
   |none=>rw[hf]at hg;cases hg
   |some f=>rfl
def Uja {d:Dsk} {s:ByteArray}:s∈Rd d↔Hxa d s:=by
 have key:∀ (l:List Nmd) (out:List ByteArray),s∈l.foldl (hI d) out↔s∈out∨∃ x∈l,x.1=s∧Hxa d s:=by
  intro l
  induction l with
  |nil=>intro out;simp
  |cons x l ih=>
   intro out
   rw[Yr,ih]
   have hx:s∈hI d out x↔s∈out∨(x.1=s∧Hxa d s):=by
    unfold hI
    cases hc:(lkD d x.1).2==0 with
    |false=>
     rw[cond_false]
     refine⟨.inl,?_⟩
     rintro (h|⟨rfl,h⟩)
     ·exact h
     ·unfold Hxa at h;rw[hc]at h;cases h
    |true=>
     rw[cond_true,Gza]
     constructor
     ·rintro (rfl|h)
      ·exact .inr ⟨rfl,hc⟩
      ·exact .inl h
     ·rintro (h|⟨h,_⟩)
      ·exact .inr h
      ·exact .inl h.symm
   rw[hx]
   constructor
   ·rintro ((h|h)|⟨y,hy,h⟩)
    ·exact .inl h
    ·exact .inr ⟨x,Ya,h⟩
    ·exact .inr ⟨y,Vh _ hy,h⟩
   ·rintro (h|⟨y,hy,h⟩)
    ·exact .inl (.inl h)
    ·rcases Vl.1 hy with rfl|hy
     ·exact .inl (.inr h)
     ·exact .inr ⟨y,hy,h⟩
 unfold Rd
 rw[key]
 constructor
 ·rintro (h|⟨x,_,_,h⟩)
  ·cases h
  ·exact h
 ·intro h
  obtain⟨i,hi,_⟩:=Yca.1 h
  have:=Nn hi
  exact .inr ⟨_,A3 (d:=Dc) this.1,this.2,h⟩
def Gtb (a b:Row):Bool:=(a.1==b.1)&&((a.2.1.1==b.2.1.1)&&((a.2.1.2.1==b.2.1.2.1)&&((a.2.1.2.2==b.2.1.2.2)&&((a.2.2.1==b.2.2.1)&&(a.2.2.2==b.2.2.2)))))
def Uka (a b:List Row):Bool:=((a.length:Int)==(b.length:Int))&&(List.range a.length).all λ j=>Gtb (a.getD j Gqb) (b.getD j Gqb)
def A2b (w:Wld) (j:Nat):List Row:=bif Lm (Aw w) (j:Int) then (w.2.2.1.getD ((Aw w).getD 0 0).toNat A8).2.2.1 else []
def Gub (w:Wld) (j:Nat):Bool := !(decide (((w.2.2.1.getD j A8).2.2.2.length:Int) > 0))&&Uka (w.2.2.1.getD j A8).2.2.1 (A2b w j)
def Ula (a:List Row):Uka a [] = !(decide ((a.length:Int) > 0)):=by
 unfold Uka
 cases a with
 |nil=>rfl
 |cons x l=>
  rw[decide_eq_true (show ((x::l).length:Int) > 0 by rw[Vd];omega),show (((x::l).length:Int)==(([]:List Row).length:Int))=false by rw[beq_eq_false_iff_ne,Vd,Vk];omega]
  rfl
def Uma {w:Wld} {j:Int} (h:Lm (Aw w) j=true):0<(Aw w).length∧0≤(Aw w).getD 0 0∧(Aw w).getD 0 0<(w.2.2.1.length:Int):=by
 have hm:=Ln.1 h
 have h0:=Hwb hm
 obtain⟨i,h1,_,h3⟩:=T4.1 (show (Aw w).getD 0 0∈whr w.2.2.1 (Qm w.2.1 O9) from A3 h0)
 exact⟨h0,by omega,by omega⟩

section
open Go
end

section
open Go
end

def F3:List Int:=[1,1,1,1,1,1,1,1,1,1,1,1]
def O8 (w:Wld) (i:Nat) (l:List ByteArray):Wld:=l.foldl (λ w s=>(Ph w i s F3).2) w
def Mc (w:Wld) (i:Nat):Nat→Wld
 |0=>w
 |n+1=>(Pi (Mc w i n) i F3).2
def qtA (w:Wld) (i:Nat):Wld:=wN w (w.2.2.1.set i (Zqa (w.2.2.1.getD i A8)).1)
def qtP (w:Wld) (i:Nat):Wld:=O8 (qtA w i) i (Rd ((qtA w i).2.2.1.getD i A8).2.1)
def qtT (w:Wld) (i:Nat):Wld:=Mc (qtP w i) i ((qtP w i).2.2.1.getD i A8).2.2.2.length
def qtN (w:Wld) (i:Nat):Wld:=(Ow (qtT w i) i F3).2
def Qh (w:Wld):Wld:=run qtN w.2.2.1.length w
def Nk (w:Wld):Nat→Wld
 |0=>w
 |n+1=>Qh (Nk w n)
def Hya:Tot (λ k=>Hb k) (λ r=>r=F3):=by
 unfold Hb
 refine H2b (Q:=λ r=>r=F3) ?_ (by rintro r rfl;exact H1b rfl)
 refine Hab (L:=λ k i (s:List Int)=>Eg k s i) (Q:=λ r=>r=F3) 12 (λ j s=>s=List.replicate j 1) ?_ ?_ 0 [] (Vp _) rfl
 ·rintro s rfl
  simp (disch:=omega) only [Eg,dF]
  exact H1b rfl
 ·rintro j s hj rfl next
  simp (disch:=omega) only [Eg,dT,w64]
  refine H9b (by rw[Kbb];simp only[Vd,Vk];omega) (next _ ?_)
  rw[List.replicate_succ']
def NW (w v:Wld):Prop:=∃ ns,v=wN w ns∧NO w.2.2.1 ns
def NW.refl {w:Wld} (h:WO w):NW w w:=⟨w.2.2.1,rfl,h.ns,rfl⟩
def NW.trans {u v w:Wld} (h1:NW u v) (h2:NW v w):NW u w:=by
 obtain⟨a,rfl,ha⟩:=h1
 obtain⟨b,rfl,hb⟩:=h2
 exact⟨b,rfl,hb.1,hb.2.trans ha.2⟩
def NW.wo {w v:Wld} (h:NW w v) (hw:WO w):WO v:=by
 obtain⟨ns,rfl,hn⟩:=h
 exact hw.other hn
def NW.len {w v:Wld} (h:NW w v):v.2.2.1.length=w.2.2.1.length:=by
 obtain⟨ns,rfl,hn⟩:=h
 exact hn.len
def Cvb {w:Wld} (h:WO w) {i:Nat} (hi:i<w.2.2.1.length) (s:ByteArray) (rc:List Int):NW w (Ph w i s rc).2:=N7a h.ns hi
def Cwb {w:Wld} (h:WO w) {i:Nat} (hi:i<w.2.2.1.length) (rc:List Int):NW w (Pi w i rc).2:=N9a h.ns hi
def Cxb {w:Wld} (h:WO w) {i:Nat} (hi:i<w.2.2.1.length) (rc:List Int):NW w (Ow w i rc).2:=N8a h.ns hi
def A3b {w:Wld} (h:WO w) {i:Nat} (hi:i<w.2.2.1.length):NW w (qtA w i):=⟨_,rfl,NO.set ⟨h.ns,rfl⟩ hi (Mza (h.ns.get hi)) rfl⟩
def W8 {i:Nat}:∀ (l:List ByteArray) {w:Wld},WO w→i<w.2.2.1.length→NW w (O8 w i l)
 |[],w,h,_=>NW.refl h
 |s::l,w,h,hi=>by
  have h1:=Cvb h hi s F3
  exact h1.trans (W8 l (h1.wo h) (by rw[h1.len];exact hi))
def W9 {i:Nat} {w:Wld} (h:WO w) (hi:i<w.2.2.1.length):∀ n,NW w (Mc w i n)
 |0=>NW.refl h
 |n+1=>by
  have h1:=W9 h hi n
  exact h1.trans (Cwb (h1.wo h) (by rw[h1.len];exact hi) F3)
def A4b {w:Wld} (h:WO w) {i:Nat} (hi:i<w.2.2.1.length):NW w (qtP w i):=by
 have h1:=A3b h hi
 exact h1.trans (W8 _ (h1.wo h) (by rw[h1.len];exact hi))
def A5b {w:Wld} (h:WO w) {i:Nat} (hi:i<w.2.2.1.length):NW w (qtT w i):=by
 have h1:=A4b h hi
 exact h1.trans (W9 (h1.wo h) (by rw[h1.len];exact hi) _)
def Fbb {w:Wld} (h:WO w) {i:Nat} (hi:i<w.2.2.1.length):NW w (qtN w i):=by
 have h1:=A5b h hi
 exact h1.trans (Cxb (h1.wo h) (by rw[h1.len];exact hi) F3)
def Una {w:Wld} (h:WO w):∀ n,n≤w.2.2.1.length→NW w (run qtN n w)
 |0,_=>NW.refl h
 |n+1,hn=>by
  have h1:=Una h n (by omega)
  rw[Mm]
  exact h1.trans (Fbb (h1.wo h) (by rw[h1.len];omega))
def Yda {w:Wld} (h:WO w):NW w (Qh w):=Una h _ (Vw _)
def Hza {w:Wld} (h:WO w):∀ n,NW w (Nk w n)
 |0=>NW.refl h
 |n+1=>by
  have h1:=Hza h n
  exact h1.trans (Yda (h1.wo h))
def NW.sp {w v:Wld} (h:NW w v):v.2.2.2.2.2=w.2.2.2.2.2:=by obtain⟨ns,rfl,_⟩:=h;rfl
def Pca {w:Wld} (h:WO w):Tot (λ k=>Ae k w) (λ r=>r=Qh w):=by
 have hnl:=h.ns.1
 unfold Ae
 refine H2b Hya ?_
 rintro _ rfl
 refine H2b (Q:=λ r=>r=Qh w) ?_ (by rintro r rfl;exact H1b rfl)
 refine Hab (L:=λ k i (v:Wld)=>Br k F3 (w.2.2.1.length:Int) i v) (Q:=λ r=>r=Qh w) w.2.2.1.length (λ j v=>v=run qtN j w) ?_ ?_ 0 w (Vp _) rfl
 ·rintro v rfl
  simp (disch:=omega) only [Br,dF]
  exact H1b rfl
 ·rintro j v hj rfl next
  rw[Mm]at next
  have hn:=Una h j (by omega)
  have hv:=hn.wo h
  have hl:=hn.len
  generalize run qtN j w=v at *
  have hj':j<v.2.2.1.length:=by omega
  have e0:v.2.2.1.getD j ((0:Int),(([],[]),([],[])))=v.2.2.1.getD j A8:=rfl
  simp (disch:=omega) only [Br,dT,Vc,e0]
  refine H2b (Tya _ (hv.ns.get hj')) ?_
  rintro _ rfl
  have e1:∀ ns:List Nod,ns.getD j ((0:Int),(([],[]),([],[])))=ns.getD j A8:=λ _=>rfl
  have hsl:(v.2.2.1.set j (Zqa (v.2.2.1.getD j A8)).1).length=v.2.2.1.length:=Vv ..
  have hA:=A3b hv hj'
  have hAo:=hA.wo hv
  have hAl:=hA.len
  refine H5b (by rw[hsl];omega) ?_
  show Tot (λ k=>(Ir k ((qtA v j).2.2.1.getD j A8).2.1).bind λ r6=>(B6 k F3 (j:Int) (w.2.2.1.length:Int) (j:Int) r6 (length r6:Int) 0 (qtA v j)).bind _) _
  have hg:=Xb (hAo.ns.get (i:=j) (by omega))
  refine H2b (Xta _ hg.1.1 hg.1.2) ?_
  rintro _ rfl
  have hpl:(Rd ((qtA v j).2.2.1.getD j A8).2.1).length≤2000000:=by
   have a:=Zoa ((qtA v j).2.2.1.getD j A8).2.1 ((qtA v j).2.2.1.getD j A8).2.1.1 []
   rw[Vk]at a
   have:=hg.1.1.2.1
   unfold Rd
   omega
  have hP:=A4b hv hj'
  have hPo:=hP.wo hv
  have hPl:=hP.len
  refine H2b (Q:=λ r=>r=(F3,(j:Int),(w.2.2.1.length:Int),(j:Int),qtP v j)) ?_ ?_
  ·have hfull:qtP v j=O8 (qtA v j) j (Rd ((qtA v j).2.2.1.getD j A8).2.1):=rfl
   rw[hfull]
   generalize Rd ((qtA v j).2.2.1.getD j A8).2.1=l at *
   refine Hab (L:=λ k i (u:Wld)=>B6 k F3 (j:Int) (w.2.2.1.length:Int) (j:Int) l (l.length:Int) i u) (Q:=λ r=>r=(F3,(j:Int),(w.2.2.1.length:Int),(j:Int),O8 (qtA v j) j l)) l.length (λ i u=>u=O8 (qtA v j) j (l.take i)) ?_ ?_ 0 _ (Vp _) rfl
   ·rintro u rfl
    simp (disch:=omega) only [B6,dF]
    exact H1b (by rw[Yj])
   ·rintro i u hi rfl next
    have hq:=W8 (i:=j) (l.take i) hAo (by omega)
    have hqo:=hq.wo hAo
    have hql:=hq.len
    have e2:l.getD i (⟨#[]⟩:ByteArray)=l.getD i Mu:=rfl
    simp (disch:=omega) only [B6,dT,Vc,w64,e2]
    refine H2b (Y9a _ j _ F3 hqo.ring hqo.ns (by omega)) ?_
    rintro _ rfl
    refine next _ ?_
    unfold O8
    rw[Wi hi,Hrb,Vb,Vj hi]
    rfl
  ·rintro _ rfl
   simp (disch:=omega) only [dT,Vc,e1]
   have hT:=A5b hv hj'
   have hTo:=hT.wo hv
   have hTl:=hT.len
   have hq60:=(Bo.1 (hPo.ns.get (i:=j) (by omega)).1).2.2.2.2
   refine H2b (Q:=λ r=>r=(F3,(j:Int),(w.2.2.1.length:Int),(j:Int),qtT v j)) ?_ ?_
   ·have hfull:qtT v j=Mc (qtP v j) j ((qtP v j).2.2.1.getD j A8).2.2.2.length:=rfl
    rw[hfull]
    generalize ((qtP v j).2.2.1.getD j A8).2.2.2.length=q at *
    refine Hab (L:=λ k i (u:Wld)=>Bd k F3 (j:Int) (w.2.2.1.length:Int) (j:Int) (q:Int) i u) (Q:=λ r=>r=(F3,(j:Int),(w.2.2.1.length:Int),(j:Int),Mc (qtP v j) j q)) q (λ i u=>u=Mc (qtP v j) j i) ?_ ?_ 0 _ (Vp _) rfl
    ·rintro u rfl
     simp (disch:=omega) only [Bd,dF]
     exact H1b rfl
    ·rintro i u hi rfl next
     have hq:=W9 hPo (i:=j) (by omega) i
     have hqo:=hq.wo hPo
     have hql:=hq.len
     simp (disch:=omega) only [Bd,dT,w64]
     refine H2b (Uha _ j F3 (Ma hqo.ring) hqo.ns (by omega)) ?_
     rintro _ rfl
     exact next _ rfl
   ·rintro _ rfl
    refine H2b (Uga (qtT v j) j F3 (Ma hTo.ring) hTo.ns (by omega)) ?_
    rintro _ rfl
    simp (disch:=omega) only [w64]
    exact next _ rfl
def Kha {m:Nat} {w:Wld} (h:WIm m w) (hm:m≤1999000) (n:Nat) (hn:n≤20):Tot (λ k=>G6 k w (n:Int)) (λ r=>r=bif B4a w then Nk w n else w):=by
 have hw:=h.win (by omega)
 unfold G6
 refine H2b (Uia h (by omega)) ?_
 rintro w rfl
 simp only[Tx,Vs]
 refine H4b (F9.2 ⟨by omega,by omega⟩) (H2b (U0a w hw) ?_)
 rintro b rfl
 cases hk:B4a w with
 |false=>exact H3b rfl (H1b rfl)
 |true=>
  have ho:=h.wo hk
  refine H4b rfl (H2b (Q:=λ r=>r=(P8a,Nk w n)) ?_ (by rintro _ rfl;exact H1b rfl))
  refine Hab (L:=λ k i (v:Wld)=>Gw k (n:Int) i P8a v) (Q:=λ r=>r=(P8a,Nk w n)) n (λ j v=>v=Nk w j) ?_ ?_ 0 w (Vp _) rfl
  ·rintro v rfl
   simp (disch:=omega) only [Gw,dF]
   exact H1b rfl
  ·rintro j v hj rfl next
   simp (disch:=omega) only [Gw,dT,w64]
   refine H2b (Pca ((Hza ho j).wo ho)) ?_
   rintro _ rfl
   exact next _ rfl

def Bga (nm:List ByteArray) (ws:List Wri):Prop:=nm.length≤60∧∀ x∈ws,x.1∈nm
def Cya {nm:List ByteArray} {l:List Nmd} (hs:D0 l) (h:∀ x∈l,x.1∈nm) (hn:nm.length≤60):l.length≤60:=by
 have hp:(l.map (·.1)).Pairwise (λ a b=>tlt a b=true):=Zm.2 hs
 have hd:(l.map (·.1)).Nodup:=hp.imp (λ {a b} hab e=>by subst e;rw[Hs]at hab;cases hab)
 have:=Ui _ nm hd (λ s hs=>by obtain⟨x,hx,rfl⟩:=Zb.1 hs;exact h x hx)
 rw[Wd]at this
 omega
def A6b {nm:List ByteArray} {l:List Nmd} {s:ByteArray} {b:List Int} (hl:D0 l) (h:∀ x∈l,x.1∈nm) (hs:s∈nm) (hn:nm.length≤60):(wr l s b).length≤60:=by
 have hso:D0 (wr l s b):=Pe (M4 hl) Wx
 refine Cya hso (λ x hx=>?_) hn
 have hg:=Eca hso hx
 rw[Eea hl]at hg
 by_cases e:s=x.1
 ·rw[← e];exact hs
 ·rw[if_neg e]at hg;exact h _ (O5 hg)
section
variable {nm:List ByteArray} {ws:List Wri} {sp:List ByteArray} {d:Dsk} {s:ByteArray} {f:Fil}
def Uoa (hN:Bga nm ws) (hf:IsW ws s f):s∈nm:=by
 obtain⟨x,hx,rfl,_⟩:=hf
 exact hN.2 x hx
def Yea (hN:Bga nm ws) (hd:Ay d=true) (h:DI ws sp d):(∀ x∈d.1,x.1∈nm)∧∀ x∈d.2,x.1∈nm:=by
 refine⟨λ x hx=>?_,λ x hx=>?_⟩
 ·obtain⟨f,hf,_⟩:=(h x.1).1 _ (Eca (Ka hd) hx)
  exact Uoa hN hf
 ·obtain⟨f,hf,_⟩:=(h x.1).2.1 _ (Eca (O6 hd) hx)
  exact Uoa hN hf
def Pk (o:Option Fil) (f:Fil):Fil:=match o with
 |some g=>bif sle g.1 f.1 then f else g
 |none=>f
def Kia (o:Option Fil) (f:Fil):Pk (some (Pk o f)) f=Pk o f:=by
 cases o with
 |none=>simp[Pk]
 |some g=>cases h:sle g.1 f.1<;>simp[Pk,h]
def Yfa (hw:Ewa ws) (hN:Bga nm ws) (hd:DG d) (h:DI ws sp d) (hf:IsW ws s f):
  ((keep d s f true).2=0∨(keep d s f true).2=1)∧∀ t,old (keep d s f true).1 t=if s=t then some (Pk (old d s) f) else old d t:=by
 obtain⟨g1,g2,g3⟩:=hf.good hw
 have hs:=Uoa hN hf
 obtain⟨n1,n2⟩:=Yea hN hd.1 h
 have l1:∀ b,(wr d.1 s b).length≤60:=λ b=>A6b (Ka hd.1) n1 hs hN.1
 have h2s:D0 d.2:=O6 hd.1
 have l2:∀ l:List Nmd,(sy (l,d.2) s).length≤60:=λ l=>by
  unfold sy
  cases gt l s with
  |some b=>exact A6b h2s n2 hs hN.1
  |none=>exact Cya (M4 h2s) (λ x hx=>n2 x (Ibb.1 hx).1) hN.1
 rw[U9 hd.1 g1 g2]
 rcases Rz (f:=f) (sure:=true) hd g1 with k|⟨o,h1,h2,h3,_,h5⟩|⟨h1,_,h3,_,h5⟩
 ·exfalso
  have hwr:wrD d s (Kg f)=((wr d.1 s (Kg f),d.2),true):=by
   unfold wrD
   rw[decide_eq_true (show (Kg f).length≤400 by have:=Xu f;omega),decide_eq_true (l1 _)]
   rfl
  have hsy:∀ l:List Nmd,(syD (l,d.2) s).2=true:=λ l=>by
   unfold syD
   rw[decide_eq_true (l2 l)]
   rfl
  have k2:∀ (l:List Nmd) (c:Int),(kp2 d s true ((l,d.2),c)).2=c:=λ l c=>by
   unfold kp2
   rw[cond_true,hsy l]
   rfl
  have k3:=congrArg Prod.snd k
  unfold Ls kp1 at k3
  rw[hwr]at k3
  cases ho:old d s with
  |none=>
   rw[ho]at k3
   have:(kp2 d s true ((wr d.1 s (Kg f),d.2),0)).2=3:=k3
   rw[k2]at this
   cases this
  |some o=>
   rw[ho]at k3
   cases hc:sle o.1 f.1 with
   |true=>
    simp only[hc,cond_true]at k3
    rw[k2]at k3
    cases k3
   |false=>
    simp only[hc,cond_false]at k3
    have:(kp2 d s true ((d.1,d.2),1)).2=3:=k3
    rw[k2]at this
    cases this
 ·refine⟨.inr h3,λ t=>?_⟩
  rcases h5 with⟨c,_⟩|⟨_,e⟩
  ·cases c
  ·rw[e]
   show old d t=_
   by_cases hst:s=t
   ·subst hst
    rw[if_pos rfl,h1]
    simp[Pk,h2]
   ·rw[if_neg hst]
 ·refine⟨.inl h3,λ t=>?_⟩
  rcases h5 with⟨c,_⟩|⟨_,e⟩
  ·cases c
  ·rw[e]
   show (gt (wr d.1 s (Kg f)) t).bind Ms=_
   rw[Eea (Ka hd.1)]
   by_cases hst:s=t
   ·rw[if_pos hst,if_pos hst,Vs,U7 g2 g3]
    cases ho:old d s with
    |none=>rfl
    |some o=>simp[Pk,h1 o ho]
   ·rw[if_neg hst,if_neg hst]
    rfl
end
def Cyb {d:Dsk} {s:ByteArray} (hd:DG d) (hg:(gt d.1 s).isSome=true) (t:ByteArray):old (syD (rmD d s).1 s).1 t=if s=t then none else old d t:=by
 have e1:(syD (rmD d s).1 s).1.1=cut d.1 s:=by
  have e:(rmD d s).1=(cut d.1 s,d.2):=by unfold rmD;rw[hg];rfl
  rw[e]
  unfold syD
  cases decide ((sy (cut d.1 s,d.2) s).length≤60)<;>rfl
 unfold old
 rw[e1,Sf (Ka hd.1)]
 by_cases h:s=t
 ·rw[if_pos h,if_pos h];rfl
 ·rw[if_neg h,if_neg h]
def Upa {d:Dsk} (hd:DG d) (t:ByteArray):old (Lq d).1 t=old d t:=by
 obtain⟨_,h⟩:=T3 d.1 (d,0) hd
 unfold old
 by_cases hb:t∈Ema d.1
 ·obtain⟨b,h1,h2⟩:=(Mxa hd.1).1 hb
  rw[show gt (Lq d).1.1 t=none from ((h t).1 hb).1,h1,Vs,h2]
  rfl
 ·rw[show gt (Lq d).1.1 t=gt d.1 t from ((h t).2 hb).1]
def Uqa {d:Dsk} {s:ByteArray}:((lkD d s).2 != 0)=(old d s).isNone:=by
 unfold lkD old
 cases gt d.1 s with
 |none=>rfl
 |some b=>cases h:Ms b<;>simp[h]
def Kja {d:Dsk} {s:ByteArray} {f:Fil} (h:old d s=some f):lkD d s=(f,0):=by
 unfold old at h
 cases hg:gt d.1 s with
 |none=>rw[hg]at h;cases h
 |some b=>rw[hg]at h;exact O7.2 ⟨b,hg,h⟩
def Ura (id:Int):∀ {ns ms:List Nod} (i:Nat),ms.map (·.1)=ns.map (·.1)→atN ms id i=atN ns id i
 |[],[],_,_=>rfl
 |n::ns,m::ms,i,h=>by
  rw[Yd,Yd,Yn]at h
  unfold atN
  rw[h.1,Ura id (i+1) h.2]
 |[],_::_,_,h=>by cases h
 |_::_,[],_,h=>by cases h
def Kka {ns ms:List Nod} (h:ms.map (·.1)=ns.map (·.1)) (ids:List Int):whr ms ids=whr ns ids:=by
 unfold whr
 congr 1
 funext id
 exact Ura id 0 h
def Kla (id:Int):∀ (ns:List Nod) (i:Nat),(ns.map (·.1)).Nodup→(atN ns id i).length≤1
 |[],_,_=>Vp _
 |n::ns,i,h=>by
  rw[Yd,Yq]at h
  have ih:=Kla id ns (i+1) h.2
  unfold atN
  cases hx:n.1==id with
  |false=>exact ih
  |true=>
   have he:atN ns id (i+1)=[]:=by
    refine Jcb.2 λ x hx'=>?_
    obtain⟨j,h1,h2,_⟩:=(B6a id ns (i+1) x).1 hx'
    refine h.1 ?_
    rw[eq_of_beq hx,← h2]
    exact Yk (A3 h1)
   rw[cond_true,he]
   exact Vw _
def Usa {ns:List Nod} (h:(ns.map (·.1)).Nodup):∀ (ids:List Int),(whr ns ids).length≤ids.length
 |[]=>Vp _
 |id::ids=>by
  rw[Xy,Ve,Vd]
  have:=Kla id ns 0 h
  have:=Usa h ids
  omega
def WO.nodup {w:Wld} (h:WO w):(w.2.2.1.map (·.1)).Nodup:=by
 rw[h.ids]
 have hp:=(Fb.1 (Bz.1 h.ring).1).1
 have hq:(w.1.map (·.1)).Pairwise (λ a b=>a<b):=Zm.2 hp
 exact hq.imp (λ {a b} hab e=>by omega)
def WO.prim5 {w:Wld} (h:WO w) (s:ByteArray):(Mi w s).length≤5:=by
 have h1:=Usa h.nodup (Qm w.2.1 s)
 have h2:=(W5 h.ring s).2.1
 have h3:=(Bz.1 h.ring).2.1
 unfold Mi
 omega
def Fcb {j:Nat} (h:j<12):rch F3 j=1:=by
 unfold rch
 rw[decide_eq_true (show j<F3.length from h)]
 have:F3.getD j 0=1:=by
  match j,h with
  |0,_|1,_|2,_|3,_|4,_|5,_|6,_|7,_|8,_|9,_|10,_|11,_=>rfl
 rw[this]
 rfl
def Pl {α:Type} (bs:Option α→α→α) (P:Nat→Bool) (i:Nat) (c:Nat→Option α) (m:Nat):Option α:=match c i with
 |none=>c m
 |some f=>bif P m&&!(decide (m=i)) then some (bs (c m) f) else bif decide (m=i)&&!(P i) then none else c m
def oN (ns:List Nod) (m:Nat) (t:ByteArray):Option Fil:=old (ns.getD m A8).2.1 t
def inP (w:Wld) (t:ByteArray) (m:Nat):Bool:=Lm (Mi w t) (m:Int)
def Czb {nm:List ByteArray} {w:Wld} (h:WI w) (hN:Bga nm w.2.2.2.2.1) {i:Nat} (hi:i<w.2.2.1.length) {s:ByteArray} {f:Fil} (hf:oN w.2.2.1 i s=some f):
  (puN w i s F3).2.2=true∧(puN w i s F3).2.1=inP w s i∧NR w.2.2.2.2.1 w.2.2.2.2.2 w.2.2.1 (puN w i s F3).1∧
  ∀ m,m<w.2.2.1.length→∀ t,oN (puN w i s F3).1 m t=bif teq s t&&(inP w s m&&!(decide (m=i))) then some (Pk (oN w.2.2.1 m s) f) else oN w.2.2.1 m t:=by
 have h5:=h.wo.prim5 s
 have hIW:IsW w.2.2.2.2.1 s f:=ED.now h.wok ((h.nodes _ (A3 (d:=A8) hi)).2.1 s) hf
 have hlk:(lkD (w.2.2.1.getD i A8).2.1 s).1=f:=by rw[Kja hf]
 have hat:=λ x=>On (w:=w) (s:=s) (x:=x)
 unfold puN inP
 rw[hlk]
 generalize Mi w s=ps at *
 have key:=Ku (st:=pst (i:Int) s f F3 ps) (n:=ps.length) (a:=(w.2.2.1,false,true)) (λ j (a:List Nod×Bool×Bool)=>a.2.2=true∧a.2.1=Lm (ps.take j) (i:Int)∧NR w.2.2.2.2.1 w.2.2.2.2.2 w.2.2.1 a.1∧
  ∀ m,m<w.2.2.1.length→∀ t,oN a.1 m t=bif teq s t&&(Lm (ps.take j) (m:Int)&&!(decide (m=i))) then some (Pk (oN w.2.2.1 m s) f) else oN w.2.2.1 m t) ?_ ?_
 ·rw[Yj]at key
  exact key
 ·exact⟨rfl,rfl,NR.refl h.nodes,λ m _ t=>by
   show _=bif teq s t&&(false&&_) then _ else _
   rw[Yv,Wq]
   rfl⟩
 ·rintro j ⟨ns,o,g⟩ hj ⟨a1,a2,a3,a4⟩
  dsimp only at a1 a2 a3 a4
  subst a1
  have hpx:=hat _ (A3 (d:=0) hj)
  obtain⟨p,hp⟩:∃ p:Nat,ps.getD j 0=(p:Int):=⟨(ps.getD j 0).toNat,by omega⟩
  have htk:∀ x:Int,Lm (ps.take (j+1)) x=(Lm (ps.take j) x||(p:Int)==x):=λ x=>by
   have e:ps[j]=(p:Int):=by rw[← hp,Vb,Vj hj];rfl
   unfold Lm
   rw[Wi hj,Jrb,e,I1b,Khb,I5b]
  have hnl:=a3.len
  unfold pst
  rw[hp,Vc,Fcb (by omega)]
  cases hpi:(p:Int)==(i:Int) with
  |true=>
   have e:p=i:=by have:=eq_of_beq hpi;omega
   refine⟨rfl,?_,a3,λ m hm t=>?_⟩
   ·show true=_
    rw[htk,hpi,Bool.or_true]
   ·show oN ns m t=_
    rw[a4 m hm t,htk,e]
    by_cases hmi:m=i
    ·rw[decide_eq_true hmi];simp
    ·rw[show ((i:Int)==(m:Int))=false by rw[beq_eq_false_iff_ne];omega,I5b]
  |false=>
   have e:p≠i:=by intro e;rw[e,beq_self_eq_true]at hpi;cases hpi
   have hpn:p<ns.length:=by omega
   have hni:=a3.1 _ (A3 (d:=A8) hpn)
   obtain⟨k1,k2⟩:=Yfa h.wok hN hni.1.g hni.2.1 hIW
   obtain⟨d1,d2⟩:=Kca (sure:=true) h.wok hni.1.g hni.2.1 hIW
   have hcode:((keep (ns.getD p A8).2.1 s f true).2 != 0&&(keep (ns.getD p A8).2.1 s f true).2 != 1)=false:=by
    rcases k1 with k|k<;>rw[k]<;>rfl
   refine⟨?_,?_,a3.set hpn ⟨Esa hni.1,d1,hni.2.2⟩ rfl d2,λ m hm t=>?_⟩
   ·show (bif ((keep (ns.getD p A8).2.1 s f true).2 != 0&&(keep (ns.getD p A8).2.1 s f true).2 != 1) then false else true)=true
    rw[hcode]
    rfl
   ·show o=_
    rw[a2,htk,hpi,I5b]
   ·show oN (ns.set p _) m t=_
    unfold oN
    rw[Cz (show m<ns.length by omega),htk]
    by_cases hpm:p=m
    ·subst hpm
     rw[if_pos rfl,beq_self_eq_true,Bool.or_true,Vx,decide_eq_false e,Zh,Zz]
     show old (keep (ns.getD p A8).2.1 s f true).1 t=_
     rw[k2 t]
     have a4s:=a4 p hm s
     have a4t:=a4 p hm t
     unfold oN at a4s a4t
     rw[decide_eq_false e,Zh,Zz]at a4s a4t
     by_cases hst:s=t
     ·subst hst
      rw[if_pos rfl,show teq s s=true from Cu.2 rfl,cond_true,a4s,show teq s s=true from Cu.2 rfl,Vx]
      cases Lm (ps.take j) (p:Int) with
      |true=>rw[cond_true,Kia]
      |false=>rfl
     ·have ht:teq s t=false:=by cases hq:teq s t with|false=>rfl|true=>exact absurd (Cu.1 hq) hst
      rw[if_neg hst,ht,cond_false,a4t,ht,Yv,cond_false]
    ·rw[if_neg hpm,show ((p:Int)==(m:Int))=false by rw[beq_eq_false_iff_ne];omega,I5b]
     exact a4 m hm t
def WI.push {w:Wld} (h:WI w) {i:Nat} (hi:i<w.2.2.1.length) (s:ByteArray) (rc:List Int):WI (Ph w i s rc).2:=h.other' (Y0 h.wok h.nodes hi h.ring h.ids)
def Yga {nm:List ByteArray} {w:Wld} (h:WI w) (hN:Bga nm w.2.2.2.2.1) {i:Nat} (hi:i<w.2.2.1.length) (s:ByteArray) {m:Nat} (hm:m<w.2.2.1.length) (t:ByteArray):
  oN (Ph w i s F3).2.2.2.1 m t=bif teq s t then Pl Pk (inP w s) i (λ m=>oN w.2.2.1 m s) m else oN w.2.2.1 m t:=by
 have hst:∀ {t:ByteArray},teq s t=true→s=t:=λ h=>Cu.1 h
 unfold Ph
 rw[Uqa]
 cases ho:oN w.2.2.1 i s with
 |none=>
  have:old (w.2.2.1.getD i A8).2.1 s=none:=ho
  rw[this]
  show oN w.2.2.1 m t=_
  cases ht:teq s t with
  |false=>rfl
  |true=>rw[cond_true,← hst ht];unfold Pl;simp only[ho]
 |some f=>
  have e1:old (w.2.2.1.getD i A8).2.1 s=some f:=ho
  rw[e1]
  obtain⟨p1,p2,p3,p4⟩:=Czb h hN hi ho
  show oN (bif (puN w i s F3).2.2&&!(puN w i s F3).2.1 then (puN w i s F3).1.set i (Fqb ((puN w i s F3).1.getD i A8) s) else (puN w i s F3).1) m t=_
  rw[p1,p2,Vx]
  have hlen:=p3.len
  have Bqa:Pl Pk (inP w s) i (λ m=>oN w.2.2.1 m s) m=bif inP w s m&&!(decide (m=i)) then some (Pk (oN w.2.2.1 m s) f) else bif decide (m=i)&&!(inP w s i) then none else oN w.2.2.1 m s:=by
   unfold Pl
   simp only[ho]
  cases hin:inP w s i with
  |true=>
   rw[Yw,cond_false,p4 m hm t,Bqa,hin]
   cases ht:teq s t with
   |false=>rfl
   |true=>
    rw[hst ht,Vx,cond_true,Yw,Wq,cond_false]
  |false=>
   rw[Zh,cond_true,Bqa,hin]
   unfold oN
   rw[Cz (show m<(puN w i s F3).1.length by omega)]
   by_cases hmi:i=m
   ·subst hmi
    rw[if_pos rfl,hin,Yv,cond_false,decide_eq_true rfl,Zh,Vx,cond_true]
    have hg:=(p3.1 _ (A3 (d:=A8) (show i<(puN w i s F3).1.length by omega))).1.g
    have p4s:=p4 i hi s
    have p4t:=p4 i hi t
    rw[hin,Yv,Wq,cond_false]at p4s p4t
    have hgs:(gt ((puN w i s F3).1.getD i A8).2.1.1 s).isSome=true:=by
     have:old ((puN w i s F3).1.getD i A8).2.1 s=some f:=p4s.trans ho
     unfold old at this
     cases hq:gt ((puN w i s F3).1.getD i A8).2.1.1 s with
     |none=>rw[hq]at this;cases this
     |some b=>rfl
    show old (syD (rmD ((puN w i s F3).1.getD i A8).2.1 s).1 s).1 t=_
    rw[Cyb hg hgs t]
    cases ht:teq s t with
    |true=>rw[if_pos (hst ht)];rfl
    |false=>
     rw[if_neg (λ e=>by rw[e,show teq t t=true from Cu.2 rfl]at ht;cases ht)]
     exact p4t
   ·rw[if_neg hmi,decide_eq_false (λ e=>hmi e.symm)]
    have:=p4 m hm t
    unfold oN at this
    rw[this,decide_eq_false (λ e=>hmi e.symm)]
    cases ht:teq s t with
    |false=>rfl
    |true=>
     rw[hst ht,Vx,cond_true,Yv,cond_false]

structure BOk {α:Type} (bs:Option α→α→α) (le:α→α→Prop):Prop where
 rf:∀ a,le a a
 tr:∀ {a b c},le a b→le b c→le a c
 up:∀ o f,le f (bs o f)
 ub:∀ g f,le g (bs (some g) f)
 oo:∀ o f,bs o f=f∨o=some (bs o f)
def Nba {α:Type} (k:Nat) (P:Nat→Bool) (c:Nat→Option α):Prop:=∀ m,m<k→P m=false→c m=none
def InK {α:Type} (le:α→α→Prop) (k n:Nat) (P:Nat→Bool) (c:Nat→Option α):Prop:=∀ q,q<k→P q=true→∀ x,c q=some x→∀ p,p<n→P p=true→∃ y,c p=some y∧le x y
section
variable {α:Type} {bs:Option α→α→α} {le:α→α→Prop} {P:Nat→Bool} {c c':Nat→Option α} {k n:Nat}
def B9a {i m:Nat} (h1:c i=c' i) (h2:c m=c' m):Pl bs P i c m=Pl bs P i c' m:=by
 unfold Pl
 rw[h1,h2]
def Nba.eq (h:Nba k P c) (hk:k≤n) (e:∀ m,m<n→c' m=c m):Nba k P c':=λ m hm hp=>by rw[e m (by omega)];exact h m hm hp
def InK.eq (h:InK le k n P c) (hk:k≤n) (e:∀ m,m<n→c' m=c m):InK le k n P c':=λ q hq hp x hx p hp1 hp2=>by
 rw[e q (by omega)]at hx
 rw[e p hp1]
 exact h q hq hp x hx p hp1 hp2
def Nba.step (h:Nba k P c):Nba (k+1) P (Pl bs P k c):=λ m hm hp=>by
 unfold Pl
 cases hk:c k with
 |none=>
  dsimp only
  by_cases e:m=k
  ·rw[e];exact hk
  ·exact h m (by omega) hp
 |some f=>
  dsimp only
  rw[hp,Yv,cond_false]
  by_cases e:m=k
  ·rw[decide_eq_true e,← e,hp];rfl
  ·rw[decide_eq_false e];exact h m (by omega) hp
def InK.step (hb:BOk bs le) (h:InK le k n P c):InK le (k+1) n P (Pl bs P k c):=by
 intro q hq hPq x hx p hp hPp
 cases hk:c k with
 |none=>
  have e:Pl bs P k c=c:=by funext m;unfold Pl;rw[hk]
  rw[e]at hx ⊢
  by_cases hqk:q=k
  ·rw[hqk,hk]at hx;cases hx
  ·exact h q (by omega) hPq x hx p hp hPp
 |some f=>
  have st:∀ m,P m=true→Pl bs P k c m=if m=k then some f else some (bs (c m) f):=λ m hm=>by
   unfold Pl
   rw[hk]
   dsimp only
   by_cases e:m=k
   ·rw[if_pos e,decide_eq_true e,← e,hm,e,hk];rfl
   ·rw[if_neg e,decide_eq_false e,hm];rfl
  rw[st q hPq]at hx
  rw[st p hPp]
  by_cases hqk:q=k
  ·rw[if_pos hqk]at hx
   obtain rfl:=Ikb hx
   by_cases hpk:p=k
   ·rw[if_pos hpk];exact⟨f,rfl,hb.rf f⟩
   ·rw[if_neg hpk];exact⟨_,rfl,hb.up _ f⟩
  ·rw[if_neg hqk]at hx
   cases hx
   rcases hb.oo (c q) f with e|e
   ·rw[e]
    by_cases hpk:p=k
    ·rw[if_pos hpk];exact⟨f,rfl,hb.rf f⟩
    ·rw[if_neg hpk];exact⟨_,rfl,hb.up _ f⟩
   ·obtain⟨y,h1,h2⟩:=h q (by omega) hPq _ e p hp hPp
    by_cases hpk:p=k
    ·rw[hpk,hk]at h1
     obtain rfl:=Ikb h1
     rw[if_pos hpk];exact⟨f,rfl,h2⟩
    ·rw[if_neg hpk,h1];exact⟨_,rfl,hb.tr h2 (hb.ub y f)⟩
def gvC {α:Type} (bs:Option α→α→α) (P:Nat→Bool) (f:α) (c:Nat→Option α) (m:Nat):Option α:=bif P m then some (bs (c m) f) else c m
def Nba.gv {f:α} (h:Nba k P c):Nba k P (gvC bs P f c):=λ m hm hp=>by
 unfold gvC
 rw[hp]
 exact h m hm hp
def InK.gv {f:α} (hb:BOk bs le) (h:InK le k n P c):InK le k n P (gvC bs P f c):=by
 intro q hq hPq x hx p hp hPp
 unfold gvC at hx ⊢
 rw[hPq,cond_true]at hx
 rw[hPp,cond_true]
 cases hx
 rcases hb.oo (c q) f with e|e
 ·rw[e];exact⟨_,rfl,hb.up _ f⟩
 ·obtain⟨y,h1,h2⟩:=h q hq hPq _ e p hp hPp
  rw[h1];exact⟨_,rfl,hb.tr h2 (hb.ub y f)⟩
end
def leF (a b:Fil):Prop:=sle b.1 a.1=false
def Fdb:BOk Pk leF where
 rf:=λ a=>Gk _
 tr:=λ h1 h2=>Pj h2 h1
 up:=λ o f=>by
  cases o with
  |none=>exact Gk _
  |some g=>cases h:sle g.1 f.1<;>simp[leF,Pk,h,Gk]
 ub:=λ g f=>by
  cases h:sle g.1 f.1<;>simp[leF,Pk,h,Gk]
  exact Re h
 oo:=λ o f=>by
  cases o with
  |none=>exact .inl rfl
  |some g=>cases h:sle g.1 f.1<;>simp[Pk,h]
def leR (a b:Row):Prop:=Kr b a=false
def Pda (o:Option Row) (f:Row):Row:=match o with
 |some g=>mx g f
 |none=>f
def Uj (a:Row):Kr a a=false:=by
 cases h:Kr a a
 ·rfl
 have:=Sw h
 rw[h]at this
 cases this
def Nca:BOk Pda leR where
 rf:=Uj
 tr:=λ {a b c} h1 h2=>by
  unfold leR at *
  have n1:¬ Kr b a=true:=by rw[h1];decide
  have n2:¬ Kr c b=true:=by rw[h2];decide
  cases h:Kr c a
  ·rfl
  rw[U2]at n1 n2 h
  cases ha:a.2.2.1<;>cases hb:b.2.2.1<;>cases hc:c.2.2.1<;>simp only[ha,hb,hc]at h n1 n2<;>simp at h n1 n2<;>omega
 up:=λ o f=>by
  cases o with
  |none=>exact Uj _
  |some g=>cases h:Kr g f<;>simp[leR,Pda,mx,h,Uj]
 ub:=λ g f=>by
  cases h:Kr g f<;>simp[leR,Pda,mx,h,Uj]
  exact Sw h
 oo:=λ o f=>by
  cases o with
  |none=>exact .inl rfl
  |some g=>cases h:Kr g f<;>simp[Pda,mx,h]
def NR.trans {ws:List Wri} {sp:List ByteArray} {a b c:List Nod} (h1:NR ws sp a b) (h2:NR ws sp b c):NR ws sp a c:=⟨h2.1,h2.2.1.trans h1.2.1,λ s hs st h=>h2.2.2 s hs st (h1.2.2 s hs st h)⟩
def SW (w v:Wld):Prop:=∃ ns,v=wN w ns∧NR w.2.2.2.2.1 w.2.2.2.2.2 w.2.2.1 ns
section
variable {w v u:Wld}
def SW.refl (h:WI w):SW w w:=⟨w.2.2.1,rfl,NR.refl h.nodes⟩
def SW.trans (h1:SW w v) (h2:SW v u):SW w u:=by
 obtain⟨a,rfl,ha⟩:=h1
 obtain⟨b,rfl,hb⟩:=h2
 exact⟨b,rfl,ha.trans hb⟩
def SW.wi (h:SW w v) (hw:WI w):WI v:=by
 obtain⟨ns,rfl,hn⟩:=h
 exact hw.other hn
def SW.len (h:SW w v):v.2.2.1.length=w.2.2.1.length:=by
 obtain⟨ns,rfl,hn⟩:=h
 exact hn.len
def SW.ws (h:SW w v):v.2.2.2.2.1=w.2.2.2.2.1:=by
 obtain⟨ns,rfl,hn⟩:=h
 rfl
def SW.inP (h:SW w v) (t:ByteArray):inP v t=inP w t:=by
 obtain⟨ns,rfl,hn⟩:=h
 funext m
 unfold Vf.inP Mi
 rw[show (wN w ns).2.2.1=ns from rfl,Kka hn.2.1]
def Uta (h:WI w) {i:Nat} (hi:i<w.2.2.1.length) (s:ByteArray):SW w (Ph w i s F3).2:=Y0 h.wok h.nodes hi h.ring h.ids
def Uua (h:WI w) {i:Nat} (hi:i<w.2.2.1.length):SW w (Pi w i F3).2:=N5a h.nodes hi
def Uva (h:WI w) {i:Nat} (hi:i<w.2.2.1.length):SW w (Ow w i F3).2:=N4a h.nodes hi
def A7b (h:WI w) {i:Nat} (hi:i<w.2.2.1.length):SW w (qtA w i):=by
 have hni:=h.nodes _ (A3 (d:=A8) hi)
 obtain⟨c1,c2⟩:=N3a h.wok hni.1.g hni.2.1
 exact⟨_,rfl,(NR.refl h.nodes).set hi ⟨Mza hni.1,c1,hni.2.2⟩ rfl c2⟩
end
def RQ (ns ms:List Nod):Prop:=∀ m,(ms.getD m A8).2.2=(ns.getD m A8).2.2
def RQ.set {ns ms:List Nod} (h:RQ ns ms) {p:Nat} {x:Nod} (hx:x.2.2=(ms.getD p A8).2.2):RQ ns (ms.set p x):=λ m=>by
 rw[← h m]
 by_cases hm:m<ms.length
 ·rw[Cz hm]
  by_cases e:p=m
  ·rw[if_pos e,hx,e]
  ·rw[if_neg e]
 ·rw[Vb,Vb,Yx (by rw[Vv];omega),Yx (by omega)]
def Feb (w:Wld) (i:Nat) (s:ByteArray) (rc:List Int):RQ w.2.2.1 (puN w i s rc).1:=by
 unfold puN
 refine Ku (λ _ (a:List Nod×Bool×Bool)=>RQ w.2.2.1 a.1) (λ _=>rfl) ?_
 rintro j ⟨ns,o,g⟩ hj a1
 dsimp only at a1
 unfold pst
 cases (Mi w s).getD j 0==(i:Int) with
 |true=>exact a1
 |false=>
  cases rch rc j != 1 with
  |true=>exact a1
  |false=>exact a1.set rfl
def Nda (w:Wld) (i:Nat) (s:ByteArray) (rc:List Int):RQ w.2.2.1 (Ph w i s rc).2.2.2.1:=by
 have h:=Feb w i s rc
 unfold Ph
 cases (lkD (w.2.2.1.getD i A8).2.1 s).2 != 0 with
 |true=>exact λ _=>rfl
 |false=>
  show RQ w.2.2.1 (bif (puN w i s rc).2.2&&!(puN w i s rc).2.1 then (puN w i s rc).1.set i (Fqb ((puN w i s rc).1.getD i A8) s) else (puN w i s rc).1)
  cases (puN w i s rc).2.2&&!(puN w i s rc).2.1 with
  |true=>exact h.set rfl
  |false=>exact h
def Uwa {s t:ByteArray} (h:s≠t):teq s t=false:=by
 cases hq:teq s t with
 |false=>rfl
 |true=>exact absurd (Cu.1 hq) h
def Kma {l:List ByteArray} {t:ByteArray} (h:t∉l):Sg l t=false:=by
 cases hq:Sg l t with
 |false=>rfl
 |true=>exact absurd (Ol.1 hq) h
def Cza {i:Nat}:∀ (l:List ByteArray) {w:Wld},WI w→i<w.2.2.1.length→SW w (O8 w i l)
 |[],w,h,_=>SW.refl h
 |s::l,w,h,hi=>by
  have h1:=Uta h hi s
  exact h1.trans (Cza l (h1.wi h) (by rw[h1.len];exact hi))
def D0a {i:Nat}:∀ (l:List ByteArray) {w:Wld},RQ w.2.2.1 (O8 w i l).2.2.1
 |[],w=>λ _=>rfl
 |s::l,w=>λ m=>(D0a l m).trans (Nda w i s F3 m)
def D1a {nm:List ByteArray} {i:Nat} (t:ByteArray):∀ (l:List ByteArray) {w:Wld},WI w→Bga nm w.2.2.2.2.1→i<w.2.2.1.length→l.Nodup→∀ m,m<w.2.2.1.length→
  oN (O8 w i l).2.2.1 m t=bif Sg l t then Pl Pk (inP w t) i (λ m=>oN w.2.2.1 m t) m else oN w.2.2.1 m t
 |[],w,_,_,_,_,m,_=>rfl
 |s::l,w,h,hN,hi,hl,m,hm=>by
  have h1:=Uta h hi s
  obtain⟨hl1,hl2⟩:=Yq.1 hl
  have ih:=D1a (nm:=nm) t l (h1.wi h) (by rw[h1.ws];exact hN) (by rw[h1.len];exact hi) hl2 m (by rw[h1.len];exact hm)
  have pm:=λ m hm=>Yga h hN hi s (m:=m) hm t
  show oN (O8 (Ph w i s F3).2 i l).2.2.1 m t=_
  rw[ih,h1.inP]
  by_cases ht:t∈l
  ·have hst:s≠t:=λ e=>hl1 (e ▸ ht)
   rw[Ol.2 ht,Ol.2 (Vh _ ht),cond_true,cond_true]
   refine B9a ?_ ?_
   ·show oN _ i t=_;rw[pm i hi,Uwa hst];rfl
   ·show oN _ m t=_;rw[pm m hm,Uwa hst];rfl
  ·rw[Kma ht,cond_false,pm m hm]
   by_cases hst:s=t
   ·subst hst
    rw[Ol.2 Ya,Cu.2 rfl]
   ·rw[Kma (l:=s::l) (by rw[Vl];rintro (e|e);exact hst e.symm;exact ht e),Uwa hst]
    rfl
def Pea {d:Dsk} (hd:Ay d=true):(Rd d).Nodup:=by
 rw[Xua (Ka hd)]
 unfold Ceb
 have h1:D0 (d.1.filter λ x=>(Ms x.2).isSome):=(Ka hd).sublist Isb
 have hp:((d.1.filter λ x=>(Ms x.2).isSome).map Prod.fst).Pairwise (λ a b=>tlt a b=true):=Zm.2 h1
 exact hp.imp (λ {a b} hab e=>by subst e;rw[Hs]at hab;cases hab)
def Uxa {d:Dsk} {t:ByteArray} (h:t∉Rd d):old d t=none:=by
 have h1:¬ Hxa d t:=λ c=>h (Uja.2 c)
 have h2:=Uqa (d:=d) (s:=t)
 unfold Hxa at h1
 cases h3:old d t with
 |none=>rfl
 |some f=>
  rw[h3]at h2
  exact absurd (by simpa using h2) h1
def Nea {w:Wld} (h:WI w) {i:Nat} (hi:i<w.2.2.1.length) {m:Nat} (hm:m<w.2.2.1.length) (t:ByteArray):oN (qtA w i).2.2.1 m t=oN w.2.2.1 m t:=by
 show oN (w.2.2.1.set i (Zqa (w.2.2.1.getD i A8)).1) m t=_
 unfold oN
 rw[Cz hm]
 by_cases e:i=m
 ·subst e
  rw[if_pos rfl]
  exact Upa (h.nodes _ (A3 (d:=A8) hi)).1.g t
 ·rw[if_neg e]
def A8b {w:Wld} (h:WI w) {i:Nat} (hi:i<w.2.2.1.length):SW w (qtP w i):=by
 have h1:=A7b h hi
 exact h1.trans (Cza _ (h1.wi h) (by rw[h1.len];exact hi))
def A9b (w:Wld) (i:Nat):RQ w.2.2.1 (qtP w i).2.2.1:=λ m=>(D0a _ m).trans ((show RQ w.2.2.1 w.2.2.1 from λ _=>rfl).set (p:=i) (x:=(Zqa (w.2.2.1.getD i A8)).1) rfl m)
def Ffb {nm:List ByteArray} {w:Wld} (h:WI w) (hN:Bga nm w.2.2.2.2.1) {i:Nat} (hi:i<w.2.2.1.length) {m:Nat} (hm:m<w.2.2.1.length) (t:ByteArray):
  oN (qtP w i).2.2.1 m t=Pl Pk (inP w t) i (λ m=>oN w.2.2.1 m t) m:=by
 have h1:=A7b h hi
 have hi':i<(qtA w i).2.2.1.length:=by rw[h1.len];exact hi
 have hd:=((h1.wi h).nodes _ (A3 (d:=A8) hi')).1.g.1
 have k:=D1a (nm:=nm) t (Rd ((qtA w i).2.2.1.getD i A8).2.1) (h1.wi h) (by rw[h1.ws];exact hN) hi' (Pea hd) m (by rw[h1.len];exact hm)
 show oN (O8 (qtA w i) i _).2.2.1 m t=_
 rw[k,h1.inP]
 by_cases ht:t∈Rd ((qtA w i).2.2.1.getD i A8).2.1
 ·rw[Ol.2 ht]
  exact B9a (c:=λ m=>oN (qtA w i).2.2.1 m t) (c':=λ m=>oN w.2.2.1 m t) (Nea h hi hi t) (Nea h hi hm t)
 ·rw[Kma ht,cond_false,Nea h hi hm t]
  have e:oN w.2.2.1 i t=none:=(Nea h hi hi t).symm.trans (Uxa ht)
  unfold Pl
  dsimp only
  rw[e]

end Go.Proofs.YtiiekghlhfbmmaaGreat.Vf
