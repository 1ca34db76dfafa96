import Derived.Test.YtcpligincipmhaaGreatMao
set_option linter.all false
namespace Go.Proofs.YtcpligincipmhaaGreat.Vf
open Go
open List (length getD)
open Int (toNat)
open Go.IntKind (wrap)
open BitVec (ofInt)
def Ilb:=@List.getElem_map

def NI (ws:List Wri) (sp:List ByteArray) (n:Nod):Prop:=NG n∧DI ws sp n.2.1∧(∀ r∈n.2.2.1,Bwa ws r=true)∧∀ r∈n.2.2.2,Bwa ws r=true
def KN (ns:List Nod) (s:ByteArray) (st:Stp):Prop:=∃ i,i<ns.length∧HD (ns.getD i C9).2.1 s st
def MS (sp:List ByteArray) (ns ns':List Nod):Prop:=∀ s,s∉sp→∀ st,KN ns s st→KN ns' s st
def Bca {ws:List Wri} {r:Row}:Bwa ws r=true↔∃ x∈ws,W2 x.1 x.2.1=r:=by
 unfold Bwa;rw[Gtb];exact⟨λ ⟨x,h1,h2⟩=>⟨x,h1,Hra.1 h2⟩,λ ⟨x,h1,h2⟩=>⟨x,h1,Hra.2 h2⟩⟩
def D8a {ws ws':List Wri} (h:∀ x∈ws,x∈ws') {r:Row} (hr:Bwa ws r=true):Bwa ws' r=true:=by
 obtain⟨x,h1,h2⟩:=Bca.1 hr;exact Bca.2 ⟨x,h x h1,h2⟩
def Xya {ws:List Wri} {s:ByteArray} {f:Fil} (h:IsW ws s f):Bwa ws (W2 s f)=true:=by
 obtain⟨x,h1,rfl,rfl⟩:=h;exact Bca.2 ⟨x,h1,rfl⟩
def NI.mono {ws ws':List Wri} {sp sp':List ByteArray} (h1:∀ x∈ws,x∈ws') (h2:∀ s∈sp,s∈sp') {n:Nod} (h:NI ws sp n):NI ws' sp' n:=
 ⟨h.1,h.2.1.mono h1 h2,λ r hr=>D8a h1 (h.2.2.1 r hr),λ r hr=>D8a h1 (h.2.2.2 r hr)⟩
def NR (ws:List Wri) (sp:List ByteArray) (ns ns':List Nod):Prop:=(∀ n∈ns',NI ws sp n)∧ns'.map (·.1)=ns.map (·.1)∧MS sp ns ns'
def NR.refl {ws:List Wri} {sp:List ByteArray} {ns:List Nod} (h:∀ n∈ns,NI ws sp n):NR ws sp ns ns:=⟨h,rfl,λ _ _ _ h=>h⟩
def NR.len {ws:List Wri} {sp:List ByteArray} {ns ns':List Nod} (h:NR ws sp ns ns'):ns'.length=ns.length:=by
 have:=congrArg length h.2.1;rwa [Wd,Wd]at this
def Mg {α:Type} {l:List α} {i j:Nat} {x d:α} (hj:j<l.length):(l.set i x).getD j d=if i=j then x else l.getD j d:=by
 rw[Vc,List.getElem?_set]
 by_cases h:i=j
 ·subst h;rw[if_pos rfl,if_pos rfl,if_pos hj];rfl
 ·rw[if_neg h,if_neg h,Vc]
def Kna {ns:List Nod} {i:Nat} {n:Nod} (hi:i<ns.length) (h:n.1=(ns.getD i C9).1):(ns.set i n).map (·.1)=ns.map (·.1):=by
 refine Jbb (by simp) (λ j h1 h2=>?_);rw[Wd,Vz]at h1;rw[Ilb,Ilb,Jcb]
 by_cases hij:i=j
 ·subst hij;rw[if_pos rfl,h,Vc,Vk hi];rfl
 ·rw[if_neg hij]
def NR.set {ws:List Wri} {sp:List ByteArray} {ns ns':List Nod} (h:NR ws sp ns ns') {i:Nat} (hi:i<ns'.length) {n:Nod} (h1:NI ws sp n) (h2:n.1=(ns'.getD i C9).1) (h3:MO sp (ns'.getD i C9).2.1 n.2.1):NR ws sp ns (ns'.set i n):=by
 obtain⟨g1,g2,g3⟩:=h;refine⟨λ m hm=>?_,by rw[Kna hi h2,g2],λ s hs st hk=>?_⟩
 ·rcases Yg hm with hm|rfl
  ·exact g1 m hm
  ·exact h1
 ·obtain⟨j,hj,hd⟩:=g3 s hs st hk;refine⟨j,by rw[Vz];exact hj,?_⟩;rw[Mg hj]
  by_cases hij:i=j
  ·subst hij;rw[if_pos rfl];exact h3 s hs st hd
  ·rw[if_neg hij];exact hd
section
variable {ws:List Wri} {sp:List ByteArray} {n:Nod} {s:ByteArray} {f:Fil}
def Bzb (hw:Ewa ws) (h:NI ws sp n) (hf:IsW ws s f) (sure:Bool):NI ws sp (Pg n s f sure).1∧(Pg n s f sure).1.1=n.1∧MO sp n.2.1 (Pg n s f sure).1.2.1:=by
 obtain⟨g1,g2,g3⟩:=hf.good hw;obtain⟨h1,h2,h3,h4⟩:=h;have hg:=H9a (sure:=sure) h1 g1 g2;obtain⟨k1,k2⟩:=Uga (sure:=sure) hw h1.g h2 hf;unfold Pg at hg ⊢;cases hq:(n.2.2.2.length:Int)==60
 case true=>exact⟨⟨h1,h2,h3,h4⟩,rfl,MO.refl _ _⟩
 rw[hq]at hg;refine⟨⟨hg,k1,h3,?_⟩,rfl,k2⟩
 show ∀ r∈bif (keep n.2.1 s f sure).2==0&&sure then n.2.2.2++[W2 s f] else n.2.2.2,Bwa ws r=true
 cases (keep n.2.1 s f sure).2==0&&sure
 ·exact h4
 intro r hr;rcases Vo.1 hr with hr|hr
 ·exact h4 r hr
 ·rw[Vs.1 hr];exact Xya hf
def C0b (hw:Ewa ws) (h:NI ws sp n) (hf:IsW ws s f) (hc:(Pg n s f true).2=0∨(Pg n s f true).2=1):HD (Pg n s f true).1.2.1 s f.1:=by
 unfold Pg at hc ⊢
 cases hq:((n.2.2.2.length:Int)==60) with
 |true=>rw[hq]at hc;rcases hc with hc|hc<;>cases hc
 |false=>rw[hq]at hc;exact Uha hw h.1.g hf hc
def Fob (h:NI ws sp n) {l:List Row} (hl:L5 l=true) (hr:∀ r∈l,Bwa ws r=true):NI ws sp (tk n l).2∧(tk n l).2.1=n.1∧(tk n l).2.2.1=n.2.1:=by
 obtain⟨h1,h2,h3,h4⟩:=h;have hg:=Flb h1 hl;unfold tk at hg ⊢;cases hq:decide ((Xu n.2.2.1 l).length > 60)
 case true=>exact⟨⟨h1,h2,h3,h4⟩,rfl,rfl⟩
 rw[hq]at hg;exact⟨⟨hg,h2,λ r hr'=>(Mda hr').elim (h3 r) (hr r),h4⟩,rfl,rfl⟩
end
def Emb {ws:List Wri} {sp:List ByteArray} {ns:List Nod} {R:Int} {rc:List Int} {s:ByteArray} {f:Fil} {cs:List Int} {a:List Nod×Int×Int} {j:Nat} (hw:Ewa ws) (hf:IsW ws s f)
  (h:NR ws sp ns a.1∧(s∉sp→a.2.2≥1→KN a.1 s f.1)∧a.2.2≥0) (hc:(cs.getD j 0).toNat<ns.length):
  NR ws sp ns (wst R rc s f cs a j).1∧(s∉sp→(wst R rc s f cs a j).2.2≥1→KN (wst R rc s f cs a j).1 s f.1)∧(wst R rc s f cs a j).2.2≥0:=by
 obtain⟨h1,h2,h3⟩:=h;unfold wst;cases decide (a.2.1<R)
 ·exact⟨h1,h2,h3⟩
 cases rch rc j==0
 case true=>exact⟨h1,h2,h3⟩
 rw[cond_true,cond_false]
 have hi:(cs.getD j 0).toNat<a.1.length:=by rw[h1.len];exact hc
 generalize (cs.getD j 0).toNat=i at *;have hn:=h1.1 _ (A4 (d:=C9) hi);obtain⟨p1,p2,p3⟩:=Bzb hw hn hf (rch rc j != 3);refine⟨h1.set hi p1 p2 p3,λ hs hg=>?_,?_⟩
 ·cases hr:rch rc j==1&&((Pg (a.1.getD i C9) s f (rch rc j != 3)).2==0||(Pg (a.1.getD i C9) s f (rch rc j != 3)).2==1) with
  |true=>
   rw[Va,Gsb,beq_iff_eq,beq_iff_eq,beq_iff_eq]at hr
   have e:(rch rc j != 3)=true:=by rw[hr.1];rfl
   rw[e]at hr ⊢;refine⟨i,by rw[Vz];exact hi,?_⟩;rw[Mg hi,if_pos rfl];exact C0b hw hn hf hr.2
  |false=>
   rw[hr]at hg;obtain⟨m,hm,hd⟩:=h2 hs hg;refine⟨m,by rw[Vz];exact hm,?_⟩;rw[Mg hm]
   by_cases hij:i=m
   ·subst hij;rw[if_pos rfl];exact p3 s hs _ hd
   ·rw[if_neg hij];exact hd
 ·dsimp only;cases rch rc j==1&&((Pg (a.1.getD i C9) s f (rch rc j != 3)).2==0||(Pg (a.1.getD i C9) s f (rch rc j != 3)).2==1)
  ·exact h3
  ·rw[cond_true];omega
def Enb {ws:List Wri} {sp:List ByteArray} {w:Wld} {rc:List Int} {s:ByteArray} {f:Fil} (hw:Ewa ws) (hf:IsW ws s f) (hn:∀ n∈w.2.2.1,NI ws sp n):
  NR ws sp w.2.2.1 (wrN w s f rc).1∧(s∉sp→(wrN w s f rc).2.2≥1→KN (wrN w s f rc).1 s f.1)∧(wrN w s f rc).2.2≥0:=
 N0 (λ _ (a:List Nod×Int×Int)=>NR ws sp w.2.2.1 a.1∧(s∉sp→a.2.2≥1→KN a.1 s f.1)∧a.2.2≥0) ⟨NR.refl hn,λ _ h=>absurd h (show ¬ (0:Int)≥1 by omega),Zh _⟩
  (λ j b hj hb=>Emb hw hf hb (by have:=N1 (A4 (d:=0) hj);omega))
def Eob {ws:List Wri} {sp:List ByteArray} {ns:List Nod} {rc:List Int} {s:ByteArray} {f:Fil} {ps:List Int} {a:List Nod×Bool×Bool} {src j:Nat} (hw:Ewa ws) (hf:IsW ws s f) (hsrc:src<ns.length)
  (h:NR ws sp ns a.1∧(a.2.1=false→a.1.getD src C9=ns.getD src C9∧(a.2.2=true→0<j→∃ i,i≠src∧i<ns.length∧HD (a.1.getD i C9).2.1 s f.1))) (hc:(ps.getD j 0).toNat<ns.length) (hc0:0≤ps.getD j 0):
  NR ws sp ns (pst (src:Int) s f rc ps a j).1∧((pst (src:Int) s f rc ps a j).2.1=false→(pst (src:Int) s f rc ps a j).1.getD src C9=ns.getD src C9∧((pst (src:Int) s f rc ps a j).2.2=true→0<j+1→∃ i,i≠src∧i<ns.length∧HD ((pst (src:Int) s f rc ps a j).1.getD i C9).2.1 s f.1)):=by
 obtain⟨h1,h2⟩:=h;unfold pst;cases hz:ps.getD j 0==(src:Int)
 case true=>exact⟨h1,λ c=>by cases c⟩
 have hne:(ps.getD j 0).toNat≠src:=by
  have:=beq_eq_false_iff_ne.1 hz;omega
 cases hr:rch rc j != 1
 case true=>exact⟨h1,λ c=>⟨(h2 c).1,λ c'=>by cases c'⟩⟩
 rw[cond_false,cond_false]
 have hi:(ps.getD j 0).toNat<a.1.length:=by rw[h1.len];exact hc
 generalize (ps.getD j 0).toNat=i at *;have hn:=h1.1 _ (A4 (d:=C9) hi);obtain⟨k1,k2⟩:=Uga (sure:=true) hw hn.1.g hn.2.1 hf;refine⟨h1.set hi ⟨Kja hn.1,k1,hn.2.2⟩ rfl k2,λ c=>⟨?_,λ c' _=>?_⟩⟩
 ·show (a.1.set i _).getD src C9=_;rw[Mg (by rw[h1.len];exact hsrc),if_neg hne];exact(h2 c).1
 ·refine⟨i,hne,hc,?_⟩;show HD ((a.1.set i _).getD i C9).2.1 s f.1;rw[Mg hi,if_pos rfl];refine Uha hw hn.1.g hf ?_
  cases hk:(keep (a.1.getD i C9).2.1 s f true).2 != 0&&(keep (a.1.getD i C9).2.1 s f true).2 != 1 with
  |true=>
   have:(bif (keep (a.1.getD i C9).2.1 s f true).2 != 0&&(keep (a.1.getD i C9).2.1 s f true).2 != 1 then false else a.2.2)=true:=c';rw[hk]at this;cases this
  |false=>
   rw[Jhb,bne,bne,Wg,Wg,beq_iff_eq,beq_iff_eq]at hk;exact hk
def Epb {ws:List Wri} {sp:List ByteArray} {w:Wld} {rc:List Int} {s:ByteArray} {i:Nat} (hw:Ewa ws) (hn:∀ n∈w.2.2.1,NI ws sp n) (hi:i<w.2.2.1.length) (hf:IsW ws s (lkD (w.2.2.1.getD i C9).2.1 s).1):
  NR ws sp w.2.2.1 (puN w i s rc).1∧((puN w i s rc).2.1=false→(puN w i s rc).1.getD i C9=w.2.2.1.getD i C9∧((puN w i s rc).2.2=true→0<(P0 w s).length→∃ j,j≠i∧j<w.2.2.1.length∧HD ((puN w i s rc).1.getD j C9).2.1 s (lkD (w.2.2.1.getD i C9).2.1 s).1.1)):=
 N0 (λ n (a:List Nod×Bool×Bool)=>NR ws sp w.2.2.1 a.1∧(a.2.1=false→a.1.getD i C9=w.2.2.1.getD i C9∧(a.2.2=true→0<n→∃ j,j≠i∧j<w.2.2.1.length∧HD (a.1.getD j C9).2.1 s (lkD (w.2.2.1.getD i C9).2.1 s).1.1))) ⟨NR.refl hn,λ _=>⟨rfl,λ _ c=>absurd c (Nat.lt_irrefl _)⟩⟩
  (λ j b hj hb=>Eob hw hf hi hb (by have:=Ui (A4 (d:=0) hj);omega) (Ui (A4 (d:=0) hj)).1)
def Uia {w:Wld} {s:ByteArray} (hr:Ha w.2.1 w.1=true) (hid:w.2.2.1.map (·.1)=w.1.map (·.1)):0<(P0 w s).length:=by
 obtain⟨_,p2,p3⟩:=Oz hr s;have h5:=(Ay.1 hr).2.1;obtain⟨id,hidm⟩:=Iib (l:=Pi w.2.1 s) (by omega);have:=Ph.1 (p3 id hidm);rw[← hid]at this;obtain⟨n,hn,rfl⟩:=Yt.1 this;obtain⟨j,hj,rfl⟩:=Zg.1 hn;have hm:(j:Int)∈P0 w s:=B9a.2 ⟨j,hj,by rw[Vc,Vk hj];exact hidm,rfl⟩;exact Gzb hm
def Nka {ws:List Wri} {sp:List ByteArray} {w:Wld} {rc:List Int} {s:ByteArray} {i:Nat} (hw:Ewa ws) (hn:∀ n∈w.2.2.1,NI ws sp n) (hi:i<w.2.2.1.length) (hr:Ha w.2.1 w.1=true) (hid:w.2.2.1.map (·.1)=w.1.map (·.1)):
  ∃ ns,(Hsa w i s rc).2=wN w ns∧NR ws sp w.2.2.1 ns:=by
 have hni:=hn _ (A4 (d:=C9) hi);unfold Hsa;cases hl:(lkD (w.2.2.1.getD i C9).2.1 s).2 != 0
 case true=>exact⟨w.2.2.1,rfl,NR.refl hn⟩
 rw[bne,Wg,beq_iff_eq]at hl;obtain⟨b,hb,hg⟩:=Ox.1 (show lkD (w.2.2.1.getD i C9).2.1 s=((lkD (w.2.2.1.getD i C9).2.1 s).1,0) from by rw[← hl]);have hf:IsW ws s (lkD (w.2.2.1.getD i C9).2.1 s).1:=(((hni.2.1 s).1 b hb).get hw hg).1;obtain⟨h1,h2⟩:=Epb (rc:=rc) hw hn hi hf;refine⟨_,rfl,?_⟩;cases hc:(puN w i s rc).2.2&&!(puN w i s rc).2.1
 ·exact h1
 rw[Va,Vv]at hc;obtain⟨h3,h4⟩:=h2 hc.2;obtain⟨j,hj,hjl,hd⟩:=h4 hc.1 (Uia hr hid);rw[cond_true,h3];obtain⟨g1,_,_⟩:=hf.good hw
 have hi':i<(puN w i s rc).1.length:=by rw[h1.len];exact hi
 obtain⟨o1,o2⟩:=Ekb (s:=s) hni.1.g hni.2.1 g1;refine⟨λ m hm=>?_,by rw[Kna hi' (by rw[h3];rfl),h1.2.1],λ t ht st hk=>?_⟩
 ·rcases Yg hm with hm|rfl
  ·exact h1.1 m hm
  ·exact⟨Zja hni.1 g1,o1,hni.2.2⟩
 ·obtain⟨m,hm,hh⟩:=h1.2.2 t ht st hk
  by_cases hmi:m=i
  ·subst hmi;rw[h3]at hh
   by_cases hts:t=s
   ·subst hts;obtain⟨b',f',e1,e2,e3⟩:=(hni.2.1 t).ge ht hh;rw[hb]at e1;cases e1;rw[hg]at e2;cases e2;obtain⟨c,g,k1,k2,k3⟩:=hd;refine⟨j,by rw[Vz,h1.len];exact hjl,?_⟩;rw[Mg (by rw[h1.len];exact hjl),if_neg (Hyb hj)];exact⟨c,g,k1,k2,Sq k3 e3⟩
   ·refine⟨m,by rw[Vz];exact hm,?_⟩;rw[Mg hm,if_pos rfl];exact o2 t hts st hh
  ·refine⟨m,by rw[Vz];exact hm,?_⟩;rw[Mg hm,if_neg (Hyb hmi)];exact hh
def Nla {ws:List Wri} {sp:List ByteArray} {w:Wld} {src:Int} {l:List Row} {self:Bool} {rc:List Int} (hn:∀ n∈w.2.2.1,NI ws sp n) (hl:L5 l=true) (hr:∀ r∈l,Bwa ws r=true):NR ws sp w.2.2.1 (Pp w src l self rc).1:=by
 refine N0 (λ _ (a:List Nod×Bool)=>NR ws sp w.2.2.1 a.1) (NR.refl hn) (λ j b hj hb=>?_);have hc:=Sf (A4 (d:=0) hj);unfold gst;cases (Lx w).getD j 0==src&&!self
 case true=>exact hb
 cases rch rc j != 1
 case true=>exact hb
 have hi:((Lx w).getD j 0).toNat<b.1.length:=by rw[hb.len];omega
 obtain⟨t1,t2,t3⟩:=Fob (hb.1 _ (A4 (d:=C9) hi)) hl hr;exact hb.set hi t1 t2 (by rw[t3];exact MO.refl _ _)
def Xza {ws:List Wri} {sp:List ByteArray} {w:Wld} {rc:List Int} {i:Nat} (hn:∀ n∈w.2.2.1,NI ws sp n) (hi:i<w.2.2.1.length):∃ ns,(Kka w i rc).2=wN w ns∧NR ws sp w.2.2.1 ns:=by
 have hni:=hn _ (A4 (d:=C9) hi);have hl:=(C2.1 hni.1.1).2.2.2.1;unfold Kka;cases ((w.2.2.1.getD i C9).2.2.1.length:Int)==0
 case true=>exact⟨w.2.2.1,rfl,NR.refl hn⟩
 refine⟨_,rfl,?_⟩;have hg:NR ws sp w.2.2.1 (Sh w i rc).1:=Nla hn hl hni.2.2.1;cases (Sh w i rc).2&&!(Nn (Lx (wN w (Sh w i rc).1)) (i:Int))
 ·exact hg
 have hi':i<(Sh w i rc).1.length:=by rw[hg.len];exact hi
 have hm:=hg.1 _ (A4 (d:=C9) hi');exact hg.set hi' ⟨Nja hm.1,hm.2.1,(λ _ h=>nomatch h),hm.2.2.2⟩ rfl (MO.refl _ _)
def Y0a {ws:List Wri} {sp:List ByteArray} {w:Wld} {rc:List Int} {i:Nat} (hn:∀ n∈w.2.2.1,NI ws sp n) (hi:i<w.2.2.1.length):∃ ns,(Kla w i rc).2=wN w ns∧NR ws sp w.2.2.1 ns:=by
 have hni:=hn _ (A4 (d:=C9) hi);obtain⟨hq,_,_,_,hq60⟩:=C2.1 hni.1.1;unfold Kla;cases ((w.2.2.1.getD i C9).2.2.2.length:Int)==0
 case true=>exact⟨w.2.2.1,rfl,NR.refl hn⟩
 refine⟨_,rfl,?_⟩;have hg:NR ws sp w.2.2.1 (Td w i rc).1:=Nla hn (Te hq) (λ r hr=>hni.2.2.2 r (H9b hr));cases (Td w i rc).2
 ·exact hg
 have hi':i<(Td w i rc).1.length:=by rw[hg.len];exact hi
 have hm:=hg.1 _ (A4 (d:=C9) hi');exact hg.set hi' ⟨Zma hm.1 (λ r hr=>hq r (Zl hr)) (by rw[Wh];omega),hm.2.1,hm.2.2.1,λ r hr=>hni.2.2.2 r (Zl hr)⟩ rfl (MO.refl _ _)

structure WI (w:Wld):Prop where
 ring:Ha w.2.1 w.1=true
 ids:w.2.2.1.map (·.1)=w.1.map (·.1)
 nodes:∀ n∈w.2.2.1,NI w.2.2.2.2.1 w.2.2.2.2.2 n
 clk:Ep w.2.2.2.1=true
 wlen:w.2.2.2.2.1.length≤200
 wok:Ewa w.2.2.2.2.1
 wge:∀ x∈w.2.2.2.2.1,sle w.2.2.2.1 x.2.1.1=false
 asc:w.2.2.2.2.1.Pairwise (λ a b=>sle a.2.1.1 b.2.1.1=true)
 kept:∀ x∈w.2.2.2.2.1,x.2.2=true→x.1∉w.2.2.2.2.2→KN w.2.2.1 x.1 x.2.1.1
 sps:TS w.2.2.2.2.2
 spw:∀ s∈w.2.2.2.2.2,∃ x∈w.2.2.2.2.1,x.1=s
theorem Fpb:LawfulBEq ByteArray := { eq_of_beq:=λ {a b} h=>Jq.1 (by rw[← Eba];exact h),rfl:=λ {a}=>by rw[Eba];exact Jq.2 rfl }
def Hva:∀ (p q:List ByteArray),p.Nodup→(∀ x∈p,x∈q)→p.length≤q.length
 |[],_,_,_=>Vt _
 |x::p,q,h,hs=>by
  haveI:=Fpb;obtain⟨h1,h2⟩:=Yo.1 h;have hx:=hs x Yu;have hlen:(q.erase x).length=q.length-1:=Hwb hx;have hpos:=Gzb hx;have:=Hva p (q.erase x) h2 (λ y hy=>(Inb (λ c=>by subst c;exact h1 hy)).2 (hs y (Vi _ hy)));rw[Vb];omega
namespace WI
variable {w:Wld}
def splen (h:WI w):w.2.2.2.2.2.length≤200:=by
 have hn:w.2.2.2.2.2.Nodup:=h.sps.imp (λ {a b} hab e=>by subst e;rw[Lm]at hab;cases hab)
 have:=Hva _ (w.2.2.2.2.1.map (·.1)) hn (λ s hs=>by
  obtain⟨x,hx,e⟩:=h.spw s hs
  exact Yt.2 ⟨x,hx,e⟩)
 rw[Wd]at this;have:=h.wlen;omega
def nlen (h:WI w):w.2.2.1.length=w.1.length:=by
 have:=congrArg length h.ids;rwa [Wd,Wd]at this
def dlen (h:WI w):1≤w.1.length∧w.1.length≤12:=(De.1 (Ay.1 h.ring).1).2.2
def ns (h:WI w):NS w.2.2.1:=⟨by have:=h.nlen;have:=h.dlen;omega,λ n hn=>(h.nodes n hn).1⟩
def win (h:WI w):WIn w:=by
 have h1:=h.nlen;have h2:=h.dlen;have h3:=h.wlen;have h4:=h.splen;refine⟨Nj h.ring,by omega,⟨by omega,λ n hn=>Xf (h.nodes n hn).1⟩,⟨by omega,λ x hx=>J0 (h.wok x hx).1⟩,by omega,λ s hs=>?_⟩;obtain⟨x,hx,e⟩:=h.spw s hs;rw[← e];exact J0 (h.wok x hx).1
def other (h:WI w) {ns:List Nod} (hn:NR w.2.2.2.2.1 w.2.2.2.2.2 w.2.2.1 ns):WI (wN w ns):=
 ⟨h.ring,hn.2.1.trans h.ids,hn.1,h.clk,h.wlen,h.wok,h.wge,h.asc,λ x hx hk hs=>hn.2.2 _ hs _ (h.kept x hx hk hs),h.sps,h.spw⟩
def other' (h:WI w) {r:Bool×Wld} (hr:∃ ns,r.2=wN w ns∧NR w.2.2.2.2.1 w.2.2.2.2.2 w.2.2.1 ns):WI r.2:=by
 obtain⟨ns,e,hn⟩:=hr;rw[e];exact h.other hn
def write (h:WI w) {s:ByteArray} {f:Fil} {rc:List Int} (hs:Ao s=true) (hf:Cu f=true) (hb:Aj f.2.2) (hc:sle w.2.2.2.1 f.1=true) (hl:w.2.2.2.2.1.length<200):WI (Pj (w.1,w.2.1,w.2.2.1,f.1,w.2.2.2.2) s f rc).2:=by
 obtain⟨g1,g2,g3⟩:=Enb (ws:=w.2.2.2.2.1++[(s,f,decide ((wrN (w.1,w.2.1,w.2.2.1,f.1,w.2.2.2.2) s f rc).2.2≥quo w.2.1.1))]) (sp:=w.2.2.2.2.2) (w:=(w.1,w.2.1,w.2.2.1,f.1,w.2.2.2.2)) (rc:=rc) (s:=s) (f:=f)
  (λ x hx=>by
   rcases Vo.1 hx with hx|hx
   ·exact h.wok x hx
   ·rw[Vs.1 hx];exact⟨hs,hf,hb⟩)
  ⟨_,Vo.2 (.inr (Vs.2 rfl)),rfl,rfl⟩
  (λ n hn=>(h.nodes n hn).mono (λ x hx=>Vo.2 (.inl hx)) (λ _ h=>h))
 unfold Pj;generalize wrN (w.1,w.2.1,w.2.2.1,f.1,w.2.2.2.2) s f rc=a at *
 have hq:quo w.2.1.1≥1:=by
  have:=(Ay.1 h.ring).2.1;unfold quo;omega
 exact {
  ring:=h.ring
  ids:=g1.2.1.trans h.ids
  nodes:=g1.1
  clk:=(J9.1 hf).1
  wlen:=by show (w.2.2.2.2.1++[_]).length≤200;rw[Vd];simp only[Vb,Vj];omega
  wok:=λ x hx=>by
   rcases Vo.1 hx with hx|hx
   ·exact h.wok x hx
   ·rw[Vs.1 hx];exact⟨hs,hf,hb⟩
  wge:=λ x hx=>by
   rcases Vo.1 hx with hx|hx
   ·exact Sq (Uj hc) (h.wge x hx)
   ·rw[Vs.1 hx];exact Ln _
  asc:=Zc.2 ⟨h.asc,Hib _ _,λ x hx y hy=>by
   rw[Vs.1 hy];have:=h.wge x hx;cases hxy:sle x.2.1.1 f.1
   case true=>rfl
   have:=Sq this hxy;rw[this]at hc
   cases hc⟩
  kept:=λ x hx hk hsp=>by
   rcases Vo.1 hx with hx|hx
   ·exact g1.2.2 _ hsp _ (h.kept x hx hk hsp)
   ·rw[Vs.1 hx]at hk hsp ⊢;have hk':a.2.2≥quo w.2.1.1:=of_decide_eq_true hk;exact g2 hsp (by omega)
  sps:=h.sps
  spw:=λ s hs=>by
   obtain⟨x,hx,e⟩:=h.spw s hs
   exact⟨x,Vo.2 (.inl hx),e⟩ }
def ask (h:WI w) {s:ByteArray} {f:Fil} {t:Int} {rc:List Int} (hb:Aj f.2.2) (hd:f.2.1=true→f.2.2=[]):WI (ask w s f t rc).2:=by
 unfold Vf.ask;cases hs:Ao s
 ·exact h
 rw[Zb,cond_false]
 by_cases hl:(f.2.2.length:Int) > 200
 ·rw[decide_eq_true hl];exact h
 ·rw[decide_eq_false hl,cond_false];cases inR t 0 1000000000
  ·exact h
  rw[Zb,cond_false];cases hw:(w.2.2.2.2.1.length:Int)==200
  case true=>exact h
  rw[cond_false];have hw':=beq_eq_false_iff_ne.1 hw;have hwl:=h.wlen;obtain⟨n1,n2⟩:=Uh h.clk t 0;cases he:(K8 w.2.2.2.1 t 0).1==w.2.2.2.1.1&&((K8 w.2.2.2.1 t 0).2.1==w.2.2.2.1.2.1&&(K8 w.2.2.2.1 t 0).2.2==w.2.2.2.1.2.2)
  case true=>exact h
  rw[cond_false]
  have hlt:sle w.2.2.2.1 (K8 w.2.2.2.1 t 0)=true:=by
   rcases n2 with n2|n2
   ·rw[n2,beq_self_eq_true,beq_self_eq_true,beq_self_eq_true]at he;cases he
   ·exact n2
  exact h.write (f:=(K8 w.2.2.2.1 t 0,f.2)) hs (J9.2 ⟨n1,by show f.2.2.length≤200;omega,hd⟩) hb hlt (by omega)
def rot (h:WI w) {i:Nat} (hi:i<w.2.2.1.length) {s:ByteArray} {b:Int}:WI (Crb w i s b).2:=by
 have hni:=h.nodes _ (A4 (d:=C9) hi);unfold Crb;cases hr:(N1a (w.2.2.1.getD i C9) s b).2
 ·exact h
 have hg:=Tba (s:=s) (b:=b) hni.1;unfold N1a at hr hg ⊢;cases hc:Mp (w.2.2.1.getD i C9)&&((lkD (w.2.2.1.getD i C9).2.1 s).2==0&&(I8a (w.2.2.1.getD i C9).2.1 s b).2)
 ·rw[hc]at hr;cases hr
 rw[hc]at hg;rw[Va,Va,beq_iff_eq]at hc;obtain⟨d1,d2,f,hf⟩:=Elb h.wok hni.1.g hni.2.1 hc.2.1 hc.2.2 (spl w.2.2.2.2.2 s) (λ t=>Eva);have hsub:∀ t∈w.2.2.2.2.2,t∈spl w.2.2.2.2.2 s:=λ t ht=>Eva.2 (.inr ht)
 have hN:NR w.2.2.2.2.1 (spl w.2.2.2.2.2 s) w.2.2.1 (w.2.2.1.set i ((w.2.2.1.getD i C9).1,(I8a (w.2.2.1.getD i C9).2.1 s b).1,(w.2.2.1.getD i C9).2.2)):=
  (NR.refl (λ n hn=>(h.nodes n hn).mono (λ _ h=>h) hsub)).set hi ⟨hg,d1,hni.2.2⟩ rfl d2
 exact {
  ring:=h.ring
  ids:=hN.2.1.trans h.ids
  nodes:=hN.1
  clk:=h.clk
  wlen:=h.wlen
  wok:=h.wok
  wge:=h.wge
  asc:=h.asc
  kept:=λ x hx hk hs=>hN.2.2 _ hs _ (h.kept x hx hk (λ c=>hs (hsub _ c)))
  sps:=D7a h.sps
  spw:=λ t ht=>by
   rcases Eva.1 ht with rfl|ht
   ·obtain⟨x,hx,e,_⟩:=hf;exact⟨x,hx,e⟩
   ·exact h.spw t ht }
def node (h:WI w) {i:Nat} (hi:i<w.2.2.1.length) {e:Evt}:WI (Hua w e i).2:=by
 have hni:=h.nodes _ (A4 (d:=C9) hi);unfold Hua;cases e.1==3
 case true=>exact h.other' (Nka h.wok h.nodes hi h.ring h.ids)
 cases e.1==4
 case true=>exact h.other' (Xza h.nodes hi)
 cases e.1==5
 case true=>exact h.other' (Y0a h.nodes hi)
 cases e.1==6 with
 |true=>
  obtain⟨c1,c2⟩:=Xxa h.wok hni.1.g hni.2.1;exact h.other ((NR.refl h.nodes).set hi ⟨Zha hni.1,c1,hni.2.2⟩ rfl c2)
 |false=>
  cases e.1==7 with
  |true=>exact h.other ((NR.refl h.nodes).set hi ⟨Ehb hni.1,Bxb hni.1.g hni.2.1 _,hni.2.2⟩ rfl (Byb hni.1.g hni.2.1 _))
  |false=>exact h.rot hi
def weigh (h:WI w) {i t:Int}:WI (Kma w i t).2:=by
 unfold Kma;cases h1:inR i 0 ((w.1.length:Int)-1)
 ·exact h
 cases h2:inR t 1 1000
 ·exact h
 obtain⟨i0,i1⟩:=Dg.1 h1;obtain⟨w0,w1⟩:=Dg.1 h2;exact⟨(Naa (Ela h.ring (by omega) w0 w1)).1,h.ids.trans (Eka _ _ _).symm,h.nodes,h.clk,h.wlen,h.wok,h.wge,h.asc,h.kept,h.sps,h.spw⟩
def ev (h:WI w) {e:Evt} (hb:Aj e.2.2.2.1):WI (doW w e).2:=by
 have ae:∀ {q:Int×Wld},WI q.2→WI (Zna q).2:=λ {q} hq=>by
  unfold Zna
  cases q.1 != 2<;>exact hq
 unfold doW;cases e.1==1
 case true=>exact ae (h.ask hb (λ c=>by cases c))
 cases e.1==2
 case true=>exact ae (h.ask Nh (λ _=>rfl))
 cases e.1==3||(e.1==4||(e.1==5||(e.1==6||(e.1==7||e.1==8)))) with
 |true=>
  cases hi:inR e.2.1 0 ((w.2.2.1.length:Int)-1)
  ·exact h
  have:=Dg.1 hi;exact h.node (by omega)
 |false=>
  cases e.1==9 with
  |true=>exact h.weigh
  |false=>exact h
def wrote_iff {ws:List Wri} (hw:Ewa ws) {s:ByteArray} {f:Fil} (hf:Aj f.2.2):U4a ws s f=true↔IsW ws s f:=by
 unfold U4a IsW;rw[Gtb];constructor
 ·rintro⟨x,hx,h⟩;rw[Va]at h;exact⟨x,hx,Jq.1 h.1,(Hqa (hw x hx).2.2 hf).1 h.2⟩
 ·rintro⟨x,hx,h1,h2⟩;exact⟨x,hx,by rw[Va];exact⟨Jq.2 h1,(Hqa (hw x hx).2.2 hf).2 h2⟩⟩
end WI

def G2b (l:List Dev) (last:Int):Prop:=l.Pairwise (λ a b=>a.1<b.1)∧∀ d∈l,(0≤d.1∧d.1≤last)∧(0≤d.2.1∧d.2.1≤20)∧1≤d.2.2∧d.2.2≤1000
def Uja (z:Int) (hz:1≤z∧z≤20):∀ (n:Nat) (i:Int) (l:List Dev) (last:Int) (c:Cur),i=n→n≤6→Ct c→G2b l last→0≤last→last+2*n≤12→l.length+n≤6→
  Tot (λ k=>He k l z last i c) (λ r=>(∃ last,G2b r.1 last∧last≤20)∧r.1.length=l.length+n∧Ct r.2):=by
 intro n
 induction n with
 |zero=>
  rintro i l last c rfl _ hc h h0 h1 _;refine Tot.succ ?_;simp (disch:=omega) only [He,dF];exact G9b ⟨⟨last,h,by omega⟩,rfl,hc⟩
 |succ n ih=>
  rintro i l last c rfl hn hc h h0 h1 hl;refine Tot.succ ?_;simp (disch:=omega) only [He,dT];obtain⟨x,c1,e1,hx,k1⟩:=Kz c hc [1,1,2] (by decide) (by decide);obtain⟨y,c2,e2,y0,y1,_,k2⟩:=Av c1 k1 z (by omega);obtain⟨v,c3,e3,hv,k3⟩:=Kz c2 k2 [1,1,1,2,10,100] (by decide) (by decide);have y1:=y1 (by omega)
  have hx':1≤x∧x≤2:=by
   simp only[Vl,Zr,or_false]at hx;omega
  have hv':1≤v∧v≤1000:=by
   simp only[Vl,Zr,or_false]at hv;omega
  refine Glb (Gmb (Q:=λ r=>r=(x,c1)) e1 rfl) ?_;refine Glb (Gmb (Q:=λ r=>r=(y,c2)) e2 rfl) ?_;refine Glb (Gmb (Q:=λ r=>r=(v,c3)) e3 rfl) ?_;simp (disch:=omega) only [w64];refine Ghb (by simp only[Vb,Vj];omega) ?_;refine(ih _ (l++[(last+x,y,v)]) (last+x) c3 (by omega) (by omega) k3 ⟨?_,?_⟩ (by omega) (by omega) (by rw[Vd];simp only[Vb,Vj];omega)).mono ?_
  ·refine Zc.2 ⟨h.1,Hib _ _,λ a ha b hb=>?_⟩;rw[Vs.1 hb];have:=(h.2 a ha).1.2;show a.1<last+x;omega
  ·intro d hd;rcases Vo.1 hd with hd|hd
   ·obtain⟨⟨a1,a2⟩,a3⟩:=h.2 d hd;exact⟨⟨a1,by omega⟩,a3⟩
   ·rw[Vs.1 hd];exact⟨⟨by show 0≤last+x;omega,Zh _⟩,⟨y0,by show y≤20;omega⟩,hv'⟩
  ·rintro r ⟨g1,g2,g3⟩;refine⟨g1,?_,g3⟩;rw[g2,Vd];simp only[Vb,Vj];omega
def P8a (c:Cur) (hc:Ct c):Tot (λ k=>Gy k c) (λ r=>M1 r.1=true∧(2≤r.1.length∧r.1.length≤6)∧Ct r.2):=by
 unfold Gy;obtain⟨x,c1,e1,x0,x1,_,k1⟩:=Av c hc 4 (by decide);obtain⟨y,c2,e2,y0,y1,_,k2⟩:=Av c1 k1 5 (by decide);have x1:=x1 (by decide);have y1:=y1 (by decide);refine Glb (Gmb (Q:=λ r=>r=(x,c1)) e1 rfl) ?_;refine Glb (Gmb (Q:=λ r=>r=(y,c2)) e2 rfl) ?_;simp (disch:=omega) only [w64];refine Gab (Uja (1+x) (by omega) (2+y).toNat (2+y) [] 0 c2 (by omega) (by omega) k2 ⟨List.Pairwise.nil,λ d hd=>(nomatch hd)⟩ (Int.le_refl _) (by omega) (by simp only[List.length_nil];omega)) ?_;rintro r ⟨⟨last,g1,g2⟩,g3,g4⟩;rw[List.length_nil]at g3;exact G9b ⟨De.2 ⟨g1.1,λ d hd=>O5.2 ⟨⟨(g1.2 d hd).1.1,by have:=(g1.2 d hd).1.2;omega⟩,(g1.2 d hd).2⟩,by dsimp only;omega,by dsimp only;omega⟩,⟨by dsimp only;omega,by dsimp only;omega⟩,g4⟩
abbrev Iaa:Wld:=(([]:List Dev),((0:Int),([]:List (List Int))),([]:List Nod),((0:Int),((0:Int),(0:Int))),([]:List Wri),([]:List ByteArray))
def Zoa (d:Dev):Nod:=(d.1,([],[]),[],[])
def C1b (l:List Dev) (parts reps:Int):Wld:=(l,(build l parts reps).1,l.map Zoa,(0,0,0),[],[])
def C2b {ws:List Wri} {sp:List ByteArray} {l:List Dev} (h:M1 l=true) {d:Dev} (hd:d∈l):NI ws sp (Zoa d):=by
 obtain⟨⟨i0,i1⟩,_⟩:=O5.1 ((De.1 h).2.1 d hd);refine⟨⟨C2.2 ⟨(λ r hr=>nomatch hr),⟨i0,i1⟩,dg0.1,W9,Vt _⟩,dg0.2⟩,λ s=>⟨λ b hb=>?_,λ b hb=>?_,λ _ b f hb=>?_⟩,(λ r hr=>nomatch hr),(λ r hr=>nomatch hr)⟩
 ·rw[show gt (Zoa d).2.1.1 s=none from rfl]at hb;cases hb
 ·rw[show gt (Zoa d).2.1.2 s=none from rfl]at hb;cases hb
 ·rw[show gt (Zoa d).2.1.2 s=none from rfl]at hb;cases hb
def C3b {l:List Dev} {parts reps:Int} (hb:(build l parts reps).2=true):WI (C1b l parts reps):=by
 obtain⟨h1,h2,_,_⟩:=N7a hb
 exact {
  ring:=h2
  ids:=by show (l.map Zoa).map (·.1)=_;rw[Hmb];rfl
  nodes:=λ n hn=>by
   obtain⟨d,hd,rfl⟩:=Yt.1 hn;exact C2b h1 hd
  clk:=rfl
  wlen:=Vt _
  wok:=λ x hx=>nomatch hx
  wge:=λ x hx=>nomatch hx
  asc:=List.Pairwise.nil
  kept:=λ x hx=>nomatch hx
  sps:=List.Pairwise.nil
  spw:=λ s hs=>nomatch hs }
def Hwa (l:List Dev) (parts reps:Int) (hb:(build l parts reps).2=true):Tot (λ k=>Ci k l parts reps) (λ r=>r=C1b l parts reps):=by
 obtain⟨h1,_,_,_⟩:=N7a hb;have h12:=(De.1 h1).2.2.2;unfold Ci;refine Glb (Tma l parts reps (by omega)) ?_;refine Ghb (by rw[Vj];omega) (Gbb (by rw[hb];rfl) ?_);rw[Wb];refine Gab (Q:=λ r=>r=(Iaa,C1b l parts reps)) ?_ (by rintro r rfl;exact G9b rfl);refine Gib (L:=λ k i (s:List Nod)=>Es k l i Iaa (l,(build l parts reps).1,s,(0,0,0),[],[])) (Q:=λ r=>r=(Iaa,C1b l parts reps)) l.length (λ j s=>s=(l.take j).map Zoa) ?_ ?_ 0 [] (Vt _) rfl
 ·rintro s rfl;simp (disch:=omega) only [Es,dF];exact G9b (by rw[Yx];rfl)
 ·rintro j s hj rfl next;have hd:=A4 (d:=Ni) hj;obtain⟨d,ed⟩:∃ d:Dev,l.getD j Ni=d:=⟨_,rfl⟩;rw[ed]at hd;have e0:l.getD j ((0:Int),((0:Int),(0:Int)))=d:=ed
  have e1:l[j]=d:=by rw[← ed,Vc,Vk hj];rfl
  have hid:=(O5.1 ((De.1 h1).2.1 d hd)).1;simp (disch:=omega) only [Es,dT,Vg,w64,e0,Aza,Vn]
  have hl:((l.take j).map Zoa).length=j:=by rw[Wd,Vu];omega
  rw[Dg.2 hid,cond_true];refine Ghb (by rw[hl];simp only[Vb,Vj];omega) (next _ ?_);rw[Wl hj,Gxb,e1];rfl
def Koa (c:Cur) (hc:Ct c):Tot (λ k=>Kd k c) (λ r=>(∃ l p n,(build l p n).2=true∧r.1=C1b l p n)∧Ct r.2):=by
 unfold Kd;refine Gab (P8a c hc) ?_;rintro⟨l,c1⟩ ⟨hl,hn,k1⟩;dsimp only at hl hn k1 ⊢;obtain⟨x,c2,e2,hx,k2⟩:=Kz c1 k1 [3,2,3,1] (by decide) (by decide);obtain⟨y,c3,e3,hy,k3⟩:=Kz c2 k2 [4,2,8] (by decide) (by decide)
 have hx':1≤x∧x≤3:=by
  simp only[Vl,Zr,or_false]at hx;omega
 have hy':1≤y∧y≤8:=by
  simp only[Vl,Zr,or_false]at hy;omega
 have one:∀ n:Int,1≤n→n≤5→n≤(l.length:Int)→Tot (λ k=>(Aa c2 [4,2,8]).bind λ r3=>(Ci k l r3.1 n).bind λ r4=>some (r4,r3.2)) (λ r=>(∃ l p n,(build l p n).2=true∧r.1=C1b l p n)∧Ct r.2):=by
  intro n n0 n5 nl
  have hb:(build l y n).2=true:=by
   unfold build;rw[hl,Dg.2 (show 1≤y∧y≤64 by omega),Dg.2 (show 1≤n∧n≤5 by omega),decide_eq_false (show ¬ n > (l.length:Int) by omega)];rfl
  refine Glb (Gmb (Q:=λ r=>r=(y,c3)) e3 rfl) ?_;refine Glb (Hwa l y n hb) ?_;exact G9b ⟨⟨l,y,n,hb,rfl⟩,k3⟩
 refine Glb (Gmb (Q:=λ r=>r=(x,c2)) e2 rfl) ?_;exact Ggb (λ h=>one (l.length:Int) (by omega) (by dsimp only at h;omega) (Int.le_refl _)) (λ h=>one x (by omega) (by omega) (by dsimp only at h;omega))
def X5 (c:Cur) (hc:Ct c):Tot (λ k=>Co k c) (λ r=>r.1.length=6∧Ct r.2):=by
 unfold Co;refine Gab (Q:=λ r=>r.1.length=6∧Ct r.2) ?_ (λ r h=>G9b h);refine Gib (L:=λ k i (s:List Int×Cur)=>G0 k s.1 i s.2) (Q:=λ r=>r.1.length=6∧Ct r.2) 6 (λ j s=>s.1.length=j∧Ct s.2) ?_ ?_ 0 ([],c) (Vt _) ⟨rfl,hc⟩
 ·rintro s ⟨h1,h2⟩;simp (disch:=omega) only [G0,dF];exact G9b ⟨h1,h2⟩
 ·rintro j s hj ⟨h1,h2⟩ next;obtain⟨x,c1,e1,_,k1⟩:=Kz s.2 h2 [1,1,1,1,0,2,3] (by decide) (by decide);simp (disch:=omega) only [G0,dT,w64];refine Glb (Gmb (Q:=λ r=>r=(x,c1)) e1 rfl) ?_;exact Ghb (by simp only[Vb,Vj];omega) (next (s.1++[x],c1) ⟨by rw[Vd,h1];rfl,k1⟩)
def Kpa (c:Cur) (hc:Ct c):Tot (λ k=>Co k c) (λ r=>r.1.length≤6∧Ct r.2):=(X5 c hc).mono λ r h=>⟨by have:=h.1;omega,h.2⟩
def Zpa (r:Evt×Cur×Wld) (w:Wld):Prop:=Eyb r.1∧Aj r.1.2.2.2.1∧Ct r.2.1∧r.2.2=w
def C4b {d:Dsk} (hd:DIn d) (hb:DB d):Tot (λ k=>Gx k d) (λ r=>r.length≤2000000∧∀ t∈r,Jr t):=by
 refine(Xma d hd hb).mono ?_;rintro r rfl;obtain⟨a1,a2⟩:=Edb d.1 hd.1.2.1 d.1 0 [] (λ x hx=>hx) (λ y hy=>nomatch hy);have:=hd.2.1;rw[Vj]at a1;exact⟨by unfold P3a;omega,a2⟩
def V0a (e:Evt):Prop:=e.1=1∨e.1=2→e.2.2.1∈N7
def Exa (c:Cur) (w:Wld) (hc:Ct c) (hn1:1≤w.2.2.1.length) (hnl:w.2.2.1.length≤2000000) (hnn:∀ n∈w.2.2.1,NIn n):Tot (λ k=>Ez k c w w) (λ r=>Zpa r w∧V0a r.1):=by
 unfold Ez;obtain⟨i,c1,e1,i0,i1,_,k1⟩:=Av c hc (w.2.2.1.length:Int) (by omega);have i1:=i1 (by omega);obtain⟨s,c2,e2,hs,k2⟩:=Oo c1 k1;have hsn:=hs;have hs:=(Md s hs).1;refine Glb (Gmb (Q:=λ r=>r=(i,c1)) e1 rfl) ?_;refine Glb (Gmb (Q:=λ r=>r=(s,c2)) e2 rfl) ?_;refine Gab (Kpa c2 k2) ?_;rintro⟨rc,c3⟩ ⟨hrc,k3⟩;dsimp only at hrc k3 ⊢;obtain⟨n,c4,e4,_,_,_,k4⟩:=Av c3 k3 20 (by decide);refine Glb (Gmb (Q:=λ r=>r=(n,c4)) e4 rfl) ?_;dsimp only;have ok:∀ (kd:Int) (s:ByteArray) (l:List Int) (x:Int) (c:Cur),Jr s→Aj l→l.length≤2000000 → -9223372036854775808≤x→x≤9223372036854775807→Ct c→(kd=1∨kd=2→s∈N7)→Zpa ((kd,i,s,l,x,rc),c,w) w∧V0a (kd,i,s,l,x,rc):=λ kd s l x c h1 h2 h3 h4 h5 h6 h7=>⟨⟨⟨h1,by show l.length≤_;omega,⟨h4,h5⟩,by show rc.length≤_;omega⟩,h2,h6,rfl⟩,h7⟩;have plain:∀ kd:Int,Tot (λ _=>some ((kd,i,s,([]:List Int),(0:Int),rc),c4,w)) (λ r=>Zpa r w∧V0a r.1):=λ kd=>G9b (ok kd s [] 0 c4 hs Nh (Nat.zero_le _) (by decide) (by decide) k4 λ _=>hsn)
 have put:Tot (λ k=>(A3 c4 2).bind λ r5=>(Dx k r5.2).bind λ r6=>some ((1,i,s,r6.1,wrap .i64 (w.2.2.2.1.1+r5.1),rc),r6.2,w)) (λ r=>Zpa r w∧V0a r.1):=by
  obtain⟨x,c5,e5,x0,x1,_,k5⟩:=Av c4 k4 2 (by decide);have x1:=x1 (by decide);refine Glb (Gmb (Q:=λ r=>r=(x,c5)) e5 rfl) ?_;refine Gab (Cka c5 k5) ?_;rintro⟨l,c6⟩ ⟨g1,g2,g3⟩;dsimp only at g1 g2 g3 ⊢;have hw:=Cja (w.2.2.2.1.1+x);exact G9b (ok 1 s l _ c6 hs g2 (by omega) hw.1 hw.2 g1 λ _=>hsn)
 have drop:Tot (λ k=>(A3 c4 2).bind λ r17=>some ((2,i,s,([]:List Int),wrap .i64 (w.2.2.2.1.1+r17.1),rc),r17.2,w)) (λ r=>Zpa r w∧V0a r.1):=by
  obtain⟨x,c5,e5,x0,x1,_,k5⟩:=Av c4 k4 2 (by decide);have x1:=x1 (by decide);refine Glb (Gmb (Q:=λ r=>r=(x,c5)) e5 rfl) ?_;have hw:=Cja (w.2.2.2.1.1+x);exact G9b (ok 2 s [] _ c5 hs Nh (Vt _) hw.1 hw.2 k5 λ _=>hsn)
 have rot:Tot (λ k=>(A3 c4 60).bind λ r31=>some ((8,i,s,([]:List Int),r31.1,rc),r31.2,w)) (λ r=>Zpa r w∧V0a r.1):=by
  obtain⟨x,c5,e5,x0,x1,_,k5⟩:=Av c4 k4 60 (by decide);have x1:=x1 (by decide);refine Glb (Gmb (Q:=λ r=>r=(x,c5)) e5 rfl) ?_;exact G9b (ok 8 s [] x c5 hs Nh (Vt _) (by omega) (by omega) k5 λ _=>hsn)
 have ring:Tot (λ k=>(Aa c4 [1,2,10,1000]).bind λ r33=>some ((9,i,s,([]:List Int),r33.1,rc),r33.2,w)) (λ r=>Zpa r w∧V0a r.1):=by
  obtain⟨x,c5,e5,hx,k5⟩:=Kz c4 k4 [1,2,10,1000] (by decide) (by decide);refine Glb (Gmb (Q:=λ r=>r=(x,c5)) e5 rfl) ?_
  have hx':1≤x∧x≤1000:=by
   simp only[Vl,Zr,or_false]at hx;omega
  exact G9b (ok 9 s [] x c5 hs Nh (Vt _) (by omega) (by omega) k5 λ _=>hsn)
 have push:Tot (λ k=>cond (decide ((0:Int)≤i)) (cond (decide (i<(length w.2.2.1:Int))) ((Gx k (getD w.2.2.1 (toNat i) ((0:Int),(([],[]),([],[])))).2.1).bind λ r20=>cond (decide ((length r20:Int) > 0)) ((A3 c4 (length r20:Int)).bind λ r21=>cond (decide ((0:Int)≤r21.1)) (cond (decide (r21.1<(length r20:Int))) (some ((3,i,(getD r20 (toNat r21.1) (⟨#[]⟩:ByteArray)),([]:List Int),0,rc),r21.2,w)) none) none) (some ((3,i,s,([]:List Int),0,rc),c4,w))) none) none) (λ r=>Zpa r w∧V0a r.1):=by
  refine Gdb i0 (Gdb i1 ?_);have hm:=hnn _ (A4 (d:=C9) (show i.toNat<w.2.2.1.length by omega));refine Gab (C4b hm.1.1 hm.1.2) ?_;rintro l ⟨hl,hl'⟩;refine Ggb (λ h0=>?_) (λ h0=>plain 3);obtain⟨x,c5,e5,x0,x1,_,k5⟩:=Av c4 k4 (l.length:Int) (by omega);have x1:=x1 (by omega);refine Glb (Gmb (Q:=λ r=>r=(x,c5)) e5 rfl) ?_;exact Gdb x0 (Gdb x1 (G9b (ok 3 _ [] 0 c5 (hl' _ (A4 (d:=P3) (show x.toNat<l.length by omega))) Nh (Vt _) (by decide) (by decide) k5 (by omega))))
 refine Gfb (λ _=>put) (λ _=>?_);refine Gfb (λ _=>put) (λ _=>?_);refine Gfb (λ _=>put) (λ _=>?_);refine Gfb (λ _=>put) (λ _=>?_);refine Gfb (λ _=>put) (λ _=>?_);refine Gfb (λ _=>put) (λ _=>?_);refine Gfb (λ _=>drop) (λ _=>?_);refine Gfb (λ _=>drop) (λ _=>?_);refine Gfb (λ _=>push) (λ _=>?_);refine Gfb (λ _=>push) (λ _=>?_);refine Gfb (λ _=>push) (λ _=>?_);refine Gfb (λ _=>plain 5) (λ _=>?_);refine Gfb (λ _=>plain 5) (λ _=>?_);refine Gfb (λ _=>plain 4) (λ _=>?_);refine Gfb (λ _=>plain 6) (λ _=>?_);refine Gfb (λ _=>plain 7) (λ _=>?_);refine Gfb (λ _=>plain 7) (λ _=>?_);refine Gfb (λ _=>rot) (λ _=>?_);exact Gfb (λ _=>rot) (λ _=>ring)
def C5b {w:Wld} (h:WI w) {e:Evt} (he:Eyb e):Tot (λ k=>J1 k w e) (λ r=>r=doW w e):=
 Eib w e he h.ring h.ns h.clk (by have:=h.wlen;omega) (by have:=h.splen;omega)
def P9a {I:Wld→Prop} (hI:∀ w,I w→WI w) (hE:∀ w e,I w→Aj e.2.2.2.1→V0a e→I (doW w e).2):∀ (n:Nat) (i:Int) (c:Cur) (w:Wld),i=n→n≤1000→Ct c→I w→Tot (λ k=>G5 k i c Iaa w) (λ r=>I r.2.1∧Ct r.2.2):=by
 intro n
 induction n with
 |zero=>
  rintro i c w rfl _ hc h;refine Tot.succ ?_;simp (disch:=omega) only [G5,dF];exact G9b ⟨h,hc⟩
 |succ n ih=>
  rintro i c w rfl hn hc h;refine Tot.succ ?_;simp (disch:=omega) only [G5,dT];have hw:=hI w h;refine Gab (Exa c w hc (by have:=hw.nlen;have:=hw.dlen;omega) hw.ns.1 hw.win.2.2.1.2) ?_;rintro⟨e,c1,w1⟩ ⟨⟨g1,g2,g3,g4⟩,g5⟩;dsimp only at g1 g2 g3 g4 g5 ⊢;subst g4;refine Glb (C5b hw g1) ?_;rw[w64 (n:=((n+1:Nat):Int)-1) (by omega) (by omega)];exact ih _ c1 _ (by omega) (by omega) g3 (hE _ _ h g2 g5)
def Hxa {I:Wld→Prop} (hI:∀ w,I w→WI w) (hE:∀ w e,I w→Aj e.2.2.2.1→V0a e→I (doW w e).2) (hN:∀ l p n,(build l p n).2=true→I (C1b l p n)) (c:Cur) (hc:Ct c) (n:Int) (hn:n≤1000):Tot (λ k=>Ee k c n) (λ r=>I r.1∧Ct r.2):=by
 unfold Ee;refine Gab (Koa c hc) ?_;rintro⟨w,c1⟩ ⟨⟨l,p,m,hb,e⟩,k1⟩;dsimp only at e k1 ⊢
 have h:I w:=by rw[e];exact hN l p m hb
 obtain⟨x,c2,e2,x0,x1,x2,k2⟩:=Av c1 k1 n (by omega);refine Glb (Gmb (Q:=λ r=>r=(x,c2)) e2 rfl) ?_
 refine Gab (P9a hI hE x.toNat x c2 w (by omega) (by by_cases h:0<n<;>omega) k2 h) ?_
 rintro r hr;exact G9b hr
def Kqa (c:Cur) (hc:Ct c) (n:Int) (hn:n≤1000):Tot (λ k=>Ee k c n) (λ r=>WI r.1∧Ct r.2):=Hxa (λ _ h=>h) (λ _ _ h hb _=>h.ev hb) (λ _ _ _ hb=>C3b hb) c hc n hn
def Y1a (a:List Int) (hb:(a.length:Int)≤1048576) (m:Int) (hm:3≤m∧m≤1000):∃ n,Kj a m=some n∧3≤n∧n≤m:=by
 unfold Kj;rw[H0b (by omega),w64 (n:=(a.length:Int)/12) (by omega) (by omega),w64 (n:=3+(a.length:Int)/12) (by omega) (by omega)]
 by_cases h:3+(a.length:Int)/12 > m
 ·exact⟨m,by rw[decide_eq_true h];rfl,hm.1,Zh _⟩
 ·exact⟨_,by rw[decide_eq_false h];rfl,by omega,by omega⟩

def WIm (m:Nat) (w:Wld):Prop:=RBd w.2.1∧w.1.length≤2000000∧(w.2.2.1.length≤2000000∧∀ n∈w.2.2.1,NIn n)∧(w.2.2.2.2.1.length≤m∧∀ x∈w.2.2.2.2.1,Jr x.1∧x.2.1.2.2.length≤2000000∧Aj x.2.1.2.2)∧(w.2.2.2.2.2.length≤m∧∀ s∈w.2.2.2.2.2,Jr s)
def WIm.win {m:Nat} {w:Wld} (h:WIm m w) (hm:m≤2000000):WIn w:=by
 obtain⟨h1,h2,⟨h3,h4⟩,⟨h5,h6⟩,h7,h8⟩:=h;exact⟨h1,h2,⟨h3,h4⟩,⟨by omega,λ x hx=>(h6 x hx).1⟩,by omega,h8⟩
def WIm.more {m n:Nat} {w:Wld} (h:WIm m w) (hm:m≤n):WIm n w:=by
 obtain⟨h1,h2,h3,⟨h5,h6⟩,h7,h8⟩:=h;exact⟨h1,h2,h3,⟨by omega,h6⟩,by omega,h8⟩
def WI.wim {w:Wld} (h:WI w):WIm 200 w:=by
 have hi:=h.win;have h2:=h.dlen;have h1:=h.nlen;exact⟨hi.1,hi.2.1,hi.2.2.1,⟨h.wlen,λ x hx=>⟨J0 (h.wok x hx).1,by have:=(J9.1 (h.wok x hx).2.1).2.1;omega,(h.wok x hx).2.2⟩⟩,h.splen,hi.2.2.2.2.2⟩
def Hya {f:Fil} (h:f.2.2.length≤2000000):Bo f=some f:=by
 unfold Bo;rw[bT (by simp only[Vj];omega),Wb]
def Hza {m:Nat} {w:Wld} (h:WIm m w) (hm:m≤2000000):Tot (λ k=>C6 k w) (λ r=>r=w):=by
 obtain⟨h1,h2,⟨h3,h4⟩,⟨h5,h6⟩,h7,h8⟩:=h;unfold C6;refine Ghb (by rw[Vj];omega) (Glb (X2 w.2.1 h1) ?_);refine Ghb (by rw[Vj];omega) ?_;rw[Wb,Wb];refine Gab (Q:=λ r=>r=(w,Iaa,(w.1,w.2.1,w.2.2.1,w.2.2.2.1,[],w.2.2.2.2.2))) ?_ ?_
 ·refine Gib (L:=λ k i (s:List Nod)=>G7 k i w Iaa (w.1,w.2.1,s,w.2.2.2.1,[],w.2.2.2.2.2)) (Q:=λ r=>r=(w,Iaa,(w.1,w.2.1,w.2.2.1,w.2.2.2.1,[],w.2.2.2.2.2))) w.2.2.1.length (λ j s=>s=w.2.2.1.take j) ?_ ?_ 0 [] (Vt _) rfl
  ·rintro s rfl;simp (disch:=omega) only [G7,dF];exact G9b (by rw[Yx])
  ·rintro j s hj rfl next;have hm:=h4 _ (A4 (d:=C9) hj);have e0:w.2.2.1.getD j ((0:Int),(([],[]),([],[])))=w.2.2.1.getD j C9:=rfl
   have hl:(w.2.2.1.take j).length=j:=by rw[Vu];omega
   simp (disch:=omega) only [G7,dT,Vg,w64,e0];refine Glb (O4 _ hm) ?_;refine Ghb (by rw[hl];simp only[Vb,Vj];omega) (next _ ?_);rw[Wl hj,Vc,Vk hj];rfl
 ·rintro r rfl;refine Gab (Q:=λ r=>r=(Iaa,w)) ?_ (by rintro r rfl;exact G9b rfl);refine Gib (L:=λ k i (s:List Wri)=>G6 k i w Iaa (w.1,w.2.1,w.2.2.1,w.2.2.2.1,s,w.2.2.2.2.2)) (Q:=λ r=>r=(Iaa,w)) w.2.2.2.2.1.length (λ j s=>s=w.2.2.2.2.1.take j) ?_ ?_ 0 [] (Vt _) rfl
  ·rintro s rfl;simp (disch:=omega) only [G6,dF];exact G9b (by rw[Yx])
  ·rintro j s hj rfl next;have hm:=(h6 _ (A4 (d:=P5a) hj)).2.1;have e0:w.2.2.2.2.1.getD j ((⟨#[]⟩:ByteArray),((((0:Int),((0:Int),(0:Int))),(false,[])),false))=w.2.2.2.2.1.getD j P5a:=rfl
   have hl:(w.2.2.2.2.1.take j).length=j:=by rw[Vu];omega
   simp (disch:=omega) only [G6,dT,Vg,w64,e0,Hya hm,Vn];refine Ghb (by rw[hl];simp only[Vb,Vj];omega) (next _ ?_);rw[Wl hj,Vc,Vk hj];rfl
def WIp (m:Nat) (w:Wld):Prop:=WIm m w∧1≤w.2.2.1.length
def Nma {m:Nat} {w:Wld} (h:WIp m w) {i:Nat} {n:Nod} (hn:NIn n):WIp m (w.1,w.2.1,w.2.2.1.set i n,w.2.2.2):=by
 obtain⟨⟨h1,h2,⟨h3,h4⟩,h5⟩,h0⟩:=h;refine⟨⟨h1,h2,⟨by rw[Vz];exact h3,λ x hx=>?_⟩,h5⟩,by show 1≤(w.2.2.1.set i n).length;rw[Vz];exact h0⟩;rcases Yg hx with hx|rfl
 ·exact h4 x hx
 ·exact hn
def Y2a {m:Nat} {w:Wld} {c:Cur} (hc:Ct c) (h:WIp m w) (hm:m≤900):Tot (λ k=>Gc k c w w) (λ r=>WIp (m+1) r.1∧Ct r.2.1):=by
 have h':=h;obtain⟨⟨h1,h2,⟨h3,h4⟩,⟨h5,h6⟩,h7,h8⟩,h0⟩:=h';have hw:WIp (m+1) w:=⟨h.1.more (Nat.le_succ m),h.2⟩;unfold Gc;refine Gab (Hza (w:=w) h.1 (by omega)) ?_;rintro r rfl;refine Gdb (by omega) ?_;obtain⟨i,c1,e1,i0,i1,_,k1⟩:=Av c hc (r.2.2.1.length:Int) (by omega);have i1:=i1 (by omega);refine Gab (Gmb (Q:=λ r=>r=(i,c1)) e1 rfl) ?_;rintro _ rfl;obtain⟨x,c2,e2,_,_,_,k2⟩:=Av c1 k1 10 (by decide);refine Gab (Gmb (Q:=λ r=>r=(x,c2)) e2 rfl) ?_;rintro _ rfl;dsimp only;refine Gfb (λ _=>?_) (λ _=>?_)
 ·obtain⟨y,c3,e3,_,k3⟩:=Kz c2 k2 [0,1,2,6] (by decide) (by decide);refine Gab (Gmb (Q:=λ r=>r=(y,c3)) e3 rfl) ?_;rintro _ rfl;exact G9b ⟨⟨⟨h1,hw.1.2⟩,h0⟩,k3⟩
 refine Gfb (λ _=>?_) (λ _=>?_)
 ·refine Gdb (by omega) (Gab (Tea c2 k2) ?_);rintro⟨n,c3⟩ ⟨g1,g2⟩;exact Gdb i0 (Gdb i1 (G9b ⟨Nma hw g1,g2⟩))
 refine Gfb (λ _=>?_) (λ _=>?_)
 ·obtain⟨y,c3,e3,k3⟩:=Mza c2 k2;refine Gab (Gmb (Q:=λ r=>r=(y,c3)) e3 rfl) ?_;rintro _ rfl;exact G9b ⟨hw,k3⟩
 refine Gfb (λ _=>?_) (λ _=>?_)
 ·refine Ggb (λ _=>Gdb (by omega) (G9b ⟨⟨⟨h1,h2,⟨h3,h4⟩,⟨by dsimp only;rw[List.length_drop];omega,λ x hx=>h6 x (List.mem_of_mem_drop hx)⟩,by dsimp only;omega,h8⟩,h0⟩,k2⟩)) (λ _=>G9b ⟨hw,k2⟩)
 refine Gfb (λ _=>?_) (λ _=>?_)
 ·obtain⟨s,c3,e3,hs,k3⟩:=Pf c2 k2;refine Gab (Gmb (Q:=λ r=>r=(s,c3)) e3 rfl) ?_;rintro _ rfl;refine Gab (T7a c3 k3) ?_;rintro⟨f,c4⟩ ⟨⟨g0,g1⟩,k4⟩;refine Ghb (by simp only[List.length_cons,List.length_nil];omega) (G9b ⟨⟨⟨h1,h2,⟨h3,h4⟩,⟨by dsimp only;rw[List.length_append];simp only[List.length_cons,List.length_nil];omega,λ x hx=>?_⟩,by dsimp only;omega,h8⟩,h0⟩,k4⟩);rcases List.mem_append.1 hx with hx|hx
  ·exact h6 x hx
  ·rw[Vs.1 hx];exact⟨hs,g1,g0⟩
 refine Gfb (λ _=>?_) (λ _=>?_)
 ·obtain⟨s,c3,e3,hs,k3⟩:=Pf c2 k2;refine Gab (Gmb (Q:=λ r=>r=(s,c3)) e3 rfl) ?_;rintro _ rfl;refine Ghb (by simp only[List.length_cons,List.length_nil];omega) (G9b ⟨⟨⟨h1,h2,⟨h3,h4⟩,⟨by dsimp only;omega,h6⟩,by dsimp only;rw[List.length_append];simp only[List.length_cons,List.length_nil];omega,λ x hx=>?_⟩,h0⟩,k3⟩);rcases List.mem_append.1 hx with hx|hx
  ·exact h8 x hx
  ·rw[Vs.1 hx];exact hs
 refine Gfb (λ _=>?_) (λ _=>?_)
 ·have hm:=h4 _ (A4 (d:=C9) (show i.toNat<r.2.2.1.length by omega));refine Gdb (by omega) (Gdb i0 (Gdb i1 (G9b ⟨Nma hw ⟨⟨Nz dg0.1,dg0.2⟩,hm.2⟩,k2⟩)))
 refine Gfb (λ _=>?_) (λ _=>G9b ⟨hw,k2⟩);refine Ggb (λ hd=>?_) (λ _=>G9b ⟨hw,k2⟩);obtain⟨y,c3,e3,_,k3⟩:=Kz c2 k2 [0,5,21] (by decide) (by decide);refine Gab (Gmb (Q:=λ r=>r=(y,c3)) e3 rfl) ?_;rintro _ rfl;exact Gdb (by omega) (G9b ⟨⟨⟨h1,by dsimp only;rw[List.length_set];exact h2,hw.1.2.2⟩,h0⟩,k3⟩)
def Paa (c:Cur) (hc:Ct c) (n:Int) (hn:n≤1000):Tot (λ k=>Ki k c n) (λ r=>WIp 201 r.1∧Ct r.2):=by
 unfold Ki;refine Gab (Kqa c hc n hn) ?_;rintro⟨w,c1⟩ ⟨h,k1⟩;dsimp only at h k1 ⊢;obtain⟨b,c2,e2,k2⟩:=On c1 k1 8 (by decide);refine Glb (Gmb (Q:=λ r=>r=(b,c2)) e2 rfl) ?_;refine Gfb (λ _=>?_) (λ _=>G9b ⟨⟨h.wim.more (by decide),by show 1≤w.2.2.1.length;have:=h.nlen;have:=h.dlen;omega⟩,k2⟩);refine Gab (Y2a k2 (m:=200) ⟨h.wim,by have:=h.nlen;have:=h.dlen;omega⟩ (by decide)) ?_;rintro r ⟨g1,g2⟩;exact G9b ⟨g1,g2⟩

def Uka {c:Stp} (hc:Ep c=true) (t d:Int):Hs c t d=some (K8 c t d):=by
 have h2:0≤c.2.1∧c.2.1≤1000000:=by
  unfold Ep at hc;rw[Va,Va,Dg,Dg]at hc;exact hc.2.1
 unfold Hs K8;rw[w64 (n:=c.2.1+1) (by omega) (by omega)];simp only[U6,Vn]
 cases decide (t≤c.1) with
 |true=>cases Ep (c.1,c.2.1+1,d)<;>rfl
 |false=>cases Ep (t,0,d)<;>rfl
def X6 {f:Fil} (h:f.2.2.length≤1000000000):Fp f=some f:=by
 unfold Fp;rw[Nf _ (by omega)];rfl
def Ula {n:Nod} {s:ByteArray} {f:Fil} {sure:Bool} (hn:NG n) (hs:Ao s=true) (hf:Cu f=true):Z9a n s f sure=Pg n s f sure:=by
 unfold Z9a;rw[hn.1,hs,hf];rfl
def Pba {n:Nod} (r:Int) (s:ByteArray) (f:Fil) (g:Int) (hn:NG n) (hs:Ao s=true) (hf:Cu f=true) (h0:0≤g) (h1:g≤9000000000000):
  Tot (λ k=>D9 k n r s f g) (λ x=>x=((Pg n s f (r != 3)).1,s,f,bif r==1&&((Pg n s f (r != 3)).2==0||(Pg n s f (r != 3)).2==1) then g+1 else g)):=by
 unfold D9;refine Glb (Kca n s f (r != 3) (Xf hn) (J0 hs)) ?_;rw[Ula hn hs hf,w64 (n:=g+1) (by omega) (by omega)];generalize Pg n s f (r != 3)=p;cases r==1
 ·exact Gbb rfl (G9b rfl)
 refine Gcb rfl ?_;cases p.2==0
 case true=>exact Gcb rfl (G9b rfl)
 refine Gbb rfl ?_
 cases p.2==1 with
 |true=>exact Gcb rfl (G9b rfl)
 |false=>exact Gbb rfl (G9b rfl)
def Y3a (w:Wld) (s:ByteArray) (f:Fil) (rc:List Int) (hr:Ha w.2.1 w.1=true) (hn:NS w.2.2.1) (hs:Ao s=true) (hf:Cu f=true):
  Tot (λ k=>Ad k w s rc true s f 0) (λ r=>r=(wN w (wrN w s f rc).1,s,f,(wrN w s f rc).2.2)):=by
 have hsz:s.size≤1000000000:=by
  have:=Dg.1 (Va _ _ ▸ hs:_∧_).2;omega
 obtain⟨_,hR,_⟩:=Ay.1 hr;unfold Ad;refine Glb (X4 w s hr hn.1 hsz) ?_;have hc:=λ x=>N1 (w:=w) (s:=s) (x:=x)
 have hcl:(Am w s).length≤4000000000000:=by
  unfold Am;refine Og hn.1 ?_;have h5:=(Ay.1 hr).2.1;have p2:=(Oz hr s).2.1;have h12:=(De.1 (Ay.1 hr).1).2.2.2;have hh:=O6 w.2.1 w.1 s;rw[Vd];omega
 have hrun:wrN w s f rc=run (wst w.2.1.1 rc s f (Am w s)) (Am w s).length (w.2.2.1,0,0):=rfl
 have inv:∀ n,n≤(Am w s).length→NS (run (wst w.2.1.1 rc s f (Am w s)) n (w.2.2.1,0,0)).1∧(run (wst w.2.1.1 rc s f (Am w s)) n (w.2.2.1,0,0)).1.length=w.2.2.1.length∧(0≤(run (wst w.2.1.1 rc s f (Am w s)) n (w.2.2.1,0,0)).2.1∧(run (wst w.2.1.1 rc s f (Am w s)) n (w.2.2.1,0,0)).2.1≤n)∧0≤(run (wst w.2.1.1 rc s f (Am w s)) n (w.2.2.1,0,0)).2.2∧(run (wst w.2.1.1 rc s f (Am w s)) n (w.2.2.1,0,0)).2.2≤n:=by
  intro n hn';refine N0 (λ j (b:List Nod×Int×Int)=>NS b.1∧b.1.length=w.2.2.1.length∧(0≤b.2.1∧b.2.1≤(j:Int))∧0≤b.2.2∧b.2.2≤(j:Int)) ⟨hn,rfl,⟨Zh _,Zh _⟩,Zh _,Zh _⟩ (λ j b hj hb=>Zia hs hf hb ?_);have:=hc _ (A4 (d:=0) (show j<(Am w s).length by omega));omega
 generalize hcs:Am w s=cs at *;refine Gab (Q:=λ r=>r=(wN w (wrN w s f rc).1,s,f,(wrN w s f rc).2.2)) ?_ (by rintro r rfl;exact G9b rfl);refine Gib (L:=λ k i (a:List Nod×Int×Int)=>Ai k rc a.2.1 cs (cs.length:Int) i (wN w a.1) s f a.2.2) (Q:=λ r=>r=(wN w (wrN w s f rc).1,s,f,(wrN w s f rc).2.2)) cs.length (λ j a=>a=run (wst w.2.1.1 rc s f cs) j (w.2.2.1,0,0)) ?_ ?_ 0 (w.2.2.1,0,0) (Vt _) rfl
 ·rintro a rfl;simp (disch:=omega) only [Ai,dF];exact G9b (by rw[hrun])
 ·rintro j a hj rfl next;obtain⟨i1,i2,i3,i4,i5⟩:=inv j (by omega);rw[Nk]at next;generalize run (wst w.2.1.1 rc s f cs) j (w.2.2.1,0,0)=a at *;obtain⟨ns,o,g⟩:=a;dsimp only at i1 i2 i3 i4 i5;have hci:=hc _ (A4 (d:=0) hj);obtain⟨i,ei⟩:∃ i:Nat,cs.getD j 0=(i:Int):=⟨(cs.getD j 0).toNat,by omega⟩;rw[ei]at hci;unfold wst at next;rw[ei,Int.toNat_natCast]at next;dsimp only at next;have e0:ns.getD i ((0:Int),(([],[]),([],[])))=ns.getD i C9:=rfl;simp (disch:=omega) only [Ai,dT,wN,Int.toNat_natCast,w64,ei,e0,U2a,Option.bind_some]
  cases h0:rch rc j==0 with
  |true=>
   refine Gbb (by rw[bne,h0];rfl) ?_;rw[h0]at next;refine next (ns,o,g) ?_
   cases decide (o<w.2.1.1)<;>rfl
  |false=>
   refine Gcb (by rw[bne,h0];rfl) ?_;rw[h0]at next;refine Ggb (λ hR'=>?_) (λ hR'=>?_)
   ·rw[decide_eq_true hR']at next;refine Glb (Pba (rch rc j) s f g (i1.get (by omega)) hs hf i4 (by omega)) ?_;exact next _ rfl
   ·rw[decide_eq_false hR']at next;exact next _ rfl
def C6b (w:Wld) (s:ByteArray) (f:Fil) (t:Int) (rc:List Int) (hr:Ha w.2.1 w.1=true) (hn:NS w.2.2.1) (hst:Ep w.2.2.2.1=true) (hs:Jr s) (hd:f.2.1=true→f.2.2=[]) (hw:w.2.2.2.2.1.length≤200):
  Tot (λ k=>Da k w s f t rc) (λ r=>r=ask w s f t rc):=by
 unfold Da ask;refine Glb (Nx s hs) ?_;cases hs':Ao s
 ·exact Gcb rfl (G9b rfl)
 refine Gbb rfl ?_;rw[Zb,cond_false]
 by_cases hl:(f.2.2.length:Int) > 200
 ·rw[decide_eq_true hl];exact Gcb rfl (G9b rfl)
 ·rw[decide_eq_false hl,cond_false];refine Gbb rfl ?_;simp only[U4,Uka hst,Vn];cases inR t 0 1000000000
  ·exact Gcb rfl (G9b rfl)
  refine Gbb rfl ?_;rw[Zb,cond_false]
  by_cases h200:w.2.2.2.2.1.length=200
  ·rw[show ((w.2.2.2.2.1.length:Int)==200)=true by rw[beq_iff_eq];omega];exact Gdb (by omega) (G9b rfl)
  ·rw[show ((w.2.2.2.2.1.length:Int)==200)=false by rw[beq_eq_false_iff_ne];omega,cond_false];refine Geb (by omega) ?_;cases (K8 w.2.2.2.1 t 0).1==w.2.2.2.1.1&&((K8 w.2.2.2.1 t 0).2.1==w.2.2.2.1.2.1&&(K8 w.2.2.2.1 t 0).2.2==w.2.2.2.1.2.2)
   case true=>exact Gcb rfl (G9b rfl)
   rw[cond_false];have hfo:Cu (K8 w.2.2.2.1 t 0,f.2)=true:=J9.2 ⟨(Uh hst t 0).1,by show f.2.2.length≤200;omega,hd⟩;refine Gbb rfl (Glb (Y3a (w.1,w.2.1,w.2.2.1,K8 w.2.2.2.1 t 0,w.2.2.2.2) s (K8 w.2.2.2.1 t 0,f.2) rc hr hn hs' hfo) ?_);have h5:=(Ay.1 hr).2.1;dsimp only[wN];rw[Btb (by omega) (by omega),X6 (f:=(K8 w.2.2.2.1 t 0,f.2)) (show f.2.2.length≤_ by omega)];simp only[Option.bind_some];refine Ghb (by simp only[List.length_cons,List.length_nil];omega) ?_;unfold Pj
   cases decide ((wrN (w.1,w.2.1,w.2.2.1,K8 w.2.2.2.1 t 0,w.2.2.2.2) s (K8 w.2.2.2.1 t 0,f.2) rc).2.2≥quo w.2.1.1) with
   |true=>exact G9b rfl
   |false=>exact G9b rfl

section
open Go
end

section
open Go
end

def NO (ns ms:List Nod):Prop:=NS ms∧ms.map (·.1)=ns.map (·.1)
def NO.len {ns ms:List Nod} (h:NO ns ms):ms.length=ns.length:=by
 have:=congrArg length h.2;rwa [Wd,Wd]at this
def NO.set {ns ms:List Nod} (h:NO ns ms) {i:Nat} {n:Nod} (hi:i<ms.length) (hn:NG n) (e:n.1=(ms.getD i C9).1):NO ns (ms.set i n):=⟨h.1.set hn,(Kna hi e).trans h.2⟩
def C7b (n:Nod) (s:ByteArray) (f:Fil) (sure:Bool):(Pg n s f sure).1.1=n.1:=by
 unfold Pg
 cases (n.2.2.2.length:Int)==60 with
 |true=>rfl
 |false=>rfl
def Fqb (n:Nod) (l:List Row):(tk n l).2.1=n.1:=by
 unfold tk
 cases decide ((Xu n.2.2.1 l).length > 60)<;>rfl
def C8b (n:Nod) (s:ByteArray) (b:Int):(N1a n s b).1.1=n.1:=by
 unfold N1a
 cases Mp n&&((lkD n.2.1 s).2==0&&(I8a n.2.1 s b).2)<;>rfl
def Zqa {w:Wld} {s:ByteArray} {f:Fil} {rc:List Int} (hn:NS w.2.2.1) (hs:Ao s=true) (hf:Cu f=true):NO w.2.2.1 (wrN w s f rc).1:=by
 unfold wrN;refine N0 (λ _ (a:List Nod×Int×Int)=>NO w.2.2.1 a.1) ⟨hn,rfl⟩ (λ j a hj h=>?_);have hc:=N1 (A4 (d:=0) hj);have hl:=h.len;unfold wst;cases decide (a.2.1<w.2.1.1)
 ·exact h
 rw[cond_true]
 cases rch rc j==0 with
 |true=>exact h
 |false=>exact h.set (by omega) (H9a (h.1.get (by omega)) hs hf) (C7b _ _ _ _)
def Eqb {w:Wld} {i:Nat} {s:ByteArray} {rc:List Int} (hn:NS w.2.2.1):NO w.2.2.1 (puN w i s rc).1:=by
 unfold puN;refine N0 (λ _ (a:List Nod×Bool×Bool)=>NO w.2.2.1 a.1) ⟨hn,rfl⟩ (λ j a hj h=>?_);have hc:=Ui (A4 (d:=0) hj);have hl:=h.len;unfold pst;cases (P0 w s).getD j 0==(i:Int)
 case true=>exact h
 rw[cond_false]
 cases rch rc j != 1 with
 |true=>exact h
 |false=>exact h.set (by omega) (Kja (h.1.get (by omega))) rfl
def Y4a {w:Wld} {i:Nat} {s:ByteArray} {rc:List Int} (hn:NS w.2.2.1) (hi:i<w.2.2.1.length):∃ ns,(Hsa w i s rc).2=wN w ns∧NO w.2.2.1 ns:=by
 unfold Hsa;cases hl:(lkD (w.2.2.1.getD i C9).2.1 s).2 != 0
 case true=>exact⟨w.2.2.1,rfl,hn,rfl⟩
 have h:=Eqb (i:=i) (s:=s) (rc:=rc) hn;have hlen:=h.len
 have hs:Ao s=true:=by
  rw[bne,Wg,beq_iff_eq]at hl;obtain⟨b,hb,_⟩:=Ox.1 (show lkD (w.2.2.1.getD i C9).2.1 s=((lkD (w.2.2.1.getD i C9).2.1 s).1,0) from by rw[← hl]);exact T3a (hn.get hi).g.1 (by rw[hb];rfl)
 refine⟨_,rfl,?_⟩
 cases (puN w i s rc).2.2&&!(puN w i s rc).2.1 with
 |false=>exact h
 |true=>exact h.set (by omega) (Zja (h.1.get (by omega)) hs) rfl
def Nna {w:Wld} {src:Int} {l:List Row} {self:Bool} {rc:List Int} (hl:L5 l=true) (hn:NS w.2.2.1):NO w.2.2.1 (Pp w src l self rc).1:=by
 unfold Pp;refine N0 (λ _ (a:List Nod×Bool)=>NO w.2.2.1 a.1) ⟨hn,rfl⟩ (λ j a hj h=>?_);have hc:=Sf (A4 (d:=0) hj);have hlen:=h.len;unfold gst;cases (Lx w).getD j 0==src&&!self
 case true=>exact h
 rw[cond_false]
 cases rch rc j != 1 with
 |true=>exact h
 |false=>exact h.set (by omega) (Flb (h.1.get (by omega)) hl) (Fqb _ _)
def Y5a {w:Wld} {i:Nat} {rc:List Int} (hn:NS w.2.2.1) (hi:i<w.2.2.1.length):∃ ns,(Kka w i rc).2=wN w ns∧NO w.2.2.1 ns:=by
 have h:=Nna (w:=w) (src:=(i:Int)) (self:=false) (rc:=rc) (C2.1 (hn.get hi).1).2.2.2.1 hn;have hlen:=h.len;unfold Kka;cases ((w.2.2.1.getD i C9).2.2.1.length:Int)==0
 case true=>exact⟨w.2.2.1,rfl,hn,rfl⟩
 refine⟨_,rfl,?_⟩;show NO w.2.2.1 (bif (Sh w i rc).2&&_ then (Sh w i rc).1.set i (U9a ((Sh w i rc).1.getD i C9)) else (Sh w i rc).1);unfold Sh
 cases (Pp w (i:Int) (w.2.2.1.getD i C9).2.2.1 false rc).2&&_ with
 |false=>exact h
 |true=>exact h.set (by omega) (Nja (h.1.get (by omega))) rfl
def Y6a {w:Wld} {i:Nat} {rc:List Int} (hn:NS w.2.2.1) (hi:i<w.2.2.1.length):∃ ns,(Kla w i rc).2=wN w ns∧NO w.2.2.1 ns:=by
 have hq:=C2.1 (hn.get hi).1;have h:=Nna (w:=w) (src:=(i:Int)) (self:=true) (rc:=rc) (Te hq.1) hn;have hlen:=h.len;unfold Kla;cases ((w.2.2.1.getD i C9).2.2.2.length:Int)==0
 case true=>exact⟨w.2.2.1,rfl,hn,rfl⟩
 refine⟨_,rfl,?_⟩;show NO w.2.2.1 (bif (Td w i rc).2 then (Td w i rc).1.set i (Fmb ((Td w i rc).1.getD i C9) ((w.2.2.1.getD i C9).2.2.2.drop 1)) else (Td w i rc).1);unfold Td
 cases (Pp w (i:Int) ((w.2.2.1.getD i C9).2.2.2.take 1) true rc).2 with
 |false=>exact h
 |true=>exact h.set (by omega) (Zma (h.1.get (by omega)) (λ r hr=>hq.1 r (Zl hr)) (by rw[Wh];omega)) rfl
structure WO (w:Wld):Prop where
 ring:Ha w.2.1 w.1=true
 ids:w.2.2.1.map (·.1)=w.1.map (·.1)
 ns:NS w.2.2.1
 clk:Ep w.2.2.2.1=true
 wlen:w.2.2.2.2.1.length≤200
 wok:Ewa w.2.2.2.2.1
 wge:∀ x∈w.2.2.2.2.1,sle w.2.2.2.1 x.2.1.1=false
 sps:TS w.2.2.2.2.2
 spn:∀ s∈w.2.2.2.2.2,Ao s=true
def WI.wo {w:Wld} (h:WI w):WO w:=⟨h.ring,h.ids,h.ns,h.clk,h.wlen,h.wok,h.wge,h.sps,λ s hs=>by
 obtain⟨x,hx,e⟩:=h.spw s hs;rw[← e]
 exact(h.wok x hx).1⟩
namespace WO
variable {w:Wld}
def nlen (h:WO w):w.2.2.1.length=w.1.length:=by
 have:=congrArg length h.ids;rwa [Wd,Wd]at this
def dlen (h:WO w):1≤w.1.length∧w.1.length≤12:=(De.1 (Ay.1 h.ring).1).2.2
def other (h:WO w) {ns:List Nod} (hn:NO w.2.2.1 ns):WO (wN w ns):=⟨h.ring,hn.2.trans h.ids,hn.1,h.clk,h.wlen,h.wok,h.wge,h.sps,h.spn⟩
def other' (h:WO w) {r:Bool×Wld} (hr:∃ ns,r.2=wN w ns∧NO w.2.2.1 ns):WO r.2:=by
 obtain⟨ns,e,hn⟩:=hr;rw[e];exact h.other hn
def write (h:WO w) {s:ByteArray} {f:Fil} {rc:List Int} (hs:Ao s=true) (hf:Cu f=true) (hb:Aj f.2.2) (hc:sle w.2.2.2.1 f.1=true) (hl:w.2.2.2.2.1.length<200):WO (Pj (w.1,w.2.1,w.2.2.1,f.1,w.2.2.2.2) s f rc).2:=by
 have g:=Zqa (w:=(w.1,w.2.1,w.2.2.1,f.1,w.2.2.2.2)) (rc:=rc) h.ns hs hf;unfold Pj;generalize wrN (w.1,w.2.1,w.2.2.1,f.1,w.2.2.2.2) s f rc=a at *
 exact {
  ring:=h.ring
  ids:=g.2.trans h.ids
  ns:=g.1
  clk:=(J9.1 hf).1
  wlen:=by show (w.2.2.2.2.1++[_]).length≤200;rw[Vd];simp only[Vb,Vj];omega
  wok:=λ x hx=>by
   rcases Vo.1 hx with hx|hx
   ·exact h.wok x hx
   ·rw[Vs.1 hx];exact⟨hs,hf,hb⟩
  wge:=λ x hx=>by
   rcases Vo.1 hx with hx|hx
   ·exact Sq (Uj hc) (h.wge x hx)
   ·rw[Vs.1 hx];exact Ln _
  sps:=h.sps
  spn:=h.spn }
def ask (h:WO w) {s:ByteArray} {f:Fil} {t:Int} {rc:List Int} (hb:Aj f.2.2) (hd:f.2.1=true→f.2.2=[]):WO (ask w s f t rc).2:=by
 unfold Vf.ask;cases hs:Ao s
 ·exact h
 rw[Zb,cond_false]
 by_cases hl:(f.2.2.length:Int) > 200
 ·rw[decide_eq_true hl];exact h
 ·rw[decide_eq_false hl,cond_false];cases inR t 0 1000000000
  ·exact h
  rw[Zb,cond_false];cases hw:(w.2.2.2.2.1.length:Int)==200
  case true=>exact h
  rw[cond_false];have hw':=beq_eq_false_iff_ne.1 hw;have hwl:=h.wlen;obtain⟨n1,n2⟩:=Uh h.clk t 0;cases he:(K8 w.2.2.2.1 t 0).1==w.2.2.2.1.1&&((K8 w.2.2.2.1 t 0).2.1==w.2.2.2.1.2.1&&(K8 w.2.2.2.1 t 0).2.2==w.2.2.2.1.2.2)
  case true=>exact h
  rw[cond_false]
  have hlt:sle w.2.2.2.1 (K8 w.2.2.2.1 t 0)=true:=by
   rcases n2 with n2|n2
   ·rw[n2,beq_self_eq_true,beq_self_eq_true,beq_self_eq_true]at he;cases he
   ·exact n2
  exact h.write (f:=(K8 w.2.2.2.1 t 0,f.2)) hs (J9.2 ⟨n1,by show f.2.2.length≤200;omega,hd⟩) hb hlt (by omega)
def rot (h:WO w) {i:Nat} (hi:i<w.2.2.1.length) {s:ByteArray} {b:Int}:WO (Crb w i s b).2:=by
 have hg:=h.ns.get hi;unfold Crb;cases hr:(N1a (w.2.2.1.getD i C9) s b).2
 ·exact h
 have hn:NO w.2.2.1 (w.2.2.1.set i (N1a (w.2.2.1.getD i C9) s b).1):=NO.set ⟨h.ns,rfl⟩ hi (Tba hg) (C8b _ _ _)
 have hs:Ao s=true:=by
  unfold N1a at hr;cases hc:Mp (w.2.2.1.getD i C9)&&((lkD (w.2.2.1.getD i C9).2.1 s).2==0&&(I8a (w.2.2.1.getD i C9).2.1 s b).2)
  ·rw[hc]at hr;cases hr
  rw[Va,Va,beq_iff_eq]at hc;obtain⟨b,hb,_⟩:=Ox.1 (show lkD (w.2.2.1.getD i C9).2.1 s=((lkD (w.2.2.1.getD i C9).2.1 s).1,0) from by rw[← hc.2.1]);exact T3a hg.g.1 (by rw[hb];rfl)
 exact⟨h.ring,hn.2.trans h.ids,hn.1,h.clk,h.wlen,h.wok,h.wge,D7a h.sps,λ t ht=>by
  rcases Eva.1 ht with rfl|ht
  ·exact hs
  ·exact h.spn t ht⟩
def node (h:WO w) {i:Nat} (hi:i<w.2.2.1.length) {e:Evt}:WO (Hua w e i).2:=by
 have hg:=h.ns.get hi;unfold Hua;cases e.1==3
 case true=>exact h.other' (Y4a h.ns hi)
 cases e.1==4
 case true=>exact h.other' (Y5a h.ns hi)
 cases e.1==5
 case true=>exact h.other' (Y6a h.ns hi)
 cases e.1==6
 case true=>exact h.other (NO.set ⟨h.ns,rfl⟩ hi (Zha hg) rfl)
 cases e.1==7 with
 |true=>exact h.other (NO.set ⟨h.ns,rfl⟩ hi (Ehb hg) rfl)
 |false=>exact h.rot hi
def weigh (h:WO w) {i t:Int}:WO (Kma w i t).2:=by
 unfold Kma;cases h1:inR i 0 ((w.1.length:Int)-1)
 ·exact h
 cases h2:inR t 1 1000
 ·exact h
 obtain⟨i0,i1⟩:=Dg.1 h1;obtain⟨w0,w1⟩:=Dg.1 h2;exact⟨(Naa (Ela h.ring (by omega) w0 w1)).1,h.ids.trans (Eka _ _ _).symm,h.ns,h.clk,h.wlen,h.wok,h.wge,h.sps,h.spn⟩
def ev (h:WO w) {e:Evt} (hb:Aj e.2.2.2.1):WO (doW w e).2:=by
 have ae:∀ {q:Int×Wld},WO q.2→WO (Zna q).2:=λ {q} hq=>by
  unfold Zna
  cases q.1 != 2<;>exact hq
 unfold doW;cases e.1==1
 case true=>exact ae (h.ask hb (λ c=>by cases c))
 cases e.1==2
 case true=>exact ae (h.ask Nh (λ _=>rfl))
 cases e.1==3||(e.1==4||(e.1==5||(e.1==6||(e.1==7||e.1==8)))) with
 |true=>
  cases hi:inR e.2.1 0 ((w.2.2.1.length:Int)-1)
  ·exact h
  have:=Dg.1 hi;exact h.node (by omega)
 |false=>
  cases e.1==9 with
  |true=>exact h.weigh
  |false=>exact h
def nods (h:WO w):Rt w.1 w.2.2.1=true:=by
 have hl:=h.nlen;unfold Rt;rw[show ((w.2.2.1.length:Int)==(w.1.length:Int))=true by rw[beq_iff_eq];omega,Vy,Yp];intro j hj;have hj':=Zv.1 hj;rw[Va,beq_iff_eq];refine⟨?_,(h.ns.get hj').1⟩
 have e1:(w.2.2.1.getD j C9).1=(w.2.2.1.map (·.1)).getD j 0:=by
  rw[Vc,Vc,Gvb,Vk hj'];rfl
 have e2:(w.1.getD j Ni).1=(w.1.map (·.1)).getD j 0:=by
  rw[Vc,Vc,Gvb,Vk (by omega)];rfl
 rw[e1,e2,h.ids]
def ok (h:WO w):Sg w=true:=by
 unfold Sg
 have a2:Xsa w.2.2.2.1 w.2.2.2.2.1=true:=by
  unfold Xsa;rw[Va,Yp];refine⟨λ x hx=>?_,decide_eq_true (by have:=h.wlen;omega)⟩;unfold Epa;rw[(h.wok x hx).1,(h.wok x hx).2.1,h.wge x hx];rfl
 have a3:Sp w.2.2.2.2.2=true:=by
  unfold Sp;rw[Yp];intro j hj;have hj':=Zv.1 hj;rw[Va,Gsb];refine⟨h.spn _ (A4 hj'),?_⟩
  by_cases h0:j=0
  ·exact .inl (decide_eq_true h0)
  ·right;have:=Zk.1 h.sps (j-1) j (by omega) hj' (by omega);rwa [Vc,Vc,Vk hj',Vk (by omega)]
 rw[h.ring,h.nods,h.clk,a2,a3];rfl
end WO
def Frb {l:List ByteArray} (h:∀ j,0<j→j<l.length→tlt (l.getD (j-1) P3) (l.getD j P3)=true):TS l:=by
 induction l with
 |nil=>exact List.Pairwise.nil
 |cons x l ih=>
  have ht:TS l:=ih (λ j h0 hj=>by
   have:=h (j+1) (by omega) (by simpa using hj);obtain⟨m,rfl⟩:∃ m,j=m+1:=⟨j-1,by omega⟩
   simpa using this)
  refine Wi.2 ⟨λ y hy=>?_,ht⟩
  cases l with
  |nil=>cases hy
  |cons z l=>
   have hz:tlt x z=true:=by have:=h 1 (by omega) (by simp);simpa using this
   rcases Vl.1 hy with rfl|hy
   ·exact hz
   ·exact My hz ((Wi.1 ht).1 y hy)
def Fsb {w:Wld} (h:Sg w=true) (hn:∀ n∈w.2.2.1,DB n.2.1) (hb:∀ x∈w.2.2.2.2.1,Aj x.2.1.2.2):WO w:=by
 unfold Sg at h;simp only[Va]at h;obtain⟨h1,h2,h3,h4,h5⟩:=h;unfold Rt at h2;rw[Va,beq_iff_eq,Yp]at h2;obtain⟨hl,h2⟩:=h2;have hd:=(De.1 (Ay.1 h1).1).2.2
 have hnode:∀ j,j<w.2.2.1.length→(w.2.2.1.getD j C9).1=(w.1.getD j Ni).1∧Mp (w.2.2.1.getD j C9)=true:=λ j hj=>by
  have:=h2 j (Zv.2 hj);rwa [Va,beq_iff_eq]at this
 unfold Xsa at h4;rw[Va,Yp,decide_eq_true_iff]at h4;unfold Sp at h5;rw[Yp]at h5
 have hsp:∀ j,j<w.2.2.2.2.2.length→Ao (w.2.2.2.2.2.getD j P3)=true∧(j=0∨tlt (w.2.2.2.2.2.getD (j-1) P3) (w.2.2.2.2.2.getD j P3)=true):=λ j hj=>by
  have:=h5 j (Zv.2 hj);rwa [Va,Gsb,decide_eq_true_iff]at this
 have hx:∀ x∈w.2.2.2.2.1,Ao x.1=true∧Cu x.2.1=true∧sle w.2.2.2.1 x.2.1.1=false:=λ x hx=>by
  have:=h4.1 x hx;unfold Epa at this;rwa [Va,Va,Vv]at this
 refine⟨h1,?_,⟨by omega,λ n hm=>?_⟩,h3,by omega,λ x hm=>⟨(hx x hm).1,(hx x hm).2.1,hb x hm⟩,λ x hm=>(hx x hm).2.2,Frb (λ j h0 hj=>?_),λ s hs=>?_⟩
 ·refine Jbb (by rw[Wd,Wd];omega) (λ j a b=>?_);rw[Wd]at a b;have:=(hnode j a).1;rw[Vc,Vc,Vk a,Vk b]at this;rw[Ilb,Ilb];exact this
 ·obtain⟨j,hj,rfl⟩:=Zg.1 hm;have:=(hnode j hj).2;rw[Vc,Vk hj]at this;exact⟨this,hn _ hm⟩
 ·rcases (hsp j hj).2 with h|h
  ·omega
  ·exact h
 ·obtain⟨j,hj,rfl⟩:=Zg.1 hs;have:=(hsp j hj).1;rwa [Vc,Vk hj]at this

section
open Go
end

section
open Go
end

def WIm.wo {m:Nat} {w:Wld} (h:WIm m w) (hk:Sg w=true):WO w:=Fsb hk (λ n hn=>(h.2.2.1.2 n hn).1.2) (λ x hx=>(h.2.2.2.1.2 x hx).2.2)
def WO.wim {w:Wld} (h:WO w) {m:Nat} (h2:200≤m) (hs:w.2.2.2.2.2.length≤m):WIm m w:=
 ⟨Nj h.ring,by have:=h.dlen;omega,⟨h.ns.1,λ n hn=>Xf (h.ns.2 n hn)⟩,⟨by have:=h.wlen;omega,λ x hx=>⟨J0 (h.wok x hx).1,by have:=(J9.1 (h.wok x hx).2.1).2.1;omega,(h.wok x hx).2.2⟩⟩,hs,λ s hs=>J0 (h.spn s hs)⟩
def Uma {m:Nat} {w:Wld} (h:WIm m w) (hm:m≤2000000):Tot (λ k=>Bv k w) (λ r=>r=w):=by
 obtain⟨h1,h2,⟨h3,h4⟩,⟨h5,h6⟩,h7,h8⟩:=h;unfold Bv;refine Ghb (by rw[Vj];omega) (Glb (Hha w.2.1 h1) ?_);refine Ghb (by rw[Vj];omega) ?_;rw[Wb,Wb];refine Gab (Q:=λ r=>r=(w,Iaa,(w.1,w.2.1,w.2.2.1,w.2.2.2.1,[],w.2.2.2.2.2))) ?_ ?_
 ·refine Gib (L:=λ k i (s:List Nod)=>E5 k w.2.2.1 (w.2.2.1.length:Int) i w Iaa (w.1,w.2.1,s,w.2.2.2.1,[],w.2.2.2.2.2)) (Q:=λ r=>r=(w,Iaa,(w.1,w.2.1,w.2.2.1,w.2.2.2.1,[],w.2.2.2.2.2))) w.2.2.1.length (λ j s=>s=w.2.2.1.take j) ?_ ?_ 0 [] (Vt _) rfl
  ·rintro s rfl;simp (disch:=omega) only [E5,dF];exact G9b (by rw[Yx])
  ·rintro j s hj rfl next;have hm:=h4 _ (A4 (d:=C9) hj);have e0:w.2.2.1.getD j ((0:Int),(([],[]),([],[])))=w.2.2.1.getD j C9:=rfl
   have hl:(w.2.2.1.take j).length=j:=by rw[Vu];omega
   simp (disch:=omega) only [E5,dT,Vg,w64,e0];refine Glb (Wz _ hm) ?_;refine Ghb (by rw[hl];simp only[Vb,Vj];omega) (next _ ?_);rw[Wl hj,Vc,Vk hj];rfl
 ·rintro r rfl;refine Gab (Q:=λ r=>r=(Iaa,w)) ?_ (by rintro r rfl;exact G9b rfl);refine Gib (L:=λ k i (s:List Wri)=>E4 k w.2.2.2.2.1 (w.2.2.2.2.1.length:Int) i Iaa (w.1,w.2.1,w.2.2.1,w.2.2.2.1,s,w.2.2.2.2.2)) (Q:=λ r=>r=(Iaa,w)) w.2.2.2.2.1.length (λ j s=>s=w.2.2.2.2.1.take j) ?_ ?_ 0 [] (Vt _) rfl
  ·rintro s rfl;simp (disch:=omega) only [E4,dF];exact G9b (by rw[Yx])
  ·rintro j s hj rfl next;have hm:=(h6 _ (A4 (d:=P5a) hj)).2.1;have e0:w.2.2.2.2.1.getD j ((⟨#[]⟩:ByteArray),((((0:Int),((0:Int),(0:Int))),(false,[])),false))=w.2.2.2.2.1.getD j P5a:=rfl
   have hl:(w.2.2.2.2.1.take j).length=j:=by rw[Vu];omega
   simp (disch:=omega) only [E4,dT,Vg,w64,e0,X6 (f:=(w.2.2.2.2.1.getD j P5a).2.1) (by omega),Vn];refine Ghb (by rw[hl];simp only[Vb,Vj];omega) (next _ ?_);rw[Wl hj,Vc,Vk hj];rfl

def Wr (s:ByteArray) (a:Bool×Fil) (n:Nod):Bool×Fil:=bif (lkD n.2.1 s).2==0 then (bif !a.1||sle a.2.1 (lkD n.2.1 s).1.1 then (true,(lkD n.2.1 s).1) else a) else a

def F0a (R:Int) (rc:List Int) (s:ByteArray) (ns:List Nod) (cs:List Int) (a:Int×Int×Bool×Fil) (j:Nat):Int×Int×Bool×Fil:=
 bif decide (a.1<R) then (bif rch rc j==0 then a else (a.1+1,bif rch rc j==1 then (a.2.1+1,Wr s a.2.2 (ns.getD (cs.getD j 0).toNat C9)) else a.2)) else a
def gtR (w:Wld) (s:ByteArray) (rc:List Int):Int×Int×Bool×Fil:=run (F0a w.2.1.1 rc s w.2.2.1 (Am w s)) (Am w s).length (0,0,false,Aua)
def gtW (r:Int×Int×Bool×Fil):Fil×Int:=bif r.2.1==0 then (Aua,1) else bif !r.2.2.1 then (Aua,4) else bif r.2.2.2.2.1 then (Aua,5) else (r.2.2.2,0)
def Ezb (w:Wld) (s:ByteArray) (rc:List Int):Fil×Int:=bif Sg w&&Ao s then gtW (gtR w s rc) else (Aua,2)
def C9b {R:Int} {rc:List Int} {s:ByteArray} {ns:List Nod} {cs:List Int} {a:Int×Int×Bool×Fil} {j:Nat} (h:(0≤a.1∧a.1≤j)∧0≤a.2.1∧a.2.1≤j):let b:=F0a R rc s ns cs a j
  (0≤b.1∧b.1≤((j+1:Nat):Int))∧0≤b.2.1∧b.2.1≤((j+1:Nat):Int):=by
 obtain⟨⟨h1,h2⟩,h3,h4⟩:=h;intro b;have hb:b=F0a R rc s ns cs a j:=rfl;unfold F0a at hb;cases hR:decide (a.1<R)
 ·rw[hR,cond_false]at hb;rw[hb];exact⟨⟨h1,by omega⟩,h3,by omega⟩
 rw[hR,cond_true]at hb;cases hr:rch rc j==0
 case true=>rw[hr,cond_true]at hb;rw[hb];exact⟨⟨h1,by omega⟩,h3,by omega⟩
 rw[hr,cond_false]at hb;rw[hb]
 cases rch rc j==1 with
 |true=>exact⟨⟨by dsimp only;omega,by dsimp only;omega⟩,by rw[cond_true];dsimp only;omega,by rw[cond_true];dsimp only;omega⟩
 |false=>exact⟨⟨by dsimp only;omega,by dsimp only;omega⟩,by rw[cond_false];exact h3,by rw[cond_false];dsimp only;omega⟩
def Cab (w:Wld) (s:ByteArray) (rc:List Int) (n:Nat):let b:=run (F0a w.2.1.1 rc s w.2.2.1 (Am w s)) n (0,0,false,Aua)
  (0≤b.1∧b.1≤(n:Int))∧0≤b.2.1∧b.2.1≤(n:Int):=
 N0 (λ j (b:Int×Int×Bool×Fil)=>(0≤b.1∧b.1≤(j:Int))∧0≤b.2.1∧b.2.1≤(j:Int)) ⟨⟨Zh _,Zh _⟩,Zh _,Zh _⟩ (λ j b _ hb=>C9b hb)
def Una (w:Wld) (s:ByteArray) (rc:List Int) (h:(gtR w s rc).2.2.1=true):∃ n∈w.2.2.1,lkD n.2.1 s=((gtR w s rc).2.2.2,0):=by
 have key:∀ b:Int×Int×Bool×Fil,b=gtR w s rc→(b.2.2.1=true→∃ n∈w.2.2.1,lkD n.2.1 s=(b.2.2.2,0)):=by
  rintro _ rfl;unfold gtR;refine N0 (λ _ (b:Int×Int×Bool×Fil)=>b.2.2.1=true→∃ n∈w.2.2.1,lkD n.2.1 s=(b.2.2.2,0)) (λ h=>by cases h) (λ j b hj hb=>?_);have hc:=N1 (A4 (d:=0) hj);unfold F0a;cases decide (b.1<w.2.1.1)
  ·exact hb
  rw[cond_true];cases rch rc j==0
  case true=>exact hb
  rw[cond_false];cases rch rc j==1
  ·exact hb
  intro ht;rw[cond_true]at ht ⊢;dsimp only at ht ⊢;unfold Wr at ht ⊢;have hm:=A4 (d:=C9) (show ((Am w s).getD j 0).toNat<w.2.2.1.length by omega);cases hg:(lkD (w.2.2.1.getD ((Am w s).getD j 0).toNat C9).2.1 s).2==0
  ·rw[hg]at ht;exact hb ht
  rw[hg,cond_true]at ht;rw[cond_true]
  cases hn : !b.2.2.1||sle b.2.2.2.1 (lkD (w.2.2.1.getD ((Am w s).getD j 0).toNat C9).2.1 s).1.1 with
  |false=>rw[hn]at ht;exact hb ht
  |true=>exact⟨_,hm,Prod.ext rfl (eq_of_beq hg)⟩
 exact key _ rfl h
def I0a {w:Wld} {s:ByteArray} (hr:Ha w.2.1 w.1=true) (hn:w.2.2.1.length≤2000000):(Am w s).length≤4000000000000:=by
 unfold Am;refine Og hn ?_;have h5:=(Ay.1 hr).2.1;have p2:=(Oz hr s).2.1;have h12:=(De.1 (Ay.1 hr).1).2.2.2;have hh:=O6 w.2.1 w.1 s;rw[Vd];omega
def Uoa {s:ByteArray} (h:Ao s=true):s.size≤1000000000:=by
 have:=Dg.1 (Va _ _ ▸ h:_∧_).2;omega
def Y7a {n:Nod} (hn:NIn n) (how g:Int) (s:ByteArray) (a:Bool×Fil) (h0:0≤g) (h1:g≤9000000000000):
  Tot (λ k=>Ch k n how g s a.1 a.2) (λ r=>r=bif how==1 then (g+1,s,(Wr s a n).1,(Wr s a n).2) else (g,s,a.1,a.2)):=by
 unfold Ch Wr;cases hh:how==1
 ·exact Gcb (by rw[bne,hh];rfl) (G9b rfl)
 refine Gbb (by rw[bne,hh];rfl) (Glb (Wza hn.1.1.1.1.1 hn.1.2.1 s) ?_);rw[w64 (n:=g+1) (by omega) (by omega)];cases (lkD n.2.1 s).2==0
 ·exact Gbb rfl (G9b rfl)
 refine Gcb rfl ?_;obtain⟨b,f⟩:=a;cases b
 ·exact Gcb rfl (G9b rfl)
 refine Gbb rfl ?_;simp only[H1a,Vn]
 cases sle f.1 (lkD n.2.1 s).1.1 with
 |true=>exact Gcb rfl (G9b rfl)
 |false=>exact Gbb rfl (G9b rfl)
def Pca (w:Wld) (s:ByteArray) (rc:List Int) (hr:Ha w.2.1 w.1=true) (hn:w.2.2.1.length≤2000000) (hni:∀ n∈w.2.2.1,NIn n) (hs:Ao s=true):
  Tot (λ k=>A9 k w s rc true 0 s false Aua) (λ r=>r=(w,(gtR w s rc).2.1,s,(gtR w s rc).2.2.1,(gtR w s rc).2.2.2)):=by
 have hcl:=I0a (s:=s) hr hn;have h5:=(Ay.1 hr).2.1;unfold A9;refine Glb (X4 w s hr hn (Uoa hs)) ?_;have hc:=λ x=>N1 (w:=w) (s:=s) (x:=x);have hrun:gtR w s rc=run (F0a w.2.1.1 rc s w.2.2.1 (Am w s)) (Am w s).length (0,0,false,Aua):=rfl;have inv:=Cab w s rc;generalize hcs:Am w s=cs at *;refine Gab (Q:=λ r=>r=(w,(gtR w s rc).2.1,s,(gtR w s rc).2.2.1,(gtR w s rc).2.2.2)) ?_ (by rintro r rfl;exact G9b rfl);refine Gib (L:=λ k i (a:Int×Int×Bool×Fil)=>Ac k rc a.1 cs (cs.length:Int) i w a.2.1 s a.2.2.1 a.2.2.2) (Q:=λ r=>r=(w,(gtR w s rc).2.1,s,(gtR w s rc).2.2.1,(gtR w s rc).2.2.2)) cs.length (λ j a=>a=run (F0a w.2.1.1 rc s w.2.2.1 cs) j (0,0,false,Aua)) ?_ ?_ 0 (0,0,false,Aua) (Vt _) rfl
 ·rintro a rfl;simp (disch:=omega) only [Ac,dF];exact G9b (by rw[hrun])
 ·rintro j a hj rfl next;obtain⟨⟨i1,i2⟩,i3,i4⟩:=inv j;rw[Nk]at next;generalize run (F0a w.2.1.1 rc s w.2.2.1 cs) j (0,0,false,Aua)=a at *;obtain⟨o,g,a⟩:=a;dsimp only at i1 i2 i3 i4;have hci:=hc _ (A4 (d:=0) hj);obtain⟨i,ei⟩:∃ i:Nat,cs.getD j 0=(i:Int):=⟨(cs.getD j 0).toNat,by omega⟩;rw[ei]at hci;unfold F0a at next;rw[ei,Int.toNat_natCast]at next;dsimp only at next;have e0:w.2.2.1.getD i ((0:Int),(([],[]),([],[])))=w.2.2.1.getD i C9:=rfl;simp (disch:=omega) only [Ac,dT,Int.toNat_natCast,w64,ei,e0,U2a,Option.bind_some]
  cases h0:rch rc j==0 with
  |true=>
   refine Gbb (by rw[bne,h0];rfl) ?_;rw[h0]at next;refine next (o,g,a) ?_
   cases decide (o<w.2.1.1)<;>rfl
  |false=>
   refine Gcb (by rw[bne,h0];rfl) ?_;rw[h0]at next;refine Ggb (λ hR'=>?_) (λ hR'=>?_)
   ·rw[decide_eq_true hR']at next;refine Glb (Y7a (hni _ (A4 (d:=C9) (show i<w.2.2.1.length by omega))) (rch rc j) g s a i3 (by omega)) ?_
    cases h1:rch rc j==1 with
    |true=>rw[h1]at next;exact next _ rfl
    |false=>rw[h1]at next;exact next _ rfl
   ·rw[decide_eq_false hR']at next;exact next _ rfl
def Y8a (w:Wld) (s:ByteArray) (rc:List Int) (hw:WIn w) (hs:Jr s):Tot (λ k=>Hw k w s rc) (λ r=>r=Ezb w s rc):=by
 unfold Hw Ezb;refine Glb (B8a w hw) ?_;cases hk:Sg w
 ·exact Gcb rfl (G9b rfl)
 refine Gbb rfl (Glb (Nx s hs) ?_);cases hn:Ao s
 ·exact Gcb rfl (G9b rfl)
 have hr:Ha w.2.1 w.1=true:=by
  unfold Sg at hk;exact(Va _ _ ▸ hk:_∧_).1
 refine Gbb rfl (Glb (Pca w s rc hr hw.2.2.1.1 hw.2.2.1.2 hn) ?_);unfold gtW;dsimp only;cases (gtR w s rc).2.1==0
 case true=>exact Gcb rfl (G9b rfl)
 refine Gbb rfl ?_;cases (gtR w s rc).2.2.1
 ·exact Gcb rfl (G9b rfl)
 refine Gbb rfl ?_
 cases (gtR w s rc).2.2.2.2.1 with
 |true=>exact Gcb rfl (G9b rfl)
 |false=>exact Gbb rfl (G9b rfl)
def Pda (c:Cur) (hc:Ct c):Tot (λ k=>Kk k c) (λ r=>r.1.length≤6∧Ct r.2):=by
 unfold Kk;refine Gab (X5 c hc) ?_;rintro⟨l,c1⟩ ⟨hl,k1⟩;dsimp only at hl k1 ⊢;obtain⟨x,c2,e2,_,_,_,k2⟩:=Av c1 k1 8 (by decide);refine Glb (Gmb (Q:=λ r=>r=(x,c2)) e2 rfl) ?_;dsimp only;refine Gfb (λ _=>?_) (λ _=>Gfb (λ _=>?_) (λ _=>G9b ⟨by dsimp only;omega,k2⟩))
 ·obtain⟨y,c3,e3,y0,y1,_,k3⟩:=Av c2 k2 4 (by decide);have y1:=y1 (by decide);refine Glb (Gmb (Q:=λ r=>r=(y,c3)) e3 rfl) ?_;exact Gdb y0 (Gdb (by dsimp only;omega) (G9b ⟨by dsimp only;rw[List.length_take];omega,k3⟩))
 ·obtain⟨y,c3,e3,_,k3⟩:=Kz c2 k2 [(-1),4] (by decide) (by decide);refine Glb (Gmb (Q:=λ r=>r=(y,c3)) e3 rfl) ?_;exact Gdb (by omega) (G9b ⟨by dsimp only;rw[List.length_set];omega,k3⟩)

def Erb (w:Wld) (s:ByteArray) (f:Fil) (t:Int) (rc:List Int):Wld×Int:=bif Sg w then ((ask w s f t rc).2,(ask w s f t rc).1) else (w,2)

section
open Go
end

section
variable {nm:List ByteArray} {ws:List Wri} {sp:List ByteArray} {d:Dsk} {s:ByteArray} {f:Fil}
end
def Esb {d:Dsk} {s:ByteArray}:((lkD d s).2 != 0)=(old d s).isNone:=by
 unfold lkD old
 cases gt d.1 s with
 |none=>rfl
 |some b=>cases h:O3 b<;>simp[h]
def Cbb {d:Dsk} {s:ByteArray} {f:Fil} (h:old d s=some f):lkD d s=(f,0):=by
 unfold old at h
 cases hg:gt d.1 s with
 |none=>rw[hg]at h;cases h
 |some b=>rw[hg]at h;exact Ox.2 ⟨b,hg,h⟩
def Upa (id:Int):∀ {ns ms:List Nod} (i:Nat),ms.map (·.1)=ns.map (·.1)→atN ms id i=atN ns id i
 |[],[],_,_=>rfl
 |n::ns,m::ms,i,h=>by
  rw[Yh,Yh,Yl]at h;unfold atN;rw[h.1,Upa id (i+1) h.2]
 |[],_::_,_,h=>by cases h
 |_::_,[],_,h=>by cases h
def Ccb {ns ms:List Nod} (h:ms.map (·.1)=ns.map (·.1)) (ids:List Int):whr ms ids=whr ns ids:=by
 unfold whr;congr 1;funext id;exact Upa id 0 h
def Kra (id:Int):∀ (ns:List Nod) (i:Nat),(ns.map (·.1)).Nodup→(atN ns id i).length≤1
 |[],_,_=>Vt _
 |n::ns,i,h=>by
  rw[Yh,Yo]at h;have ih:=Kra id ns (i+1) h.2;unfold atN
  cases hx:n.1==id with
  |false=>exact ih
  |true=>
   have he:atN ns id (i+1)=[]:=by
    refine Ieb.2 λ x hx'=>?_;obtain⟨j,h1,h2,_⟩:=(W8 id ns (i+1) x).1 hx';refine h.1 ?_;rw[eq_of_beq hx,← h2];exact Yc (A4 h1)
   rw[cond_true,he];exact Vw _
def Uqa {ns:List Nod} (h:(ns.map (·.1)).Nodup):∀ (ids:List Int),(whr ns ids).length≤ids.length
 |[]=>Vt _
 |id::ids=>by
  rw[Sd,Vd,Vb];have:=Kra id ns 0 h;have:=Uqa h ids;omega
def WO.nodup {w:Wld} (h:WO w):(w.2.2.1.map (·.1)).Nodup:=by
 rw[h.ids];have hp:=(De.1 (Ay.1 h.ring).1).1;have hq:(w.1.map (·.1)).Pairwise (λ a b=>a<b):=Zz.2 hp;exact hq.imp (λ {a b} hab e=>by omega)
def oN (ns:List Nod) (m:Nat) (t:ByteArray):Option Fil:=old (ns.getD m C9).2.1 t
def WI.push {w:Wld} (h:WI w) {i:Nat} (hi:i<w.2.2.1.length) (s:ByteArray) (rc:List Int):WI (Hsa w i s rc).2:=h.other' (Nka h.wok h.nodes hi h.ring h.ids)

section
variable {α:Type} {bs:Option α→α→α} {le:α→α→Prop} {P:Nat→Bool} {c c':Nat→Option α} {k n:Nat}
end
def NR.trans {ws:List Wri} {sp:List ByteArray} {a b c:List Nod} (h1:NR ws sp a b) (h2:NR ws sp b c):NR ws sp a c:=⟨h2.1,h2.2.1.trans h1.2.1,λ s hs st h=>h2.2.2 s hs st (h1.2.2 s hs st h)⟩
section
variable {w v u:Wld}
end

def NI.rows {ws:List Wri} {sp:List ByteArray} {n:Nod} (h:NI ws sp n):Iz n.2.2.1:=(Mm.1 (C2.1 h.1.1).2.2.2.1).1
def WI.give {w:Wld} (h:WI w) (m:Nat) (hm:m<w.2.2.1.length):Iz (w.2.2.1.getD m C9).2.2.1:=(h.nodes _ (A4 (d:=C9) hm)).rows

def I1a {p zs:List Int} {z:Bool} {l:List Dev} (h:(l.map (·.1)).Nodup):(hoA p zs z l).Nodup:=by
 unfold hoA;exact h.sublist (Iub.map _)
def Ura:∀ {l:List Dev} {a b:Dev},(l.map (·.1)).Nodup→a∈l→b∈l→a.1=b.1→a=b
 |[],_,_,_,h,_,_=>nomatch h
 |x::l,a,b,hn,ha,hb,e=>by
  rw[Yh,Yo]at hn;rcases Vl.1 ha with ea|ha'
  ·rcases Vl.1 hb with eb|hb'
   ·rw[ea,eb]
   ·exact absurd (by rw[← ea,e];exact Yc hb') hn.1
  ·rcases Vl.1 hb with eb|hb'
   ·exact absurd (by rw[← eb,← e];exact Yc ha') hn.1
   ·exact Ura hn.2 ha' hb' e
def Bxa {r:Rng} {l:List Dev} {x:ByteArray} (h:(l.map (·.1)).Nodup) (hp:(Pi r x).Nodup):(Pi r x++Lw r l x).Nodup:=by
 have mem:∀ {z:Bool} {i:Int},i∈hoA (Pi r x) (H4 (Pi r x) l) z l→Nn (Pi r x) i=false∧∃ d∈l,d.1=i∧Nn (H4 (Pi r x) l) d.2.1=z:=by
  intro z i hi;unfold hoA at hi;obtain⟨d,hd,rfl⟩:=Yt.1 hi;obtain⟨h1,h2⟩:=Hdb.1 hd;rw[Va,Vv,beq_iff_eq]at h2;exact⟨h2.1,d,h1,rfl,h2.2⟩
 unfold Lw;rw[Ya,Ya];refine⟨hp,⟨I1a h,I1a h,λ a ha b hb e=>?_⟩,λ a ha b hb e=>?_⟩
 ·subst e;obtain⟨_,d,hd,e1,z1⟩:=mem ha;obtain⟨_,d',hd',e2,z2⟩:=mem hb;rw[Ura h hd hd' (e1.trans e2.symm)]at z1;rw[z1]at z2;cases z2
 ·subst e;rcases Vo.1 hb with hb|hb
  ·have:=(mem hb).1;rw[Of.2 ha]at this;cases this
  ·have:=(mem hb).1;rw[Of.2 ha]at this;cases this
def I2a {ns:List Nod} (h:(ns.map (·.1)).Nodup):∀ {ids:List Int},ids.Nodup→(whr ns ids).Nodup
 |[],_=>Jqb
 |id::ids,hi=>by
  obtain⟨h1,h2⟩:=Yo.1 hi;rw[Sd,Ya];refine⟨?_,I2a h h2,λ a ha b hb e=>?_⟩
  ·have:=Kra id ns 0 h
   match hq:atN ns id 0 with
   |[]=>exact Jqb
   |[x]=>exact Hib _ _
   |x::y::l=>rw[hq,Vb,Vb]at this;omega
  ·subst e;obtain⟨j,hj1,hj2,hj3⟩:=(W8 id ns 0 a).1 ha;obtain⟨i,hi1,hi2,hi3⟩:=B9a.1 hb
   have:i=j:=by omega
   subst this;rw[hj2]at hi2;exact h1 hi2
def WO.contacts_nodup {w:Wld} (h:WO w) (s:ByteArray):(Am w s).Nodup:=by
 have hd:(w.1.map (·.1)).Nodup:=by rw[← h.ids];exact h.nodup
 exact I2a h.nodup (Bxa hd (Oz h.ring s).1)
def NG.rows {n:Nod} (h:NG n):Iz n.2.2.1:=(Mm.1 (C2.1 h.1).2.2.2.1).1

section
open Go
end

def Ftb {d:Dsk} {s:ByteArray}:((lkD d s).2==0)=(old d s).isSome:=by
 have:=Esb (d:=d) (s:=s);unfold bne at this
 cases h:(lkD d s).2==0<;>cases h2:old d s<;>simp[h,h2]at this ⊢
section
variable {nm:List ByteArray} {w:Wld}
end

def Zra {s:ByteArray}:∀ (ns:List Nod) (a:Bool×Fil),(a.1=true→(ns.foldl (Wr s) a).1=true∧sle (ns.foldl (Wr s) a).2.1 a.2.1=false)∧
  ∀ n∈ns,((lkD n.2.1 s).2==0)=true→(ns.foldl (Wr s) a).1=true∧sle (ns.foldl (Wr s) a).2.1 (lkD n.2.1 s).1.1=false
 |[],a=>⟨λ h=>⟨h,Ln _⟩,λ n hn=>nomatch hn⟩
 |n::ns,a=>by
  rw[Ze];obtain⟨i1,i2⟩:=Zra ns (Wr s a n)
  have k:(a.1=true→(Wr s a n).1=true∧sle (Wr s a n).2.1 a.2.1=false)∧(((lkD n.2.1 s).2==0)=true→(Wr s a n).1=true∧sle (Wr s a n).2.1 (lkD n.2.1 s).1.1=false):=by
   unfold Wr
   cases hc:(lkD n.2.1 s).2==0 with
   |false=>exact⟨λ h=>⟨h,Ln _⟩,λ h=>by cases h⟩
   |true=>
    rw[cond_true]
    cases ha:a.1 with
    |false=>exact⟨λ h=>(by cases h),λ _=>⟨rfl,Ln _⟩⟩
    |true=>
     cases hs:sle a.2.1 (lkD n.2.1 s).1.1 with
     |true=>exact⟨λ _=>⟨rfl,Uj hs⟩,λ _=>⟨rfl,Ln _⟩⟩
     |false=>exact⟨λ _=>⟨ha,Ln _⟩,λ _=>⟨ha,hs⟩⟩
  have up:(Wr s a n).1=true→∀ {st:Stp},sle (Wr s a n).2.1 st=false→(ns.foldl (Wr s) (Wr s a n)).1=true∧sle (ns.foldl (Wr s) (Wr s a n)).2.1 st=false:=λ h st hs=>⟨(i1 h).1,Sq (i1 h).2 hs⟩;refine⟨λ h=>up (k.1 h).1 (k.1 h).2,λ m hm hg=>?_⟩;rcases Vl.1 hm with rfl|hm
  ·exact up (k.2 hg).1 (k.2 hg).2
  ·exact i2 m hm hg

section
open Go
end

section
open Go
end

section
open Go
end

section
open Go
end

section
open Go
end

def Usa {d:Dsk} {s:ByteArray} {f:Fil} (sure:Bool) (hd:DG d) (g1:Ao s=true) (g2:Cu f=true) (g3:Aj f.2.2):
  (old (keep d s f sure).1 s=old d s∨old (keep d s f sure).1 s=some f)∧
  ((keep d s f sure).2=0∨(keep d s f sure).2=1→∃ o,old (keep d s f sure).1 s=some o∧sle o.1 f.1=false):=by
 rw[Awa hd.1 g1 g2];rcases W1 (f:=f) (sure:=sure) hd g1 with k|⟨o,h1,h2,h3,_,h5⟩|⟨h1,_,h3,_,h5⟩
 ·rw[k]
  exact⟨.inl rfl,λ h=>by rcases h with h|h<;>cases h⟩
 ·have e:old (Me d s f sure).1 s=old d s:=by rcases h5 with⟨_,e⟩|⟨_,e⟩<;>rw[e]<;>rfl
  exact⟨.inl e,λ _=>⟨o,e.trans h1,h2⟩⟩
 ·have e:old (Me d s f sure).1 s=some f:=by
   have e1:(Me d s f sure).1.1=wr d.1 s (Lr f):=by rcases h5 with⟨_,e⟩|⟨_,e⟩<;>rw[e]
   unfold old;rw[e1,H8a (Ng hd.1),if_pos rfl,Vn,Ub g2 g3]
  exact⟨.inr e,λ _=>⟨f,e,Ln _⟩⟩
def I3a {n:Nod} {s:ByteArray} {f:Fil} (sure:Bool) (hn:NG n) (g1:Ao s=true) (g2:Cu f=true) (g3:Aj f.2.2):
  (old (Pg n s f sure).1.2.1 s=old n.2.1 s∨old (Pg n s f sure).1.2.1 s=some f)∧
  ((Pg n s f sure).2=0∨(Pg n s f sure).2=1→∃ o,old (Pg n s f sure).1.2.1 s=some o∧sle o.1 f.1=false):=by
 unfold Pg;cases (n.2.2.2.length:Int)==60
 case true=>exact⟨.inl rfl,λ h=>by rcases h with h|h<;>cases h⟩
 exact Usa sure hn.g g1 g2 g3
def Cdb {cs:List Int} (h:cs.Nodup) {i j:Nat} (hi:i<cs.length) (hj:j<cs.length) (hij:i≠j) (h0:∀ x∈cs,0≤x):(cs.getD i 0).toNat≠(cs.getD j 0).toNat:=λ e=>by
 have a:=h0 _ (A4 (d:=0) hi);have b:=h0 _ (A4 (d:=0) hj)
 have e':cs.getD i 0=cs.getD j 0:=by omega
 rw[Vc,Vc,Vk hi,Vk hj]at e';rw[Ye,Ye]at e';rcases Nat.lt_or_gt_of_ne hij with hl|hl
 ·exact(Zk.1 h i j hi hj hl) e'
 ·exact(Zk.1 h j i hj hi hl) e'.symm
def Uta {R:Int} {rc:List Int} {s:ByteArray} {f:Fil} {cs:List Int} {a:List Nod×Int×Int} {j m:Nat} (h:(cs.getD j 0).toNat≠m):(wst R rc s f cs a j).1.getD m C9=a.1.getD m C9:=by
 unfold wst;cases decide (a.2.1<R)
 ·rfl
 cases rch rc j==0
 case true=>rfl
 show (a.1.set _ _).getD m C9=_;rw[Vc,Hab h,Vc]
def Ceb (s:ByteArray) (a:Bool×Fil) (n:Nod):(a.1=true→(Wr s a n).1=true∧sle (Wr s a n).2.1 a.2.1=false)∧(∀ o,old n.2.1 s=some o→(Wr s a n).1=true∧sle (Wr s a n).2.1 o.1=false):=by
 obtain⟨h1,h2⟩:=Zra (s:=s) [n] a;refine⟨h1,λ o ho=>?_⟩;have:=h2 n (Vs.2 rfl) (by rw[Ftb,ho];rfl);rwa [Cbb ho]at this
def Cfb {w:Wld} {s:ByteArray} {f:Fil} {rc:List Int} (hn:NS w.2.2.1) (hcs:(Am w s).Nodup) (g1:Ao s=true) (g2:Cu f=true) (g3:Aj f.2.2):
  (wrN w s f rc).1.length=w.2.2.1.length∧(∀ m,m<w.2.2.1.length→oN (wrN w s f rc).1 m s=oN w.2.2.1 m s∨oN (wrN w s f rc).1 m s=some f)∧
  ((wrN w s f rc).2.2≥1→∀ r,r=run (F0a w.2.1.1 rc s (wrN w s f rc).1 (Am w s)) (Am w s).length (0,0,false,Aua)→r.2.1≥1∧r.2.2.1=true∧sle r.2.2.2.1 f.1=false):=by
 have hat:=λ x=>N1 (w:=w) (s:=s) (x:=x);have hrun:wrN w s f rc=run (wst w.2.1.1 rc s f (Am w s)) (Am w s).length (w.2.2.1,0,0):=rfl;generalize Am w s=cs at *;have h0:∀ x∈cs,0≤x:=λ x hx=>(hat x hx).1
 have hN:∀ j,j<cs.length→(cs.getD j 0).toNat<w.2.2.1.length:=λ j hj=>by have:=hat _ (A4 (d:=0) hj);omega
 have inv:∀ n,n≤cs.length→NS (run (wst w.2.1.1 rc s f cs) n (w.2.2.1,0,0)).1∧(run (wst w.2.1.1 rc s f cs) n (w.2.2.1,0,0)).1.length=w.2.2.1.length∧∀ m,m<w.2.2.1.length→oN (run (wst w.2.1.1 rc s f cs) n (w.2.2.1,0,0)).1 m s=oN w.2.2.1 m s∨oN (run (wst w.2.1.1 rc s f cs) n (w.2.2.1,0,0)).1 m s=some f:=by
  intro n hn';refine N0 (λ j (b:List Nod×Int×Int)=>NS b.1∧b.1.length=w.2.2.1.length∧∀ m,m<w.2.2.1.length→oN b.1 m s=oN w.2.2.1 m s∨oN b.1 m s=some f) ⟨hn,rfl,λ _ _ => .inl rfl⟩ ?_;rintro j ⟨ns,q,g⟩ hj ⟨b1,b2,b3⟩;dsimp only at b1 b2 b3;unfold wst;cases decide (q<w.2.1.1)
  case false=>exact⟨b1,b2,b3⟩
  cases rch rc j==0
  case true=>exact⟨b1,b2,b3⟩
  rw[cond_true,cond_false];have hp:=hN j (by omega);generalize (cs.getD j 0).toNat=p at *
  have hpn:p<ns.length:=by omega
  have hg:=b1.get hpn;refine⟨b1.set (H9a hg g1 g2),by show (ns.set _ _).length=_;rw[Vz];exact b2,λ m hm=>?_⟩;show oN (ns.set p (Pg (ns.getD p C9) s f (rch rc j != 3)).1) m s=_∨oN (ns.set p (Pg (ns.getD p C9) s f (rch rc j != 3)).1) m s=_
  have hmn:m<ns.length:=by omega
  by_cases e:p=m
  ·subst e
   have eo:oN (ns.set p (Pg (ns.getD p C9) s f (rch rc j != 3)).1) p s=old (Pg (ns.getD p C9) s f (rch rc j != 3)).1.2.1 s:=by unfold oN;rw[Mg hmn,if_pos rfl]
   rw[eo];rcases (I3a (rch rc j != 3) hg g1 g2 g3).1 with k|k
   ·rw[k];exact b3 p hm
   ·exact .inr k
  ·have eo:oN (ns.set p (Pg (ns.getD p C9) s f (rch rc j != 3)).1) m s=oN ns m s:=by unfold oN;rw[Mg hmn,if_neg e]
   rw[eo];exact b3 m hm
 have later:∀ j,j≤cs.length→∀ i,i<j→(run (wst w.2.1.1 rc s f cs) j (w.2.2.1,0,0)).1.getD (cs.getD i 0).toNat C9=(run (wst w.2.1.1 rc s f cs) (i+1) (w.2.2.1,0,0)).1.getD (cs.getD i 0).toNat C9:=by
  intro j
  induction j with
  |zero=>intro _ i hi;omega
  |succ j ih=>
   intro hj i hi
   by_cases e:i=j
   ·subst e;rfl
   ·rw[Nk,Uta (Cdb hcs (by omega) (by omega) (λ c=>e c.symm) h0)];exact ih (by omega) i (by omega)
 refine⟨by rw[hrun];exact(inv _ (Vw _)).2.1,by rw[hrun];exact(inv _ (Vw _)).2.2,?_⟩
 have hF:∀ j,j<cs.length→(wrN w s f rc).1.getD (cs.getD j 0).toNat C9=(run (wst w.2.1.1 rc s f cs) (j+1) (w.2.2.1,0,0)).1.getD (cs.getD j 0).toNat C9:=λ j hj=>by rw[hrun];exact later _ (Vw _) j hj
 generalize (wrN w s f rc).1=F at *;rw[hrun]
 have key:∀ j,j≤cs.length→(run (F0a w.2.1.1 rc s F cs) j (0,0,false,Aua)).1=(run (wst w.2.1.1 rc s f cs) j (w.2.2.1,0,0)).2.1∧
   (run (wst w.2.1.1 rc s f cs) j (w.2.2.1,0,0)).2.2≤(run (F0a w.2.1.1 rc s F cs) j (0,0,false,Aua)).2.1∧
   ((run (wst w.2.1.1 rc s f cs) j (w.2.2.1,0,0)).2.2≥1→(run (F0a w.2.1.1 rc s F cs) j (0,0,false,Aua)).2.2.1=true∧sle (run (F0a w.2.1.1 rc s F cs) j (0,0,false,Aua)).2.2.2.1 f.1=false):=by
  intro j
  induction j with
  |zero=>intro _;exact⟨rfl,Zh _,λ h=>absurd h (show ¬ (0:Int)≥1 by omega)⟩
  |succ j ih=>
   intro hj;obtain⟨i1,i2,i3⟩:=ih (by omega);have hFj:=hF j (by omega);obtain⟨v1,v2,_⟩:=inv j (by omega);have hp:=hN j (by omega);rw[Nk]at hFj;rw[Nk,Nk];generalize run (F0a w.2.1.1 rc s F cs) j (0,0,false,Aua)=b at *;generalize run (wst w.2.1.1 rc s f cs) j (w.2.2.1,0,0)=a at *;obtain⟨o,an,b⟩:=b;obtain⟨ns,q,g⟩:=a;dsimp only at i1 i2 i3 v1 v2;subst i1;unfold wst at hFj ⊢;unfold F0a;dsimp only at hFj ⊢;cases hR:decide (o<w.2.1.1)
   case false=>exact⟨rfl,i2,i3⟩
   rw[hR]at hFj;cases h0:rch rc j==0
   case true=>exact⟨rfl,i2,i3⟩
   rw[h0,cond_true,cond_false]at hFj
   have hpn:(cs.getD j 0).toNat<ns.length:=by omega
   dsimp only at hFj;rw[Mg hpn,if_pos rfl]at hFj;rw[cond_true,cond_false,cond_true,cond_false,hFj];have hb:=(I3a (f:=f) (rch rc j != 3) (v1.get hpn) g1 g2 g3).2;generalize Pg (ns.getD (cs.getD j 0).toNat C9) s f (rch rc j != 3)=u at *
   cases h1:rch rc j==1 with
   |false=>exact⟨rfl,i2,i3⟩
   |true=>
    rw[Vy,cond_true];obtain⟨l1,l2⟩:=Ceb s b u.1;have up:b.1=true∧sle b.2.1 f.1=false→(Wr s b u.1).1=true∧sle (Wr s b u.1).2.1 f.1=false:=λ ⟨x,y⟩=>⟨(l1 x).1,Sq (l1 x).2 y⟩
    cases hc:u.2==0||u.2==1 with
    |false=>exact⟨rfl,by rw[cond_false];dsimp only;omega,λ h=>up (i3 h)⟩
    |true=>
     rw[Bool.or_eq_true,beq_iff_eq,beq_iff_eq]at hc;obtain⟨x,x1,x2⟩:=hb hc;obtain⟨y1,y2⟩:=l2 x x1;exact⟨rfl,by rw[cond_true];dsimp only;omega,λ _=>⟨y1,Sq y2 x2⟩⟩
 rintro hg r rfl;obtain⟨_,k2,k3⟩:=key _ (Vw _);obtain⟨k4,k5⟩:=k3 hg;exact⟨by omega,k4,k5⟩
def Y9a {w:Wld} (h:WO w) (hwr:Qs w=true→∀ m,m<w.2.2.1.length→∀ o s,oN w.2.2.1 m s=some o→IsW w.2.2.2.2.1 s o) {s:ByteArray} {t:Int} {rc:List Int} (hw:Qs w=true) (hk:(ask w s ((0,0,0),true,[]) t rc).1=0):
  (Ezb (ask w s ((0,0,0),true,[]) t rc).2 s rc).2=5:=by
 have hwo:=h.ask (s:=s) (f:=((0,0,0),true,[])) (t:=t) (rc:=rc) (λ x hx=>nomatch hx) (λ _=>rfl);have hok:=hwo.ok;unfold ask at hk hok ⊢;cases hs:Ao s
 ·rw[hs]at hk;cases hk
 rw[hs,Bool.not_true,cond_false]at hk hok;rw[Bool.not_true,cond_false];dsimp only at hk hok ⊢;cases h2:decide ((([]:List Int).length:Int) > 200)
 case true=>rw[h2]at hk;cases hk
 rw[h2,cond_false]at hk hok;rw[cond_false];cases h3:inR t 0 1000000000
 ·rw[h3]at hk;cases hk
 rw[h3,Zb,cond_false]at hk hok;rw[Zb,cond_false];cases h4:(w.2.2.2.2.1.length:Int)==200
 case true=>rw[h4]at hk;cases hk
 rw[h4,cond_false]at hk hok;rw[cond_false];obtain⟨n1,n2⟩:=Uh h.clk t 0;cases he:(K8 w.2.2.2.1 t 0).1==w.2.2.2.1.1&&((K8 w.2.2.2.1 t 0).2.1==w.2.2.2.1.2.1&&(K8 w.2.2.2.1 t 0).2.2==w.2.2.2.1.2.2)
 case true=>rw[he]at hk;cases hk
 rw[he,cond_false]at hk hok;rw[cond_false]
 have hlt:sle w.2.2.2.1 (K8 w.2.2.2.1 t 0)=true:=by
  rcases n2 with n2|n2
  ·rw[n2,beq_self_eq_true,beq_self_eq_true,beq_self_eq_true]at he;cases he
  ·exact n2
 generalize K8 w.2.2.2.1 t 0=T at *;have hfo:Cu (T,true,([]:List Int))=true:=J9.2 ⟨n1,by show ([]:List Int).length≤200;decide,λ _=>rfl⟩;obtain⟨l0,l1,l2⟩:=Cfb (w:=(w.1,w.2.1,w.2.2.1,T,w.2.2.2.2)) (s:=s) (f:=(T,true,[])) (rc:=rc) h.ns (h.contacts_nodup s) hs hfo (λ x hx=>nomatch hx);have hids:(wrN (w.1,w.2.1,w.2.2.1,T,w.2.2.2.2) s (T,true,[]) rc).1.map (·.1)=w.2.2.1.map (·.1):=(Zqa (w:=(w.1,w.2.1,w.2.2.1,T,w.2.2.2.2)) (rc:=rc) h.ns hs hfo).2;have hcon:Am (Pj (w.1,w.2.1,w.2.2.1,T,w.2.2.2.2) s (T,true,[]) rc).2 s=Am w s:=Ccb hids _
 have hge:(wrN (w.1,w.2.1,w.2.2.1,T,w.2.2.2.2) s (T,true,[]) rc).2.2≥1:=by
  have hq:quo w.2.1.1≥1:=by
   have:=(Ay.1 h.ring).2.1;unfold quo;omega
  unfold Pj at hk;dsimp only at hk
  cases hd:decide ((wrN (w.1,w.2.1,w.2.2.1,T,w.2.2.2.2) s (T,true,[]) rc).2.2≥quo w.2.1.1) with
  |false=>rw[hd]at hk;cases hk
  |true=>have:=of_decide_eq_true hd;omega
 unfold Ezb;rw[hok,hs,Vy,cond_true]
 have hr:gtR (Pj (w.1,w.2.1,w.2.2.1,T,w.2.2.2.2) s (T,true,[]) rc).2 s rc=run (F0a w.2.1.1 rc s (wrN (w.1,w.2.1,w.2.2.1,T,w.2.2.2.2) s (T,true,[]) rc).1 (Am w s)) (Am w s).length (0,0,false,Aua):=by
  unfold gtR;rw[hcon];rfl
 obtain⟨k1,k2,k3⟩:=l2 hge _ hr;have hfd:=Una _ s rc k2;obtain⟨n,hm,hl⟩:=hfd;have hnod:n∈(wrN (w.1,w.2.1,w.2.2.1,T,w.2.2.2.2) s (T,true,[]) rc).1:=hm;obtain⟨m,hm1,hm2⟩:=Zg.1 hnod
 have hold:oN (wrN (w.1,w.2.1,w.2.2.1,T,w.2.2.2.2) s (T,true,[]) rc).1 m s=some (gtR (Pj (w.1,w.2.1,w.2.2.1,T,w.2.2.2.2) s (T,true,[]) rc).2 s rc).2.2.2:=by
  obtain⟨b,hb1,hb2⟩:=Ox.1 hl;unfold oN;rw[Vc,Vk hm1,Ye,hm2];unfold old;rw[hb1];exact hb2
 generalize gtR (Pj (w.1,w.2.1,w.2.2.1,T,w.2.2.2.2) s (T,true,[]) rc).2 s rc=r at *
 have hdead:r.2.2.2.2.1=true:=by
  rcases l1 m (by rw[← l0];exact hm1) with c|c
  ·rw[hold]at c;obtain⟨x,hx,_,e⟩:=hwr hw m (by rw[← l0];exact hm1) _ s c.symm;have:=h.wge x hx;rw[e]at this;have k4:sle r.2.2.2.1 T=false:=k3;have:=Sq this k4;rw[this]at hlt;cases hlt
  ·rw[hold]at c;rw[Jgb c]
 unfold gtW;rw[beq_eq_false_iff_ne.2 (show r.2.1≠0 by omega),k2,hdead];rfl

def Ksa {w:Wld} (hok:Ewa w.2.2.2.2.1) (h:Qs w=true) {m:Nat} (hm:m<w.2.2.1.length) {o:Fil} {s:ByteArray} (ho:oN w.2.2.1 m s=some o):IsW w.2.2.2.2.1 s o:=by
 unfold Qs at h;rw[Yp]at h;have h1:=h m (Zv.2 hm);rw[Va,Yp]at h1;unfold oN old at ho
 cases hg:gt (w.2.2.1.getD m C9).2.1.1 s with
 |none=>rw[hg]at ho;cases ho
 |some b=>
  rw[hg]at ho;have hf:O3 b=some o:=ho;have:=h1.1 _ (Ow hg);unfold U6a at this;rw[hf]at this;exact(WI.wrote_iff hok (K1a hf).2.1).1 this
def Uua {ns:List Nod} {id:Int} (h:id∈ns.map (·.1)):1≤(atN ns id 0).length:=by
 obtain⟨n,hn,rfl⟩:=Yt.1 h;obtain⟨j,hj,e⟩:=Zg.1 hn;have:=(W8 n.1 ns 0 ((0+j:Nat):Int)).2 ⟨j,hj,by rw[Vc,Vk hj,Ye,e],rfl⟩;exact Gzb this
def Uva {ns:List Nod}:∀ {ids:List Int},(∀ i∈ids,i∈ns.map (·.1))→ids.length≤(whr ns ids).length
 |[],_=>Vt _
 |i::ids,h=>by
  rw[Sd,Vd,Vb];have:=Uua (h i Yu);have:=Uva (ids:=ids) (λ x hx=>h x (Vi _ hx));omega
def WO.prims {w:Wld} (h:WO w) (s:ByteArray):((P0 w s).length:Int)=w.2.1.1∧(Am w s).take (P0 w s).length=P0 w s∧(P0 w s).length≤(Am w s).length:=by
 have p:=Oz h.ring s;have h1:=Uqa h.nodup (Pi w.2.1 s);have h2:=Uva (ns:=w.2.2.1) (ids:=Pi w.2.1 s) (λ i hi=>by rw[h.ids];exact Ph.1 (p.2.2 i hi));have e:Am w s=P0 w s++whr w.2.2.1 (Lw w.2.1 w.1 s):=Esa _ _ _;refine⟨?_,by rw[e,Hzb  rfl],by rw[e,Vd];omega⟩;have:=p.2.1;unfold P0;omega
def WO.more {w:Wld} (h:WO w) (s:ByteArray) (hd:w.2.1.1<(w.1.length:Int)):w.2.1.1<((Am w s).length:Int):=by
 have p:=Oz h.ring s
 have hn:(w.1.map (·.1)).Nodup:=by rw[← h.ids];exact h.nodup
 have e:Am w s=P0 w s++whr w.2.2.1 (Lw w.2.1 w.1 s):=Esa _ _ _
 have hex:∃ i∈w.1.map (·.1),i∉Pi w.2.1 s:=by
  refine Hqb λ c=>?_;have:=Eja (w.1.map (·.1)) (Pi w.2.1 s) hn (λ x hx=>Hqb λ hx'=>c ⟨x,hx,hx'⟩);rw[Wd]at this;omega
 obtain⟨i,hi,hni⟩:=hex;obtain⟨d,hd1,rfl⟩:=Yt.1 hi
 have hp:Nn (Pi w.2.1 s) d.1=false:=by
  cases hh:Nn (Pi w.2.1 s) d.1 with
  |false=>rfl
  |true=>exact absurd (Of.1 hh) hni
 have hin:d.1∈Lw w.2.1 w.1 s:=by
  unfold Lw;rw[Vo]
  have one:∀ z,Nn (H4 (Pi w.2.1 s) w.1) d.2.1=z→d.1∈hoA (Pi w.2.1 s) (H4 (Pi w.2.1 s) w.1) z w.1:=λ z hz=>by
   unfold hoA;refine Yc (Hdb.2 ⟨hd1,?_⟩);rw[hp,hz,beq_self_eq_true];rfl
  cases hz:Nn (H4 (Pi w.2.1 s) w.1) d.2.1 with
  |false=>exact .inl (one _ hz)
  |true=>exact .inr (one _ hz)
 obtain⟨a,b,eab⟩:=List.append_of_mem hin
 have h3:1≤(whr w.2.2.1 (Lw w.2.1 w.1 s)).length:=by
  rw[eab,Esa,Sd,Vd,Vd];have:=Uua (ns:=w.2.2.1) (id:=d.1) (by rw[h.ids];exact hi);omega
 have:=(h.prims s).1;rw[e,Vd];omega

end Go.Proofs.YtcpligincipmhaaGreat.Vf
