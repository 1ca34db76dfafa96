import Derived.Test.YtmhhjceoinoekaaGreatMao
set_option linter.all false
namespace Go.Proofs.YtmhhjceoinoekaaGreat.Vf
open Go
open List (length getD)
open Int (toNat)
open Go.IntKind (wrap)
open BitVec (ofInt)
def Kib:=@List.getElem_map

def NI (ws:List Wri) (sp:List ByteArray) (n:Nod):Prop:=NG n∧DI ws sp n.2.1∧(∀ r∈n.2.2.1,Ol ws r=true)∧∀ r∈n.2.2.2,Ol ws r=true
def KN (ns:List Nod) (s:ByteArray) (st:Stp):Prop:=∃ i,i<ns.length∧HD (ns.getD i Ac).2.1 s st
def MS (sp:List ByteArray) (ns ns':List Nod):Prop:=∀ s,s∉sp→∀ st,KN ns s st→KN ns' s st
def V3 {ws:List Wri} {r:Row}:Ol ws r=true↔∃ x∈ws,Y1 x.1 x.2.1=r:=by
 unfold Ol
 rw[Ijb]
 exact⟨λ ⟨x,h1,h2⟩=>⟨x,h1,Ina.1 h2⟩,λ ⟨x,h1,h2⟩=>⟨x,h1,Ina.2 h2⟩⟩
def Dsa {ws ws':List Wri} (h:∀ x∈ws,x∈ws') {r:Row} (hr:Ol ws r=true):Ol ws' r=true:=by
 obtain⟨x,h1,h2⟩:=V3.1 hr
 exact V3.2 ⟨x,h x h1,h2⟩
def Zca {ws:List Wri} {s:ByteArray} {f:Fil} (h:IsW ws s f):Ol ws (Y1 s f)=true:=by
 obtain⟨x,h1,rfl,rfl⟩:=h
 exact V3.2 ⟨x,h1,rfl⟩
def NI.mono {ws ws':List Wri} {sp sp':List ByteArray} (h1:∀ x∈ws,x∈ws') (h2:∀ s∈sp,s∈sp') {n:Nod} (h:NI ws sp n):NI ws' sp' n:=
 ⟨h.1,h.2.1.mono h1 h2,λ r hr=>Dsa h1 (h.2.2.1 r hr),λ r hr=>Dsa h1 (h.2.2.2 r hr)⟩
def NR (ws:List Wri) (sp:List ByteArray) (ns ns':List Nod):Prop:=(∀ n∈ns',NI ws sp n)∧ns'.map (·.1)=ns.map (·.1)∧MS sp ns ns'
def NR.refl {ws:List Wri} {sp:List ByteArray} {ns:List Nod} (h:∀ n∈ns,NI ws sp n):NR ws sp ns ns:=⟨h,rfl,λ _ _ _ h=>h⟩
def NR.len {ws:List Wri} {sp:List ByteArray} {ns ns':List Nod} (h:NR ws sp ns ns'):ns'.length=ns.length:=by
 have:=congrArg length h.2.1
 rwa [Wd,Wd]at this
def Jx {α:Type} {l:List α} {i j:Nat} {x d:α} (hj:j<l.length):(l.set i x).getD j d=if i=j then x else l.getD j d:=by
 rw[Vc,List.getElem?_set]
 by_cases h:i=j
 ·subst h
  rw[if_pos rfl,if_pos rfl,if_pos hj]
  rfl
 ·rw[if_neg h,if_neg h,Vc]
def Lka {ns:List Nod} {i:Nat} {n:Nod} (hi:i<ns.length) (h:n.1=(ns.getD i Ac).1):(ns.set i n).map (·.1)=ns.map (·.1):=by
 refine L7b (by simp) (λ j h1 h2=>?_)
 rw[Wd,Wb]at h1
 rw[Kib,Kib,L8b]
 by_cases hij:i=j
 ·subst hij
  rw[if_pos rfl,h,Vc,Vj hi]
  rfl
 ·rw[if_neg hij]
def NR.set {ws:List Wri} {sp:List ByteArray} {ns ns':List Nod} (h:NR ws sp ns ns') {i:Nat} (hi:i<ns'.length) {n:Nod} (h1:NI ws sp n) (h2:n.1=(ns'.getD i Ac).1) (h3:MO sp (ns'.getD i Ac).2.1 n.2.1):NR ws sp ns (ns'.set i n):=by
 obtain⟨g1,g2,g3⟩:=h
 refine⟨λ m hm=>?_,by rw[Lka hi h2,g2],λ s hs st hk=>?_⟩
 ·rcases Yn hm with hm|rfl
  ·exact g1 m hm
  ·exact h1
 ·obtain⟨j,hj,hd⟩:=g3 s hs st hk
  refine⟨j,by rw[Wb];exact hj,?_⟩
  rw[Jx hj]
  by_cases hij:i=j
  ·subst hij;rw[if_pos rfl];exact h3 s hs st hd
  ·rw[if_neg hij];exact hd
section
variable {ws:List Wri} {sp:List ByteArray} {n:Nod} {s:ByteArray} {f:Fil}
def Dib (hw:Dra ws) (h:NI ws sp n) (hf:IsW ws s f) (sure:Bool):NI ws sp (Y2 n s f sure).1∧(Y2 n s f sure).1.1=n.1∧MO sp n.2.1 (Y2 n s f sure).1.2.1:=by
 obtain⟨g1,g2,g3⟩:=hf.good hw
 obtain⟨h1,h2,h3,h4⟩:=h
 have hg:=U9a (sure:=sure) h1 g1 g2
 obtain⟨k1,k2⟩:=Lja (sure:=sure) hw h1.g h2 hf
 unfold Y2 at hg ⊢
 cases hq:(n.2.2.2.length:Int)==60
 case true=>exact⟨⟨h1,h2,h3,h4⟩,rfl,MO.refl _ _⟩
 rw[hq]at hg
 refine⟨⟨hg,k1,h3,?_⟩,rfl,k2⟩
 show ∀ r∈bif (keep n.2.1 s f sure).2==0&&sure then n.2.2.2++[Y1 s f] else n.2.2.2,Ol ws r=true
 cases (keep n.2.1 s f sure).2==0&&sure
 ·exact h4
 intro r hr
 rcases Vo.1 hr with hr|hr
 ·exact h4 r hr
 ·rw[Vu.1 hr];exact Zca hf
def Djb (hw:Dra ws) (h:NI ws sp n) (hf:IsW ws s f) (hc:(Y2 n s f true).2=0∨(Y2 n s f true).2=1):HD (Y2 n s f true).1.2.1 s f.1:=by
 unfold Y2 at hc ⊢
 cases hq:((n.2.2.2.length:Int)==60) with
 |true=>rw[hq]at hc;rcases hc with hc|hc<;>cases hc
 |false=>rw[hq]at hc;exact Vga hw h.1.g hf hc
def G3b (h:NI ws sp n) {l:List Row} (hl:L5 l=true) (hr:∀ r∈l,Ol ws r=true):NI ws sp (tk n l).2∧(tk n l).2.1=n.1∧(tk n l).2.2.1=n.2.1:=by
 obtain⟨h1,h2,h3,h4⟩:=h
 have hg:=Hfb h1 hl
 unfold tk at hg ⊢
 cases hq:decide ((Ow n.2.2.1 l).length > 60)
 case true=>exact⟨⟨h1,h2,h3,h4⟩,rfl,rfl⟩
 rw[hq]at hg
 exact⟨⟨hg,h2,λ r hr'=>(Eya hr').elim (h3 r) (hr r),h4⟩,rfl,rfl⟩
end
def G4b {ws:List Wri} {sp:List ByteArray} {ns:List Nod} {R:Int} {rc:List Int} {s:ByteArray} {f:Fil} {cs:List Int} {a:List Nod×Int×Int} {j:Nat} (hw:Dra ws) (hf:IsW ws s f)
  (h:NR ws sp ns a.1∧(s∉sp→a.2.2≥1→KN a.1 s f.1)∧a.2.2≥0) (hc:(cs.getD j 0).toNat<ns.length):
  NR ws sp ns (wst R rc s f cs a j).1∧(s∉sp→(wst R rc s f cs a j).2.2≥1→KN (wst R rc s f cs a j).1 s f.1)∧(wst R rc s f cs a j).2.2≥0:=by
 obtain⟨h1,h2,h3⟩:=h
 unfold wst
 cases decide (a.2.1<R)
 ·exact⟨h1,h2,h3⟩
 cases rch rc j==0
 case true=>exact⟨h1,h2,h3⟩
 rw[cond_true,cond_false]
 have hi:(cs.getD j 0).toNat<a.1.length:=by rw[h1.len];exact hc
 generalize (cs.getD j 0).toNat=i at *
 have hn:=h1.1 _ (A3 (d:=Ac) hi)
 obtain⟨p1,p2,p3⟩:=Dib hw hn hf (rch rc j != 3)
 refine⟨h1.set hi p1 p2 p3,λ hs hg=>?_,?_⟩
 ·cases hr:rch rc j==1&&((Y2 (a.1.getD i Ac) s f (rch rc j != 3)).2==0||(Y2 (a.1.getD i Ac) s f (rch rc j != 3)).2==1) with
  |true=>
   rw[Va,Zy,beq_iff_eq,beq_iff_eq,beq_iff_eq]at hr
   have e:(rch rc j != 3)=true:=by rw[hr.1];rfl
   rw[e]at hr ⊢
   refine⟨i,by rw[Wb];exact hi,?_⟩
   rw[Jx hi,if_pos rfl]
   exact Djb hw hn hf hr.2
  |false=>
   rw[hr]at hg
   obtain⟨m,hm,hd⟩:=h2 hs hg
   refine⟨m,by rw[Wb];exact hm,?_⟩
   rw[Jx hm]
   by_cases hij:i=m
   ·subst hij;rw[if_pos rfl];exact p3 s hs _ hd
   ·rw[if_neg hij];exact hd
 ·dsimp only
  cases rch rc j==1&&((Y2 (a.1.getD i Ac) s f (rch rc j != 3)).2==0||(Y2 (a.1.getD i Ac) s f (rch rc j != 3)).2==1)
  ·exact h3
  ·rw[cond_true];omega
def G5b {ws:List Wri} {sp:List ByteArray} {w:Wld} {rc:List Int} {s:ByteArray} {f:Fil} (hw:Dra ws) (hf:IsW ws s f) (hn:∀ n∈w.2.2.1,NI ws sp n):
  NR ws sp w.2.2.1 (wrN w s f rc).1∧(s∉sp→(wrN w s f rc).2.2≥1→KN (wrN w s f rc).1 s f.1)∧(wrN w s f rc).2.2≥0:=
 M5 (λ _ (a:List Nod×Int×Int)=>NR ws sp w.2.2.1 a.1∧(s∉sp→a.2.2≥1→KN a.1 s f.1)∧a.2.2≥0) ⟨NR.refl hn,λ _ h=>absurd h (show ¬ (0:Int)≥1 by omega),Iob _⟩
  (λ j b hj hb=>G4b hw hf hb (by have:=Tu (A3 (d:=0) hj);omega))
def G6b {ws:List Wri} {sp:List ByteArray} {ns:List Nod} {rc:List Int} {s:ByteArray} {f:Fil} {ps:List Int} {a:List Nod×Bool×Bool} {src j:Nat} (hw:Dra ws) (hf:IsW ws s f) (hsrc:src<ns.length)
  (h:NR ws sp ns a.1∧(a.2.1=false→a.1.getD src Ac=ns.getD src Ac∧(a.2.2=true→0<j→∃ i,i≠src∧i<ns.length∧HD (a.1.getD i Ac).2.1 s f.1))) (hc:(ps.getD j 0).toNat<ns.length) (hc0:0≤ps.getD j 0):
  NR ws sp ns (pst (src:Int) s f rc ps a j).1∧((pst (src:Int) s f rc ps a j).2.1=false→(pst (src:Int) s f rc ps a j).1.getD src Ac=ns.getD src Ac∧((pst (src:Int) s f rc ps a j).2.2=true→0<j+1→∃ i,i≠src∧i<ns.length∧HD ((pst (src:Int) s f rc ps a j).1.getD i Ac).2.1 s f.1)):=by
 obtain⟨h1,h2⟩:=h
 unfold pst
 cases hz:ps.getD j 0==(src:Int)
 case true=>exact⟨h1,λ c=>by cases c⟩
 have hne:(ps.getD j 0).toNat≠src:=by
  have:=beq_eq_false_iff_ne.1 hz
  omega
 cases hr:rch rc j != 1
 case true=>exact⟨h1,λ c=>⟨(h2 c).1,λ c'=>by cases c'⟩⟩
 rw[cond_false,cond_false]
 have hi:(ps.getD j 0).toNat<a.1.length:=by rw[h1.len];exact hc
 generalize (ps.getD j 0).toNat=i at *
 have hn:=h1.1 _ (A3 (d:=Ac) hi)
 obtain⟨k1,k2⟩:=Lja (sure:=true) hw hn.1.g hn.2.1 hf
 refine⟨h1.set hi ⟨Fsa hn.1,k1,hn.2.2⟩ rfl k2,λ c=>⟨?_,λ c' _=>?_⟩⟩
 ·show (a.1.set i _).getD src Ac=_
  rw[Jx (by rw[h1.len];exact hsrc),if_neg hne]
  exact(h2 c).1
 ·refine⟨i,hne,hc,?_⟩
  show HD ((a.1.set i _).getD i Ac).2.1 s f.1
  rw[Jx hi,if_pos rfl]
  refine Vga hw hn.1.g hf ?_
  cases hk:(keep (a.1.getD i Ac).2.1 s f true).2 != 0&&(keep (a.1.getD i Ac).2.1 s f true).2 != 1 with
  |true=>
   have:(bif (keep (a.1.getD i Ac).2.1 s f true).2 != 0&&(keep (a.1.getD i Ac).2.1 s f true).2 != 1 then false else a.2.2)=true:=c'
   rw[hk]at this
   cases this
  |false=>
   rw[Ldb,bne,bne,Wm,Wm,beq_iff_eq,beq_iff_eq]at hk
   exact hk
def G7b {ws:List Wri} {sp:List ByteArray} {w:Wld} {rc:List Int} {s:ByteArray} {i:Nat} (hw:Dra ws) (hn:∀ n∈w.2.2.1,NI ws sp n) (hi:i<w.2.2.1.length) (hf:IsW ws s (lkD (w.2.2.1.getD i Ac).2.1 s).1):
  NR ws sp w.2.2.1 (puN w i s rc).1∧((puN w i s rc).2.1=false→(puN w i s rc).1.getD i Ac=w.2.2.1.getD i Ac∧((puN w i s rc).2.2=true→0<(N2 w s).length→∃ j,j≠i∧j<w.2.2.1.length∧HD ((puN w i s rc).1.getD j Ac).2.1 s (lkD (w.2.2.1.getD i Ac).2.1 s).1.1)):=
 M5 (λ n (a:List Nod×Bool×Bool)=>NR ws sp w.2.2.1 a.1∧(a.2.1=false→a.1.getD i Ac=w.2.2.1.getD i Ac∧(a.2.2=true→0<n→∃ j,j≠i∧j<w.2.2.1.length∧HD (a.1.getD j Ac).2.1 s (lkD (w.2.2.1.getD i Ac).2.1 s).1.1))) ⟨NR.refl hn,λ _=>⟨rfl,λ _ c=>absurd c (Nat.lt_irrefl _)⟩⟩
  (λ j b hj hb=>G6b hw hf hi hb (by have:=R4 (A3 (d:=0) hj);omega) (R4 (A3 (d:=0) hj)).1)
def Vha {w:Wld} {s:ByteArray} (hr:Jo w.2.1 w.1=true) (hid:w.2.2.1.map (·.1)=w.1.map (·.1)):0<(N2 w s).length:=by
 obtain⟨_,p2,p3⟩:=Bra hr s
 have h5:=(C4.1 hr).2.1
 obtain⟨id,hidm⟩:=Kfb (l:=R9 w.2.1 s) (by omega)
 have:=S5.1 (p3 id hidm)
 rw[← hid]at this
 obtain⟨n,hn,rfl⟩:=Zb.1 this
 obtain⟨j,hj,rfl⟩:=Zf.1 hn
 have hm:(j:Int)∈N2 w s:=Xa.2 ⟨j,hj,by rw[Vc,Vj hj];exact hidm,rfl⟩
 exact Ixb hm
def Fua {ws:List Wri} {sp:List ByteArray} {w:Wld} {rc:List Int} {s:ByteArray} {i:Nat} (hw:Dra ws) (hn:∀ n∈w.2.2.1,NI ws sp n) (hi:i<w.2.2.1.length) (hr:Jo w.2.1 w.1=true) (hid:w.2.2.1.map (·.1)=w.1.map (·.1)):
  ∃ ns,(R3 w i s rc).2=wN w ns∧NR ws sp w.2.2.1 ns:=by
 have hni:=hn _ (A3 (d:=Ac) hi)
 unfold R3
 cases hl:(lkD (w.2.2.1.getD i Ac).2.1 s).2 != 0
 case true=>exact⟨w.2.2.1,rfl,NR.refl hn⟩
 rw[bne,Wm,beq_iff_eq]at hl
 obtain⟨b,hb,hg⟩:=P0.1 (show lkD (w.2.2.1.getD i Ac).2.1 s=((lkD (w.2.2.1.getD i Ac).2.1 s).1,0) from by rw[← hl])
 have hf:IsW ws s (lkD (w.2.2.1.getD i Ac).2.1 s).1:=(((hni.2.1 s).1 b hb).get hw hg).1
 obtain⟨h1,h2⟩:=G7b (rc:=rc) hw hn hi hf
 refine⟨_,rfl,?_⟩
 cases hc:(puN w i s rc).2.2&&!(puN w i s rc).2.1
 ·exact h1
 rw[Va,Vw]at hc
 obtain⟨h3,h4⟩:=h2 hc.2
 obtain⟨j,hj,hjl,hd⟩:=h4 hc.1 (Vha hr hid)
 rw[cond_true,h3]
 obtain⟨g1,_,_⟩:=hf.good hw
 have hi':i<(puN w i s rc).1.length:=by rw[h1.len];exact hi
 obtain⟨o1,o2⟩:=G1b (s:=s) hni.1.g hni.2.1 g1
 refine⟨λ m hm=>?_,by rw[Lka hi' (by rw[h3];rfl),h1.2.1],λ t ht st hk=>?_⟩
 ·rcases Yn hm with hm|rfl
  ·exact h1.1 m hm
  ·exact⟨Aub hni.1 g1,o1,hni.2.2⟩
 ·obtain⟨m,hm,hh⟩:=h1.2.2 t ht st hk
  by_cases hmi:m=i
  ·subst hmi
   rw[h3]at hh
   by_cases hts:t=s
   ·subst hts
    obtain⟨b',f',e1,e2,e3⟩:=(hni.2.1 t).ge ht hh
    rw[hb]at e1
    cases e1
    rw[hg]at e2
    cases e2
    obtain⟨c,g,k1,k2,k3⟩:=hd
    refine⟨j,by rw[Wb,h1.len];exact hjl,?_⟩
    rw[Jx (by rw[h1.len];exact hjl),if_neg (Jpb hj)]
    exact⟨c,g,k1,k2,C0a k3 e3⟩
   ·refine⟨m,by rw[Wb];exact hm,?_⟩
    rw[Jx hm,if_pos rfl]
    exact o2 t hts st hh
  ·refine⟨m,by rw[Wb];exact hm,?_⟩
   rw[Jx hm,if_neg (Jpb hmi)]
   exact hh
def Fva {ws:List Wri} {sp:List ByteArray} {w:Wld} {src:Int} {l:List Row} {self:Bool} {rc:List Int} (hn:∀ n∈w.2.2.1,NI ws sp n) (hl:L5 l=true) (hr:∀ r∈l,Ol ws r=true):NR ws sp w.2.2.1 (Lo w src l self rc).1:=by
 refine M5 (λ _ (a:List Nod×Bool)=>NR ws sp w.2.2.1 a.1) (NR.refl hn) (λ j b hj hb=>?_)
 have hc:=Nw (A3 (d:=0) hj)
 unfold gst
 cases (Bs w).getD j 0==src&&!self
 case true=>exact hb
 cases rch rc j != 1
 case true=>exact hb
 have hi:((Bs w).getD j 0).toNat<b.1.length:=by rw[hb.len];omega
 obtain⟨t1,t2,t3⟩:=G3b (hb.1 _ (A3 (d:=Ac) hi)) hl hr
 exact hb.set hi t1 t2 (by rw[t3];exact MO.refl _ _)
def O8a {ws:List Wri} {sp:List ByteArray} {w:Wld} {rc:List Int} {i:Nat} (hn:∀ n∈w.2.2.1,NI ws sp n) (hi:i<w.2.2.1.length):∃ ns,(R6 w i rc).2=wN w ns∧NR ws sp w.2.2.1 ns:=by
 have hni:=hn _ (A3 (d:=Ac) hi)
 have hl:=(C3.1 hni.1.1).2.2.2.1
 unfold R6
 cases ((w.2.2.1.getD i Ac).2.2.1.length:Int)==0
 case true=>exact⟨w.2.2.1,rfl,NR.refl hn⟩
 refine⟨_,rfl,?_⟩
 have hg:NR ws sp w.2.2.1 (Nx w i rc).1:=Fva hn hl hni.2.2.1
 cases (Nx w i rc).2&&!(Mb (Bs (wN w (Nx w i rc).1)) (i:Int))
 ·exact hg
 have hi':i<(Nx w i rc).1.length:=by rw[hg.len];exact hi
 have hm:=hg.1 _ (A3 (d:=Ac) hi')
 exact hg.set hi' ⟨O6a hm.1,hm.2.1,(λ _ h=>nomatch h),hm.2.2.2⟩ rfl (MO.refl _ _)
def O9a {ws:List Wri} {sp:List ByteArray} {w:Wld} {rc:List Int} {i:Nat} (hn:∀ n∈w.2.2.1,NI ws sp n) (hi:i<w.2.2.1.length):∃ ns,(Sx w i rc).2=wN w ns∧NR ws sp w.2.2.1 ns:=by
 have hni:=hn _ (A3 (d:=Ac) hi)
 obtain⟨hq,_,_,_,hq60⟩:=C3.1 hni.1.1
 unfold Sx
 cases ((w.2.2.1.getD i Ac).2.2.2.length:Int)==0
 case true=>exact⟨w.2.2.1,rfl,NR.refl hn⟩
 refine⟨_,rfl,?_⟩
 have hg:NR ws sp w.2.2.1 (P4 w i rc).1:=Fva hn (Ny hq) (λ r hr=>hni.2.2.2 r (Iqb hr))
 cases (P4 w i rc).2
 ·exact hg
 have hi':i<(P4 w i rc).1.length:=by rw[hg.len];exact hi
 have hm:=hg.1 _ (A3 (d:=Ac) hi')
 exact hg.set hi' ⟨Awb hm.1 (λ r hr=>hq r (Zr hr)) (by rw[Wc];omega),hm.2.1,hm.2.2.1,λ r hr=>hni.2.2.2 r (Zr hr)⟩ rfl (MO.refl _ _)

structure WI (w:Wld):Prop where
 ring:Jo w.2.1 w.1=true
 ids:w.2.2.1.map (·.1)=w.1.map (·.1)
 nodes:∀ n∈w.2.2.1,NI w.2.2.2.2.1 w.2.2.2.2.2 n
 clk:Hz w.2.2.2.1=true
 wlen:w.2.2.2.2.1.length≤200
 wok:Dra w.2.2.2.2.1
 wge:∀ x∈w.2.2.2.2.1,sle w.2.2.2.1 x.2.1.1=false
 asc:w.2.2.2.2.1.Pairwise (λ a b=>sle a.2.1.1 b.2.1.1=true)
 kept:∀ x∈w.2.2.2.2.1,x.2.2=true→x.1∉w.2.2.2.2.2→KN w.2.2.1 x.1 x.2.1.1
 sps:TS w.2.2.2.2.2
 spw:∀ s∈w.2.2.2.2.2,∃ x∈w.2.2.2.2.1,x.1=s
theorem Hhb:LawfulBEq ByteArray := { eq_of_beq:=λ {a b} h=>Cr.1 (by rw[← Z5];exact h),rfl:=λ {a}=>by rw[Z5];exact Cr.2 rfl }
def V4:∀ (p q:List ByteArray),p.Nodup→(∀ x∈p,x∈q)→p.length≤q.length
 |[],_,_,_=>Vs _
 |x::p,q,h,hs=>by
  haveI:=Hhb
  obtain⟨h1,h2⟩:=Yt.1 h
  have hx:=hs x Yc
  have hlen:(q.erase x).length=q.length-1:=Jxb hx
  have hpos:=Ixb hx
  have:=V4 p (q.erase x) h2 (λ y hy=>(Kkb (λ c=>by subst c;exact h1 hy)).2 (hs y (Vh _ hy)))
  rw[Vd]
  omega
namespace WI
variable {w:Wld}
def splen (h:WI w):w.2.2.2.2.2.length≤200:=by
 have hn:w.2.2.2.2.2.Nodup:=h.sps.imp (λ {a b} hab e=>by subst e;rw[I9]at hab;cases hab)
 have:=V4 _ (w.2.2.2.2.1.map (·.1)) hn (λ s hs=>by
  obtain⟨x,hx,e⟩:=h.spw s hs
  exact Zb.2 ⟨x,hx,e⟩)
 rw[Wd]at this
 have:=h.wlen
 omega
def nlen (h:WI w):w.2.2.1.length=w.1.length:=by
 have:=congrArg length h.ids
 rwa [Wd,Wd]at this
def dlen (h:WI w):1≤w.1.length∧w.1.length≤12:=(Fl.1 (C4.1 h.ring).1).2.2
def ns (h:WI w):NS w.2.2.1:=⟨by have:=h.nlen;have:=h.dlen;omega,λ n hn=>(h.nodes n hn).1⟩
def win (h:WI w):WIn w:=by
 have h1:=h.nlen
 have h2:=h.dlen
 have h3:=h.wlen
 have h4:=h.splen
 refine⟨Mv h.ring,by omega,⟨by omega,λ n hn=>Y0 (h.nodes n hn).1⟩,⟨by omega,λ x hx=>Iy (h.wok x hx).1⟩,by omega,λ s hs=>?_⟩
 obtain⟨x,hx,e⟩:=h.spw s hs
 rw[← e]
 exact Iy (h.wok x hx).1
def other (h:WI w) {ns:List Nod} (hn:NR w.2.2.2.2.1 w.2.2.2.2.2 w.2.2.1 ns):WI (wN w ns):=
 ⟨h.ring,hn.2.1.trans h.ids,hn.1,h.clk,h.wlen,h.wok,h.wge,h.asc,λ x hx hk hs=>hn.2.2 _ hs _ (h.kept x hx hk hs),h.sps,h.spw⟩
def other' (h:WI w) {r:Bool×Wld} (hr:∃ ns,r.2=wN w ns∧NR w.2.2.2.2.1 w.2.2.2.2.2 w.2.2.1 ns):WI r.2:=by
 obtain⟨ns,e,hn⟩:=hr
 rw[e]
 exact h.other hn
def write (h:WI w) {s:ByteArray} {f:Fil} {rc:List Int} (hs:B5 s=true) (hf:Gc f=true) (hb:Ap f.2.2) (hc:sle w.2.2.2.1 f.1=true) (hl:w.2.2.2.2.1.length<200):WI (Bza (w.1,w.2.1,w.2.2.1,f.1,w.2.2.2.2) s f rc).2:=by
 obtain⟨g1,g2,g3⟩:=G5b (ws:=w.2.2.2.2.1++[(s,f,decide ((wrN (w.1,w.2.1,w.2.2.1,f.1,w.2.2.2.2) s f rc).2.2≥quo w.2.1.1))]) (sp:=w.2.2.2.2.2) (w:=(w.1,w.2.1,w.2.2.1,f.1,w.2.2.2.2)) (rc:=rc) (s:=s) (f:=f)
  (λ x hx=>by
   rcases Vo.1 hx with hx|hx
   ·exact h.wok x hx
   ·rw[Vu.1 hx];exact⟨hs,hf,hb⟩)
  ⟨_,Vo.2 (.inr (Vu.2 rfl)),rfl,rfl⟩
  (λ n hn=>(h.nodes n hn).mono (λ x hx=>Vo.2 (.inl hx)) (λ _ h=>h))
 unfold Bza
 generalize wrN (w.1,w.2.1,w.2.2.1,f.1,w.2.2.2.2) s f rc=a at *
 have hq:quo w.2.1.1≥1:=by
  have:=(C4.1 h.ring).2.1
  unfold quo
  omega
 exact {
  ring:=h.ring
  ids:=g1.2.1.trans h.ids
  nodes:=g1.1
  clk:=(K7.1 hf).1
  wlen:=by show (w.2.2.2.2.1++[_]).length≤200;rw[Ve];simp only[Vd,Vk];omega
  wok:=λ x hx=>by
   rcases Vo.1 hx with hx|hx
   ·exact h.wok x hx
   ·rw[Vu.1 hx];exact⟨hs,hf,hb⟩
  wge:=λ x hx=>by
   rcases Vo.1 hx with hx|hx
   ·exact C0a (V2 hc) (h.wge x hx)
   ·rw[Vu.1 hx];exact Kx _
  asc:=Zi.2 ⟨h.asc,K3b _ _,λ x hx y hy=>by
   rw[Vu.1 hy]
   have:=h.wge x hx
   cases hxy:sle x.2.1.1 f.1
   case true=>rfl
   have:=C0a this hxy
   rw[this]at hc
   cases hc⟩
  kept:=λ x hx hk hsp=>by
   rcases Vo.1 hx with hx|hx
   ·exact g1.2.2 _ hsp _ (h.kept x hx hk hsp)
   ·rw[Vu.1 hx]at hk hsp ⊢
    have hk':a.2.2≥quo w.2.1.1:=of_decide_eq_true hk
    exact g2 hsp (by omega)
  sps:=h.sps
  spw:=λ s hs=>by
   obtain⟨x,hx,e⟩:=h.spw s hs
   exact⟨x,Vo.2 (.inl hx),e⟩ }
def ask (h:WI w) {s:ByteArray} {f:Fil} {t:Int} {rc:List Int} (hb:Ap f.2.2) (hd:f.2.1=true→f.2.2=[]):WI (ask w s f t rc).2:=by
 unfold Vf.ask
 cases hs:B5 s
 ·exact h
 rw[Yx,cond_false]
 by_cases hl:(f.2.2.length:Int) > 200
 ·rw[decide_eq_true hl];exact h
 ·rw[decide_eq_false hl,cond_false]
  cases inR t 0 1000000000
  ·exact h
  rw[Yx,cond_false]
  cases hw:(w.2.2.2.2.1.length:Int)==200
  case true=>exact h
  rw[cond_false]
  have hw':=beq_eq_false_iff_ne.1 hw
  have hwl:=h.wlen
  obtain⟨n1,n2⟩:=Fra h.clk t 0
  cases he:(Nk w.2.2.2.1 t 0).1==w.2.2.2.1.1&&((Nk w.2.2.2.1 t 0).2.1==w.2.2.2.1.2.1&&(Nk w.2.2.2.1 t 0).2.2==w.2.2.2.1.2.2)
  case true=>exact h
  rw[cond_false]
  have hlt:sle w.2.2.2.1 (Nk w.2.2.2.1 t 0)=true:=by
   rcases n2 with n2|n2
   ·rw[n2,beq_self_eq_true,beq_self_eq_true,beq_self_eq_true]at he;cases he
   ·exact n2
  exact h.write (f:=(Nk w.2.2.2.1 t 0,f.2)) hs (K7.2 ⟨n1,by show f.2.2.length≤200;omega,hd⟩) hb hlt (by omega)
def rot (h:WI w) {i:Nat} (hi:i<w.2.2.1.length) {s:ByteArray} {b:Int}:WI (Deb w i s b).2:=by
 have hni:=h.nodes _ (A3 (d:=Ac) hi)
 unfold Deb
 cases hr:(L4a (w.2.2.1.getD i Ac) s b).2
 ·exact h
 have hg:=Anb (s:=s) (b:=b) hni.1
 unfold L4a at hr hg ⊢
 cases hc:O9 (w.2.2.1.getD i Ac)&&((lkD (w.2.2.1.getD i Ac).2.1 s).2==0&&(J8a (w.2.2.1.getD i Ac).2.1 s b).2)
 ·rw[hc]at hr;cases hr
 rw[hc]at hg
 rw[Va,Va,beq_iff_eq]at hc
 obtain⟨d1,d2,f,hf⟩:=G2b h.wok hni.1.g hni.2.1 hc.2.1 hc.2.2 (spl w.2.2.2.2.2 s) (λ t=>Fta)
 have hsub:∀ t∈w.2.2.2.2.2,t∈spl w.2.2.2.2.2 s:=λ t ht=>Fta.2 (.inr ht)
 have hN:NR w.2.2.2.2.1 (spl w.2.2.2.2.2 s) w.2.2.1 (w.2.2.1.set i ((w.2.2.1.getD i Ac).1,(J8a (w.2.2.1.getD i Ac).2.1 s b).1,(w.2.2.1.getD i Ac).2.2)):=
  (NR.refl (λ n hn=>(h.nodes n hn).mono (λ _ h=>h) hsub)).set hi ⟨hg,d1,hni.2.2⟩ rfl d2
 exact {
  ring:=h.ring
  ids:=hN.2.1.trans h.ids
  nodes:=hN.1
  clk:=h.clk
  wlen:=h.wlen
  wok:=h.wok
  wge:=h.wge
  asc:=h.asc
  kept:=λ x hx hk hs=>hN.2.2 _ hs _ (h.kept x hx hk (λ c=>hs (hsub _ c)))
  sps:=Dqa h.sps
  spw:=λ t ht=>by
   rcases Fta.1 ht with rfl|ht
   ·obtain⟨x,hx,e,_⟩:=hf
    exact⟨x,hx,e⟩
   ·exact h.spw t ht }
def node (h:WI w) {i:Nat} (hi:i<w.2.2.1.length) {e:Evt}:WI (Coa w e i).2:=by
 have hni:=h.nodes _ (A3 (d:=Ac) hi)
 unfold Coa
 cases e.1==3
 case true=>exact h.other' (Fua h.wok h.nodes hi h.ring h.ids)
 cases e.1==4
 case true=>exact h.other' (O8a h.nodes hi)
 cases e.1==5
 case true=>exact h.other' (O9a h.nodes hi)
 cases e.1==6 with
 |true=>
  obtain⟨c1,c2⟩:=O7a h.wok hni.1.g hni.2.1
  exact h.other ((NR.refl h.nodes).set hi ⟨O3a hni.1,c1,hni.2.2⟩ rfl c2)
 |false=>
  cases e.1==7 with
  |true=>exact h.other ((NR.refl h.nodes).set hi ⟨Fyb hni.1,Dgb hni.1.g hni.2.1 _,hni.2.2⟩ rfl (Dhb hni.1.g hni.2.1 _))
  |false=>exact h.rot hi
def weigh (h:WI w) {i t:Int}:WI (Iqa w i t).2:=by
 unfold Iqa
 cases h1:inR i 0 ((w.1.length:Int)-1)
 ·exact h
 cases h2:inR t 1 1000
 ·exact h
 obtain⟨i0,i1⟩:=Fi.1 h1
 obtain⟨w0,w1⟩:=Fi.1 h2
 exact⟨(Nxa (Fda h.ring (by omega) w0 w1)).1,h.ids.trans (Fca _ _ _).symm,h.nodes,h.clk,h.wlen,h.wok,h.wge,h.asc,h.kept,h.sps,h.spw⟩
def ev (h:WI w) {e:Evt} (hb:Ap e.2.2.2.1):WI (doW w e).2:=by
 have ae:∀ {q:Int×Wld},WI q.2→WI (W8a q).2:=λ {q} hq=>by
  unfold W8a
  cases q.1 != 2<;>exact hq
 unfold doW
 cases e.1==1
 case true=>exact ae (h.ask hb (λ c=>by cases c))
 cases e.1==2
 case true=>exact ae (h.ask O8 (λ _=>rfl))
 cases e.1==3||(e.1==4||(e.1==5||(e.1==6||(e.1==7||e.1==8)))) with
 |true=>
  cases hi:inR e.2.1 0 ((w.2.2.1.length:Int)-1)
  ·exact h
  have:=Fi.1 hi
  exact h.node (by omega)
 |false=>
  cases e.1==9 with
  |true=>exact h.weigh
  |false=>exact h
def Via {ws:List Wri} (hw:Dra ws) {s:ByteArray} {f:Fil} (hf:Ap f.2.2):V0a ws s f=true↔IsW ws s f:=by
 unfold V0a IsW
 rw[Ijb]
 constructor
 ·rintro⟨x,hx,h⟩
  rw[Va]at h
  exact⟨x,hx,Cr.1 h.1,(Bya (hw x hx).2.2 hf).1 h.2⟩
 ·rintro⟨x,hx,h1,h2⟩
  exact⟨x,hx,by rw[Va];exact⟨Cr.2 h1,(Bya (hw x hx).2.2 hf).2 h2⟩⟩
def rightB (h:WI w):Tr w=true:=by
 have h2:=h.dlen
 have hl:=h.nlen
 unfold Tr
 have a1:T7 w.1 w.2.2.1=true:=by
  unfold T7
  rw[show ((w.2.2.1.length:Int)==(w.1.length:Int))=true by rw[beq_iff_eq];omega,Vx,Wi]
  intro j hj
  have hj':=Zc.1 hj
  rw[Va,beq_iff_eq]
  refine⟨?_,(h.nodes _ (A3 (d:=Ac) hj')).1.1⟩
  have e1:(w.2.2.1.getD j Ac).1=(w.2.2.1.map (·.1)).getD j 0:=by
   rw[Vc,Vc,Igb,Vj hj'];rfl
  have e2:(w.1.getD j Nv).1=(w.1.map (·.1)).getD j 0:=by
   rw[Vc,Vc,Igb,Vj (by omega)];rfl
  rw[e1,e2,h.ids]
 have a2:Z3a w.2.2.2.1 w.2.2.2.2.1=true:=by
  unfold Z3a
  rw[Va,Wi]
  refine⟨λ x hx=>?_,decide_eq_true (by have:=h.wlen;omega)⟩
  unfold Lda
  rw[(h.wok x hx).1,(h.wok x hx).2.1,h.wge x hx]
  rfl
 have a3:V0 w.2.2.2.2.2=true:=by
  unfold V0
  rw[Wi]
  intro j hj
  have hj':=Zc.1 hj
  rw[Va,Zy]
  refine⟨?_,?_⟩
  ·obtain⟨x,hx,e⟩:=h.spw _ (A3 (d:=Ni) hj')
   rw[← e]
   exact(h.wok x hx).1
  ·by_cases h0:j=0
   ·exact .inl (decide_eq_true h0)
   ·right
    have:=Zk.1 h.sps (j-1) j (by omega) hj' (by omega)
    rwa [Vc,Vc,Vj hj',Vj (by omega)]
 rw[h.ring,a1,h.clk,a2,a3]
 rfl
def writtenT (h:WI w):St w=true:=by
 unfold St
 rw[Wi]
 intro j hj
 obtain⟨hg,hd,_⟩:=h.nodes _ (A3 (d:=Ac) (Zc.1 hj))
 rw[Va,Wi,Wi]
 have one:∀ e:Nmd,EO w.2.2.2.2.1 w.2.2.2.2.2 e.1 e.2→V2a w.2.2.2.2.1 e=true:=by
  intro e he
  unfold V2a
  cases hf:Mq e.2 with
  |none=>rfl
  |some f=>exact(Via h.wok (Kya hf).2.1).2 (he.get h.wok hf).1
 exact⟨λ e he=>one e ((hd e.1).1 e.2 (Bha (Kr hg.g.1) he)),λ e he=>one e ((hd e.1).2.1 e.2 (Bha (Od hg.g.1) he))⟩
def listedT (h:WI w):Xb w=true:=by
 unfold Xb
 rw[Wi]
 intro j hj
 obtain⟨_,_,h1,h2⟩:=h.nodes _ (A3 (d:=Ac) (Zc.1 hj))
 rw[Va,Wi,Wi]
 exact⟨h1,h2⟩
def keptT (h:WI w):Q4a w=true:=by
 unfold Q4a
 rw[Wi]
 intro x hx
 unfold V3a
 cases hk:x.2.2
 ·rfl
 cases hs:Y4 w.2.2.2.2.2 x.1
 case true=>rfl
 obtain⟨i,hi,hh⟩:=h.kept x hx hk (λ c=>by rw[Pi.2 c]at hs;cases hs)
 rw[Ijb.2 ⟨_,A3 hi,Vfa.2 hh⟩]
 rfl
def stampedT (h:WI w):Su w=true:=by
 unfold Su
 rw[Wi]
 intro j hj
 have hj':=Zc.1 hj
 rw[Va,Zy,Vw]
 refine⟨h.wge _ (A3 hj'),?_⟩
 by_cases h0:j=0
 ·exact .inl (decide_eq_true h0)
 ·right
  have:=Zk.1 h.asc (j-1) j (by omega) hj' (by omega)
  rwa [Vc,Vc,Vj hj',Vj (by omega)]
def safe (h:WI w):Z8a w=0:=by
 unfold Z8a
 rw[h.rightB,h.writtenT,h.listedT,h.keptT,h.stampedT]
 rfl
end WI

def Hrb (l:List Dev) (last:Int):Prop:=l.Pairwise (λ a b=>a.1<b.1)∧∀ d∈l,(0≤d.1∧d.1≤last)∧(0≤d.2.1∧d.2.1≤20)∧1≤d.2.2∧d.2.2≤1000
def Vja (z:Int) (hz:1≤z∧z≤20):∀ (n:Nat) (i:Int) (l:List Dev) (last:Int) (c:Cur),i=n→n≤6→M4 c→Hrb l last→0≤last→last+2*n≤12→l.length+n≤6→
  Tot (λ k=>Hh k l z last i c) (λ r=>(∃ last,Hrb r.1 last∧last≤20)∧r.1.length=l.length+n∧M4 r.2):=by
 intro n
 induction n with
 |zero=>
  rintro i l last c rfl _ hc h h0 h1 _
  refine Tot.succ ?_
  simp (disch:=omega) only [Hh,dF]
  exact I0b ⟨⟨last,h,by omega⟩,rfl,hc⟩
 |succ n ih=>
  rintro i l last c rfl hn hc h h0 h1 hl
  refine Tot.succ ?_
  simp (disch:=omega) only [Hh,dT]
  obtain⟨x,c1,e1,hx,k1⟩:=Qq c hc [1,1,2] (by decide) (by decide)
  obtain⟨y,c2,e2,y0,y1,_,k2⟩:=Ku c1 k1 z (by omega)
  obtain⟨v,c3,e3,hv,k3⟩:=Qq c2 k2 [1,1,1,2,10,100] (by decide) (by decide)
  have y1:=y1 (by omega)
  have hx':1≤x∧x≤2:=by
   simp only[Vl,Ikb,or_false]at hx
   omega
  have hv':1≤v∧v≤1000:=by
   simp only[Vl,Ikb,or_false]at hv
   omega
  refine Icb (Ieb (Q:=λ r=>r=(x,c1)) e1 rfl) ?_
  refine Icb (Ieb (Q:=λ r=>r=(y,c2)) e2 rfl) ?_
  refine Icb (Ieb (Q:=λ r=>r=(v,c3)) e3 rfl) ?_
  simp (disch:=omega) only [w64]
  refine I8b (by simp only[Vd,Vk];omega) ?_
  refine(ih _ (l++[(last+x,y,v)]) (last+x) c3 (by omega) (by omega) k3 ⟨?_,?_⟩ (by omega) (by omega) (by rw[Ve];simp only[Vd,Vk];omega)).mono ?_
  ·refine Zi.2 ⟨h.1,K3b _ _,λ a ha b hb=>?_⟩
   rw[Vu.1 hb]
   have:=(h.2 a ha).1.2
   show a.1<last+x
   omega
  ·intro d hd
   rcases Vo.1 hd with hd|hd
   ·obtain⟨⟨a1,a2⟩,a3⟩:=h.2 d hd
    exact⟨⟨a1,by omega⟩,a3⟩
   ·rw[Vu.1 hd]
    exact⟨⟨by show 0≤last+x;omega,Iob _⟩,⟨y0,by show y≤20;omega⟩,hv'⟩
  ·rintro r ⟨g1,g2,g3⟩
   refine⟨g1,?_,g3⟩
   rw[g2,Ve]
   simp only[Vd,Vk]
   omega
def Q7a (c:Cur) (hc:M4 c):Tot (λ k=>Gq k c) (λ r=>M8 r.1=true∧(2≤r.1.length∧r.1.length≤6)∧M4 r.2):=by
 unfold Gq
 obtain⟨x,c1,e1,x0,x1,_,k1⟩:=Ku c hc 4 (by decide)
 obtain⟨y,c2,e2,y0,y1,_,k2⟩:=Ku c1 k1 5 (by decide)
 have x1:=x1 (by decide)
 have y1:=y1 (by decide)
 refine Icb (Ieb (Q:=λ r=>r=(x,c1)) e1 rfl) ?_
 refine Icb (Ieb (Q:=λ r=>r=(y,c2)) e2 rfl) ?_
 simp (disch:=omega) only [w64]
 refine I1b (Vja (1+x) (by omega) (2+y).toNat (2+y) [] 0 c2 (by omega) (by omega) k2 ⟨List.Pairwise.nil,λ d hd=>(nomatch hd)⟩ (Iob _) (by omega) (by simp only[Vk];omega)) ?_
 rintro r ⟨⟨last,g1,g2⟩,g3,g4⟩
 rw[Vk]at g3
 exact I0b ⟨Fl.2 ⟨g1.1,λ d hd=>Oa.2 ⟨⟨(g1.2 d hd).1.1,by have:=(g1.2 d hd).1.2;omega⟩,(g1.2 d hd).2⟩,by dsimp only;omega,by dsimp only;omega⟩,⟨by dsimp only;omega,by dsimp only;omega⟩,g4⟩
abbrev Q8a:Wld:=(([]:List Dev),((0:Int),([]:List (List Int))),([]:List Nod),((0:Int),((0:Int),(0:Int))),([]:List Wri),([]:List ByteArray))
def Axb (d:Dev):Nod:=(d.1,([],[]),[],[])
def Gsb (l:List Dev) (parts reps:Int):Wld:=(l,(build l parts reps).1,l.map Axb,(0,0,0),[],[])
def Dkb {ws:List Wri} {sp:List ByteArray} {l:List Dev} (h:M8 l=true) {d:Dev} (hd:d∈l):NI ws sp (Axb d):=by
 obtain⟨⟨i0,i1⟩,_⟩:=Oa.1 ((Fl.1 h).2.1 d hd)
 refine⟨⟨C3.2 ⟨(λ r hr=>nomatch hr),⟨i0,i1⟩,dg0.1,Xc,Vs _⟩,dg0.2⟩,λ s=>⟨λ b hb=>?_,λ b hb=>?_,λ _ b f hb=>?_⟩,(λ r hr=>nomatch hr),(λ r hr=>nomatch hr)⟩
 ·rw[show gt (Axb d).2.1.1 s=none from rfl]at hb;cases hb
 ·rw[show gt (Axb d).2.1.2 s=none from rfl]at hb;cases hb
 ·rw[show gt (Axb d).2.1.2 s=none from rfl]at hb;cases hb
def Dlb {l:List Dev} {parts reps:Int} (hb:(build l parts reps).2=true):WI (Gsb l parts reps):=by
 obtain⟨h1,h2,_,_⟩:=Nta hb
 exact {
  ring:=h2
  ids:=by show (l.map Axb).map (·.1)=_;rw[Jhb];rfl
  nodes:=λ n hn=>by
   obtain⟨d,hd,rfl⟩:=Zb.1 hn
   exact Dkb h1 hd
  clk:=rfl
  wlen:=Vs _
  wok:=λ x hx=>nomatch hx
  wge:=λ x hx=>nomatch hx
  asc:=List.Pairwise.nil
  kept:=λ x hx=>nomatch hx
  sps:=List.Pairwise.nil
  spw:=λ s hs=>nomatch hs }
def Ira (l:List Dev) (parts reps:Int) (hb:(build l parts reps).2=true):Tot (λ k=>Cd k l parts reps) (λ r=>r=Gsb l parts reps):=by
 obtain⟨h1,_,_,_⟩:=Nta hb
 have h12:=(Fl.1 h1).2.2.2
 unfold Cd
 refine Icb (Uia l parts reps (by omega)) ?_
 refine I8b (by rw[Vk];omega) (I2b (by rw[hb];rfl) ?_)
 rw[Vy]
 refine I1b (Q:=λ r=>r=(Q8a,Gsb l parts reps)) ?_ (by rintro r rfl;exact I0b rfl)
 refine I9b (L:=λ k i (s:List Nod)=>Er k l i Q8a (l,(build l parts reps).1,s,(0,0,0),[],[])) (Q:=λ r=>r=(Q8a,Gsb l parts reps)) l.length (λ j s=>s=(l.take j).map Axb) ?_ ?_ 0 [] (Vs _) rfl
 ·rintro s rfl
  simp (disch:=omega) only [Er,dF]
  exact I0b (by rw[Yr];rfl)
 ·rintro j s hj rfl next
  have hd:=A3 (d:=Nv) hj
  obtain⟨d,ed⟩:∃ d:Dev,l.getD j Nv=d:=⟨_,rfl⟩
  rw[ed]at hd
  have e0:l.getD j ((0:Int),((0:Int),(0:Int)))=d:=ed
  have e1:l[j]=d:=by rw[← ed,Vc,Vj hj];rfl
  have hid:=(Oa.1 ((Fl.1 h1).2.1 d hd)).1
  simp (disch:=omega) only [Er,dT,Vb,w64,e0,L6a,Vp]
  have hl:((l.take j).map Axb).length=j:=by rw[Wd,Vq];omega
  rw[Fi.2 hid,cond_true]
  refine I8b (by rw[hl];simp only[Vd,Vk];omega) (next _ ?_)
  rw[Wl hj,Ivb,e1]
  rfl
def WD (w:Wld):Prop:=WI w∧∀ x∈w.2.2.2.2.1,x.1∈Kw
def Lla (c:Cur) (hc:M4 c):Tot (λ k=>Kj k c) (λ r=>WD r.1∧M4 r.2):=by
 unfold Kj
 refine I1b (Q7a c hc) ?_
 rintro⟨l,c1⟩ ⟨hl,hn,k1⟩
 dsimp only at hl hn k1 ⊢
 obtain⟨x,c2,e2,hx,k2⟩:=Qq c1 k1 [3,2,3,1] (by decide) (by decide)
 obtain⟨y,c3,e3,hy,k3⟩:=Qq c2 k2 [4,2,8] (by decide) (by decide)
 have hx':1≤x∧x≤3:=by
  simp only[Vl,Ikb,or_false]at hx
  omega
 have hy':1≤y∧y≤8:=by
  simp only[Vl,Ikb,or_false]at hy
  omega
 have one:∀ n:Int,1≤n→n≤5→n≤(l.length:Int)→Tot (λ k=>(Bv c2 [4,2,8]).bind λ r3=>(Cd k l r3.1 n).bind λ r4=>some (r4,r3.2)) (λ r=>WD r.1∧M4 r.2):=by
  intro n n0 n5 nl
  have hb:(build l y n).2=true:=by
   unfold build
   rw[hl,Fi.2 (show 1≤y∧y≤64 by omega),Fi.2 (show 1≤n∧n≤5 by omega),decide_eq_false (show ¬ n > (l.length:Int) by omega)]
   rfl
  refine Icb (Ieb (Q:=λ r=>r=(y,c3)) e3 rfl) ?_
  refine Icb (Ira l y n hb) ?_
  exact I0b ⟨⟨Dlb hb,λ x hx=>nomatch hx⟩,k3⟩
 refine Icb (Ieb (Q:=λ r=>r=(x,c2)) e2 rfl) ?_
 exact I7b (λ h=>one (l.length:Int) (by omega) (by dsimp only at h;omega) (Int.le_refl _)) (λ h=>one x (by omega) (by omega) (by dsimp only at h;omega))
def Isa (c:Cur) (hc:M4 c):Tot (λ k=>E8 k c) (λ r=>r.1.length=6∧M4 r.2):=by
 unfold E8
 refine I1b (Q:=λ r=>r.1.length=6∧M4 r.2) ?_ (λ r h=>I0b h)
 refine I9b (L:=λ k i (s:List Int×Cur)=>Fs k s.1 i s.2) (Q:=λ r=>r.1.length=6∧M4 r.2) 6 (λ j s=>s.1.length=j∧M4 s.2) ?_ ?_ 0 ([],c) (Vs _) ⟨rfl,hc⟩
 ·rintro s ⟨h1,h2⟩
  simp (disch:=omega) only [Fs,dF]
  exact I0b ⟨h1,h2⟩
 ·rintro j s hj ⟨h1,h2⟩ next
  obtain⟨x,c1,e1,_,k1⟩:=Qq s.2 h2 [1,1,1,1,0,2,3] (by decide) (by decide)
  simp (disch:=omega) only [Fs,dT,w64]
  refine Icb (Ieb (Q:=λ r=>r=(x,c1)) e1 rfl) ?_
  exact I8b (by simp only[Vd,Vk];omega) (next (s.1++[x],c1) ⟨by rw[Ve,h1];rfl,k1⟩)
def Lma (c:Cur) (hc:M4 c):Tot (λ k=>E8 k c) (λ r=>r.1.length≤6∧M4 r.2):=(Isa c hc).mono λ r h=>⟨by have:=h.1;omega,h.2⟩
def Ayb (r:Evt×Cur×Wld) (w:Wld):Prop:=Grb r.1∧Ap r.1.2.2.2.1∧M4 r.2.1∧r.2.2=w
def Dmb {d:Dsk} (hd:DIn d) (hb:DB d):Tot (λ k=>Gi k d) (λ r=>r.length≤2000000∧∀ t∈r,M1 t):=by
 refine(Yxa d hd hb).mono ?_
 rintro r rfl
 obtain⟨a1,a2⟩:=Fvb d.1 hd.1.2.1 d.1 0 [] (λ x hx=>hx) (λ y hy=>nomatch hy)
 have:=hd.2.1
 rw[Vk]at a1
 exact⟨by unfold Q1a;omega,a2⟩
def Zda (e:Evt):Prop:=e.1=1∨e.1=2→e.2.2.1∈Kw
def Fwa (c:Cur) (w:Wld) (hc:M4 c) (hn1:1≤w.2.2.1.length) (hnl:w.2.2.1.length≤2000000) (hnn:∀ n∈w.2.2.1,NIn n):Tot (λ k=>Es k c w w) (λ r=>Ayb r w∧Zda r.1):=by
 unfold Es
 obtain⟨i,c1,e1,i0,i1,_,k1⟩:=Ku c hc (w.2.2.1.length:Int) (by omega)
 have i1:=i1 (by omega)
 obtain⟨s,c2,e2,hs,k2⟩:=T9a c1 k1
 have hsn:=hs
 have hs:=(Kpa s hs).1
 refine Icb (Ieb (Q:=λ r=>r=(i,c1)) e1 rfl) ?_
 refine Icb (Ieb (Q:=λ r=>r=(s,c2)) e2 rfl) ?_
 refine I1b (Lma c2 k2) ?_
 rintro⟨rc,c3⟩ ⟨hrc,k3⟩
 dsimp only at hrc k3 ⊢
 obtain⟨n,c4,e4,_,_,_,k4⟩:=Ku c3 k3 20 (by decide)
 refine Icb (Ieb (Q:=λ r=>r=(n,c4)) e4 rfl) ?_
 dsimp only
 have ok:∀ (kd:Int) (s:ByteArray) (l:List Int) (x:Int) (c:Cur),M1 s→Ap l→l.length≤2000000 → -9223372036854775808≤x→x≤9223372036854775807→M4 c→(kd=1∨kd=2→s∈Kw)→Ayb ((kd,i,s,l,x,rc),c,w) w∧Zda (kd,i,s,l,x,rc):=λ kd s l x c h1 h2 h3 h4 h5 h6 h7=>⟨⟨⟨h1,by show l.length≤_;omega,⟨h4,h5⟩,by show rc.length≤_;omega⟩,h2,h6,rfl⟩,h7⟩
 have plain:∀ kd:Int,Tot (λ _=>some ((kd,i,s,([]:List Int),(0:Int),rc),c4,w)) (λ r=>Ayb r w∧Zda r.1):=λ kd=>I0b (ok kd s [] 0 c4 hs O8 (Vs _) (by decide) (by decide) k4 λ _=>hsn)
 have put:Tot (λ k=>(A8 c4 2).bind λ r5=>(Fv k r5.2).bind λ r6=>some ((1,i,s,r6.1,wrap .i64 (w.2.2.2.1.1+r5.1),rc),r6.2,w)) (λ r=>Ayb r w∧Zda r.1):=by
  obtain⟨x,c5,e5,x0,x1,_,k5⟩:=Ku c4 k4 2 (by decide)
  have x1:=x1 (by decide)
  refine Icb (Ieb (Q:=λ r=>r=(x,c5)) e5 rfl) ?_
  refine I1b (Pca c5 k5) ?_
  rintro⟨l,c6⟩ ⟨g1,g2,g3⟩
  dsimp only at g1 g2 g3 ⊢
  have hw:=Dca (w.2.2.2.1.1+x)
  exact I0b (ok 1 s l _ c6 hs g2 (by omega) hw.1 hw.2 g1 λ _=>hsn)
 have drop:Tot (λ k=>(A8 c4 2).bind λ r17=>some ((2,i,s,([]:List Int),wrap .i64 (w.2.2.2.1.1+r17.1),rc),r17.2,w)) (λ r=>Ayb r w∧Zda r.1):=by
  obtain⟨x,c5,e5,x0,x1,_,k5⟩:=Ku c4 k4 2 (by decide)
  have x1:=x1 (by decide)
  refine Icb (Ieb (Q:=λ r=>r=(x,c5)) e5 rfl) ?_
  have hw:=Dca (w.2.2.2.1.1+x)
  exact I0b (ok 2 s [] _ c5 hs O8 (Vs _) hw.1 hw.2 k5 λ _=>hsn)
 have rot:Tot (λ k=>(A8 c4 60).bind λ r31=>some ((8,i,s,([]:List Int),r31.1,rc),r31.2,w)) (λ r=>Ayb r w∧Zda r.1):=by
  obtain⟨x,c5,e5,x0,x1,_,k5⟩:=Ku c4 k4 60 (by decide)
  have x1:=x1 (by decide)
  refine Icb (Ieb (Q:=λ r=>r=(x,c5)) e5 rfl) ?_
  exact I0b (ok 8 s [] x c5 hs O8 (Vs _) (by omega) (by omega) k5 λ _=>hsn)
 have ring:Tot (λ k=>(Bv c4 [1,2,10,1000]).bind λ r33=>some ((9,i,s,([]:List Int),r33.1,rc),r33.2,w)) (λ r=>Ayb r w∧Zda r.1):=by
  obtain⟨x,c5,e5,hx,k5⟩:=Qq c4 k4 [1,2,10,1000] (by decide) (by decide)
  refine Icb (Ieb (Q:=λ r=>r=(x,c5)) e5 rfl) ?_
  have hx':1≤x∧x≤1000:=by
   simp only[Vl,Ikb,or_false]at hx
   omega
  exact I0b (ok 9 s [] x c5 hs O8 (Vs _) (by omega) (by omega) k5 λ _=>hsn)
 have push:Tot (λ k=>cond (decide ((0:Int)≤i)) (cond (decide (i<(length w.2.2.1:Int))) ((Gi k (getD w.2.2.1 (toNat i) ((0:Int),(([],[]),([],[])))).2.1).bind λ r20=>cond (decide ((length r20:Int) > 0)) ((A8 c4 (length r20:Int)).bind λ r21=>cond (decide ((0:Int)≤r21.1)) (cond (decide (r21.1<(length r20:Int))) (some ((3,i,(getD r20 (toNat r21.1) (⟨#[]⟩:ByteArray)),([]:List Int),0,rc),r21.2,w)) none) none) (some ((3,i,s,([]:List Int),0,rc),c4,w))) none) none) (λ r=>Ayb r w∧Zda r.1):=by
  refine I4b i0 (I4b i1 ?_)
  have hm:=hnn _ (A3 (d:=Ac) (show i.toNat<w.2.2.1.length by omega))
  refine I1b (Dmb hm.1.1 hm.1.2) ?_
  rintro l ⟨hl,hl'⟩
  refine I7b (λ h0=>?_) (λ h0=>plain 3)
  obtain⟨x,c5,e5,x0,x1,_,k5⟩:=Ku c4 k4 (l.length:Int) (by omega)
  have x1:=x1 (by omega)
  refine Icb (Ieb (Q:=λ r=>r=(x,c5)) e5 rfl) ?_
  exact I4b x0 (I4b x1 (I0b (ok 3 _ [] 0 c5 (hl' _ (A3 (d:=Ni) (show x.toNat<l.length by omega))) O8 (Vs _) (by decide) (by decide) k5 (by omega))))
 refine I6b (λ _=>put) (λ _=>?_)
 refine I6b (λ _=>put) (λ _=>?_)
 refine I6b (λ _=>put) (λ _=>?_)
 refine I6b (λ _=>put) (λ _=>?_)
 refine I6b (λ _=>put) (λ _=>?_)
 refine I6b (λ _=>put) (λ _=>?_)
 refine I6b (λ _=>drop) (λ _=>?_)
 refine I6b (λ _=>drop) (λ _=>?_)
 refine I6b (λ _=>push) (λ _=>?_)
 refine I6b (λ _=>push) (λ _=>?_)
 refine I6b (λ _=>push) (λ _=>?_)
 refine I6b (λ _=>plain 5) (λ _=>?_)
 refine I6b (λ _=>plain 5) (λ _=>?_)
 refine I6b (λ _=>plain 4) (λ _=>?_)
 refine I6b (λ _=>plain 6) (λ _=>?_)
 refine I6b (λ _=>plain 7) (λ _=>?_)
 refine I6b (λ _=>plain 7) (λ _=>?_)
 refine I6b (λ _=>rot) (λ _=>?_)
 exact I6b (λ _=>rot) (λ _=>ring)
def Dnb {w:Wld} (h:WI w) {e:Evt} (he:Grb e):Tot (λ k=>J0 k w e) (λ r=>r=doW w e):=
 Fzb w e he h.ring h.ns h.clk (by have:=h.wlen;omega) (by have:=h.splen;omega)
def Zea (w:Wld) (e:Evt) (i:Nat):(Coa w e i).2.2.2.2.2.1=w.2.2.2.2.1:=by
 unfold Coa R3 R6 Sx Deb
 cases e.1==3
 case true=>cases (lkD (w.2.2.1.getD i Ac).2.1 e.2.2.1).2 != 0<;>rfl
 cases e.1==4
 case true=>cases ((w.2.2.1.getD i Ac).2.2.1.length:Int)==0<;>rfl
 cases e.1==5
 case true=>cases ((w.2.2.1.getD i Ac).2.2.2.length:Int)==0<;>rfl
 cases e.1==6
 case true=>rfl
 cases e.1==7
 case true=>rfl
 rw[cond_false,cond_false,cond_false,cond_false,cond_false]
 cases (L4a (w.2.2.1.getD i Ac) e.2.2.1 e.2.2.2.2.1).2<;>rfl
def Azb (w:Wld) (s:ByteArray) (f:Fil) (t:Int) (rc:List Int):∀ x∈(ask w s f t rc).2.2.2.2.2.1,x∈w.2.2.2.2.1∨x.1=s:=by
 intro x
 unfold ask
 cases !(B5 s)
 case true=>exact .inl
 cases decide ((f.2.2.length:Int) > 200)
 case true=>exact .inl
 cases !(inR t 0 1000000000)
 case true=>exact .inl
 cases (w.2.2.2.2.1.length:Int)==200
 case true=>exact .inl
 cases (Nk w.2.2.2.1 t 0).1==w.2.2.2.1.1&&((Nk w.2.2.2.1 t 0).2.1==w.2.2.2.1.2.1&&(Nk w.2.2.2.1 t 0).2.2==w.2.2.2.1.2.2)
 case true=>exact .inl
 intro hx
 rcases Vo.1 hx with h|h
 ·exact .inl h
 ·rw[Vu.1 h];exact .inr rfl
def WD.ev {w:Wld} (h:WD w) {e:Evt} (hb:Ap e.2.2.2.1) (hn:Zda e):WD (doW w e).2:=by
 refine⟨h.1.ev hb,λ x=>?_⟩
 have ae:∀ q:Int×Wld,(W8a q).2=q.2:=λ q=>by
  unfold W8a
  cases q.1 != 2<;>rfl
 unfold doW
 cases h1:e.1==1 with
 |true=>
  rw[cond_true,ae]
  exact λ hx=>(Azb _ _ _ _ _ x hx).elim (h.2 x) (λ c=>by rw[c];exact hn (.inl (eq_of_beq h1)))
 |false=>
  cases h2:e.1==2 with
  |true=>
   rw[cond_false,cond_true,ae]
   exact λ hx=>(Azb _ _ _ _ _ x hx).elim (h.2 x) (λ c=>by rw[c];exact hn (.inr (eq_of_beq h2)))
  |false=>
   rw[cond_false,cond_false]
   cases e.1==3||(e.1==4||(e.1==5||(e.1==6||(e.1==7||e.1==8)))) with
   |true=>
    rw[cond_true]
    cases inR e.2.1 0 ((w.2.2.1.length:Int)-1) with
    |true=>rw[cond_true,Zea];exact h.2 x
    |false=>exact h.2 x
   |false=>
    rw[cond_false]
    unfold Iqa
    cases e.1==9
    case false=>exact h.2 x
    cases !(inR e.2.1 0 ((w.1.length:Int)-1))
    case true=>exact h.2 x
    cases !(inR e.2.2.2.2.1 1 1000)<;>exact h.2 x
def Q9a:∀ (n:Nat) (i:Int) (c:Cur) (w:Wld),i=n→n≤1000→M4 c→WD w→Tot (λ k=>G3 k i c Q8a w) (λ r=>WD r.2.1∧M4 r.2.2):=by
 intro n
 induction n with
 |zero=>
  rintro i c w rfl _ hc h
  refine Tot.succ ?_
  simp (disch:=omega) only [G3,dF]
  exact I0b ⟨h,hc⟩
 |succ n ih=>
  rintro i c w rfl hn hc h
  refine Tot.succ ?_
  simp (disch:=omega) only [G3,dT]
  refine I1b (Fwa c w hc (by have:=h.1.nlen;have:=h.1.dlen;omega) h.1.ns.1 h.1.win.2.2.1.2) ?_
  rintro⟨e,c1,w1⟩ ⟨⟨g1,g2,g3,g4⟩,g5⟩
  dsimp only at g1 g2 g3 g4 g5 ⊢
  subst g4
  refine Icb (Dnb h.1 g1) ?_
  rw[w64 (n:=((n+1:Nat):Int)-1) (by omega) (by omega)]
  exact ih _ c1 _ (by omega) (by omega) g3 (h.ev g2 g5)
def Ita (c:Cur) (hc:M4 c) (n:Int) (hn:n≤1000):Tot (λ k=>F8 k c n) (λ r=>WD r.1∧M4 r.2):=by
 unfold F8
 refine I1b (Lla c hc) ?_
 rintro⟨w,c1⟩ ⟨h,k1⟩
 dsimp only at h k1 ⊢
 obtain⟨x,c2,e2,x0,x1,x2,k2⟩:=Ku c1 k1 n (by omega)
 refine Icb (Ieb (Q:=λ r=>r=(x,c2)) e2 rfl) ?_
 refine I1b (Q9a x.toNat x c2 w (by omega) (by by_cases h:0<n<;>omega) k2 h) ?_
 rintro r hr
 exact I0b hr
def Zfa (a:List Int) (hb:(a.length:Int)≤1048576) (m:Int) (hm:3≤m∧m≤1000):∃ n,Kd a m=some n∧3≤n∧n≤m:=by
 unfold Kd
 rw[Iyb (by omega),w64 (n:=(a.length:Int)/12) (by omega) (by omega),w64 (n:=3+(a.length:Int)/12) (by omega) (by omega)]
 by_cases h:3+(a.length:Int)/12 > m
 ·exact⟨m,by rw[decide_eq_true h];rfl,hm.1,Iob _⟩
 ·exact⟨_,by rw[decide_eq_false h];rfl,by omega,by omega⟩
def Cpa (a:List Int) (hb:(a.length:Int)≤1048576):Tot (λ k=>Hi k a) WD:=by
 unfold Hi
 refine I1b (T8a a hb) ?_
 intro c hc
 obtain⟨n,e,n0,n1⟩:=Zfa a hb 50 (by decide)
 refine I1b (Ieb (Q:=λ r=>r=n) e rfl) ?_
 rintro r rfl
 rw[w64 (n:=12+r) (by omega) (by omega)]
 refine I1b (Ita c hc _ (by omega)) ?_
 rintro r hr
 exact I0b hr.1

def WIm (m:Nat) (w:Wld):Prop:=RBd w.2.1∧w.1.length≤2000000∧(w.2.2.1.length≤2000000∧∀ n∈w.2.2.1,NIn n)∧(w.2.2.2.2.1.length≤m∧∀ x∈w.2.2.2.2.1,M1 x.1∧x.2.1.2.2.length≤2000000∧Ap x.2.1.2.2)∧(w.2.2.2.2.2.length≤m∧∀ s∈w.2.2.2.2.2,M1 s)
def WIm.win {m:Nat} {w:Wld} (h:WIm m w) (hm:m≤2000000):WIn w:=by
 obtain⟨h1,h2,⟨h3,h4⟩,⟨h5,h6⟩,h7,h8⟩:=h
 exact⟨h1,h2,⟨h3,h4⟩,⟨by omega,λ x hx=>(h6 x hx).1⟩,by omega,h8⟩
def WI.wim {w:Wld} (h:WI w):WIm 200 w:=by
 have hi:=h.win
 have h2:=h.dlen
 have h1:=h.nlen
 exact⟨hi.1,hi.2.1,hi.2.2.1,⟨h.wlen,λ x hx=>⟨Iy (h.wok x hx).1,by have:=(K7.1 (h.wok x hx).2.1).2.1;omega,(h.wok x hx).2.2⟩⟩,h.splen,hi.2.2.2.2.2⟩

def Iua {f:Fil} (h:f.2.2.length≤1000000000):Ik f=some f:=by
 unfold Ik
 rw[Nh _ (by omega)]
 rfl

def Zga (w:Wld) (i:Nat) (s:ByteArray) (rc:List Int) (hr:Jo w.2.1 w.1=true) (hn:NS w.2.2.1) (hi:i<w.2.2.1.length):Tot (λ k=>Ah k w (i:Int) s rc) (λ r=>r=R3 w i s rc):=by
 have hni:=hn.get hi
 unfold Ah R3
 have e0:w.2.2.1.getD i ((0:Int),(([],[]),([],[])))=w.2.2.1.getD i Ac:=rfl
 simp (disch:=omega) only [dT,Vb,e0]
 have hin:=(Y0 hni).1
 refine Icb (Z8 hin.1.1.1.1 hin.2.1 s) ?_
 cases hl:(lkD (w.2.2.1.getD i Ac).2.1 s).2 != 0
 case true=>exact I3b rfl (I0b rfl)
 refine I2b rfl ?_
 rw[cond_false]
 have hlk:∃ b,gt (w.2.2.1.getD i Ac).2.1.1 s=some b:=by
  rw[bne,Wm,beq_iff_eq]at hl
  obtain⟨b,hb,_⟩:=P0.1 (show lkD (w.2.2.1.getD i Ac).2.1 s=((lkD (w.2.2.1.getD i Ac).2.1 s).1,0) from by rw[← hl])
  exact⟨b,hb⟩
 have hs:B5 s=true:=Pra hni.g.1 (by obtain⟨b,hb⟩:=hlk;rw[hb];rfl)
 have hsz:s.size≤1000000000:=by
  have:=Fi.1 (Va _ _ ▸ hs:_∧_).2
  omega
 refine Icb (Fia _ s (Mv hr) hsz) ?_
 refine Icb (Bva w _ hn.1 (Qz (Mv hr) s)) ?_
 have hpl:=Ioa (s:=s) hr hn.1
 have hc:=λ x=>R4 (w:=w) (s:=s) (x:=x)
 have hrun:puN w i s rc=run (pst (i:Int) s (lkD (w.2.2.1.getD i Ac).2.1 s).1 rc (N2 w s)) (N2 w s).length (w.2.2.1,false,true):=rfl
 obtain⟨p1,p2⟩:=Avb (w:=w) (i:=i) (s:=s) (rc:=rc) hn
 have inv:∀ n,n≤(N2 w s).length→NS (run (pst (i:Int) s (lkD (w.2.2.1.getD i Ac).2.1 s).1 rc (N2 w s)) n (w.2.2.1,false,true)).1∧(run (pst (i:Int) s (lkD (w.2.2.1.getD i Ac).2.1 s).1 rc (N2 w s)) n (w.2.2.1,false,true)).1.length=w.2.2.1.length:=λ n hn'=>
  M5 (λ _ (b:List Nod×Bool×Bool)=>NS b.1∧b.1.length=w.2.2.1.length) ⟨hn,rfl⟩ (λ j b hj hb=>V7a hb (by have:=hc _ (A3 (d:=0) (show j<(N2 w s).length by omega));omega))
 rw[show whr w.2.2.1 (R9 w.2.1 s)=N2 w s from rfl]
 generalize (lkD (w.2.2.1.getD i Ac).2.1 s).1=f at *
 generalize N2 w s=ps at *
 refine I1b (Q:=λ r=>r=((i:Int),s,(puN w i s rc).2.2,(puN w i s rc).2.1,wN w (puN w i s rc).1)) ?_ ?_
 ·refine I9b (L:=λ k j (a:List Nod×Bool×Bool)=>Af k (i:Int) s rc a.2.2 a.2.1 ps (ps.length:Int) j (wN w a.1) f) (Q:=λ r=>r=((i:Int),s,(puN w i s rc).2.2,(puN w i s rc).2.1,wN w (puN w i s rc).1)) ps.length (λ j a=>a=run (pst (i:Int) s f rc ps) j (w.2.2.1,false,true)) ?_ ?_ 0 (w.2.2.1,false,true) (Vs _) rfl
  ·rintro a rfl
   simp (disch:=omega) only [Af,dF]
   exact I0b (by rw[hrun])
  ·rintro j a hj rfl next
   obtain⟨i1,i2⟩:=inv j (by omega)
   rw[Nj]at next
   generalize run (pst (i:Int) s f rc ps) j (w.2.2.1,false,true)=a at *
   obtain⟨ns,o,g⟩:=a
   dsimp only at i1 i2
   have hci:=hc _ (A3 (d:=0) hj)
   obtain⟨m,em⟩:∃ m:Nat,ps.getD j 0=(m:Int):=⟨(ps.getD j 0).toNat,by omega⟩
   rw[em]at hci
   unfold pst at next
   rw[em,Vb]at next
   have e0:ns.getD m ((0:Int),(([],[]),([],[])))=ns.getD m Ac:=rfl
   simp (disch:=omega) only [Af,dT,Vb,w64,em,wN,e0]
   cases hz:(m:Int)==(i:Int) with
   |true=>
    rw[hz]at next
    exact I3b rfl (next _ rfl)
   |false=>
    rw[hz]at next
    refine I2b rfl ?_
    simp only[Uza,Vp]
    cases h1:rch rc j != 1 with
    |true=>
     rw[h1]at next
     exact I3b rfl (next _ rfl)
    |false=>
     rw[h1]at next
     refine I2b rfl ?_
     have hm:=Y0 (i1.get (i:=m) (by omega))
     refine Icb (Yaa (ns.getD m Ac).2.1 s f true hm.1.1 hm.1.2.1 (Iy hs)) ?_
     dsimp only at next ⊢
     generalize keep (ns.getD m Ac).2.1 s f true=q at *
     cases g with
     |false=>
      refine I2b rfl (next (ns.set m ((ns.getD m Ac).1,q.1,(ns.getD m Ac).2.2),o,false) ?_)
      cases q.2 != 0&&q.2 != 1<;>rfl
     |true=>
      refine I3b rfl ?_
      cases h2:q.2==0
      case true=>rw[bne,h2]at next;exact I3b rfl (next _ rfl)
      rw[bne,h2]at next
      refine I2b rfl ?_
      cases h3:q.2==1 with
      |true=>rw[bne,h3]at next;exact next _ rfl
      |false=>rw[bne,h3]at next;exact next _ rfl
 ·rintro r rfl
  dsimp only[wN]
  generalize puN w i s rc=a at *
  obtain⟨ns,o,g⟩:=a
  dsimp only at p1 p2 ⊢
  cases o with
  |true=>
   refine I2b rfl (I0b ?_)
   rw[Yx,Ya]
   rfl
  |false=>
   refine I3b rfl ?_
   cases g
   ·exact I2b rfl (I0b rfl)
   refine I3b rfl ?_
   have e0:ns.getD i ((0:Int),(([],[]),([],[])))=ns.getD i Ac:=rfl
   simp (disch:=omega) only [dT,Vb,e0]
   have hg:=(p1.get (i:=i) (by omega)).g
   refine Icb (L0a hg.1) ?_
   refine Icb (I1a (Yba hg).1 hs) ?_
   exact I0b rfl
def Zha {n:Nod} {l:List Row} (hn:NG n) (hl:L5 l=true):Yfa n l=((tk n l).2,(tk n l).1):=by
 unfold Yfa tk
 rw[hn.1,hl]
 cases decide ((Ow n.2.2.1 l).length > 60)<;>rfl
def Iva (w:Wld) (src:Int) (l:List Row) (rc:List Int) (hr:RBd w.2.1) (hn:NS w.2.2.1) (hl:L5 l=true):
  Tot (λ k=>Ao k w l rc src) (λ r=>r=((Lo w src l false rc).2,wN w (Lo w src l false rc).1)):=by
 have hll:=F8a hl
 unfold Ao
 refine Icb (Tt w hr hn.1) ?_
 have hpl:=R5 hr hn.1
 have hc:=λ x=>Nw (w:=w) (x:=x)
 have hrun:Lo w src l false rc=run (gst src l false rc (Bs w)) (Bs w).length (w.2.2.1,true):=rfl
 have inv:∀ n,n≤(Bs w).length→NS (run (gst src l false rc (Bs w)) n (w.2.2.1,true)).1∧(run (gst src l false rc (Bs w)) n (w.2.2.1,true)).1.length=w.2.2.1.length:=λ n hn'=>
  M5 (λ _ (b:List Nod×Bool)=>NS b.1∧b.1.length=w.2.2.1.length) ⟨hn,rfl⟩ (λ j b hj hb=>V8a hl hb (by have:=hc _ (A3 (d:=0) (show j<(Bs w).length by omega));omega))
 generalize Bs w=ls at *
 refine I1b (Q:=λ r=>r=((Lo w src l false rc).2,wN w (Lo w src l false rc).1)) ?_ (by rintro r rfl;exact I0b rfl)
 refine I9b (L:=λ k j (a:List Nod×Bool)=>Ax k l rc src a.2 ls (ls.length:Int) j (wN w a.1)) (Q:=λ r=>r=((Lo w src l false rc).2,wN w (Lo w src l false rc).1)) ls.length (λ j a=>a=run (gst src l false rc ls) j (w.2.2.1,true)) ?_ ?_ 0 (w.2.2.1,true) (Vs _) rfl
 ·rintro a rfl
  simp (disch:=omega) only [Ax,dF]
  exact I0b (by rw[hrun])
 ·rintro j a hj rfl next
  obtain⟨i1,i2⟩:=inv j (by omega)
  rw[Nj]at next
  generalize run (gst src l false rc ls) j (w.2.2.1,true)=a at *
  obtain⟨ns,g⟩:=a
  dsimp only at i1 i2
  have hci:=hc _ (A3 (d:=0) hj)
  obtain⟨m,em⟩:∃ m:Nat,ls.getD j 0=(m:Int):=⟨(ls.getD j 0).toNat,by omega⟩
  rw[em]at hci
  unfold gst at next
  rw[em,Vb,Zh,Iib]at next
  have e0:ns.getD m ((0:Int),(([],[]),([],[])))=ns.getD m Ac:=rfl
  have hm:=i1.get (i:=m) (by omega)
  simp (disch:=omega) only [Ax,dT,Vb,w64,em,e0,wN]
  cases hz:(m:Int)==src with
  |true=>
   rw[hz]at next
   exact I3b rfl (next _ rfl)
  |false=>
   rw[hz]at next
   refine I2b rfl ?_
   simp only[Uza,Vp]
   cases h1:rch rc j != 1 with
   |true=>
    rw[h1]at next
    exact I3b rfl (next _ rfl)
   |false=>
    rw[h1]at next
    refine I2b rfl (Icb (Yga (ns.getD m Ac) l (Y0 hm) hll) ?_)
    rw[Zha hm hl]
    dsimp only at next ⊢
    generalize tk (ns.getD m Ac) l=q at *
    cases g with
    |false=>
     refine I2b rfl (next (ns.set m q.2,false) ?_)
     cases q.1<;>rfl
    |true=>
     refine I3b rfl (next (ns.set m q.2,q.1) ?_)
     cases q.1<;>rfl

def S6 {l:List Row} (h:l.length≤2000000000):Ae l=some l:=by
 unfold Ae
 rw[bT (by simp only[Vk];omega),Vy]
def Qaa (w:Wld) (src:Int) (l:List Row) (rc:List Int):Lo w (-1) l false rc=Lo w src l true rc:=by
 unfold Lo
 refine M5 (λ n (a:List Nod×Bool)=>a=run (gst src l true rc (Bs w)) n (w.2.2.1,true)) rfl (λ j b hj hb=>?_)
 rw[Nj,← hb]
 have:=(Nw (A3 (d:=0) hj)).1
 unfold gst
 rw[show ((Bs w).getD j 0 == -1)=false by rw[beq_eq_false_iff_ne];omega,Yx,Ya,Ys]
def Lna (w:Wld) (src:Int) (l:List Row) (self:Bool) (rc:List Int) (m:Nat):((Lo w src l self rc).1.getD m Ac).2.2.2=(w.2.2.1.getD m Ac).2.2.2:=by
 unfold Lo
 refine M5 (λ n (a:List Nod×Bool)=>(a.1.getD m Ac).2.2.2=(w.2.2.1.getD m Ac).2.2.2) rfl (λ j b hj hb=>?_)
 unfold gst
 cases (Bs w).getD j 0==src&&!self
 case true=>exact hb
 cases rch rc j != 1
 case true=>exact hb
 rw[cond_false,cond_false]
 generalize ((Bs w).getD j 0).toNat=i
 show ((b.1.set i (tk (b.1.getD i Ac) l).2).getD m Ac).2.2.2=_
 by_cases hm:m<b.1.length
 ·rw[Jx hm]
  by_cases hi:i=m
  ·subst hi
   rw[if_pos rfl,← hb]
   unfold tk
   cases decide ((Ow (b.1.getD i Ac).2.2.1 l).length > 60)<;>rfl
  ·rw[if_neg hi];exact hb
 ·rw[Vc,Za (by rw[Wb];omega)]
  rw[Vc,Za (by omega)]at hb
  exact hb
def Vka (w:Wld) (i:Nat) (rc:List Int) (hr:RBd w.2.1) (hn:NS w.2.2.1) (hi:i<w.2.2.1.length):Tot (λ k=>Bq k w (i:Int) rc) (λ r=>r=R6 w i rc):=by
 have hni:=hn.get hi
 have e0:w.2.2.1.getD i ((0:Int),(([],[]),([],[])))=w.2.2.1.getD i Ac:=rfl
 have hl:=(C3.1 hni.1).2.2.2.1
 have hll:=(F8a hl).1
 unfold Bq R6
 simp (disch:=omega) only [dT,Vb,e0,S6 (show (w.2.2.1.getD i Ac).2.2.1.length≤2000000000 by omega),Vp]
 cases hz:((w.2.2.1.getD i Ac).2.2.1.length:Int)==0
 case true=>exact I3b rfl (I0b rfl)
 refine I2b rfl (Icb (Iva w (i:Int) _ rc hr hn hl) ?_)
 obtain⟨p1,p2⟩:=V1 (w:=w) (src:=(i:Int)) (self:=false) (rc:=rc) hl hn
 rw[show Lo w (i:Int) (w.2.2.1.getD i Ac).2.2.1 false rc=Nx w i rc from rfl]at p1 p2 ⊢
 generalize Nx w i rc=a at *
 obtain⟨ns,g⟩:=a
 dsimp only at p1 p2 ⊢
 cases g
 ·exact I2b rfl (I0b rfl)
 refine I3b rfl (Icb (Tt (wN w ns) hr p1.1) ?_)
 refine Icb (F9a _ _ (by have:=R5 (w:=wN w ns) hr p1.1;omega)) ?_
 cases Mb (Bs (wN w ns)) (i:Int)
 case true=>exact I2b rfl (I0b rfl)
 have e1:ns.getD i ((0:Int),(([],[]),([],[])))=ns.getD i Ac:=rfl
 refine I3b rfl ?_
 simp (disch:=omega) only [dT,Vb,e1]
 exact I0b rfl
def Vla (w:Wld) (i:Nat) (rc:List Int) (hr:RBd w.2.1) (hn:NS w.2.2.1) (hi:i<w.2.2.1.length):Tot (λ k=>Bu k w (i:Int) rc) (λ r=>r=Sx w i rc):=by
 have hni:=hn.get hi
 have e0:w.2.2.1.getD i ((0:Int),(([],[]),([],[])))=w.2.2.1.getD i Ac:=rfl
 obtain⟨hq,_,_,_,hq60⟩:=C3.1 hni.1
 have hl:=Ny hq
 unfold Bu Sx
 simp (disch:=omega) only [dT,Vb,e0]
 cases hz:((w.2.2.1.getD i Ac).2.2.2.length:Int)==0
 case true=>exact I3b rfl (I0b rfl)
 have h1:=beq_eq_false_iff_ne.1 hz
 refine I2b rfl (I4b (by omega) ?_)
 rw[show List.take (toNat 1) (w.2.2.1.getD i Ac).2.2.2=List.take 1 (w.2.2.1.getD i Ac).2.2.2 from rfl,S6 (by rw[Vq];omega)]
 simp only[Vp]
 refine Icb (Iva w (-1) _ rc hr hn hl) ?_
 rw[Qaa w (i:Int)]
 obtain⟨p1,p2⟩:=V1 (w:=w) (src:=(i:Int)) (self:=true) (rc:=rc) hl hn
 have hqu:=Lna w (i:Int) ((w.2.2.1.getD i Ac).2.2.2.take 1) true rc i
 rw[show Lo w (i:Int) ((w.2.2.1.getD i Ac).2.2.2.take 1) true rc=P4 w i rc from rfl]at p1 p2 hqu ⊢
 generalize P4 w i rc=a at *
 obtain⟨ns,g⟩:=a
 dsimp only at p1 p2 hqu ⊢
 cases g
 ·exact I2b rfl (I0b rfl)
 have e1:ns.getD i ((0:Int),(([],[]),([],[])))=ns.getD i Ac:=rfl
 refine I3b rfl ?_
 simp (disch:=omega) only [dT,Vb,e1,hqu]
 rw[show List.drop (toNat 1) (w.2.2.1.getD i Ac).2.2.2=List.drop 1 (w.2.2.1.getD i Ac).2.2.2 from rfl,S6 (by rw[Wc];omega)]
 exact I0b rfl

def NO (ns ms:List Nod):Prop:=NS ms∧ms.map (·.1)=ns.map (·.1)
def NO.len {ns ms:List Nod} (h:NO ns ms):ms.length=ns.length:=by
 have:=congrArg length h.2
 rwa [Wd,Wd]at this
def NO.set {ns ms:List Nod} (h:NO ns ms) {i:Nat} {n:Nod} (hi:i<ms.length) (hn:NG n) (e:n.1=(ms.getD i Ac).1):NO ns (ms.set i n):=⟨h.1.set hn,(Lka hi e).trans h.2⟩
def Dob (n:Nod) (s:ByteArray) (f:Fil) (sure:Bool):(Y2 n s f sure).1.1=n.1:=by
 unfold Y2
 cases (n.2.2.2.length:Int)==60 with
 |true=>rfl
 |false=>rfl
def Hib (n:Nod) (l:List Row):(tk n l).2.1=n.1:=by
 unfold tk
 cases decide ((Ow n.2.2.1 l).length > 60)<;>rfl
def Dpb (n:Nod) (s:ByteArray) (b:Int):(L4a n s b).1.1=n.1:=by
 unfold L4a
 cases O9 n&&((lkD n.2.1 s).2==0&&(J8a n.2.1 s b).2)<;>rfl
def G8b {w:Wld} {s:ByteArray} {f:Fil} {rc:List Int} (hn:NS w.2.2.1) (hs:B5 s=true) (hf:Gc f=true):NO w.2.2.1 (wrN w s f rc).1:=by
 unfold wrN
 refine M5 (λ _ (a:List Nod×Int×Int)=>NO w.2.2.1 a.1) ⟨hn,rfl⟩ (λ j a hj h=>?_)
 have hc:=Tu (A3 (d:=0) hj)
 have hl:=h.len
 unfold wst
 cases decide (a.2.1<w.2.1.1)
 ·exact h
 rw[cond_true]
 cases rch rc j==0 with
 |true=>exact h
 |false=>exact h.set (by omega) (U9a (h.1.get (by omega)) hs hf) (Dob _ _ _ _)
def G9b {w:Wld} {i:Nat} {s:ByteArray} {rc:List Int} (hn:NS w.2.2.1):NO w.2.2.1 (puN w i s rc).1:=by
 unfold puN
 refine M5 (λ _ (a:List Nod×Bool×Bool)=>NO w.2.2.1 a.1) ⟨hn,rfl⟩ (λ j a hj h=>?_)
 have hc:=R4 (A3 (d:=0) hj)
 have hl:=h.len
 unfold pst
 cases (N2 w s).getD j 0==(i:Int)
 case true=>exact h
 rw[cond_false]
 cases rch rc j != 1 with
 |true=>exact h
 |false=>exact h.set (by omega) (Fsa (h.1.get (by omega))) rfl
def Oaa {w:Wld} {i:Nat} {s:ByteArray} {rc:List Int} (hn:NS w.2.2.1) (hi:i<w.2.2.1.length):∃ ns,(R3 w i s rc).2=wN w ns∧NO w.2.2.1 ns:=by
 unfold R3
 cases hl:(lkD (w.2.2.1.getD i Ac).2.1 s).2 != 0
 case true=>exact⟨w.2.2.1,rfl,hn,rfl⟩
 have h:=G9b (i:=i) (s:=s) (rc:=rc) hn
 have hlen:=h.len
 have hs:B5 s=true:=by
  rw[bne,Wm,beq_iff_eq]at hl
  obtain⟨b,hb,_⟩:=P0.1 (show lkD (w.2.2.1.getD i Ac).2.1 s=((lkD (w.2.2.1.getD i Ac).2.1 s).1,0) from by rw[← hl])
  exact Pra (hn.get hi).g.1 (by rw[hb];rfl)
 refine⟨_,rfl,?_⟩
 cases (puN w i s rc).2.2&&!(puN w i s rc).2.1 with
 |false=>exact h
 |true=>exact h.set (by omega) (Aub (h.1.get (by omega)) hs) rfl
def Oba {w:Wld} {src:Int} {l:List Row} {self:Bool} {rc:List Int} (hl:L5 l=true) (hn:NS w.2.2.1):NO w.2.2.1 (Lo w src l self rc).1:=by
 unfold Lo
 refine M5 (λ _ (a:List Nod×Bool)=>NO w.2.2.1 a.1) ⟨hn,rfl⟩ (λ j a hj h=>?_)
 have hc:=Nw (A3 (d:=0) hj)
 have hlen:=h.len
 unfold gst
 cases (Bs w).getD j 0==src&&!self
 case true=>exact h
 rw[cond_false]
 cases rch rc j != 1 with
 |true=>exact h
 |false=>exact h.set (by omega) (Hfb (h.1.get (by omega)) hl) (Hib _ _)
def Oca {w:Wld} {i:Nat} {rc:List Int} (hn:NS w.2.2.1) (hi:i<w.2.2.1.length):∃ ns,(R6 w i rc).2=wN w ns∧NO w.2.2.1 ns:=by
 have h:=Oba (w:=w) (src:=(i:Int)) (self:=false) (rc:=rc) (C3.1 (hn.get hi).1).2.2.2.1 hn
 have hlen:=h.len
 unfold R6
 cases ((w.2.2.1.getD i Ac).2.2.1.length:Int)==0
 case true=>exact⟨w.2.2.1,rfl,hn,rfl⟩
 refine⟨_,rfl,?_⟩
 show NO w.2.2.1 (bif (Nx w i rc).2&&_ then (Nx w i rc).1.set i (Xp ((Nx w i rc).1.getD i Ac)) else (Nx w i rc).1)
 unfold Nx
 cases (Lo w (i:Int) (w.2.2.1.getD i Ac).2.2.1 false rc).2&&_ with
 |false=>exact h
 |true=>exact h.set (by omega) (O6a (h.1.get (by omega))) rfl
def Oda {w:Wld} {i:Nat} {rc:List Int} (hn:NS w.2.2.1) (hi:i<w.2.2.1.length):∃ ns,(Sx w i rc).2=wN w ns∧NO w.2.2.1 ns:=by
 have hq:=C3.1 (hn.get hi).1
 have h:=Oba (w:=w) (src:=(i:Int)) (self:=true) (rc:=rc) (Ny hq.1) hn
 have hlen:=h.len
 unfold Sx
 cases ((w.2.2.1.getD i Ac).2.2.2.length:Int)==0
 case true=>exact⟨w.2.2.1,rfl,hn,rfl⟩
 refine⟨_,rfl,?_⟩
 show NO w.2.2.1 (bif (P4 w i rc).2 then (P4 w i rc).1.set i (E9b ((P4 w i rc).1.getD i Ac) ((w.2.2.1.getD i Ac).2.2.2.drop 1)) else (P4 w i rc).1)
 unfold P4
 cases (Lo w (i:Int) ((w.2.2.1.getD i Ac).2.2.2.take 1) true rc).2 with
 |false=>exact h
 |true=>exact h.set (by omega) (Awb (h.1.get (by omega)) (λ r hr=>hq.1 r (Zr hr)) (by rw[Wc];omega)) rfl
structure WO (w:Wld):Prop where
 ring:Jo w.2.1 w.1=true
 ids:w.2.2.1.map (·.1)=w.1.map (·.1)
 ns:NS w.2.2.1
 clk:Hz w.2.2.2.1=true
 wlen:w.2.2.2.2.1.length≤200
 wok:Dra w.2.2.2.2.1
 wge:∀ x∈w.2.2.2.2.1,sle w.2.2.2.1 x.2.1.1=false
 sps:TS w.2.2.2.2.2
 spn:∀ s∈w.2.2.2.2.2,B5 s=true
def WI.wo {w:Wld} (h:WI w):WO w:=⟨h.ring,h.ids,h.ns,h.clk,h.wlen,h.wok,h.wge,h.sps,λ s hs=>by
 obtain⟨x,hx,e⟩:=h.spw s hs
 rw[← e]
 exact(h.wok x hx).1⟩
namespace WO
variable {w:Wld}
def nlen (h:WO w):w.2.2.1.length=w.1.length:=by
 have:=congrArg length h.ids
 rwa [Wd,Wd]at this
def dlen (h:WO w):1≤w.1.length∧w.1.length≤12:=(Fl.1 (C4.1 h.ring).1).2.2
def other (h:WO w) {ns:List Nod} (hn:NO w.2.2.1 ns):WO (wN w ns):=⟨h.ring,hn.2.trans h.ids,hn.1,h.clk,h.wlen,h.wok,h.wge,h.sps,h.spn⟩
def other' (h:WO w) {r:Bool×Wld} (hr:∃ ns,r.2=wN w ns∧NO w.2.2.1 ns):WO r.2:=by
 obtain⟨ns,e,hn⟩:=hr
 rw[e]
 exact h.other hn
def write (h:WO w) {s:ByteArray} {f:Fil} {rc:List Int} (hs:B5 s=true) (hf:Gc f=true) (hb:Ap f.2.2) (hc:sle w.2.2.2.1 f.1=true) (hl:w.2.2.2.2.1.length<200):WO (Bza (w.1,w.2.1,w.2.2.1,f.1,w.2.2.2.2) s f rc).2:=by
 have g:=G8b (w:=(w.1,w.2.1,w.2.2.1,f.1,w.2.2.2.2)) (rc:=rc) h.ns hs hf
 unfold Bza
 generalize wrN (w.1,w.2.1,w.2.2.1,f.1,w.2.2.2.2) s f rc=a at *
 exact {
  ring:=h.ring
  ids:=g.2.trans h.ids
  ns:=g.1
  clk:=(K7.1 hf).1
  wlen:=by show (w.2.2.2.2.1++[_]).length≤200;rw[Ve];simp only[Vd,Vk];omega
  wok:=λ x hx=>by
   rcases Vo.1 hx with hx|hx
   ·exact h.wok x hx
   ·rw[Vu.1 hx];exact⟨hs,hf,hb⟩
  wge:=λ x hx=>by
   rcases Vo.1 hx with hx|hx
   ·exact C0a (V2 hc) (h.wge x hx)
   ·rw[Vu.1 hx];exact Kx _
  sps:=h.sps
  spn:=h.spn }
def ask (h:WO w) {s:ByteArray} {f:Fil} {t:Int} {rc:List Int} (hb:Ap f.2.2) (hd:f.2.1=true→f.2.2=[]):WO (ask w s f t rc).2:=by
 unfold Vf.ask
 cases hs:B5 s
 ·exact h
 rw[Yx,cond_false]
 by_cases hl:(f.2.2.length:Int) > 200
 ·rw[decide_eq_true hl];exact h
 ·rw[decide_eq_false hl,cond_false]
  cases inR t 0 1000000000
  ·exact h
  rw[Yx,cond_false]
  cases hw:(w.2.2.2.2.1.length:Int)==200
  case true=>exact h
  rw[cond_false]
  have hw':=beq_eq_false_iff_ne.1 hw
  have hwl:=h.wlen
  obtain⟨n1,n2⟩:=Fra h.clk t 0
  cases he:(Nk w.2.2.2.1 t 0).1==w.2.2.2.1.1&&((Nk w.2.2.2.1 t 0).2.1==w.2.2.2.1.2.1&&(Nk w.2.2.2.1 t 0).2.2==w.2.2.2.1.2.2)
  case true=>exact h
  rw[cond_false]
  have hlt:sle w.2.2.2.1 (Nk w.2.2.2.1 t 0)=true:=by
   rcases n2 with n2|n2
   ·rw[n2,beq_self_eq_true,beq_self_eq_true,beq_self_eq_true]at he;cases he
   ·exact n2
  exact h.write (f:=(Nk w.2.2.2.1 t 0,f.2)) hs (K7.2 ⟨n1,by show f.2.2.length≤200;omega,hd⟩) hb hlt (by omega)
def rot (h:WO w) {i:Nat} (hi:i<w.2.2.1.length) {s:ByteArray} {b:Int}:WO (Deb w i s b).2:=by
 have hg:=h.ns.get hi
 unfold Deb
 cases hr:(L4a (w.2.2.1.getD i Ac) s b).2
 ·exact h
 have hn:NO w.2.2.1 (w.2.2.1.set i (L4a (w.2.2.1.getD i Ac) s b).1):=NO.set ⟨h.ns,rfl⟩ hi (Anb hg) (Dpb _ _ _)
 have hs:B5 s=true:=by
  unfold L4a at hr
  cases hc:O9 (w.2.2.1.getD i Ac)&&((lkD (w.2.2.1.getD i Ac).2.1 s).2==0&&(J8a (w.2.2.1.getD i Ac).2.1 s b).2)
  ·rw[hc]at hr;cases hr
  rw[Va,Va,beq_iff_eq]at hc
  obtain⟨b,hb,_⟩:=P0.1 (show lkD (w.2.2.1.getD i Ac).2.1 s=((lkD (w.2.2.1.getD i Ac).2.1 s).1,0) from by rw[← hc.2.1])
  exact Pra hg.g.1 (by rw[hb];rfl)
 exact⟨h.ring,hn.2.trans h.ids,hn.1,h.clk,h.wlen,h.wok,h.wge,Dqa h.sps,λ t ht=>by
  rcases Fta.1 ht with rfl|ht
  ·exact hs
  ·exact h.spn t ht⟩
def node (h:WO w) {i:Nat} (hi:i<w.2.2.1.length) {e:Evt}:WO (Coa w e i).2:=by
 have hg:=h.ns.get hi
 unfold Coa
 cases e.1==3
 case true=>exact h.other' (Oaa h.ns hi)
 cases e.1==4
 case true=>exact h.other' (Oca h.ns hi)
 cases e.1==5
 case true=>exact h.other' (Oda h.ns hi)
 cases e.1==6
 case true=>exact h.other (NO.set ⟨h.ns,rfl⟩ hi (O3a hg) rfl)
 cases e.1==7 with
 |true=>exact h.other (NO.set ⟨h.ns,rfl⟩ hi (Fyb hg) rfl)
 |false=>exact h.rot hi
def weigh (h:WO w) {i t:Int}:WO (Iqa w i t).2:=by
 unfold Iqa
 cases h1:inR i 0 ((w.1.length:Int)-1)
 ·exact h
 cases h2:inR t 1 1000
 ·exact h
 obtain⟨i0,i1⟩:=Fi.1 h1
 obtain⟨w0,w1⟩:=Fi.1 h2
 exact⟨(Nxa (Fda h.ring (by omega) w0 w1)).1,h.ids.trans (Fca _ _ _).symm,h.ns,h.clk,h.wlen,h.wok,h.wge,h.sps,h.spn⟩
def ev (h:WO w) {e:Evt} (hb:Ap e.2.2.2.1):WO (doW w e).2:=by
 have ae:∀ {q:Int×Wld},WO q.2→WO (W8a q).2:=λ {q} hq=>by
  unfold W8a
  cases q.1 != 2<;>exact hq
 unfold doW
 cases e.1==1
 case true=>exact ae (h.ask hb (λ c=>by cases c))
 cases e.1==2
 case true=>exact ae (h.ask O8 (λ _=>rfl))
 cases e.1==3||(e.1==4||(e.1==5||(e.1==6||(e.1==7||e.1==8)))) with
 |true=>
  cases hi:inR e.2.1 0 ((w.2.2.1.length:Int)-1)
  ·exact h
  have:=Fi.1 hi
  exact h.node (by omega)
 |false=>
  cases e.1==9 with
  |true=>exact h.weigh
  |false=>exact h
def nods (h:WO w):T7 w.1 w.2.2.1=true:=by
 have hl:=h.nlen
 unfold T7
 rw[show ((w.2.2.1.length:Int)==(w.1.length:Int))=true by rw[beq_iff_eq];omega,Vx,Wi]
 intro j hj
 have hj':=Zc.1 hj
 rw[Va,beq_iff_eq]
 refine⟨?_,(h.ns.get hj').1⟩
 have e1:(w.2.2.1.getD j Ac).1=(w.2.2.1.map (·.1)).getD j 0:=by
  rw[Vc,Vc,Igb,Vj hj'];rfl
 have e2:(w.1.getD j Nv).1=(w.1.map (·.1)).getD j 0:=by
  rw[Vc,Vc,Igb,Vj (by omega)];rfl
 rw[e1,e2,h.ids]
def ok (h:WO w):Tr w=true:=by
 unfold Tr
 have a2:Z3a w.2.2.2.1 w.2.2.2.2.1=true:=by
  unfold Z3a
  rw[Va,Wi]
  refine⟨λ x hx=>?_,decide_eq_true (by have:=h.wlen;omega)⟩
  unfold Lda
  rw[(h.wok x hx).1,(h.wok x hx).2.1,h.wge x hx]
  rfl
 have a3:V0 w.2.2.2.2.2=true:=by
  unfold V0
  rw[Wi]
  intro j hj
  have hj':=Zc.1 hj
  rw[Va,Zy]
  refine⟨h.spn _ (A3 hj'),?_⟩
  by_cases h0:j=0
  ·exact .inl (decide_eq_true h0)
  ·right
   have:=Zk.1 h.sps (j-1) j (by omega) hj' (by omega)
   rwa [Vc,Vc,Vj hj',Vj (by omega)]
 rw[h.ring,h.nods,h.clk,a2,a3]
 rfl
end WO
def Hjb {l:List ByteArray} (h:∀ j,0<j→j<l.length→tlt (l.getD (j-1) Ni) (l.getD j Ni)=true):TS l:=by
 induction l with
 |nil=>exact List.Pairwise.nil
 |cons x l ih=>
  have ht:TS l:=ih (λ j h0 hj=>by
   have:=h (j+1) (by omega) (by simpa using hj)
   obtain⟨m,rfl⟩:∃ m,j=m+1:=⟨j-1,by omega⟩
   simpa using this)
  refine Wh.2 ⟨λ y hy=>?_,ht⟩
  cases l with
  |nil=>cases hy
  |cons z l=>
   have hz:tlt x z=true:=by have:=h 1 (by omega) (by simp);simpa using this
   rcases Vl.1 hy with rfl|hy
   ·exact hz
   ·exact N0 hz ((Wh.1 ht).1 y hy)
def Hkb {w:Wld} (h:Tr w=true) (hn:∀ n∈w.2.2.1,DB n.2.1) (hb:∀ x∈w.2.2.2.2.1,Ap x.2.1.2.2):WO w:=by
 unfold Tr at h
 simp only[Va]at h
 obtain⟨h1,h2,h3,h4,h5⟩:=h
 unfold T7 at h2
 rw[Va,beq_iff_eq,Wi]at h2
 obtain⟨hl,h2⟩:=h2
 have hd:=(Fl.1 (C4.1 h1).1).2.2
 have hnode:∀ j,j<w.2.2.1.length→(w.2.2.1.getD j Ac).1=(w.1.getD j Nv).1∧O9 (w.2.2.1.getD j Ac)=true:=λ j hj=>by
  have:=h2 j (Zc.2 hj)
  rwa [Va,beq_iff_eq]at this
 unfold Z3a at h4
 rw[Va,Wi,decide_eq_true_iff]at h4
 unfold V0 at h5
 rw[Wi]at h5
 have hsp:∀ j,j<w.2.2.2.2.2.length→B5 (w.2.2.2.2.2.getD j Ni)=true∧(j=0∨tlt (w.2.2.2.2.2.getD (j-1) Ni) (w.2.2.2.2.2.getD j Ni)=true):=λ j hj=>by
  have:=h5 j (Zc.2 hj)
  rwa [Va,Zy,decide_eq_true_iff]at this
 have hx:∀ x∈w.2.2.2.2.1,B5 x.1=true∧Gc x.2.1=true∧sle w.2.2.2.1 x.2.1.1=false:=λ x hx=>by
  have:=h4.1 x hx
  unfold Lda at this
  rwa [Va,Va,Vw]at this
 refine⟨h1,?_,⟨by omega,λ n hm=>?_⟩,h3,by omega,λ x hm=>⟨(hx x hm).1,(hx x hm).2.1,hb x hm⟩,λ x hm=>(hx x hm).2.2,Hjb (λ j h0 hj=>?_),λ s hs=>?_⟩
 ·refine L7b (by rw[Wd,Wd];omega) (λ j a b=>?_)
  rw[Wd]at a b
  have:=(hnode j a).1
  rw[Vc,Vc,Vj a,Vj b]at this
  rw[Kib,Kib]
  exact this
 ·obtain⟨j,hj,rfl⟩:=Zf.1 hm
  have:=(hnode j hj).2
  rw[Vc,Vj hj]at this
  exact⟨this,hn _ hm⟩
 ·rcases (hsp j hj).2 with h|h
  ·omega
  ·exact h
 ·obtain⟨j,hj,rfl⟩:=Zf.1 hs
  have:=(hsp j hj).1
  rwa [Vc,Vj hj]at this

section
open Go
end

section
open Go
end

def WIm.wo {m:Nat} {w:Wld} (h:WIm m w) (hk:Tr w=true):WO w:=Hkb hk (λ n hn=>(h.2.2.1.2 n hn).1.2) (λ x hx=>(h.2.2.2.1.2 x hx).2.2)
def WO.wim {w:Wld} (h:WO w) {m:Nat} (h2:200≤m) (hs:w.2.2.2.2.2.length≤m):WIm m w:=
 ⟨Mv h.ring,by have:=h.dlen;omega,⟨h.ns.1,λ n hn=>Y0 (h.ns.2 n hn)⟩,⟨by have:=h.wlen;omega,λ x hx=>⟨Iy (h.wok x hx).1,by have:=(K7.1 (h.wok x hx).2.1).2.1;omega,(h.wok x hx).2.2⟩⟩,hs,λ s hs=>Iy (h.spn s hs)⟩
def Iwa {m:Nat} {w:Wld} (h:WIm m w) (hm:m≤2000000):Tot (λ k=>B1 k w) (λ r=>r=w):=by
 obtain⟨h1,h2,⟨h3,h4⟩,⟨h5,h6⟩,h7,h8⟩:=h
 unfold B1
 refine I8b (by rw[Vk];omega) (Icb (Ica w.2.1 h1) ?_)
 refine I8b (by rw[Vk];omega) ?_
 rw[Vy,Vy]
 refine I1b (Q:=λ r=>r=(w,Q8a,(w.1,w.2.1,w.2.2.1,w.2.2.2.1,[],w.2.2.2.2.2))) ?_ ?_
 ·refine I9b (L:=λ k i (s:List Nod)=>Dt k w.2.2.1 (w.2.2.1.length:Int) i w Q8a (w.1,w.2.1,s,w.2.2.2.1,[],w.2.2.2.2.2)) (Q:=λ r=>r=(w,Q8a,(w.1,w.2.1,w.2.2.1,w.2.2.2.1,[],w.2.2.2.2.2))) w.2.2.1.length (λ j s=>s=w.2.2.1.take j) ?_ ?_ 0 [] (Vs _) rfl
  ·rintro s rfl
   simp (disch:=omega) only [Dt,dF]
   exact I0b (by rw[Yr])
  ·rintro j s hj rfl next
   have hm:=h4 _ (A3 (d:=Ac) hj)
   have e0:w.2.2.1.getD j ((0:Int),(([],[]),([],[])))=w.2.2.1.getD j Ac:=rfl
   have hl:(w.2.2.1.take j).length=j:=by rw[Vq];omega
   simp (disch:=omega) only [Dt,dT,Vb,w64,e0]
   refine Icb (Ph _ hm) ?_
   refine I8b (by rw[hl];simp only[Vd,Vk];omega) (next _ ?_)
   rw[Wl hj,Vc,Vj hj]
   rfl
 ·rintro r rfl
  refine I1b (Q:=λ r=>r=(Q8a,w)) ?_ (by rintro r rfl;exact I0b rfl)
  refine I9b (L:=λ k i (s:List Wri)=>Ds k w.2.2.2.2.1 (w.2.2.2.2.1.length:Int) i Q8a (w.1,w.2.1,w.2.2.1,w.2.2.2.1,s,w.2.2.2.2.2)) (Q:=λ r=>r=(Q8a,w)) w.2.2.2.2.1.length (λ j s=>s=w.2.2.2.2.1.take j) ?_ ?_ 0 [] (Vs _) rfl
  ·rintro s rfl
   simp (disch:=omega) only [Ds,dF]
   exact I0b (by rw[Yr])
  ·rintro j s hj rfl next
   have hm:=(h6 _ (A3 (d:=Fka) hj)).2.1
   have e0:w.2.2.2.2.1.getD j ((⟨#[]⟩:ByteArray),((((0:Int),((0:Int),(0:Int))),(false,[])),false))=w.2.2.2.2.1.getD j Fka:=rfl
   have hl:(w.2.2.2.2.1.take j).length=j:=by rw[Vq];omega
   simp (disch:=omega) only [Ds,dT,Vb,w64,e0,Iua (f:=(w.2.2.2.2.1.getD j Fka).2.1) (by omega),Vp]
   refine I8b (by rw[hl];simp only[Vd,Vk];omega) (next _ ?_)
   rw[Wl hj,Vc,Vj hj]
   rfl
def Hsb (w v:Wld):Prop:=v.2.2.1.length=w.2.2.1.length∧w.2.2.2.2.1.length≤v.2.2.2.2.1.length∧sle v.2.2.2.1 w.2.2.2.1=false
def Hsb.nodes {w:Wld} {ns:List Nod} (h:ns.length=w.2.2.1.length):Hsb w (wN w ns):=⟨h,Vv _,Kx _⟩

def Zia (s:ByteArray) (a:Bool×Fil) (n:Nod):Bool×Fil:=bif (lkD n.2.1 s).2==0 then (bif !a.1||sle a.2.1 (lkD n.2.1 s).1.1 then (true,(lkD n.2.1 s).1) else a) else a
def lat (ns:List Nod) (s:ByteArray):Bool×Fil:=ns.foldl (Zia s) (false,W6a)
def Ixa {s:ByteArray} {a:Bool×Fil} {n:Nod} (h:a.1=true∨((lkD n.2.1 s).2==0)=true):(Zia s a n).1=true:=by
 unfold Zia
 cases hc:(lkD n.2.1 s).2==0 with
 |false=>
  rw[hc]at h
  rcases h with h|h
  ·exact h
  ·cases h
 |true=>
  rw[cond_true]
  cases ha:a.1 with
  |false=>rfl
  |true=>cases hs:sle a.2.1 (lkD n.2.1 s).1.1<;>simp[ha]
def Oea {s:ByteArray}:∀ (ns:List Nod) (a:Bool×Fil),(a.1=true∨∃ n∈ns,((lkD n.2.1 s).2==0)=true)→(ns.foldl (Zia s) a).1=true
 |[],a,h=>by
  rcases h with h|⟨n,hn,_⟩
  ·exact h
  ·cases hn
 |n::ns,a,h=>by
  rw[Yq]
  refine Oea ns _ ?_
  rcases h with h|⟨m,hm,hg⟩
  ·exact .inl (Ixa (.inl h))
  ·rcases Vl.1 hm with rfl|hm
   ·exact .inl (Ixa (.inr hg))
   ·exact .inr ⟨m,hm,hg⟩
def Qba (w:Wld) (hw:WIn w) (s:ByteArray):Tot (λ k=>Dh k w s) (λ r=>r=((lat w.2.2.1 s).2,(lat w.2.2.1 s).1)):=by
 obtain⟨_,_,⟨h1,h2⟩,_⟩:=hw
 unfold Dh
 refine I1b (Q:=λ r=>r=((lat w.2.2.1 s).1,W6a,(lat w.2.2.1 s).2)) ?_ (by rintro r rfl;exact I0b rfl)
 refine I9b (L:=λ k i (a:Bool×Fil)=>C7 k s a.1 w.2.2.1 (w.2.2.1.length:Int) i W6a a.2) (Q:=λ r=>r=((lat w.2.2.1 s).1,W6a,(lat w.2.2.1 s).2)) w.2.2.1.length (λ j a=>(w.2.2.1.drop j).foldl (Zia s) a=lat w.2.2.1 s) ?_ ?_ 0 (false,W6a) (Vs _) rfl
 ·rintro a h
  rw[We]at h
  simp (disch:=omega) only [C7,dF]
  exact I0b (by rw[← h];rfl)
 ·rintro j ⟨b,f⟩ hj h next
  rw[Ai (d:=Ac) hj,Yq]at h
  have nx:=next _ h
  have hm:=h2 _ (A3 (d:=Ac) hj)
  obtain⟨n,en⟩:∃ n:Nod,w.2.2.1.getD j Ac=n:=⟨_,rfl⟩
  rw[en]at hm nx
  have e0:w.2.2.1.getD j ((0:Int),(([],[]),([],[])))=n:=en
  simp (disch:=omega) only [C7,dT,Vb,w64,e0]
  refine Icb (Z8 hm.1.1.1.1.1 hm.1.2.1 s) ?_
  unfold Zia at nx
  cases hc:(lkD n.2.1 s).2==0
  ·rw[hc]at nx;exact I2b rfl nx
  rw[hc]at nx
  refine I3b rfl ?_
  cases b
  ·exact I3b rfl nx
  refine I2b rfl ?_
  simp only[Hza,Vp]
  dsimp only at nx ⊢
  cases hs:sle f.1 (lkD n.2.1 s).1.1 with
  |true=>rw[hs]at nx;exact I3b rfl nx
  |false=>rw[hs]at nx;exact I2b rfl nx
def lvE (s:ByteArray) (p:List Int) (f:Fil) (n:Nod):Bool:=bif Mb p n.1 then ((lkD n.2.1 s).2==0)&&Bxa (lkD n.2.1 s).1 f else !((lkD n.2.1 s).2==0)
def lvN (w:Wld) (s:ByteArray):Bool:=w.2.2.1.all (lvE s (R9 w.2.1 s) (lat w.2.2.1 s).2)
def Qca (w:Wld) (hw:WIn w) (s:ByteArray) (hs:s.size≤1000000000):Tot (λ k=>Cn k w s) (λ r=>r=lvN w s):=by
 have hw':=hw
 obtain⟨hr,_,⟨h1,h2⟩,_⟩:=hw'
 unfold Cn lvN
 refine Icb (Qba w hw s) ?_
 refine I1b (Q:=λ r=>r=bif w.2.2.1.all (lvE s (R9 w.2.1 s) (lat w.2.2.1 s).2) then .inr () else .inl false) ?_ (by
  rintro r rfl
  cases w.2.2.1.all (lvE s (R9 w.2.1 s) (lat w.2.2.1 s).2)<;>exact I0b rfl)
 generalize (lat w.2.2.1 s).2=f
 rw[P3 _ Ac]
 refine Iab (L:=λ k i=>Cv k s w.2.2.1 (w.2.2.1.length:Int) i w f) _ _ () ?_ ?_
 ·simp (disch:=omega) only [Cv,dF]
  exact I0b rfl
 ·intro j hj Q no yes
  have hm:=h2 _ (A3 (d:=Ac) hj)
  obtain⟨n,en⟩:∃ n:Nod,w.2.2.1.getD j Ac=n:=⟨_,rfl⟩
  rw[en]at hm no yes
  have e0:w.2.2.1.getD j ((0:Int),(([],[]),([],[])))=n:=en
  simp (disch:=omega) only [Cv,dT,Vb,w64,e0]
  refine Icb (Z8 hm.1.1.1.1.1 hm.1.2.1 s) ?_
  refine Icb (Q2a _ s _ hr hs) ?_
  unfold lvE at no yes
  cases hp:Mb (R9 w.2.1 s) n.1 with
  |false=>
   rw[hp]at no yes
   refine I3b rfl ?_
   cases hc:(lkD n.2.1 s).2==0 with
   |true=>rw[hc]at no;exact I3b rfl (I0b (no rfl))
   |false=>rw[hc]at yes;exact I2b rfl (yes rfl)
  |true=>
   rw[hp]at no yes
   refine I2b rfl ?_
   cases hc:(lkD n.2.1 s).2==0
   ·rw[hc]at no;exact I3b (by rw[bne,hc];rfl) (I0b (no rfl))
   rw[hc]at no yes
   refine I2b (by rw[bne,hc];rfl) ?_
   simp only[Ima,Vp]
   cases hf:Bxa (lkD n.2.1 s).1 f with
   |false=>rw[hf]at no;exact I3b rfl (I0b (no rfl))
   |true=>rw[hf]at yes;exact I2b rfl (yes rfl)
def Zja {ns:List Nod} {p:List Int} {j:Nat} (hj:j<ns.length):Mb (whr ns p) (j:Int)=Mb p (ns.getD j Ac).1:=by
 rw[Jkb,O5,O5,Xa]
 constructor
 ·rintro⟨i,h1,h2,h3⟩
  obtain rfl:j=i:=by omega
  exact h2
 ·intro h
  exact⟨j,hj,h,rfl⟩
def Cqa (d:Dsk) (s:ByteArray):Prop:=((lkD d s).2==0)=true
def Ofa {d:Dsk} {s:ByteArray}:Cqa d s↔∃ i,fnd d.1 s=some i∧(Mq (d.1.getD i D8).2).isSome=true:=by
 unfold Cqa lkD gt
 cases h:fnd d.1 s with
 |none=>simp
 |some i=>
  simp only[Vg]
  constructor
  ·intro hg
   refine⟨i,rfl,?_⟩
   cases hf:Mq (d.1.getD i D8).2 with
   |none=>simp only[hf]at hg;cases hg
   |some f=>rfl
  ·rintro⟨j,rfl,hg⟩
   cases hf:Mq (d.1.getD i D8).2 with
   |none=>rw[hf]at hg;cases hg
   |some f=>rfl
def C1a {d:Dsk} {s:ByteArray}:s∈P8 d↔Cqa d s:=by
 have key:∀ (l:List Nmd) (out:List ByteArray),s∈l.foldl (hI d) out↔s∈out∨∃ x∈l,x.1=s∧Cqa d s:=by
  intro l
  induction l with
  |nil=>intro out;simp
  |cons x l ih=>
   intro out
   rw[Yq,ih]
   have hx:s∈hI d out x↔s∈out∨(x.1=s∧Cqa d s):=by
    unfold hI
    cases hc:(lkD d x.1).2==0 with
    |false=>
     rw[cond_false]
     refine⟨.inl,?_⟩
     rintro (h|⟨rfl,h⟩)
     ·exact h
     ·unfold Cqa at h;rw[hc]at h;cases h
    |true=>
     rw[cond_true,Hxa]
     constructor
     ·rintro (rfl|h)
      ·exact .inr ⟨rfl,hc⟩
      ·exact .inl h
     ·rintro (h|⟨h,_⟩)
      ·exact .inr h
      ·exact .inl h.symm
   rw[hx]
   constructor
   ·rintro ((h|h)|⟨y,hy,h⟩)
    ·exact .inl h
    ·exact .inr ⟨x,Yc,h⟩
    ·exact .inr ⟨y,Vh _ hy,h⟩
   ·rintro (h|⟨y,hy,h⟩)
    ·exact .inl (.inl h)
    ·rcases Vl.1 hy with rfl|hy
     ·exact .inl (.inr h)
     ·exact .inr ⟨y,hy,h⟩
 unfold P8
 rw[key]
 constructor
 ·rintro (h|⟨x,_,_,h⟩)
  ·cases h
  ·exact h
 ·intro h
  obtain⟨i,hi,_⟩:=Ofa.1 h
  have:=O7 hi
  exact .inr ⟨_,A3 (d:=D8) this.1,this.2,h⟩
def Gab (a b:Row):Bool:=(a.1==b.1)&&((a.2.1.1==b.2.1.1)&&((a.2.1.2.1==b.2.1.2.1)&&((a.2.1.2.2==b.2.1.2.2)&&((a.2.2.1==b.2.2.1)&&(a.2.2.2==b.2.2.2)))))
def Loa (a b:List Row):Bool:=((a.length:Int)==(b.length:Int))&&(List.range a.length).all λ j=>Gab (a.getD j W7a) (b.getD j W7a)
def Iya (a b:List Row) (ha:a.length≤1000000000):Tot (λ k=>Hv k a b) (λ r=>r=Loa a b):=by
 unfold Hv Loa
 cases hl:(a.length:Int)==(b.length:Int)
 ·exact I3b (by rw[bne,hl];rfl) (I0b rfl)
 have hl':=eq_of_beq hl
 rw[Vx]
 refine I2b (by rw[bne,hl];rfl) (I1b (Q:=λ r=>r=bif (List.range a.length).all (λ j=>Gab (a.getD j W7a) (b.getD j W7a)) then .inr () else .inl false) ?_ (by
  rintro r rfl
  cases (List.range a.length).all (λ j=>Gab (a.getD j W7a) (b.getD j W7a))<;>exact I0b rfl))
 refine Iab (L:=λ k i=>Ez k a b (a.length:Int) i) _ _ () ?_ ?_
 ·simp (disch:=omega) only [Ez,dF]
  exact I0b rfl
 ·intro j hj Q no yes
  have e0:∀ l:List Row,l.getD j ((⟨#[]⟩:ByteArray),(((0:Int),((0:Int),(0:Int))),(false,(0:Int))))=l.getD j W7a:=λ _=>rfl
  simp (disch:=omega) only [Ez,dT,Vb,w64,e0]
  unfold Gab at no yes
  refine I6b (λ hc=>I0b (no ?_)) (λ hc=>yes ?_)
  ·rw[Vw]at hc;exact hc
  ·rw[Wm]at hc;exact hc
def Vma (w:Wld) (j:Nat):List Row:=bif Mb (Bs w) (j:Int) then (w.2.2.1.getD ((Bs w).getD 0 0).toNat Ac).2.2.1 else []
def Dqb (w:Wld) (j:Nat):Bool := !(decide (((w.2.2.1.getD j Ac).2.2.2.length:Int) > 0))&&Loa (w.2.2.1.getD j Ac).2.2.1 (Vma w j)
def Gbb (w:Wld) (j:Nat):Bool:=(P8 (w.2.2.1.getD j Ac).2.1).all (lvN w)
def Gtb (w:Wld):Bool:=(List.range w.2.2.1.length).all (Gbb w)&&(List.range w.2.2.1.length).all (Dqb w)
def Iza (a:List Row):Loa a [] = !(decide ((a.length:Int) > 0)):=by
 unfold Loa
 cases a with
 |nil=>rfl
 |cons x l=>
  rw[decide_eq_true (show ((x::l).length:Int) > 0 by rw[Vd];omega),show (((x::l).length:Int)==(([]:List Row).length:Int))=false by rw[beq_eq_false_iff_ne,Vd,Vk];omega]
  rfl
def J0a {w:Wld} {j:Int} (h:Mb (Bs w) j=true):0<(Bs w).length∧0≤(Bs w).getD 0 0∧(Bs w).getD 0 0<(w.2.2.1.length:Int):=by
 have hm:=O5.1 h
 have h0:=Ixb hm
 obtain⟨i,h1,_,h3⟩:=Xa.1 (show (Bs w).getD 0 0∈whr w.2.2.1 (R9 w.2.1 Pq) from A3 h0)
 exact⟨h0,by omega,by omega⟩
def Hlb (w:Wld):Prop:=∀ n∈w.2.2.1,∀ x∈n.2.1.1,x.1.size≤1000000000
def Qda {w:Wld} (hn:Hlb w) {n:Nod} (hm:n∈w.2.2.1) {s:ByteArray} (hs:Cqa n.2.1 s):s.size≤1000000000:=by
 obtain⟨i,h1,_⟩:=Ofa.1 hs
 obtain⟨h2,h3⟩:=O7 h1
 rw[← h3]
 exact hn n hm _ (A3 h2)
def Fxa (w:Wld) (hw:WIn w):Tot (λ k=>Co k w) (λ r=>r=(List.range w.2.2.1.length).all (Dqb w)):=by
 have hw':=hw
 obtain⟨hr,_,⟨h1,h2⟩,_⟩:=hw'
 have hwl:=Pj h1 (Qz hr Pq)
 rw[show whr w.2.2.1 (R9 w.2.1 Pq)=Bs w from rfl]at hwl
 unfold Co
 refine Icb (Tt w hr h1) ?_
 refine I1b (Q:=λ r=>r=bif (List.range w.2.2.1.length).all (Dqb w) then .inr () else .inl false) ?_ (by
  rintro r rfl
  cases (List.range w.2.2.1.length).all (Dqb w)<;>exact I0b rfl)
 refine Iab (L:=λ k i=>Cw k (Bs w) w.2.2.1 (w.2.2.1.length:Int) i w) _ _ () ?_ ?_
 ·simp (disch:=omega) only [Cw,dF]
  exact I0b rfl
 ·intro j hj Q no yes
  have hm:=h2 _ (A3 (d:=Ac) hj)
  have e1:∀ i,w.2.2.1.getD i ((0:Int),(([],[]),([],[])))=w.2.2.1.getD i Ac:=λ _=>rfl
  simp (disch:=omega) only [Cw,dT,Vb,w64,e1]
  unfold Dqb Vma at no yes
  refine I6b (λ hc=>I0b (no (by rw[hc];rfl))) (λ hc=>?_)
  rw[hc,Zh,Vx]at no yes
  refine Icb (F9a _ (j:Int) (by omega)) ?_
  cases hh:Mb (Bs w) (j:Int) with
  |false=>
   rw[hh,cond_false,Iza]at no yes
   refine I3b rfl (I6b (λ hc=>I0b (no (by rw[hc];rfl))) (λ hc=>yes (by rw[hc];rfl)))
  |true=>
   rw[hh,cond_true]at no yes
   obtain⟨l0,l1,l2⟩:=J0a hh
   refine I2b rfl (I4b (by omega) ?_)
   rw[show toNat 0=0 from rfl]
   refine I4b l1 (I4b l2 (Icb (Iya _ _ (by have:=hm.2.1.1;omega)) ?_))
   refine I6b (λ hc=>I0b (no ?_)) (λ hc=>yes ?_)
   ·rw[Vw]at hc;exact hc
   ·rw[Wm]at hc;exact hc
def J1a (w:Wld) (hw:WIn w) (hn:Hlb w):Tot (λ k=>Gg k w) (λ r=>r=Gtb w):=by
 have hw':=hw
 obtain⟨hr,_,⟨h1,h2⟩,_⟩:=hw'
 unfold Gg Gtb
 refine I1b (Q:=λ r=>r=bif (List.range w.2.2.1.length).all (Gbb w) then .inr w else .inl false) ?_ ?_
 ·refine Iab (L:=λ k i=>Ip k w.2.2.1 (w.2.2.1.length:Int) i w) _ _ w ?_ ?_
  ·simp (disch:=omega) only [Ip,dF]
   exact I0b rfl
  ·intro j hj Q no yes
   have hmem:=A3 (d:=Ac) hj
   have hm:=h2 _ hmem
   have e1:∀ i,w.2.2.1.getD i ((0:Int),(([],[]),([],[])))=w.2.2.1.getD i Ac:=λ _=>rfl
   simp (disch:=omega) only [Ip,dT,Vb,w64,e1]
   refine Icb (O1a _ hm.1.1 hm.1.2) ?_
   unfold Gbb at no yes
   have hlen:(P8 (w.2.2.1.getD j Ac).2.1).length≤2000000:=by
    have:=Uva (w.2.2.1.getD j Ac).2.1 (w.2.2.1.getD j Ac).2.1.1 []
    rw[Vk]at this
    have:=hm.1.1.2.1
    unfold P8
    omega
   have hsm:∀ s∈P8 (w.2.2.1.getD j Ac).2.1,s.size≤1000000000:=λ s hs=>Qda hn hmem (C1a.1 hs)
   generalize P8 (w.2.2.1.getD j Ac).2.1=l at *
   refine I1b (Q:=λ r=>r=bif l.all (lvN w) then .inr (w.2.2.1,(w.2.2.1.length:Int),(j:Int),w) else .inl false) ?_ ?_
   ·rw[P3 _ Ni]
    refine Iab (L:=λ k i=>Io k w.2.2.1 (w.2.2.1.length:Int) (j:Int) l (l.length:Int) i w) _ _ (w.2.2.1,(w.2.2.1.length:Int),(j:Int),w) ?_ ?_
    ·simp (disch:=omega) only [Io,dF]
     exact I0b rfl
    ·intro i hi Q no yes
     have e0:l.getD i (⟨#[]⟩:ByteArray)=l.getD i Ni:=rfl
     simp (disch:=omega) only [Io,dT,Vb,w64,e0]
     refine Icb (Qca w hw _ (hsm _ (A3 hi))) ?_
     exact Idb (λ hc=>I0b (no hc)) yes
   ·rintro r rfl
    cases hc:l.all (lvN w)
    ·exact I0b (no hc)
    simp (disch:=omega) only [cond_true,Ipb,w64]
    exact yes hc
 ·rintro r rfl
  cases (List.range w.2.2.1.length).all (Gbb w)
  ·exact I0b rfl
  refine Icb (Fxa w hw) ?_
  exact I0b rfl

def Vna {s:ByteArray} (h:B5 s=true):s.size≤1000000000:=by
 have:=Fi.1 (Va _ _ ▸ h:_∧_).2
 omega

section
open Go
end

def Fj:List Int:=[1,1,1,1,1,1,1,1,1,1,1,1]
def P5 (w:Wld) (i:Nat) (l:List ByteArray):Wld:=l.foldl (λ w s=>(R3 w i s Fj).2) w
def Pr (w:Wld) (i:Nat):Nat→Wld
 |0=>w
 |n+1=>(Sx (Pr w i n) i Fj).2
def qtA (w:Wld) (i:Nat):Wld:=wN w (w.2.2.1.set i (Dab (w.2.2.1.getD i Ac)).1)
def qtP (w:Wld) (i:Nat):Wld:=P5 (qtA w i) i (P8 ((qtA w i).2.2.1.getD i Ac).2.1)
def qtT (w:Wld) (i:Nat):Wld:=Pr (qtP w i) i ((qtP w i).2.2.1.getD i Ac).2.2.2.length
def qtN (w:Wld) (i:Nat):Wld:=(R6 (qtT w i) i Fj).2
def Qa (w:Wld):Wld:=run qtN w.2.2.1.length w
def P6 (w:Wld):Nat→Wld
 |0=>w
 |n+1=>Qa (P6 w n)
def J2a:Tot (λ k=>Ht k) (λ r=>r=Fj):=by
 unfold Ht
 refine I1b (Q:=λ r=>r=Fj) ?_ (by rintro r rfl;exact I0b rfl)
 refine I9b (L:=λ k i (s:List Int)=>Ev k s i) (Q:=λ r=>r=Fj) 12 (λ j s=>s=List.replicate j 1) ?_ ?_ 0 [] (Vs _) rfl
 ·rintro s rfl
  simp (disch:=omega) only [Ev,dF]
  exact I0b rfl
 ·rintro j s hj rfl next
  simp (disch:=omega) only [Ev,dT,w64]
  refine I8b (by rw[Lbb];simp only[Vd,Vk];omega) (next _ ?_)
  rw[List.replicate_succ']
def NW (w v:Wld):Prop:=∃ ns,v=wN w ns∧NO w.2.2.1 ns
def NW.refl {w:Wld} (h:WO w):NW w w:=⟨w.2.2.1,rfl,h.ns,rfl⟩
def NW.trans {u v w:Wld} (h1:NW u v) (h2:NW v w):NW u w:=by
 obtain⟨a,rfl,ha⟩:=h1
 obtain⟨b,rfl,hb⟩:=h2
 exact⟨b,rfl,hb.1,hb.2.trans ha.2⟩
def NW.wo {w v:Wld} (h:NW w v) (hw:WO w):WO v:=by
 obtain⟨ns,rfl,hn⟩:=h
 exact hw.other hn
def NW.len {w v:Wld} (h:NW w v):v.2.2.1.length=w.2.2.1.length:=by
 obtain⟨ns,rfl,hn⟩:=h
 exact hn.len
def Drb {w:Wld} (h:WO w) {i:Nat} (hi:i<w.2.2.1.length) (s:ByteArray) (rc:List Int):NW w (R3 w i s rc).2:=Oaa h.ns hi
def Dsb {w:Wld} (h:WO w) {i:Nat} (hi:i<w.2.2.1.length) (rc:List Int):NW w (Sx w i rc).2:=Oda h.ns hi
def Dtb {w:Wld} (h:WO w) {i:Nat} (hi:i<w.2.2.1.length) (rc:List Int):NW w (R6 w i rc).2:=Oca h.ns hi
def B0b {w:Wld} (h:WO w) {i:Nat} (hi:i<w.2.2.1.length):NW w (qtA w i):=⟨_,rfl,NO.set ⟨h.ns,rfl⟩ hi (O3a (h.ns.get hi)) rfl⟩
def Xd {i:Nat}:∀ (l:List ByteArray) {w:Wld},WO w→i<w.2.2.1.length→NW w (P5 w i l)
 |[],w,h,_=>NW.refl h
 |s::l,w,h,hi=>by
  have h1:=Drb h hi s Fj
  exact h1.trans (Xd l (h1.wo h) (by rw[h1.len];exact hi))
def Xe {i:Nat} {w:Wld} (h:WO w) (hi:i<w.2.2.1.length):∀ n,NW w (Pr w i n)
 |0=>NW.refl h
 |n+1=>by
  have h1:=Xe h hi n
  exact h1.trans (Dsb (h1.wo h) (by rw[h1.len];exact hi) Fj)
def B1b {w:Wld} (h:WO w) {i:Nat} (hi:i<w.2.2.1.length):NW w (qtP w i):=by
 have h1:=B0b h hi
 exact h1.trans (Xd _ (h1.wo h) (by rw[h1.len];exact hi))
def B2b {w:Wld} (h:WO w) {i:Nat} (hi:i<w.2.2.1.length):NW w (qtT w i):=by
 have h1:=B1b h hi
 exact h1.trans (Xe (h1.wo h) (by rw[h1.len];exact hi) _)
def Gcb {w:Wld} (h:WO w) {i:Nat} (hi:i<w.2.2.1.length):NW w (qtN w i):=by
 have h1:=B2b h hi
 exact h1.trans (Dtb (h1.wo h) (by rw[h1.len];exact hi) Fj)
def Voa {w:Wld} (h:WO w):∀ n,n≤w.2.2.1.length→NW w (run qtN n w)
 |0,_=>NW.refl h
 |n+1,hn=>by
  have h1:=Voa h n (by omega)
  rw[Nj]
  exact h1.trans (Gcb (h1.wo h) (by rw[h1.len];omega))
def Zka {w:Wld} (h:WO w):NW w (Qa w):=Voa h _ (Vv _)
def J3a {w:Wld} (h:WO w):∀ n,NW w (P6 w n)
 |0=>NW.refl h
 |n+1=>by
  have h1:=J3a h n
  exact h1.trans (Zka (h1.wo h))
def NW.sp {w v:Wld} (h:NW w v):v.2.2.2.2.2=w.2.2.2.2.2:=by obtain⟨ns,rfl,_⟩:=h;rfl
def Dta {w:Wld} (h:WO w):Tot (λ k=>Ad k w) (λ r=>r=Qa w):=by
 have hnl:=h.ns.1
 unfold Ad
 refine I1b J2a ?_
 rintro _ rfl
 refine I1b (Q:=λ r=>r=Qa w) ?_ (by rintro r rfl;exact I0b rfl)
 refine I9b (L:=λ k i (v:Wld)=>Br k Fj (w.2.2.1.length:Int) i v) (Q:=λ r=>r=Qa w) w.2.2.1.length (λ j v=>v=run qtN j w) ?_ ?_ 0 w (Vs _) rfl
 ·rintro v rfl
  simp (disch:=omega) only [Br,dF]
  exact I0b rfl
 ·rintro j v hj rfl next
  rw[Nj]at next
  have hn:=Voa h j (by omega)
  have hv:=hn.wo h
  have hl:=hn.len
  generalize run qtN j w=v at *
  have hj':j<v.2.2.1.length:=by omega
  have e0:v.2.2.1.getD j ((0:Int),(([],[]),([],[])))=v.2.2.1.getD j Ac:=rfl
  simp (disch:=omega) only [Br,dT,Vb,e0]
  refine I1b (Uxa _ (hv.ns.get hj')) ?_
  rintro _ rfl
  have e1:∀ ns:List Nod,ns.getD j ((0:Int),(([],[]),([],[])))=ns.getD j Ac:=λ _=>rfl
  have hsl:(v.2.2.1.set j (Dab (v.2.2.1.getD j Ac)).1).length=v.2.2.1.length:=Wb ..
  have hA:=B0b hv hj'
  have hAo:=hA.wo hv
  have hAl:=hA.len
  refine I4b (by rw[hsl];omega) ?_
  show Tot (λ k=>(I6 k ((qtA v j).2.2.1.getD j Ac).2.1).bind λ r6=>(B7 k Fj (j:Int) (w.2.2.1.length:Int) (j:Int) r6 (length r6:Int) 0 (qtA v j)).bind _) _
  have hg:=Y0 (hAo.ns.get (i:=j) (by omega))
  refine I1b (O1a _ hg.1.1 hg.1.2) ?_
  rintro _ rfl
  have hpl:(P8 ((qtA v j).2.2.1.getD j Ac).2.1).length≤2000000:=by
   have a:=Uva ((qtA v j).2.2.1.getD j Ac).2.1 ((qtA v j).2.2.1.getD j Ac).2.1.1 []
   rw[Vk]at a
   have:=hg.1.1.2.1
   unfold P8
   omega
  have hP:=B1b hv hj'
  have hPo:=hP.wo hv
  have hPl:=hP.len
  refine I1b (Q:=λ r=>r=(Fj,(j:Int),(w.2.2.1.length:Int),(j:Int),qtP v j)) ?_ ?_
  ·have hfull:qtP v j=P5 (qtA v j) j (P8 ((qtA v j).2.2.1.getD j Ac).2.1):=rfl
   rw[hfull]
   generalize P8 ((qtA v j).2.2.1.getD j Ac).2.1=l at *
   refine I9b (L:=λ k i (u:Wld)=>B7 k Fj (j:Int) (w.2.2.1.length:Int) (j:Int) l (l.length:Int) i u) (Q:=λ r=>r=(Fj,(j:Int),(w.2.2.1.length:Int),(j:Int),P5 (qtA v j) j l)) l.length (λ i u=>u=P5 (qtA v j) j (l.take i)) ?_ ?_ 0 _ (Vs _) rfl
   ·rintro u rfl
    simp (disch:=omega) only [B7,dF]
    exact I0b (by rw[Yr])
   ·rintro i u hi rfl next
    have hq:=Xd (i:=j) (l.take i) hAo (by omega)
    have hqo:=hq.wo hAo
    have hql:=hq.len
    have e2:l.getD i (⟨#[]⟩:ByteArray)=l.getD i Ni:=rfl
    simp (disch:=omega) only [B7,dT,Vb,w64,e2]
    refine I1b (Zga _ j _ Fj hqo.ring hqo.ns (by omega)) ?_
    rintro _ rfl
    refine next _ ?_
    unfold P5
    rw[Wl hi,Isb,Vc,Vj hi]
    rfl
  ·rintro _ rfl
   simp (disch:=omega) only [dT,Vb,e1]
   have hT:=B2b hv hj'
   have hTo:=hT.wo hv
   have hTl:=hT.len
   have hq60:=(C3.1 (hPo.ns.get (i:=j) (by omega)).1).2.2.2.2
   refine I1b (Q:=λ r=>r=(Fj,(j:Int),(w.2.2.1.length:Int),(j:Int),qtT v j)) ?_ ?_
   ·have hfull:qtT v j=Pr (qtP v j) j ((qtP v j).2.2.1.getD j Ac).2.2.2.length:=rfl
    rw[hfull]
    generalize ((qtP v j).2.2.1.getD j Ac).2.2.2.length=q at *
    refine I9b (L:=λ k i (u:Wld)=>Be k Fj (j:Int) (w.2.2.1.length:Int) (j:Int) (q:Int) i u) (Q:=λ r=>r=(Fj,(j:Int),(w.2.2.1.length:Int),(j:Int),Pr (qtP v j) j q)) q (λ i u=>u=Pr (qtP v j) j i) ?_ ?_ 0 _ (Vs _) rfl
    ·rintro u rfl
     simp (disch:=omega) only [Be,dF]
     exact I0b rfl
    ·rintro i u hi rfl next
     have hq:=Xe hPo (i:=j) (by omega) i
     have hqo:=hq.wo hPo
     have hql:=hq.len
     simp (disch:=omega) only [Be,dT,w64]
     refine I1b (Vla _ j Fj (Mv hqo.ring) hqo.ns (by omega)) ?_
     rintro _ rfl
     exact next _ rfl
   ·rintro _ rfl
    refine I1b (Vka (qtT v j) j Fj (Mv hTo.ring) hTo.ns (by omega)) ?_
    rintro _ rfl
    simp (disch:=omega) only [w64]
    exact next _ rfl
def Vpa (w:Wld):Wld:=bif Tr w then Qa w else w
def Qea {m:Nat} {w:Wld} (h:WIm m w) (hm:m≤1999000):Tot (λ k=>Lj k w) (λ r=>r=Vpa w):=by
 have hw:=h.win (by omega)
 unfold Lj Vpa
 refine I1b (Iwa h (by omega)) ?_
 rintro w rfl
 refine I1b (Bua w hw) ?_
 rintro b rfl
 cases hk:Tr w with
 |false=>exact I2b rfl (I0b rfl)
 |true=>
  refine I3b rfl (I1b (Dta (h.wo hk)) ?_)
  rintro _ rfl
  exact I0b rfl
def Lpa {m:Nat} {w:Wld} (h:WIm m w) (hm:m≤1999000) (n:Nat) (hn:n≤20):Tot (λ k=>Gr k w (n:Int)) (λ r=>r=bif Tr w then P6 w n else w):=by
 have hw:=h.win (by omega)
 unfold Gr
 refine I1b (Iwa h (by omega)) ?_
 rintro w rfl
 simp only[Um,Vp]
 refine I3b (Fi.2 ⟨by omega,by omega⟩) (I1b (Bua w hw) ?_)
 rintro b rfl
 cases hk:Tr w with
 |false=>exact I2b rfl (I0b rfl)
 |true=>
  have ho:=h.wo hk
  refine I3b rfl (I1b (Q:=λ r=>r=(Q8a,P6 w n)) ?_ (by rintro _ rfl;exact I0b rfl))
  refine I9b (L:=λ k i (v:Wld)=>Hl k (n:Int) i Q8a v) (Q:=λ r=>r=(Q8a,P6 w n)) n (λ j v=>v=P6 w j) ?_ ?_ 0 w (Vs _) rfl
  ·rintro v rfl
   simp (disch:=omega) only [Hl,dF]
   exact I0b rfl
  ·rintro j v hj rfl next
   simp (disch:=omega) only [Hl,dT,w64]
   refine I1b (Dta ((J3a ho j).wo ho)) ?_
   rintro _ rfl
   exact next _ rfl

end Go.Proofs.YtmhhjceoinoekaaGreat.Vf
