import Derived.Test.YtcgfpppmikhgmaaGreatMap
import Derived.Test.YtcgfpppmikhgmaaGreatMal
set_option linter.unusedVariables false
set_option linter.unusedSimpArgs false
namespace Go.Proofs.YtcgfpppmikhgmaaGreat.Vf
open Go

abbrev Evt:=Int×Int×ByteArray×List Int×Int×List Int
def Cfb (e:Evt):Prop:=Kj e.2.2.1∧e.2.2.2.1.length≤1000000000∧(-9223372036854775808≤e.2.2.2.2.1∧e.2.2.2.2.1≤9223372036854775807)∧e.2.2.2.2.2.length≤4000000000000
def Gha (l:List Int):List Bool:=l.map (· == 1)
def crN (n:Nod) (kp:List Bool):Nod:=(n.1,Se n.2.1 kp,n.2.2)
theorem D4b {n:Nod} {kp:List Bool} (hn:NG n):NG (crN n kp):=Dka hn (Rva hn.g)
def Cgb (w:Wld) (i:Nat) (s:ByteArray) (b:Int):Bool×Wld:=bif (V2a (w.2.2.1.getD i Cr) s b).2 then (true,(w.1,w.2.1,w.2.2.1.set i (V2a (w.2.2.1.getD i Cr) s b).1,w.2.2.2.1,w.2.2.2.2.1,spl w.2.2.2.2.2 s)) else (false,w)
def Nja (w:Wld) (e:Evt) (i:Nat):Bool×Wld:=
 bif e.1==3 then Sea w i e.2.2.1 e.2.2.2.2.2 else bif e.1==4 then Sha w i e.2.2.2.2.2 else bif e.1==5 then Sja w i e.2.2.2.2.2 else
 bif e.1==6 then (true,wN w (w.2.2.1.set i (Deb (w.2.2.1.getD i Cr)).1)) else
 bif e.1==7 then (true,wN w (w.2.2.1.set i (crN (w.2.2.1.getD i Cr) (Gha e.2.2.2.2.2)))) else Cgb w i e.2.2.1 e.2.2.2.2.1
theorem Sna (w:Wld) (e:Evt) (i:Nat) (hei:e.2.1=(i:Int)) (he:Cfb e) (hr:Ir w.2.1 w.1=true) (hn:NS w.2.2.1) (hi:i<w.2.2.1.length) (hsp:w.2.2.2.2.2.length≤2000000):
  Tot (λ k=>Ar k w e) (λ r=>r=Nja w e i):=by
 have hni:=hn.get hi
 have e0:w.2.2.1.getD i ((0:Int),(([],[]),([],[])))=w.2.2.1.getD i Cr:=rfl
 obtain ⟨he1,he2,he3,he4⟩:=he
 unfold Ar Nja
 cases e.1==3 with
 |true=>
  rw [hei]
  refine Tot.yes rfl (Tot.bind (Vva w i _ _ hr hn hi) ?_)
  rintro r rfl
  exact Tot.pure rfl
 |false=>
  refine Tot.no rfl ?_
  cases e.1==4 with
  |true=>
   rw [hei]
   refine Tot.yes rfl (Tot.bind (Sia w i _ (Nz hr) hn hi) ?_)
   rintro r rfl
   exact Tot.pure rfl
  |false=>
   refine Tot.no rfl ?_
   cases e.1==5 with
   |true=>
    rw [hei]
    refine Tot.yes rfl (Tot.bind (Ska w i _ (Nz hr) hn hi) ?_)
    rintro r rfl
    exact Tot.pure rfl
   |false=>
    refine Tot.no rfl ?_
    cases e.1==6 with
    |true=>
     refine Tot.yes rfl ?_
     simp (disch:=omega) only [hei,dT,Int.toNat_natCast,e0]
     refine Tot.bind (Rza _ hni.g) ?_
     rintro r rfl
     exact Tot.pure rfl
    |false=>
     refine Tot.no rfl ?_
     cases e.1==7 with
     |true=>
      refine Tot.yes rfl (Tot.bind (Q:=λ r=>r=(Gha e.2.2.2.2.2,w,e)) ?_ ?_)
      ·refine Tot.up (L:=λ k j (s:List Bool)=>Cj k s j w e) (Q:=λ r=>r=(Gha e.2.2.2.2.2,w,e)) e.2.2.2.2.2.length (λ j s=>s=Gha (e.2.2.2.2.2.take j)) ?_ ?_ 0 [] (Nat.zero_le _) rfl
       ·rintro s rfl
        simp (disch:=omega) only [Cj,dF]
        exact Tot.pure (by rw [List.take_length])
       ·rintro j s hj rfl next
        simp (disch:=omega) only [Cj,dT,Int.toNat_natCast,w64]
        have hk:(Gha (e.2.2.2.2.2.take j)).length=j:=by unfold Gha; rw [List.length_map,List.length_take]; omega
        refine Tot.ble (by rw [hk,List.length_singleton]; omega) (next _ ?_)
        unfold Gha
        rw [List.take_succ_eq_append_getElem hj,List.map_append,List.getD_eq_getElem?_getD,List.getElem?_eq_getElem hj]
        rfl
      ·rintro r rfl
       simp (disch:=omega) only [hei,dT,Int.toNat_natCast,e0]
       refine Tot.bind (Rya _ _ hni.g (by unfold Gha; rw [List.length_map]; exact he4)) ?_
       rintro r rfl
       exact Tot.pure rfl
     |false=>
      refine Tot.no rfl ?_
      simp (disch:=omega) only [hei,dT,Int.toNat_natCast,e0]
      refine Tot.bind (Z5 _ _ _ (Asa hni) he3.2 he3.1) ?_
      rintro r rfl
      unfold Cgb
      rw [cond_false,cond_false,cond_false,cond_false,cond_false]
      generalize V2a (w.2.2.1.getD i Cr) e.2.2.1 e.2.2.2.2.1=q
      cases h:q.2 with
      |true=>
       refine Tot.yes rfl (Tot.bind (Sma _ _ (by omega)) ?_)
       rintro r rfl
       exact Tot.pure rfl
      |false=>exact Tot.no rfl (Tot.pure rfl)
def Soa (w:Wld) (i wt:Int):Bool×Wld:=bif !(inR i 0 ((w.1.length:Int) - 1)) then (false,w) else bif !(inR wt 1 1000) then (false,w) else
 (decide ((Isa w.2.1 (wgt w.1 i.toNat wt)).2≥0),(wgt w.1 i.toNat wt,(Isa w.2.1 (wgt w.1 i.toNat wt)).1,w.2.2))
theorem Spa (w:Wld) (i wt:Int) (hr:Ir w.2.1 w.1=true):Tot (λ k=>Gy k w i wt) (λ r=>r=Soa w i wt):=by
 have h12:=(Hs.1 (Dj.1 hr).1).2.2.2
 unfold Gy Soa
 rw [w64 (n:=(w.1.length:Int) - 1) (by omega) (by omega)]
 simp only [Ng,Option.bind_some]
 cases h1:inR i 0 ((w.1.length:Int) - 1) with
 |false=>exact Tot.yes rfl (Tot.pure rfl)
 |true=>
  refine Tot.no rfl ?_
  cases h2:inR wt 1 1000 with
  |false=>exact Tot.yes rfl (Tot.pure rfl)
  |true=>
   refine Tot.no rfl ?_
   obtain ⟨i0,i1⟩:=Ew.1 h1
   obtain ⟨w0,w1⟩:=Ew.1 h2
   simp (disch:=omega) only [dT]
   refine Tot.bind (Rsa (r:=w.2.1) (l:=wgt w.1 i.toNat wt) (Lna hr (by omega) w0 w1)) ?_
   rintro r rfl
   exact Tot.pure rfl
def A6b (r:Int×Wld):Bool×Wld:=bif r.1 != 2 then (r.1 != 3,r.2) else (false,r.2)
def doW (w:Wld) (e:Evt):Bool×Wld:=
 bif e.1==1 then A6b (ask w e.2.2.1 ((0,0,0),false,e.2.2.2.1) e.2.2.2.2.1 e.2.2.2.2.2) else
 bif e.1==2 then A6b (ask w e.2.2.1 ((0,0,0),true,[]) e.2.2.2.2.1 e.2.2.2.2.2) else
 bif e.1==3 || (e.1==4 || (e.1==5 || (e.1==6 || (e.1==7 || e.1==8)))) then (bif inR e.2.1 0 ((w.2.2.1.length:Int) - 1) then Nja w e e.2.1.toNat else (false,w)) else
 bif e.1==9 then Soa w e.2.1 e.2.2.2.2.1 else (false,w)
theorem C1b (w:Wld) (e:Evt) (he:Cfb e) (hr:Ir w.2.1 w.1=true) (hn:NS w.2.2.1) (hst:G3 w.2.2.2.1=true) (hw:w.2.2.2.2.1.length≤2000000) (hsp:w.2.2.2.2.2.length≤2000000):
  Tot (λ k=>Ii k w e) (λ r=>r=doW w e):=by
 have hnl:=hn.1
 have node:∀ {f:Nat→Option (Bool×Wld)} ,Tot (λ k=>(A8 e.2.1 0 (IntKind.wrap .i64 ((List.length w.2.2.1:Int) - 1))).bind λ r4=>cond r4 ((Ar k w e).bind λ r5=>some (r5.1,r5.2)) (some (false,w))) (λ r=>r=bif inR e.2.1 0 ((w.2.2.1.length:Int) - 1) then Nja w e e.2.1.toNat else (false,w)):=by
  intro f
  rw [w64 (n:=(w.2.2.1.length:Int) - 1) (by omega) (by omega)]
  simp only [Ng,Option.bind_some]
  cases h1:inR e.2.1 0 ((w.2.2.1.length:Int) - 1) with
  |false=>exact Tot.no rfl (Tot.pure rfl)
  |true=>
   obtain ⟨i0,i1⟩:=Ew.1 h1
   refine Tot.yes rfl (Tot.bind (Sna w e e.2.1.toNat (by omega) he hr hn (by omega) hsp) ?_)
   rintro r rfl
   exact Tot.pure rfl
 have answer:∀ (q:Int×Wld),Tot (λ _=>cond (q.1 != 2) (some (q.1 != 3,q.2)) (some (false,q.2))) (λ r=>r=A6b q):=by
  intro q
  unfold A6b
  cases q.1 != 2<;>exact Tot.pure rfl
 unfold Ii doW
 cases e.1==1 with
 |true=>
  refine Tot.yes rfl (Tot.ble (by have:=he.2.1; rw [List.length_nil]; omega) (Tot.bind (Sda w e.2.2.1 ((0,0,0),false,e.2.2.2.1) e.2.2.2.2.1 e.2.2.2.2.2 hr hn hst he.1 (λ h=>by cases h) hw) ?_))
  rintro q rfl
  exact answer _
 |false=>
  refine Tot.no rfl ?_
  cases e.1==2 with
  |true=>
   refine Tot.yes rfl (Tot.bind (Sda w e.2.2.1 ((0,0,0),true,[]) e.2.2.2.2.1 e.2.2.2.2.2 hr hn hst he.1 (λ _=>rfl) hw) ?_)
   rintro q rfl
   exact answer _
  |false=>
   refine Tot.no rfl ?_
   cases e.1==3 with
   |true=>exact Tot.yes rfl (node (f:=λ _=>none))
   |false=>
    refine Tot.no rfl ?_
    cases e.1==4 with
    |true=>exact Tot.yes rfl (node (f:=λ _=>none))
    |false=>
     refine Tot.no rfl ?_
     cases e.1==5 with
     |true=>exact Tot.yes rfl (node (f:=λ _=>none))
     |false=>
      refine Tot.no rfl ?_
      cases e.1==6 with
      |true=>exact Tot.yes rfl (node (f:=λ _=>none))
      |false=>
       refine Tot.no rfl ?_
       cases e.1==7 with
       |true=>exact Tot.yes rfl (node (f:=λ _=>none))
       |false=>
        refine Tot.no rfl ?_
        cases e.1==8 with
        |true=>exact Tot.yes rfl (node (f:=λ _=>none))
        |false=>
         refine Tot.no rfl ?_
         cases e.1==9 with
         |true=>
          refine Tot.yes rfl (Tot.bind (Spa w _ _ hr) ?_)
          rintro r rfl
          exact Tot.pure rfl
         |false=>exact Tot.no rfl (Tot.pure rfl)

theorem Gia {a b c:Stp} (h1:sle a b=false) (h2:sle b c=false):sle a c=false:=by
 cases h:sle a c with
 |false=>rfl
 |true=>
  have n1:¬ _:=λ k=>by rw [Qj.2 k] at h1; cases h1
  have n2:¬ _:=λ k=>by rw [Qj.2 k] at h2; cases h2
  have h3:=Qj.1 h
  omega
theorem Gja {a b:Stp} (h:sle a b=true):sle b a=false:=by
 cases h':sle b a with
 |false=>rfl
 |true=>
  have h1:=Qj.1 h
  have h2:=Qj.1 h'
  omega
def Gsa (ws:List Wri):Prop:=∀ x∈ws,Br x.1=true∧G6 x.2.1=true∧Aj x.2.1.2.2
def IsW (ws:List Wri) (s:ByteArray) (f:Fil):Prop:=∃ x∈ws,x.1=s∧x.2.1=f
def EO (ws:List Wri) (sp:List ByteArray) (s:ByteArray) (b:List Int):Prop:=∃ f,IsW ws s f∧(b=Li f∨(s∈sp∧∃ n,n<8 * (Li f).length∧b=Mx (Li f) n))
def ED (ws:List Wri) (sp:List ByteArray) (d:Dsk) (s:ByteArray):Prop:=
 (∀ b,gt d.1 s=some b→EO ws sp s b)∧(∀ b,gt d.2 s=some b→EO ws sp s b)∧
 (s∉sp→∀ b f,gt d.2 s=some b→Nk b=some f→∃ b' f',gt d.1 s=some b'∧Nk b'=some f'∧sle f'.1 f.1=false)
def DI (ws:List Wri) (sp:List ByteArray) (d:Dsk):Prop:=∀ s,ED ws sp d s
def HD (d:Dsk) (s:ByteArray) (st:Stp):Prop:=∃ b f,gt d.2 s=some b∧Nk b=some f∧sle f.1 st=false
def MO (sp:List ByteArray) (d d':Dsk):Prop:=∀ s,s∉sp→∀ st,HD d s st→HD d' s st
theorem IsW.good {ws:List Wri} (hw:Gsa ws) {s:ByteArray} {f:Fil} (h:IsW ws s f):Br s=true∧G6 f=true∧Aj f.2.2:=by
 obtain ⟨x,hx,rfl,rfl⟩:=h
 exact hw x hx
theorem EO.get {ws:List Wri} {sp:List ByteArray} (hw:Gsa ws) {s:ByteArray} {b:List Int} (h:EO ws sp s b) {f:Fil} (hf:Nk b=some f):IsW ws s f∧b=Li f:=by
 obtain ⟨g,h1,h2⟩:=h
 obtain ⟨_,g2,g3⟩:=h1.good hw
 rcases h2 with rfl|⟨_,n,hn,rfl⟩
 ·rw [W5 g2 g3] at hf
  cases hf
  exact ⟨h1,rfl⟩
 ·rw [Vca g2 hn] at hf; cases hf
theorem EO.fine {ws:List Wri} {sp:List ByteArray} (hw:Gsa ws) {s:ByteArray} {b:List Int} (h:EO ws sp s b) (hs:s∉sp):∃ f,Nk b=some f∧IsW ws s f:=by
 obtain ⟨g,h1,h2⟩:=h
 obtain ⟨_,g2,g3⟩:=h1.good hw
 rcases h2 with rfl|⟨h,_⟩
 ·exact ⟨g,W5 g2 g3,h1⟩
 ·exact absurd h hs
theorem EO.mono {ws ws':List Wri} {sp sp':List ByteArray} (h1:∀ x∈ws,x∈ws') (h2:∀ s∈sp,s∈sp') {s:ByteArray} {b:List Int} (h:EO ws sp s b):EO ws' sp' s b:=by
 obtain ⟨g,⟨x,hx,e⟩,h3⟩:=h
 refine ⟨g,⟨x,h1 x hx,e⟩,?_⟩
 rcases h3 with h3|⟨h3,h4⟩
 ·exact .inl h3
 ·exact .inr ⟨h2 s h3,h4⟩
theorem ED.mono {ws ws':List Wri} {sp sp':List ByteArray} (h1:∀ x∈ws,x∈ws') (h2:∀ s∈sp,s∈sp') {d:Dsk} {s:ByteArray} (h:ED ws sp d s):ED ws' sp' d s:=
 ⟨λ b hb=>(h.1 b hb).mono h1 h2,λ b hb=>(h.2.1 b hb).mono h1 h2,λ hs=>h.2.2 (λ c=>hs (h2 s c))⟩
theorem DI.mono {ws ws':List Wri} {sp sp':List ByteArray} (h1:∀ x∈ws,x∈ws') (h2:∀ s∈sp,s∈sp') {d:Dsk} (h:DI ws sp d):DI ws' sp' d:=λ s=>(h s).mono h1 h2
theorem ED.same {ws:List Wri} {sp:List ByteArray} {d d':Dsk} {s:ByteArray} (h:ED ws sp d s) (e1:gt d'.1 s=gt d.1 s) (e2:gt d'.2 s=gt d.2 s):ED ws sp d' s:=by
 unfold ED
 rw [e1,e2]
 exact h
theorem HD.same {d d':Dsk} {s:ByteArray} {st:Stp} (h:HD d s st) (e2:gt d'.2 s=gt d.2 s):HD d' s st:=by
 unfold HD
 rw [e2]
 exact h
theorem MO.refl (sp:List ByteArray) (d:Dsk):MO sp d d:=λ _ _ _ h=>h
theorem MO.trans {sp:List ByteArray} {a b c:Dsk} (h1:MO sp a b) (h2:MO sp b c):MO sp a c:=λ s hs st h=>h2 s hs st (h1 s hs st h)
section
variable {ws:List Wri} {sp:List ByteArray} {d:Dsk} {s:ByteArray}
theorem ED.ge (h:ED ws sp d s) (hs:s∉sp) {st:Stp} (hh:HD d s st):∃ b f,gt d.1 s=some b∧Nk b=some f∧sle f.1 st=false:=by
 obtain ⟨b,f,h1,h2,h3⟩:=hh
 obtain ⟨b',f',h4,h5,h6⟩:=h.2.2 hs b f h1 h2
 exact ⟨b',f',h4,h5,Gia h6 h3⟩
theorem Zka (hd:Al d=true) (h:DI ws sp d):DI ws sp (d.1,sy d s):=by
 intro t
 by_cases ht:s=t
 ·subst ht
  have e:gt (sy d s) s=gt d.1 s:=by rw [Ila hd,if_pos rfl]
  refine ⟨(h s).1,λ b hb=>(h s).1 b (by rw [← e]; exact hb),λ hs b f hb hf=>⟨b,f,by rw [← e]; exact hb,hf,Rd _⟩⟩
 ·exact (h t).same rfl (by show gt (sy d s) t=_; rw [Ila hd,if_neg ht])
theorem C2b (hd:Al d=true) (h:DI ws sp d):MO sp d (d.1,sy d s):=by
 intro t ht st hh
 by_cases hst:s=t
 ·subst hst
  obtain ⟨b,f,h1,h2,h3⟩:=(h s).ge ht hh
  exact ⟨b,f,by show gt (sy d s) s=_; rw [Ila hd,if_pos rfl,h1],h2,h3⟩
 ·exact hh.same (by show gt (sy d s) t=_; rw [Ila hd,if_neg hst])
theorem D5b (hw:Gsa ws) (hd:Al d=true) (h:DI ws sp d) {f:Fil} (hf:IsW ws s f) (hn:∀ o,old d s=some o→sle o.1 f.1=true):DI ws sp (wr d.1 s (Li f),d.2):=by
 intro t
 by_cases ht:s=t
 ·subst ht
  have e:gt (wr d.1 s (Li f)) s=some (Li f):=by rw [Ika (Mv hd),if_pos rfl]
  obtain ⟨_,g2,g3⟩:=hf.good hw
  refine ⟨λ b hb=>?_,(h s).2.1,λ hs b g hb hg=>⟨Li f,f,e,W5 g2 g3,?_⟩⟩
  ·rw [show gt (wr d.1 s (Li f)) s=some b from hb] at e
   cases e
   exact ⟨f,hf,.inl rfl⟩
  ·obtain ⟨b',f',k1,k2,k3⟩:=(h s).2.2 hs b g hb hg
   have:=hn f' (by unfold old; rw [k1]; exact k2)
   exact Gia (Gja this) k3
 ·exact (h t).same (by show gt (wr d.1 s (Li f)) t=_; rw [Ika (Mv hd),if_neg ht]) rfl
theorem Sqa (hw:Gsa ws) (hd:DG d) (h:DI ws sp d) {f:Fil} {sure:Bool} (hf:IsW ws s f):DI ws sp (keep d s f sure).1∧MO sp d (keep d s f sure).1:=by
 obtain ⟨g1,g2,g3⟩:=hf.good hw
 rw [Fwa hd.1 g1 g2]
 rcases C0a (f:=f) (sure:=sure) hd g1 with k|⟨o,_,_,k,hg,h3⟩|⟨h1,h2,k,hg,h3⟩
 ·rw [k]; exact ⟨h,MO.refl _ _⟩
 ·rcases h3 with ⟨_,h3⟩|⟨_,h3⟩
  ·rw [h3]; exact ⟨h,MO.refl _ _⟩
  ·rw [h3]; exact ⟨Zka hd.1 h,C2b hd.1 h⟩
 ·have hw':=D5b hw hd.1 h hf h1
  rcases h3 with ⟨_,h3⟩|⟨_,h3⟩
  ·rw [h3]; exact ⟨hw',λ t _ st hh=>hh.same rfl⟩
  ·rw [h3]; exact ⟨Zka h2.1 hw',(show MO sp d (wr d.1 s (Li f),d.2) from λ t _ st hh=>hh.same rfl).trans (C2b h2.1 hw')⟩
theorem Sra (hw:Gsa ws) (hd:DG d) {f:Fil} (hf:IsW ws s f) (hc:(keep d s f true).2=0∨(keep d s f true).2=1):HD (keep d s f true).1 s f.1:=by
 obtain ⟨g1,g2,g3⟩:=hf.good hw
 rw [Fwa hd.1 g1 g2] at hc ⊢
 obtain ⟨o,g,b,ho,_,e,h1,h2,h3⟩:=Rba hd g1 g2 g3 hc
 rw [e]
 exact ⟨b,g,by show gt (sy o s) s=_; rw [Ila ho.1,if_pos rfl,h1],h2,h3⟩
theorem Zla (hd:DG d) (h:DI ws sp d) (kp:List Bool):DI ws sp (Se d kp):=by
 intro t
 rcases Rwa (d:=d) (kp:=kp) t with e|⟨e1,e2⟩
 ·rw [e]; exact h t
 ·unfold ED
  rw [e1]
  have eo:∀ b,gt (Se d kp).1 t=some b→EO ws sp t b:=by
   intro b hb
   rcases e2 with e2|e2
   ·exact (h t).1 b (by rw [← e2]; exact hb)
   ·exact (h t).2.1 b (by rw [← e2]; exact hb)
  exact ⟨eo,eo,λ _ b f hb hf=>⟨b,f,hb,hf,Rd _⟩⟩
theorem Zma (hd:DG d) (h:DI ws sp d) (kp:List Bool):MO sp d (Se d kp):=by
 intro t ht st hh
 rcases Rwa (d:=d) (kp:=kp) t with e|⟨e1,e2⟩
 ·rw [e]; exact hh
 ·unfold HD
  rw [e1]
  rcases e2 with e2|e2
  ·rw [e2]; exact (h t).ge ht hh
  ·rw [e2]; exact hh
theorem Vxa (hw:Gsa ws) (hd:DG d) (h:DI ws sp d):DI ws sp (O3 d).1∧MO sp d (O3 d).1:=by
 obtain ⟨_,hc⟩:=A1a d.1 (d,0) hd
 have hc':∀ t,(t∈Dra d.1→gt (O3 d).1.1 t=none∧gt (O3 d).1.2 t=none)∧(t∉Dra d.1→gt (O3 d).1.1 t=gt d.1 t∧gt (O3 d).1.2 t=gt d.2 t):=hc
 have hb:∀ t,t∈Dra d.1→t∈sp:=by
  intro t ht
  obtain ⟨b,h1,h2⟩:=(Vfa hd.1).1 ht
  by_cases hs:t∈sp
  ·exact hs
  ·obtain ⟨f,hf,_⟩:=((h t).1 b h1).fine hw hs
   rw [hf] at h2; cases h2
 constructor
 ·intro t
  by_cases ht:t∈Dra d.1
  ·obtain ⟨e1,e2⟩:=(hc' t).1 ht
   unfold ED
   rw [e1,e2]
   exact ⟨λ b hb=>(by cases hb),λ b hb=>(by cases hb),λ _ b f hb=>(by cases hb)⟩
  ·obtain ⟨e1,e2⟩:=(hc' t).2 ht
   exact (h t).same e1 e2
 ·intro t ht st hh
  exact hh.same ((hc' t).2 (λ c=>ht (hb t c))).2
theorem C3b (hd:DG d) (h:DI ws sp d) (hs:Br s=true):DI ws sp (syD (rmD d s).1 s).1∧∀ t,t≠s→∀ st,HD d t st→HD (syD (rmD d s).1 s).1 t st:=by
 have hr:DI ws sp (rmD d s).1∨True := .inr trivial
 unfold rmD
 cases hg:gt d.1 s with
 |none=>
  have e:(bif (none:Option (List Int)).isSome then ((cut d.1 s,d.2),true) else (d,false)).1=d:=rfl
  rw [e]
  unfold syD
  by_cases hl:(sy d s).length≤60
  ·rw [decide_eq_true hl]
   exact ⟨Zka hd.1 h,λ t ht st hh=>hh.same (by show gt (sy d s) t=_; rw [Ila hd.1,if_neg (Ne.symm ht)])⟩
  ·rw [decide_eq_false hl]; exact ⟨h,λ t ht st hh=>hh⟩
 |some b=>
  have e:(bif (some b:Option (List Int)).isSome then ((cut d.1 s,d.2),true) else (d,false)).1=(cut d.1 s,d.2):=rfl
  rw [e]
  have hd':Al (cut d.1 s,d.2)=true:=D5.2 ⟨Uo (D5.1 hd.1).1,(D5.1 hd.1).2⟩
  have e1:∀ t,gt (cut d.1 s) t=if s=t then none else gt d.1 t:=λ t=>Tc (Mv hd.1)
  have e2:∀ t,gt (sy (cut d.1 s,d.2) s) t=if s=t then none else gt d.2 t:=λ t=>by
   rw [Ila hd']
   by_cases hst:s=t
   ·rw [if_pos hst,if_pos hst]; show gt (cut d.1 s) s=none; rw [e1,if_pos rfl]
   ·rw [if_neg hst,if_neg hst]
  have hlen:(sy (cut d.1 s,d.2) s).length≤60:=by
   have:sy (cut d.1 s,d.2) s=cut d.2 s:=by
    unfold sy
    have:=e1 s
    rw [if_pos rfl] at this
    rw [show gt (cut d.1 s,d.2).1 s=none from this]
   rw [this]
   exact Nat.le_trans Nv.length_le (Ac.1 (D5.1 hd.1).2).2.2
  unfold syD
  rw [decide_eq_true hlen]
  constructor
  ·intro t
   show ED ws sp (cut d.1 s,sy (cut d.1 s,d.2) s) t
   by_cases hst:s=t
   ·unfold ED
    dsimp only
    rw [e1,e2,if_pos hst,if_pos hst]
    exact ⟨λ b hb=>(by cases hb),λ b hb=>(by cases hb),λ _ b f hb=>(by cases hb)⟩
   ·exact (h t).same (by show gt (cut d.1 s) t=_; rw [e1,if_neg hst]) (by show gt (sy (cut d.1 s,d.2) s) t=_; rw [e2,if_neg hst])
  ·intro t ht st hh
   exact hh.same (by show gt (sy (cut d.1 s,d.2) s) t=_; rw [e2,if_neg (Ne.symm ht)])
theorem C4b (hw:Gsa ws) (hd:DG d) (h:DI ws sp d) {n:Int} (hl:(lkD d s).2=0) (hr:(Lca d s n).2=true) (sp':List ByteArray) (hsp:∀ t,t∈sp'↔t=s∨t∈sp):DI ws sp' (Lca d s n).1∧MO sp' d (Lca d s n).1∧∃ f,IsW ws s f:=by
 obtain ⟨b,hb,hf⟩:=Z3.1 (show lkD d s=((lkD d s).1,0) by rw [← hl])
 obtain ⟨hW,e⟩:=((h s).1 b hb).get hw hf
 have hsub:∀ t∈sp,t∈sp':=λ t ht=>(hsp t).2 (.inr ht)
 generalize (lkD d s).1=f at *
 unfold Lca at hr ⊢
 rw [hb] at hr ⊢
 dsimp only at hr ⊢
 cases hin:inR n 0 (8 * (b.length:Int) - 1) with
 |false=>rw [hin] at hr; cases hr
 |true=>
  rw [cond_true]
  obtain ⟨n0,n1⟩:=Ew.1 hin
  have hn:n.toNat<8 * (Li f).length:=by rw [← e]; omega
  have e1:∀ t,gt (wr d.1 s (Mx b n.toNat)) t=if s=t then some (Mx b n.toNat) else gt d.1 t:=λ t=>Ika (Mv hd.1)
  have e2:∀ t,gt (bif decide (gt d.2 s=some b) then wr d.2 s (Mx b n.toNat) else d.2) t=if s=t∧gt d.2 s=some b then some (Mx b n.toNat) else gt d.2 t:=by
   intro t
   by_cases hg:gt d.2 s=some b
   ·rw [decide_eq_true hg,cond_true,Ika (Qp hd.1)]
    by_cases hst:s=t
    ·rw [if_pos hst,if_pos ⟨hst,hg⟩]
    ·rw [if_neg hst,if_neg (λ c=>hst c.1)]
   ·rw [decide_eq_false hg,cond_false,if_neg (λ c=>hg c.2)]
  have hflip:EO ws sp' s (Mx b n.toNat):=⟨f,hW,.inr ⟨(hsp s).2 (.inl rfl),n.toNat,hn,by rw [e]⟩⟩
  refine ⟨λ t=>?_,λ t ht st hh=>?_,f,hW⟩
  ·by_cases hst:s=t
   ·subst hst
    refine ⟨λ x hx=>?_,λ x hx=>?_,λ c=>absurd ((hsp s).2 (.inl rfl)) c⟩
    ·have:=e1 s
     rw [if_pos rfl] at this
     rw [show gt (wr d.1 s (Mx b n.toNat)) s=some x from hx] at this
     cases this
     exact hflip
    ·have:=e2 s
     rw [show gt (bif decide (gt d.2 s=some b) then wr d.2 s (Mx b n.toNat) else d.2) s=some x from hx] at this
     by_cases hg:gt d.2 s=some b
     ·rw [if_pos ⟨rfl,hg⟩] at this
      cases this
      exact hflip
     ·rw [if_neg (λ c=>hg c.2)] at this
      exact ((h s).2.1 x this.symm).mono (λ _ h=>h) hsub
   ·refine ((h t).mono (λ _ h=>h) hsub).same ?_ ?_
    ·show gt (wr d.1 s (Mx b n.toNat)) t=_
     rw [e1,if_neg hst]
    ·show gt (bif decide (gt d.2 s=some b) then wr d.2 s (Mx b n.toNat) else d.2) t=_
     rw [e2,if_neg (λ c=>hst c.1)]
  ·have hst:s≠t:=λ c=>ht ((hsp t).2 (.inl c.symm))
   exact hh.same (by show gt (bif decide (gt d.2 s=some b) then wr d.2 s (Mx b n.toNat) else d.2) t=_; rw [e2,if_neg (λ c=>hst c.1)])
end

def NI (ws:List Wri) (sp:List ByteArray) (n:Nod):Prop:=NG n∧DI ws sp n.2.1∧(∀ r∈n.2.2.1,M9 ws r=true)∧∀ r∈n.2.2.2,M9 ws r=true
def KN (ns:List Nod) (s:ByteArray) (st:Stp):Prop:=∃ i,i<ns.length∧HD (ns.getD i Cr).2.1 s st
def MS (sp:List ByteArray) (ns ns':List Nod):Prop:=∀ s,s∉sp→∀ st,KN ns s st→KN ns' s st
theorem Aca {ws:List Wri} {r:Row}:M9 ws r=true↔∃ x∈ws,Ub x.1 x.2.1=r:=by
 unfold M9
 rw [List.any_eq_true]
 exact ⟨λ ⟨x,h1,h2⟩=>⟨x,h1,Gfa.1 h2⟩,λ ⟨x,h1,h2⟩=>⟨x,h1,Gfa.2 h2⟩⟩
theorem C7a {ws ws':List Wri} (h:∀ x∈ws,x∈ws') {r:Row} (hr:M9 ws r=true):M9 ws' r=true:=by
 obtain ⟨x,h1,h2⟩:=Aca.1 hr
 exact Aca.2 ⟨x,h x h1,h2⟩
theorem Vya {ws:List Wri} {s:ByteArray} {f:Fil} (h:IsW ws s f):M9 ws (Ub s f)=true:=by
 obtain ⟨x,h1,rfl,rfl⟩:=h
 exact Aca.2 ⟨x,h1,rfl⟩
theorem NI.mono {ws ws':List Wri} {sp sp':List ByteArray} (h1:∀ x∈ws,x∈ws') (h2:∀ s∈sp,s∈sp') {n:Nod} (h:NI ws sp n):NI ws' sp' n:=
 ⟨h.1,h.2.1.mono h1 h2,λ r hr=>C7a h1 (h.2.2.1 r hr),λ r hr=>C7a h1 (h.2.2.2 r hr)⟩
def NR (ws:List Wri) (sp:List ByteArray) (ns ns':List Nod):Prop:=(∀ n∈ns',NI ws sp n)∧ns'.map (·.1)=ns.map (·.1)∧MS sp ns ns'
theorem NR.refl {ws:List Wri} {sp:List ByteArray} {ns:List Nod} (h:∀ n∈ns,NI ws sp n):NR ws sp ns ns:=⟨h,rfl,λ _ _ _ h=>h⟩
theorem NR.len {ws:List Wri} {sp:List ByteArray} {ns ns':List Nod} (h:NR ws sp ns ns'):ns'.length=ns.length:=by
 have:=congrArg List.length h.2.1
 rwa [List.length_map,List.length_map] at this
theorem N8 {α:Type} {l:List α} {i j:Nat} {x d:α} (hj:j<l.length):(l.set i x).getD j d=if i=j then x else l.getD j d:=by
 rw [List.getD_eq_getElem?_getD,List.getElem?_set]
 by_cases h:i=j
 ·subst h
  rw [if_pos rfl,if_pos rfl,if_pos hj]
  rfl
 ·rw [if_neg h,if_neg h,List.getD_eq_getElem?_getD]
theorem Ssa {ns:List Nod} {i:Nat} {n:Nod} (hi:i<ns.length) (h:n.1=(ns.getD i Cr).1):(ns.set i n).map (·.1)=ns.map (·.1):=by
 refine List.ext_getElem (by simp) (λ j h1 h2=>?_)
 rw [List.length_map,List.length_set] at h1
 rw [List.getElem_map,List.getElem_map,List.getElem_set]
 by_cases hij:i=j
 ·subst hij
  rw [if_pos rfl,h,List.getD_eq_getElem?_getD,List.getElem?_eq_getElem hi]
  rfl
 ·rw [if_neg hij]
theorem NR.set {ws:List Wri} {sp:List ByteArray} {ns ns':List Nod} (h:NR ws sp ns ns') {i:Nat} (hi:i<ns'.length) {n:Nod} (h1:NI ws sp n) (h2:n.1=(ns'.getD i Cr).1) (h3:MO sp (ns'.getD i Cr).2.1 n.2.1):NR ws sp ns (ns'.set i n):=by
 obtain ⟨g1,g2,g3⟩:=h
 refine ⟨λ m hm=>?_,by rw [Ssa hi h2,g2],λ s hs st hk=>?_⟩
 ·rcases List.mem_or_eq_of_mem_set hm with hm|rfl
  ·exact g1 m hm
  ·exact h1
 ·obtain ⟨j,hj,hd⟩:=g3 s hs st hk
  refine ⟨j,by rw [List.length_set]; exact hj,?_⟩
  rw [N8 hj]
  by_cases hij:i=j
  ·subst hij; rw [if_pos rfl]; exact h3 s hs st hd
  ·rw [if_neg hij]; exact hd
section
variable {ws:List Wri} {sp:List ByteArray} {n:Nod} {s:ByteArray} {f:Fil}
theorem Zna (hw:Gsa ws) (h:NI ws sp n) (hf:IsW ws s f) (sure:Bool):NI ws sp (W8 n s f sure).1∧(W8 n s f sure).1.1=n.1∧MO sp n.2.1 (W8 n s f sure).1.2.1:=by
 obtain ⟨g1,g2,g3⟩:=hf.good hw
 obtain ⟨h1,h2,h3,h4⟩:=h
 have hg:=Rda (sure:=sure) h1 g1 g2
 obtain ⟨k1,k2⟩:=Sqa (sure:=sure) hw h1.g h2 hf
 unfold W8 at hg ⊢
 cases hq:(n.2.2.2.length:Int)==60 with
 |true=>exact ⟨⟨h1,h2,h3,h4⟩,rfl,MO.refl _ _⟩
 |false=>
  rw [hq] at hg
  refine ⟨⟨hg,k1,h3,?_⟩,rfl,k2⟩
  show ∀ r∈bif (keep n.2.1 s f sure).2==0&&sure then n.2.2.2++[Ub s f] else n.2.2.2,M9 ws r=true
  cases (keep n.2.1 s f sure).2==0&&sure with
  |false=>exact h4
  |true=>
   intro r hr
   rcases List.mem_append.1 hr with hr|hr
   ·exact h4 r hr
   ·rw [List.mem_singleton.1 hr]; exact Vya hf
theorem Zoa (hw:Gsa ws) (h:NI ws sp n) (hf:IsW ws s f) (hc:(W8 n s f true).2=0∨(W8 n s f true).2=1):HD (W8 n s f true).1.2.1 s f.1:=by
 unfold W8 at hc ⊢
 cases hq:((n.2.2.2.length:Int)==60) with
 |true=>rw [hq] at hc; rcases hc with hc|hc<;>cases hc
 |false=>rw [hq] at hc; exact Sra hw h.1.g hf hc
theorem D6b (h:NI ws sp n) {l:List Row} (hl:Kk l=true) (hr:∀ r∈l,M9 ws r=true):NI ws sp (tk n l).2∧(tk n l).2.1=n.1∧(tk n l).2.2.1=n.2.1:=by
 obtain ⟨h1,h2,h3,h4⟩:=h
 have hg:=Dhb h1 hl
 unfold tk at hg ⊢
 cases hq:decide ((Y2 n.2.2.1 l).length > 60) with
 |true=>exact ⟨⟨h1,h2,h3,h4⟩,rfl,rfl⟩
 |false=>
  rw [hq] at hg
  exact ⟨⟨hg,h2,λ r hr'=>(Kta hr').elim (h3 r) (hr r),h4⟩,rfl,rfl⟩
end
theorem C5b {ws:List Wri} {sp:List ByteArray} {ns:List Nod} {R:Int} {rc:List Int} {s:ByteArray} {f:Fil} {cs:List Int} {a:List Nod×Int×Int} {j:Nat} (hw:Gsa ws) (hf:IsW ws s f)
  (h:NR ws sp ns a.1∧(s∉sp→a.2.2≥1→KN a.1 s f.1)∧a.2.2≥0) (hc:(cs.getD j 0).toNat<ns.length):
  NR ws sp ns (wst R rc s f cs a j).1∧(s∉sp→(wst R rc s f cs a j).2.2≥1→KN (wst R rc s f cs a j).1 s f.1)∧(wst R rc s f cs a j).2.2≥0:=by
 obtain ⟨h1,h2,h3⟩:=h
 unfold wst
 cases decide (a.2.1<R) with
 |false=>exact ⟨h1,h2,h3⟩
 |true=>
  cases rch rc j==0 with
  |true=>exact ⟨h1,h2,h3⟩
  |false=>
   rw [cond_true,cond_false]
   have hi:(cs.getD j 0).toNat<a.1.length:=by rw [h1.len]; exact hc
   generalize (cs.getD j 0).toNat=i at *
   have hn:=h1.1 _ (A4 (d:=Cr) hi)
   obtain ⟨p1,p2,p3⟩:=Zna hw hn hf (rch rc j != 3)
   refine ⟨h1.set hi p1 p2 p3,λ hs hg=>?_,?_⟩
   ·cases hr:rch rc j==1&&((W8 (a.1.getD i Cr) s f (rch rc j != 3)).2==0 || (W8 (a.1.getD i Cr) s f (rch rc j != 3)).2==1) with
    |true=>
     rw [Bool.and_eq_true,Bool.or_eq_true,beq_iff_eq,beq_iff_eq,beq_iff_eq] at hr
     have e:(rch rc j != 3)=true:=by rw [hr.1]; rfl
     rw [e] at hr ⊢
     refine ⟨i,by rw [List.length_set]; exact hi,?_⟩
     rw [N8 hi,if_pos rfl]
     exact Zoa hw hn hf hr.2
    |false=>
     rw [hr] at hg
     obtain ⟨m,hm,hd⟩:=h2 hs hg
     refine ⟨m,by rw [List.length_set]; exact hm,?_⟩
     rw [N8 hm]
     by_cases hij:i=m
     ·subst hij; rw [if_pos rfl]; exact p3 s hs _ hd
     ·rw [if_neg hij]; exact hd
   ·dsimp only
    cases rch rc j==1&&((W8 (a.1.getD i Cr) s f (rch rc j != 3)).2==0 || (W8 (a.1.getD i Cr) s f (rch rc j != 3)).2==1)
    ·exact h3
    ·rw [cond_true]; omega
theorem C6b {ws:List Wri} {sp:List ByteArray} {w:Wld} {rc:List Int} {s:ByteArray} {f:Fil} (hw:Gsa ws) (hf:IsW ws s f) (hn:∀ n∈w.2.2.1,NI ws sp n):
  NR ws sp w.2.2.1 (wrN w s f rc).1∧(s∉sp→(wrN w s f rc).2.2≥1→KN (wrN w s f rc).1 s f.1)∧(wrN w s f rc).2.2≥0:=
 Qu (λ _ (a:List Nod×Int×Int)=>NR ws sp w.2.2.1 a.1∧(s∉sp→a.2.2≥1→KN a.1 s f.1)∧a.2.2≥0) ⟨NR.refl hn,λ _ h=>absurd h (show ¬ (0:Int)≥1 by omega),Int.le_refl _⟩
  (λ j b hj hb=>C5b hw hf hb (by have:=A8a (A4 (d:=0) hj); omega))
theorem C7b {ws:List Wri} {sp:List ByteArray} {ns:List Nod} {rc:List Int} {s:ByteArray} {f:Fil} {ps:List Int} {a:List Nod×Bool×Bool} {src j:Nat} (hw:Gsa ws) (hf:IsW ws s f) (hsrc:src<ns.length)
  (h:NR ws sp ns a.1∧(a.2.1=false→a.1.getD src Cr=ns.getD src Cr∧(a.2.2=true→0<j→∃ i,i≠src∧i<ns.length∧HD (a.1.getD i Cr).2.1 s f.1))) (hc:(ps.getD j 0).toNat<ns.length) (hc0:0≤ps.getD j 0):
  NR ws sp ns (pst (src:Int) s f rc ps a j).1∧((pst (src:Int) s f rc ps a j).2.1=false→(pst (src:Int) s f rc ps a j).1.getD src Cr=ns.getD src Cr∧((pst (src:Int) s f rc ps a j).2.2=true→0<j+1→∃ i,i≠src∧i<ns.length∧HD ((pst (src:Int) s f rc ps a j).1.getD i Cr).2.1 s f.1)):=by
 obtain ⟨h1,h2⟩:=h
 unfold pst
 cases hz:ps.getD j 0==(src:Int) with
 |true=>exact ⟨h1,λ c=>by cases c⟩
 |false=>
  have hne:(ps.getD j 0).toNat≠src:=by
   have:=beq_eq_false_iff_ne.1 hz
   omega
  cases hr:rch rc j != 1 with
  |true=>exact ⟨h1,λ c=>⟨(h2 c).1,λ c'=>by cases c'⟩⟩
  |false=>
   rw [cond_false,cond_false]
   have hi:(ps.getD j 0).toNat<a.1.length:=by rw [h1.len]; exact hc
   generalize (ps.getD j 0).toNat=i at *
   have hn:=h1.1 _ (A4 (d:=Cr) hi)
   obtain ⟨k1,k2⟩:=Sqa (sure:=true) hw hn.1.g hn.2.1 hf
   refine ⟨h1.set hi ⟨Sfa hn.1,k1,hn.2.2⟩ rfl k2,λ c=>⟨?_,λ c' _=>?_⟩⟩
   ·show (a.1.set i _).getD src Cr=_
    rw [N8 (by rw [h1.len]; exact hsrc),if_neg hne]
    exact (h2 c).1
   ·refine ⟨i,hne,hc,?_⟩
    show HD ((a.1.set i _).getD i Cr).2.1 s f.1
    rw [N8 hi,if_pos rfl]
    refine Sra hw hn.1.g hf ?_
    cases hk:(keep (a.1.getD i Cr).2.1 s f true).2 != 0&&(keep (a.1.getD i Cr).2.1 s f true).2 != 1 with
    |true=>
     have:(bif (keep (a.1.getD i Cr).2.1 s f true).2 != 0&&(keep (a.1.getD i Cr).2.1 s f true).2 != 1 then false else a.2.2)=true:=c'
     rw [hk] at this
     cases this
    |false=>
     rw [Bool.and_eq_false_iff,bne,bne,Bool.not_eq_false',Bool.not_eq_false',beq_iff_eq,beq_iff_eq] at hk
     exact hk
theorem C8b {ws:List Wri} {sp:List ByteArray} {w:Wld} {rc:List Int} {s:ByteArray} {i:Nat} (hw:Gsa ws) (hn:∀ n∈w.2.2.1,NI ws sp n) (hi:i<w.2.2.1.length) (hf:IsW ws s (lkD (w.2.2.1.getD i Cr).2.1 s).1):
  NR ws sp w.2.2.1 (puN w i s rc).1∧((puN w i s rc).2.1=false→(puN w i s rc).1.getD i Cr=w.2.2.1.getD i Cr∧((puN w i s rc).2.2=true→0<(Sh w s).length→∃ j,j≠i∧j<w.2.2.1.length∧HD ((puN w i s rc).1.getD j Cr).2.1 s (lkD (w.2.2.1.getD i Cr).2.1 s).1.1)):=
 Qu (λ n (a:List Nod×Bool×Bool)=>NR ws sp w.2.2.1 a.1∧(a.2.1=false→a.1.getD i Cr=w.2.2.1.getD i Cr∧(a.2.2=true→0<n→∃ j,j≠i∧j<w.2.2.1.length∧HD (a.1.getD j Cr).2.1 s (lkD (w.2.2.1.getD i Cr).2.1 s).1.1))) ⟨NR.refl hn,λ _=>⟨rfl,λ _ c=>absurd c (Nat.lt_irrefl _)⟩⟩
  (λ j b hj hb=>C7b hw hf hi hb (by have:=Wv (A4 (d:=0) hj); omega) (Wv (A4 (d:=0) hj)).1)
theorem Sta {w:Wld} {s:ByteArray} (hr:Ir w.2.1 w.1=true) (hid:w.2.2.1.map (·.1)=w.1.map (·.1)):0<(Sh w s).length:=by
 obtain ⟨_,p2,p3⟩:=Dla hr s
 have h5:=(Dj.1 hr).2.1
 obtain ⟨id,hidm⟩:=List.exists_mem_of_length_pos (l:=Ws w.2.1 s) (by omega)
 have:=Qs.1 (p3 id hidm)
 rw [← hid] at this
 obtain ⟨n,hn,rfl⟩:=List.mem_map.1 this
 obtain ⟨j,hj,rfl⟩:=List.mem_iff_getElem.1 hn
 have hm:(j:Int)∈Sh w s:=Doa.2 ⟨j,hj,by rw [List.getD_eq_getElem?_getD,List.getElem?_eq_getElem hj]; exact hidm,rfl⟩
 exact List.length_pos_of_mem hm
theorem Vza {ws:List Wri} {sp:List ByteArray} {w:Wld} {rc:List Int} {s:ByteArray} {i:Nat} (hw:Gsa ws) (hn:∀ n∈w.2.2.1,NI ws sp n) (hi:i<w.2.2.1.length) (hr:Ir w.2.1 w.1=true) (hid:w.2.2.1.map (·.1)=w.1.map (·.1)):
  ∃ ns,(Sea w i s rc).2=wN w ns∧NR ws sp w.2.2.1 ns:=by
 have hni:=hn _ (A4 (d:=Cr) hi)
 unfold Sea
 cases hl:(lkD (w.2.2.1.getD i Cr).2.1 s).2 != 0 with
 |true=>exact ⟨w.2.2.1,rfl,NR.refl hn⟩
 |false=>
  rw [bne,Bool.not_eq_false',beq_iff_eq] at hl
  obtain ⟨b,hb,hg⟩:=Z3.1 (show lkD (w.2.2.1.getD i Cr).2.1 s=((lkD (w.2.2.1.getD i Cr).2.1 s).1,0) from by rw [← hl])
  have hf:IsW ws s (lkD (w.2.2.1.getD i Cr).2.1 s).1:=(((hni.2.1 s).1 b hb).get hw hg).1
  obtain ⟨h1,h2⟩:=C8b (rc:=rc) hw hn hi hf
  refine ⟨_,rfl,?_⟩
  cases hc:(puN w i s rc).2.2 && !(puN w i s rc).2.1 with
  |false=>exact h1
  |true=>
   rw [Bool.and_eq_true,Bool.not_eq_true'] at hc
   obtain ⟨h3,h4⟩:=h2 hc.2
   obtain ⟨j,hj,hjl,hd⟩:=h4 hc.1 (Sta hr hid)
   rw [cond_true,h3]
   obtain ⟨g1,_,_⟩:=hf.good hw
   have hi':i<(puN w i s rc).1.length:=by rw [h1.len]; exact hi
   obtain ⟨o1,o2⟩:=C3b (s:=s) hni.1.g hni.2.1 g1
   refine ⟨λ m hm=>?_,by rw [Ssa hi' (by rw [h3]; rfl),h1.2.1],λ t ht st hk=>?_⟩
   ·rcases List.mem_or_eq_of_mem_set hm with hm|rfl
    ·exact h1.1 m hm
    ·exact ⟨Byb hni.1 g1,o1,hni.2.2⟩
   ·obtain ⟨m,hm,hh⟩:=h1.2.2 t ht st hk
    by_cases hmi:m=i
    ·subst hmi
     rw [h3] at hh
     by_cases hts:t=s
     ·subst hts
      obtain ⟨b',f',e1,e2,e3⟩:=(hni.2.1 t).ge ht hh
      rw [hb] at e1
      cases e1
      rw [hg] at e2
      cases e2
      obtain ⟨c,g,k1,k2,k3⟩:=hd
      refine ⟨j,by rw [List.length_set,h1.len]; exact hjl,?_⟩
      rw [N8 (by rw [h1.len]; exact hjl),if_neg (Ne.symm hj)]
      exact ⟨c,g,k1,k2,Gia k3 e3⟩
     ·refine ⟨m,by rw [List.length_set]; exact hm,?_⟩
      rw [N8 hm,if_pos rfl]
      exact o2 t hts st hh
    ·refine ⟨m,by rw [List.length_set]; exact hm,?_⟩
     rw [N8 hm,if_neg (Ne.symm hmi)]
     exact hh
theorem Lxa {ws:List Wri} {sp:List ByteArray} {w:Wld} {src:Int} {l:List Row} {self:Bool} {rc:List Int} (hn:∀ n∈w.2.2.1,NI ws sp n) (hl:Kk l=true) (hr:∀ r∈l,M9 ws r=true):NR ws sp w.2.2.1 (Qv w src l self rc).1:=by
 refine Qu (λ _ (a:List Nod×Bool)=>NR ws sp w.2.2.1 a.1) (NR.refl hn) (λ j b hj hb=>?_)
 have hc:=Uh (A4 (d:=0) hj)
 unfold gst
 cases (Lj w).getD j 0==src && !self with
 |true=>exact hb
 |false=>
  cases rch rc j != 1 with
  |true=>exact hb
  |false=>
   have hi:((Lj w).getD j 0).toNat<b.1.length:=by rw [hb.len]; omega
   obtain ⟨t1,t2,t3⟩:=D6b (hb.1 _ (A4 (d:=Cr) hi)) hl hr
   exact hb.set hi t1 t2 (by rw [t3]; exact MO.refl _ _)
theorem W0a {ws:List Wri} {sp:List ByteArray} {w:Wld} {rc:List Int} {i:Nat} (hn:∀ n∈w.2.2.1,NI ws sp n) (hi:i<w.2.2.1.length):∃ ns,(Sha w i rc).2=wN w ns∧NR ws sp w.2.2.1 ns:=by
 have hni:=hn _ (A4 (d:=Cr) hi)
 have hl:=(Di.1 hni.1.1).2.2.2.1
 unfold Sha
 cases ((w.2.2.1.getD i Cr).2.2.1.length:Int)==0 with
 |true=>exact ⟨w.2.2.1,rfl,NR.refl hn⟩
 |false=>
  refine ⟨_,rfl,?_⟩
  have hg:NR ws sp w.2.2.1 (Aaa w i rc).1:=Lxa hn hl hni.2.2.1
  cases (Aaa w i rc).2 && !(Ny (Lj (wN w (Aaa w i rc).1)) (i:Int)) with
  |false=>exact hg
  |true=>
   have hi':i<(Aaa w i rc).1.length:=by rw [hg.len]; exact hi
   have hm:=hg.1 _ (A4 (d:=Cr) hi')
   exact hg.set hi' ⟨Vwa hm.1,hm.2.1,(λ _ h=>nomatch h),hm.2.2.2⟩ rfl (MO.refl _ _)
theorem W1a {ws:List Wri} {sp:List ByteArray} {w:Wld} {rc:List Int} {i:Nat} (hn:∀ n∈w.2.2.1,NI ws sp n) (hi:i<w.2.2.1.length):∃ ns,(Sja w i rc).2=wN w ns∧NR ws sp w.2.2.1 ns:=by
 have hni:=hn _ (A4 (d:=Cr) hi)
 obtain ⟨hq,_,_,_,hq60⟩:=Di.1 hni.1.1
 unfold Sja
 cases ((w.2.2.1.getD i Cr).2.2.2.length:Int)==0 with
 |true=>exact ⟨w.2.2.1,rfl,NR.refl hn⟩
 |false=>
  refine ⟨_,rfl,?_⟩
  have hg:NR ws sp w.2.2.1 (Axa w i rc).1:=Lxa hn (Aba hq) (λ r hr=>hni.2.2.2 r (List.mem_of_mem_take hr))
  cases (Axa w i rc).2 with
  |false=>exact hg
  |true=>
   have hi':i<(Axa w i rc).1.length:=by rw [hg.len]; exact hi
   have hm:=hg.1 _ (A4 (d:=Cr) hi')
   exact hg.set hi' ⟨C0b hm.1 (λ r hr=>hq r (List.mem_of_mem_drop hr)) (by rw [List.length_drop]; omega),hm.2.1,hm.2.2.1,λ r hr=>hni.2.2.2 r (List.mem_of_mem_drop hr)⟩ rfl (MO.refl _ _)

structure WI (w:Wld):Prop where
 ring:Ir w.2.1 w.1=true
 ids:w.2.2.1.map (·.1)=w.1.map (·.1)
 nodes:∀ n∈w.2.2.1,NI w.2.2.2.2.1 w.2.2.2.2.2 n
 clk:G3 w.2.2.2.1=true
 wlen:w.2.2.2.2.1.length≤200
 wok:Gsa w.2.2.2.2.1
 wge:∀ x∈w.2.2.2.2.1,sle w.2.2.2.1 x.2.1.1=false
 asc:w.2.2.2.2.1.Pairwise (λ a b=>sle a.2.1.1 b.2.1.1=true)
 kept:∀ x∈w.2.2.2.2.1,x.2.2=true→x.1∉w.2.2.2.2.2→KN w.2.2.1 x.1 x.2.1.1
 sps:TS w.2.2.2.2.2
 spw:∀ s∈w.2.2.2.2.2,∃ x∈w.2.2.2.2.1,x.1=s
theorem D7b:LawfulBEq ByteArray := { eq_of_beq:=λ {a b} h=>Jl.1 (by rw [← Daa]; exact h),rfl:=λ {a}=>by rw [Daa]; exact Jl.2 rfl }
theorem Gka:∀ (p q:List ByteArray),p.Nodup→(∀ x∈p,x∈q)→p.length≤q.length
 |[],_,_,_=>Nat.zero_le _
 |x::p,q,h,hs=>by
  haveI:=D7b
  obtain ⟨h1,h2⟩:=List.nodup_cons.1 h
  have hx:=hs x List.mem_cons_self
  have hlen:(q.erase x).length=q.length - 1:=List.length_erase_of_mem hx
  have hpos:=List.length_pos_of_mem hx
  have:=Gka p (q.erase x) h2 (λ y hy=>(List.mem_erase_of_ne (λ c=>by subst c; exact h1 hy)).2 (hs y (List.mem_cons_of_mem _ hy)))
  rw [List.length_cons]
  omega
namespace WI
variable {w:Wld}
theorem splen (h:WI w):w.2.2.2.2.2.length≤200:=by
 have hn:w.2.2.2.2.2.Nodup:=h.sps.imp (λ {a b} hab e=>by subst e; rw [Kw] at hab; cases hab)
 have:=Gka _ (w.2.2.2.2.1.map (·.1)) hn (λ s hs=>by
  obtain ⟨x,hx,e⟩:=h.spw s hs
  exact List.mem_map.2 ⟨x,hx,e⟩)
 rw [List.length_map] at this
 have:=h.wlen
 omega
theorem nlen (h:WI w):w.2.2.1.length=w.1.length:=by
 have:=congrArg List.length h.ids
 rwa [List.length_map,List.length_map] at this
theorem dlen (h:WI w):1≤w.1.length∧w.1.length≤12:=(Hs.1 (Dj.1 h.ring).1).2.2
theorem ns (h:WI w):NS w.2.2.1:=⟨by have:=h.nlen; have:=h.dlen; omega,λ n hn=>(h.nodes n hn).1⟩
theorem win (h:WI w):WIn w:=by
 have h1:=h.nlen
 have h2:=h.dlen
 have h3:=h.wlen
 have h4:=h.splen
 refine ⟨Nz h.ring,by omega,⟨by omega,λ n hn=>Asa (h.nodes n hn).1⟩,⟨by omega,λ x hx=>Kx (h.wok x hx).1⟩,by omega,λ s hs=>?_⟩
 obtain ⟨x,hx,e⟩:=h.spw s hs
 rw [← e]
 exact Kx (h.wok x hx).1
theorem other (h:WI w) {ns:List Nod} (hn:NR w.2.2.2.2.1 w.2.2.2.2.2 w.2.2.1 ns):WI (wN w ns):=
 ⟨h.ring,hn.2.1.trans h.ids,hn.1,h.clk,h.wlen,h.wok,h.wge,h.asc,λ x hx hk hs=>hn.2.2 _ hs _ (h.kept x hx hk hs),h.sps,h.spw⟩
theorem other' (h:WI w) {r:Bool×Wld} (hr:∃ ns,r.2=wN w ns∧NR w.2.2.2.2.1 w.2.2.2.2.2 w.2.2.1 ns):WI r.2:=by
 obtain ⟨ns,e,hn⟩:=hr
 rw [e]
 exact h.other hn
theorem write (h:WI w) {s:ByteArray} {f:Fil} {rc:List Int} (hs:Br s=true) (hf:G6 f=true) (hb:Aj f.2.2) (hc:sle w.2.2.2.1 f.1=true) (hl:w.2.2.2.2.1.length<200):WI (Gga (w.1,w.2.1,w.2.2.1,f.1,w.2.2.2.2) s f rc).2:=by
 obtain ⟨g1,g2,g3⟩:=C6b (ws:=w.2.2.2.2.1++[(s,f,decide ((wrN (w.1,w.2.1,w.2.2.1,f.1,w.2.2.2.2) s f rc).2.2≥quo w.2.1.1))]) (sp:=w.2.2.2.2.2) (w:=(w.1,w.2.1,w.2.2.1,f.1,w.2.2.2.2)) (rc:=rc) (s:=s) (f:=f)
  (λ x hx=>by
   rcases List.mem_append.1 hx with hx|hx
   ·exact h.wok x hx
   ·rw [List.mem_singleton.1 hx]; exact ⟨hs,hf,hb⟩)
  ⟨_,List.mem_append.2 (.inr (List.mem_singleton.2 rfl)),rfl,rfl⟩
  (λ n hn=>(h.nodes n hn).mono (λ x hx=>List.mem_append.2 (.inl hx)) (λ _ h=>h))
 unfold Gga
 generalize wrN (w.1,w.2.1,w.2.2.1,f.1,w.2.2.2.2) s f rc=a at *
 have hq:quo w.2.1.1≥1:=by
  have:=(Dj.1 h.ring).2.1
  unfold quo
  omega
 exact {
  ring:=h.ring
  ids:=g1.2.1.trans h.ids
  nodes:=g1.1
  clk:=(Ld.1 hf).1
  wlen:=by show (w.2.2.2.2.1++[_]).length≤200; rw [List.length_append]; simp only [List.length_cons,List.length_nil]; omega
  wok:=λ x hx=>by
   rcases List.mem_append.1 hx with hx|hx
   ·exact h.wok x hx
   ·rw [List.mem_singleton.1 hx]; exact ⟨hs,hf,hb⟩
  wge:=λ x hx=>by
   rcases List.mem_append.1 hx with hx|hx
   ·exact Gia (Gja hc) (h.wge x hx)
   ·rw [List.mem_singleton.1 hx]; exact Rd _
  asc:=List.pairwise_append.2 ⟨h.asc,List.pairwise_singleton _ _,λ x hx y hy=>by
   rw [List.mem_singleton.1 hy]
   have:=h.wge x hx
   cases hxy:sle x.2.1.1 f.1 with
   |true=>rfl
   |false=>
    have:=Gia this hxy
    rw [this] at hc
    cases hc⟩
  kept:=λ x hx hk hsp=>by
   rcases List.mem_append.1 hx with hx|hx
   ·exact g1.2.2 _ hsp _ (h.kept x hx hk hsp)
   ·rw [List.mem_singleton.1 hx] at hk hsp ⊢
    have hk':a.2.2≥quo w.2.1.1:=of_decide_eq_true hk
    exact g2 hsp (by omega)
  sps:=h.sps
  spw:=λ s hs=>by
   obtain ⟨x,hx,e⟩:=h.spw s hs
   exact ⟨x,List.mem_append.2 (.inl hx),e⟩ }
theorem ask (h:WI w) {s:ByteArray} {f:Fil} {t:Int} {rc:List Int} (hb:Aj f.2.2) (hd:f.2.1=true→f.2.2=[]):WI (ask w s f t rc).2:=by
 unfold Vf.ask
 cases hs:Br s with
 |false=>exact h
 |true=>
  rw [Bool.not_true,cond_false]
  by_cases hl:(f.2.2.length:Int) > 200
  ·rw [decide_eq_true hl]; exact h
  ·rw [decide_eq_false hl,cond_false]
   cases inR t 0 1000000000 with
   |false=>exact h
   |true=>
    rw [Bool.not_true,cond_false]
    cases hw:(w.2.2.2.2.1.length:Int)==200 with
    |true=>exact h
    |false=>
     rw [cond_false]
     have hw':=beq_eq_false_iff_ne.1 hw
     have hwl:=h.wlen
     obtain ⟨n1,n2⟩:=Lua h.clk t 0
     cases he:(Ol w.2.2.2.1 t 0).1==w.2.2.2.1.1&&((Ol w.2.2.2.1 t 0).2.1==w.2.2.2.1.2.1&&(Ol w.2.2.2.1 t 0).2.2==w.2.2.2.1.2.2) with
     |true=>exact h
     |false=>
      rw [cond_false]
      have hlt:sle w.2.2.2.1 (Ol w.2.2.2.1 t 0)=true:=by
       rcases n2 with n2|n2
       ·rw [n2,beq_self_eq_true,beq_self_eq_true,beq_self_eq_true] at he; cases he
       ·exact n2
      exact h.write (f:=(Ol w.2.2.2.1 t 0,f.2)) hs (Ld.2 ⟨n1,by show f.2.2.length≤200; omega,hd⟩) hb hlt (by omega)
theorem rot (h:WI w) {i:Nat} (hi:i<w.2.2.1.length) {s:ByteArray} {b:Int}:WI (Cgb w i s b).2:=by
 have hni:=h.nodes _ (A4 (d:=Cr) hi)
 unfold Cgb
 cases hr:(V2a (w.2.2.1.getD i Cr) s b).2 with
 |false=>exact h
 |true=>
  have hg:=X2a (s:=s) (b:=b) hni.1
  unfold V2a at hr hg ⊢
  cases hc:Mn (w.2.2.1.getD i Cr)&&((lkD (w.2.2.1.getD i Cr).2.1 s).2==0&&(Lca (w.2.2.1.getD i Cr).2.1 s b).2) with
  |false=>rw [hc] at hr; cases hr
  |true=>
   rw [hc] at hg
   rw [Bool.and_eq_true,Bool.and_eq_true,beq_iff_eq] at hc
   obtain ⟨d1,d2,f,hf⟩:=C4b h.wok hni.1.g hni.2.1 hc.2.1 hc.2.2 (spl w.2.2.2.2.2 s) (λ t=>J7a)
   have hsub:∀ t∈w.2.2.2.2.2,t∈spl w.2.2.2.2.2 s:=λ t ht=>J7a.2 (.inr ht)
   have hN:NR w.2.2.2.2.1 (spl w.2.2.2.2.2 s) w.2.2.1 (w.2.2.1.set i ((w.2.2.1.getD i Cr).1,(Lca (w.2.2.1.getD i Cr).2.1 s b).1,(w.2.2.1.getD i Cr).2.2)):=
    (NR.refl (λ n hn=>(h.nodes n hn).mono (λ _ h=>h) hsub)).set hi ⟨hg,d1,hni.2.2⟩ rfl d2
   exact {
    ring:=h.ring
    ids:=hN.2.1.trans h.ids
    nodes:=hN.1
    clk:=h.clk
    wlen:=h.wlen
    wok:=h.wok
    wge:=h.wge
    asc:=h.asc
    kept:=λ x hx hk hs=>hN.2.2 _ hs _ (h.kept x hx hk (λ c=>hs (hsub _ c)))
    sps:=Nia h.sps
    spw:=λ t ht=>by
     rcases J7a.1 ht with rfl|ht
     ·obtain ⟨x,hx,e,_⟩:=hf
      exact ⟨x,hx,e⟩
     ·exact h.spw t ht }
theorem node (h:WI w) {i:Nat} (hi:i<w.2.2.1.length) {e:Evt}:WI (Nja w e i).2:=by
 have hni:=h.nodes _ (A4 (d:=Cr) hi)
 unfold Nja
 cases e.1==3 with
 |true=>exact h.other' (Vza h.wok h.nodes hi h.ring h.ids)
 |false=>
  cases e.1==4 with
  |true=>exact h.other' (W0a h.nodes hi)
  |false=>
   cases e.1==5 with
   |true=>exact h.other' (W1a h.nodes hi)
   |false=>
    cases e.1==6 with
    |true=>
     obtain ⟨c1,c2⟩:=Vxa h.wok hni.1.g hni.2.1
     exact h.other ((NR.refl h.nodes).set hi ⟨Bwb hni.1,c1,hni.2.2⟩ rfl c2)
    |false=>
     cases e.1==7 with
     |true=>exact h.other ((NR.refl h.nodes).set hi ⟨D4b hni.1,Zla hni.1.g hni.2.1 _,hni.2.2⟩ rfl (Zma hni.1.g hni.2.1 _))
     |false=>exact h.rot hi
theorem weigh (h:WI w) {i t:Int}:WI (Soa w i t).2:=by
 unfold Soa
 cases h1:inR i 0 ((w.1.length:Int) - 1) with
 |false=>exact h
 |true=>
  cases h2:inR t 1 1000 with
  |false=>exact h
  |true=>
   obtain ⟨i0,i1⟩:=Ew.1 h1
   obtain ⟨w0,w1⟩:=Ew.1 h2
   exact ⟨(Vaa (Lna h.ring (by omega) w0 w1)).1,h.ids.trans (Ita _ _ _).symm,h.nodes,h.clk,h.wlen,h.wok,h.wge,h.asc,h.kept,h.sps,h.spw⟩
theorem ev (h:WI w) {e:Evt} (hb:Aj e.2.2.2.1):WI (doW w e).2:=by
 have ae:∀ {q:Int×Wld},WI q.2→WI (A6b q).2:=λ {q} hq=>by
  unfold A6b
  cases q.1 != 2<;>exact hq
 unfold doW
 cases e.1==1 with
 |true=>exact ae (h.ask hb (λ c=>by cases c))
 |false=>
  cases e.1==2 with
  |true=>exact ae (h.ask Nx (λ _=>rfl))
  |false=>
   cases e.1==3 || (e.1==4 || (e.1==5 || (e.1==6 || (e.1==7 || e.1==8)))) with
   |true=>
    cases hi:inR e.2.1 0 ((w.2.2.1.length:Int) - 1) with
    |false=>exact h
    |true=>
     have:=Ew.1 hi
     exact h.node (by omega)
   |false=>
    cases e.1==9 with
    |true=>exact h.weigh
    |false=>exact h
end WI

def Djb (l:List Dev) (last:Int):Prop:=l.Pairwise (λ a b=>a.1<b.1)∧∀ d∈l,(0≤d.1∧d.1≤last)∧(0≤d.2.1∧d.2.1≤20)∧1≤d.2.2∧d.2.2≤1000
theorem Sua (z:Int) (hz:1≤z∧z≤20):∀ (n:Nat) (i:Int) (l:List Dev) (last:Int) (c:Cur),i=n→n≤6→D0 c→Djb l last→0≤last→last+2 * n≤12→l.length+n≤6→
  Tot (λ k=>Gl k l z last i c) (λ r=>(∃ last,Djb r.1 last∧last≤20)∧r.1.length=l.length+n∧D0 r.2):=by
 intro n
 induction n with
 |zero=>
  rintro i l last c rfl _ hc h h0 h1 _
  refine Tot.succ ?_
  simp (disch:=omega) only [Gl,dF]
  exact Tot.pure ⟨⟨last,h,by omega⟩,rfl,hc⟩
 |succ n ih=>
  rintro i l last c rfl hn hc h h0 h1 hl
  refine Tot.succ ?_
  simp (disch:=omega) only [Gl,dT]
  obtain ⟨x,c1,e1,hx,k1⟩:=L8 c hc [1,1,2] (by decide) (by decide)
  obtain ⟨y,c2,e2,y0,y1,_,k2⟩:=Ai c1 k1 z (by omega)
  obtain ⟨v,c3,e3,hv,k3⟩:=L8 c2 k2 [1,1,1,2,10,100] (by decide) (by decide)
  have y1:=y1 (by omega)
  have hx':1≤x∧x≤2:=by
   simp only [List.mem_cons,List.not_mem_nil,or_false] at hx
   omega
  have hv':1≤v∧v≤1000:=by
   simp only [List.mem_cons,List.not_mem_nil,or_false] at hv
   omega
  refine Tot.bind (Tot.of (Q:=λ r=>r=(x,c1)) e1 rfl) ?_
  rintro r rfl
  refine Tot.bind (Tot.of (Q:=λ r=>r=(y,c2)) e2 rfl) ?_
  rintro r rfl
  refine Tot.bind (Tot.of (Q:=λ r=>r=(v,c3)) e3 rfl) ?_
  rintro r rfl
  simp (disch:=omega) only [w64]
  refine Tot.ble (by simp only [List.length_cons,List.length_nil]; omega) ?_
  refine (ih _ (l++[(last+x,y,v)]) (last+x) c3 (by omega) (by omega) k3 ⟨?_,?_⟩ (by omega) (by omega) (by rw [List.length_append]; simp only [List.length_cons,List.length_nil]; omega)).mono ?_
  ·refine List.pairwise_append.2 ⟨h.1,List.pairwise_singleton _ _,λ a ha b hb=>?_⟩
   rw [List.mem_singleton.1 hb]
   have:=(h.2 a ha).1.2
   show a.1<last+x
   omega
  ·intro d hd
   rcases List.mem_append.1 hd with hd|hd
   ·obtain ⟨⟨a1,a2⟩,a3⟩:=h.2 d hd
    exact ⟨⟨a1,by omega⟩,a3⟩
   ·rw [List.mem_singleton.1 hd]
    exact ⟨⟨by show 0≤last+x; omega,Int.le_refl _⟩,⟨y0,by show y≤20; omega⟩,hv'⟩
  ·rintro r ⟨g1,g2,g3⟩
   refine ⟨g1,?_,g3⟩
   rw [g2,List.length_append]
   simp only [List.length_cons,List.length_nil]
   omega
theorem Nka (c:Cur) (hc:D0 c):Tot (λ k=>G7 k c) (λ r=>Lb r.1=true∧(2≤r.1.length∧r.1.length≤6)∧D0 r.2):=by
 unfold G7
 obtain ⟨x,c1,e1,x0,x1,_,k1⟩:=Ai c hc 4 (by decide)
 obtain ⟨y,c2,e2,y0,y1,_,k2⟩:=Ai c1 k1 5 (by decide)
 have x1:=x1 (by decide)
 have y1:=y1 (by decide)
 refine Tot.bind (Tot.of (Q:=λ r=>r=(x,c1)) e1 rfl) ?_
 rintro r rfl
 refine Tot.bind (Tot.of (Q:=λ r=>r=(y,c2)) e2 rfl) ?_
 rintro r rfl
 simp (disch:=omega) only [w64]
 refine Tot.bind (Sua (1+x) (by omega) (2+y).toNat (2+y) [] 0 c2 (by omega) (by omega) k2 ⟨List.Pairwise.nil,λ d hd=>(nomatch hd)⟩ (Int.le_refl _) (by omega) (by simp only [List.length_nil]; omega)) ?_
 rintro r ⟨⟨last,g1,g2⟩,g3,g4⟩
 rw [List.length_nil] at g3
 exact Tot.pure ⟨Hs.2 ⟨g1.1,λ d hd=>N6.2 ⟨⟨(g1.2 d hd).1.1,by have:=(g1.2 d hd).1.2; omega⟩,(g1.2 d hd).2⟩,by dsimp only; omega,by dsimp only; omega⟩,⟨by dsimp only; omega,by dsimp only; omega⟩,g4⟩
abbrev Sva:Wld:=(([]:List Dev),((0:Int),([]:List (List Int))),([]:List Nod),((0:Int),((0:Int),(0:Int))),([]:List Wri),([]:List ByteArray))
def Xda (d:Dev):Nod:=(d.1,([],[]),[],[])
def Chb (l:List Dev) (parts reps:Int):Wld:=(l,(build l parts reps).1,l.map Xda,(0,0,0),[],[])
theorem Zpa {ws:List Wri} {sp:List ByteArray} {l:List Dev} (h:Lb l=true) {d:Dev} (hd:d∈l):NI ws sp (Xda d):=by
 obtain ⟨⟨i0,i1⟩,_⟩:=N6.1 ((Hs.1 h).2.1 d hd)
 refine ⟨⟨Di.2 ⟨(λ r hr=>nomatch hr),⟨i0,i1⟩,dg0.1,Ui,Nat.zero_le _⟩,dg0.2⟩,λ s=>⟨λ b hb=>?_,λ b hb=>?_,λ _ b f hb=>?_⟩,(λ r hr=>nomatch hr),(λ r hr=>nomatch hr)⟩
 ·rw [show gt (Xda d).2.1.1 s=none from rfl] at hb; cases hb
 ·rw [show gt (Xda d).2.1.2 s=none from rfl] at hb; cases hb
 ·rw [show gt (Xda d).2.1.2 s=none from rfl] at hb; cases hb
theorem Zqa {l:List Dev} {parts reps:Int} (hb:(build l parts reps).2=true):WI (Chb l parts reps):=by
 obtain ⟨h1,h2,_,_⟩:=Lja hb
 exact {
  ring:=h2
  ids:=by show (l.map Xda).map (·.1)=_; rw [List.map_map]; rfl
  nodes:=λ n hn=>by
   obtain ⟨d,hd,rfl⟩:=List.mem_map.1 hn
   exact Zpa h1 hd
  clk:=rfl
  wlen:=Nat.zero_le _
  wok:=λ x hx=>nomatch hx
  wge:=λ x hx=>nomatch hx
  asc:=List.Pairwise.nil
  kept:=λ x hx=>nomatch hx
  sps:=List.Pairwise.nil
  spw:=λ s hs=>nomatch hs }
theorem Gla (l:List Dev) (parts reps:Int) (hb:(build l parts reps).2=true):Tot (λ k=>C4 k l parts reps) (λ r=>r=Chb l parts reps):=by
 obtain ⟨h1,_,_,_⟩:=Lja hb
 have h12:=(Hs.1 h1).2.2.2
 unfold C4
 refine Tot.bind (Roa l parts reps (by omega)) ?_
 rintro r rfl
 refine Tot.ble (by rw [List.length_nil]; omega) (Tot.no (by rw [hb]; rfl) ?_)
 rw [List.nil_append]
 refine Tot.bind (Q:=λ r=>r=(Sva,Chb l parts reps)) ?_ (by rintro r rfl; exact Tot.pure rfl)
 refine Tot.up (L:=λ k i (s:List Nod)=>Du k l i Sva (l,(build l parts reps).1,s,(0,0,0),[],[])) (Q:=λ r=>r=(Sva,Chb l parts reps)) l.length (λ j s=>s=(l.take j).map Xda) ?_ ?_ 0 [] (Nat.zero_le _) rfl
 ·rintro s rfl
  simp (disch:=omega) only [Du,dF]
  exact Tot.pure (by rw [List.take_length]; rfl)
 ·rintro j s hj rfl next
  have hd:=A4 (d:=My) hj
  obtain ⟨d,ed⟩:∃ d:Dev,l.getD j My=d:=⟨_,rfl⟩
  rw [ed] at hd
  have e0:l.getD j ((0:Int),((0:Int),(0:Int)))=d:=ed
  have e1:l[j]=d:=by rw [← ed,List.getD_eq_getElem?_getD,List.getElem?_eq_getElem hj]; rfl
  have hid:=(N6.1 ((Hs.1 h1).2.1 d hd)).1
  simp (disch:=omega) only [Du,dT,Int.toNat_natCast,w64,e0,Z6,Option.bind_some]
  have hl:((l.take j).map Xda).length=j:=by rw [List.length_map,List.length_take]; omega
  rw [Ew.2 hid,cond_true]
  refine Tot.ble (by rw [hl]; simp only [List.length_cons,List.length_nil]; omega) (next _ ?_)
  rw [List.take_succ_eq_append_getElem hj,List.map_append,e1]
  rfl
theorem Nla (c:Cur) (hc:D0 c):Tot (λ k=>Jp k c) (λ r=>WI r.1∧D0 r.2):=by
 unfold Jp
 refine Tot.bind (Nka c hc) ?_
 rintro ⟨l,c1⟩ ⟨hl,hn,k1⟩
 dsimp only at hl hn k1 ⊢
 obtain ⟨x,c2,e2,hx,k2⟩:=L8 c1 k1 [3,2,3,1] (by decide) (by decide)
 obtain ⟨y,c3,e3,hy,k3⟩:=L8 c2 k2 [4,2,8] (by decide) (by decide)
 have hx':1≤x∧x≤3:=by
  simp only [List.mem_cons,List.not_mem_nil,or_false] at hx
  omega
 have hy':1≤y∧y≤8:=by
  simp only [List.mem_cons,List.not_mem_nil,or_false] at hy
  omega
 have one:∀ n:Int,1≤n→n≤5→n≤(l.length:Int)→Tot (λ k=>(Aa c2 [4,2,8]).bind λ r3=>(C4 k l r3.1 n).bind λ r4=>some (r4,r3.2)) (λ r=>WI r.1∧D0 r.2):=by
  intro n n0 n5 nl
  have hb:(build l y n).2=true:=by
   unfold build
   rw [hl,Ew.2 (show 1≤y∧y≤64 by omega),Ew.2 (show 1≤n∧n≤5 by omega),decide_eq_false (show ¬ n > (l.length:Int) by omega)]
   rfl
  refine Tot.bind (Tot.of (Q:=λ r=>r=(y,c3)) e3 rfl) ?_
  rintro r rfl
  refine Tot.bind (Gla l y n hb) ?_
  rintro r rfl
  exact Tot.pure ⟨Zqa hb,k3⟩
 refine Tot.bind (Tot.of (Q:=λ r=>r=(x,c2)) e2 rfl) ?_
 rintro r rfl
 exact Tot.dite (λ h=>one (l.length:Int) (by omega) (by dsimp only at h; omega) (Int.le_refl _)) (λ h=>one x (by omega) (by omega) (by dsimp only at h; omega))
theorem J8a (c:Cur) (hc:D0 c):Tot (λ k=>Eg k c) (λ r=>r.1.length≤6∧D0 r.2):=by
 unfold Eg
 refine Tot.bind (Q:=λ r=>r.1.length≤6∧D0 r.2) ?_ (λ r h=>Tot.pure h)
 refine Tot.up (L:=λ k i (s:List Int×Cur)=>Fa k s.1 i s.2) (Q:=λ r=>r.1.length≤6∧D0 r.2) 6 (λ j s=>s.1.length=j∧D0 s.2) ?_ ?_ 0 ([],c) (Nat.zero_le _) ⟨rfl,hc⟩
 ·rintro s ⟨h1,h2⟩
  simp (disch:=omega) only [Fa,dF]
  exact Tot.pure ⟨by dsimp only; omega,h2⟩
 ·rintro j s hj ⟨h1,h2⟩ next
  obtain ⟨x,c1,e1,_,k1⟩:=L8 s.2 h2 [1,1,1,1,0,2,3] (by decide) (by decide)
  simp (disch:=omega) only [Fa,dT,w64]
  refine Tot.bind (Tot.of (Q:=λ r=>r=(x,c1)) e1 rfl) ?_
  rintro r rfl
  exact Tot.ble (by simp only [List.length_cons,List.length_nil]; omega) (next (s.1++[x],c1) ⟨by rw [List.length_append,h1]; rfl,k1⟩)
def Xea (r:Evt×Cur×Wld) (w:Wld):Prop:=Cfb r.1∧Aj r.1.2.2.2.1∧D0 r.2.1∧r.2.2=w
theorem Zra {d:Dsk} (hd:DG d):Tot (λ k=>G5 k d) (λ r=>r.length≤60∧∀ t∈r,Kj t):=by
 have hi:=Nw hd.1
 refine (Via d hi hd.2).mono ?_
 rintro r rfl
 obtain ⟨a1,a2⟩:=Bvb d.1 hi.1.2.1 d.1 0 [] (λ x hx=>hx) (λ y hy=>nomatch hy)
 have:=(Ac.1 (D5.1 hd.1).1).2.2
 rw [List.length_nil] at a1
 exact ⟨by unfold Nda; omega,a2⟩
theorem Gma (c:Cur) (w:Wld) (hc:D0 c) (h:WI w):Tot (λ k=>E3 k c w w) (λ r=>Xea r w):=by
 have hnl:=h.ns.1
 have hn1:1≤w.2.2.1.length:=by have:=h.nlen; have:=h.dlen; omega
 have hclk:0≤w.2.2.2.1.1∧w.2.2.2.1.1≤1000000000:=by
  have:=h.clk
  unfold G3 at this
  rw [Bool.and_eq_true,Ew] at this
  exact this.1
 unfold E3
 obtain ⟨i,c1,e1,i0,i1,_,k1⟩:=Ai c hc (w.2.2.1.length:Int) (by omega)
 have i1:=i1 (by omega)
 obtain ⟨s,c2,e2,hs,k2⟩:=Ns c1 k1
 have hs:=(Lt s hs).1
 refine Tot.bind (Tot.of (Q:=λ r=>r=(i,c1)) e1 rfl) ?_
 rintro r rfl
 refine Tot.bind (Tot.of (Q:=λ r=>r=(s,c2)) e2 rfl) ?_
 rintro r rfl
 refine Tot.bind (J8a c2 k2) ?_
 rintro ⟨rc,c3⟩ ⟨hrc,k3⟩
 dsimp only at hrc k3 ⊢
 obtain ⟨n,c4,e4,_,_,_,k4⟩:=Ai c3 k3 20 (by decide)
 refine Tot.bind (Tot.of (Q:=λ r=>r=(n,c4)) e4 rfl) ?_
 rintro r rfl
 dsimp only
 have ok:∀ (kd:Int) (s:ByteArray) (l:List Int) (x:Int) (c:Cur),Kj s→Aj l→l.length≤2000000 → -9223372036854775808≤x→x≤9223372036854775807→D0 c→Xea ((kd,i,s,l,x,rc),c,w) w:=λ kd s l x c h1 h2 h3 h4 h5 h6=>⟨⟨h1,by show l.length≤_; omega,⟨h4,h5⟩,by show rc.length≤_; omega⟩,h2,h6,rfl⟩
 have plain:∀ kd:Int,Tot (λ _=>some ((kd,i,s,([]:List Int),(0:Int),rc),c4,w)) (λ r=>Xea r w):=λ kd=>Tot.pure (ok kd s [] 0 c4 hs Nx (Nat.zero_le _) (by decide) (by decide) k4)
 have put:Tot (λ k=>(A3 c4 2).bind λ r5=>(Dd k r5.2).bind λ r6=>some ((1,i,s,r6.1,IntKind.wrap .i64 (w.2.2.2.1.1+r5.1),rc),r6.2,w)) (λ r=>Xea r w):=by
  obtain ⟨x,c5,e5,x0,x1,_,k5⟩:=Ai c4 k4 2 (by decide)
  have x1:=x1 (by decide)
  refine Tot.bind (Tot.of (Q:=λ r=>r=(x,c5)) e5 rfl) ?_
  rintro r rfl
  refine Tot.bind (Bka c5 k5) ?_
  rintro ⟨l,c6⟩ ⟨g1,g2,g3⟩
  dsimp only at g1 g2 g3 ⊢
  rw [w64 (n:=w.2.2.2.1.1+x) (by omega) (by omega)]
  exact Tot.pure (ok 1 s l _ c6 hs g2 (by omega) (by omega) (by omega) g1)
 have drop:Tot (λ k=>(A3 c4 2).bind λ r17=>some ((2,i,s,([]:List Int),IntKind.wrap .i64 (w.2.2.2.1.1+r17.1),rc),r17.2,w)) (λ r=>Xea r w):=by
  obtain ⟨x,c5,e5,x0,x1,_,k5⟩:=Ai c4 k4 2 (by decide)
  have x1:=x1 (by decide)
  refine Tot.bind (Tot.of (Q:=λ r=>r=(x,c5)) e5 rfl) ?_
  rintro r rfl
  dsimp only
  rw [w64 (n:=w.2.2.2.1.1+x) (by omega) (by omega)]
  exact Tot.pure (ok 2 s [] _ c5 hs Nx (Nat.zero_le _) (by omega) (by omega) k5)
 have rot:Tot (λ k=>(A3 c4 60).bind λ r31=>some ((8,i,s,([]:List Int),r31.1,rc),r31.2,w)) (λ r=>Xea r w):=by
  obtain ⟨x,c5,e5,x0,x1,_,k5⟩:=Ai c4 k4 60 (by decide)
  have x1:=x1 (by decide)
  refine Tot.bind (Tot.of (Q:=λ r=>r=(x,c5)) e5 rfl) ?_
  rintro r rfl
  exact Tot.pure (ok 8 s [] x c5 hs Nx (Nat.zero_le _) (by omega) (by omega) k5)
 have ring:Tot (λ k=>(Aa c4 [1,2,10,1000]).bind λ r33=>some ((9,i,s,([]:List Int),r33.1,rc),r33.2,w)) (λ r=>Xea r w):=by
  obtain ⟨x,c5,e5,hx,k5⟩:=L8 c4 k4 [1,2,10,1000] (by decide) (by decide)
  refine Tot.bind (Tot.of (Q:=λ r=>r=(x,c5)) e5 rfl) ?_
  rintro r rfl
  have hx':1≤x∧x≤1000:=by
   simp only [List.mem_cons,List.not_mem_nil,or_false] at hx
   omega
  exact Tot.pure (ok 9 s [] x c5 hs Nx (Nat.zero_le _) (by omega) (by omega) k5)
 have push:Tot (λ k=>cond (decide ((0:Int)≤i)) (cond (decide (i<(List.length w.2.2.1:Int))) ((G5 k (List.getD w.2.2.1 (Int.toNat i) ((0:Int),(([],[]),([],[])))).2.1).bind λ r20=>cond (decide ((List.length r20:Int) > 0)) ((A3 c4 (List.length r20:Int)).bind λ r21=>cond (decide ((0:Int)≤r21.1)) (cond (decide (r21.1<(List.length r20:Int))) (some ((3,i,(List.getD r20 (Int.toNat r21.1) (⟨#[]⟩:ByteArray)),([]:List Int),0,rc),r21.2,w)) none) none) (some ((3,i,s,([]:List Int),0,rc),c4,w))) none) none) (λ r=>Xea r w):=by
  refine Tot.dec i0 (Tot.dec i1 ?_)
  have hm:=h.nodes _ (A4 (d:=Cr) (show i.toNat<w.2.2.1.length by omega))
  refine Tot.bind (Zra hm.1.g) ?_
  rintro l ⟨hl,hl'⟩
  refine Tot.dite (λ h0=>?_) (λ h0=>plain 3)
  obtain ⟨x,c5,e5,x0,x1,_,k5⟩:=Ai c4 k4 (l.length:Int) (by omega)
  have x1:=x1 (by omega)
  refine Tot.bind (Tot.of (Q:=λ r=>r=(x,c5)) e5 rfl) ?_
  rintro r rfl
  exact Tot.dec x0 (Tot.dec x1 (Tot.pure (ok 3 _ [] 0 c5 (hl' _ (A4 (d:=Oi) (show x.toNat<l.length by omega))) Nx (Nat.zero_le _) (by decide) (by decide) k5)))
 refine Tot.ite (λ _=>put) (λ _=>?_)
 refine Tot.ite (λ _=>put) (λ _=>?_)
 refine Tot.ite (λ _=>put) (λ _=>?_)
 refine Tot.ite (λ _=>put) (λ _=>?_)
 refine Tot.ite (λ _=>put) (λ _=>?_)
 refine Tot.ite (λ _=>put) (λ _=>?_)
 refine Tot.ite (λ _=>drop) (λ _=>?_)
 refine Tot.ite (λ _=>drop) (λ _=>?_)
 refine Tot.ite (λ _=>push) (λ _=>?_)
 refine Tot.ite (λ _=>push) (λ _=>?_)
 refine Tot.ite (λ _=>push) (λ _=>?_)
 refine Tot.ite (λ _=>plain 5) (λ _=>?_)
 refine Tot.ite (λ _=>plain 5) (λ _=>?_)
 refine Tot.ite (λ _=>plain 4) (λ _=>?_)
 refine Tot.ite (λ _=>plain 6) (λ _=>?_)
 refine Tot.ite (λ _=>plain 7) (λ _=>?_)
 refine Tot.ite (λ _=>plain 7) (λ _=>?_)
 refine Tot.ite (λ _=>rot) (λ _=>?_)
 exact Tot.ite (λ _=>rot) (λ _=>ring)
theorem Zsa {w:Wld} (h:WI w) {e:Evt} (he:Cfb e):Tot (λ k=>Ii k w e) (λ r=>r=doW w e):=
 C1b w e he h.ring h.ns h.clk (by have:=h.wlen; omega) (by have:=h.splen; omega)
theorem Nma:∀ (n:Nat) (i:Int) (c:Cur) (w:Wld),i=n→n≤1000→D0 c→WI w→Tot (λ k=>Fe k i c Sva w) (λ r=>WI r.2.1∧D0 r.2.2):=by
 intro n
 induction n with
 |zero=>
  rintro i c w rfl _ hc h
  refine Tot.succ ?_
  simp (disch:=omega) only [Fe,dF]
  exact Tot.pure ⟨h,hc⟩
 |succ n ih=>
  rintro i c w rfl hn hc h
  refine Tot.succ ?_
  simp (disch:=omega) only [Fe,dT]
  refine Tot.bind (Gma c w hc h) ?_
  rintro ⟨e,c1,w1⟩ ⟨g1,g2,g3,g4⟩
  dsimp only at g1 g2 g3 g4 ⊢
  subst g4
  refine Tot.bind (Zsa h g1) ?_
  rintro r rfl
  rw [w64 (n:=((n+1:Nat):Int) - 1) (by omega) (by omega)]
  exact ih _ c1 _ (by omega) (by omega) g3 (h.ev g2)
theorem J9a (c:Cur) (hc:D0 c) (n:Int) (hn:n≤1000):Tot (λ k=>Eh k c n) (λ r=>WI r.1∧D0 r.2):=by
 unfold Eh
 refine Tot.bind (Nla c hc) ?_
 rintro ⟨w,c1⟩ ⟨h,k1⟩
 dsimp only at h k1 ⊢
 obtain ⟨x,c2,e2,x0,x1,x2,k2⟩:=Ai c1 k1 n (by omega)
 refine Tot.bind (Tot.of (Q:=λ r=>r=(x,c2)) e2 rfl) ?_
 rintro r rfl
 refine Tot.bind (Nma x.toNat x c2 w (by omega) (by by_cases h:0<n<;>omega) k2 h) ?_
 rintro r hr
 exact Tot.pure hr
theorem W2a (a:List Int) (hb:(a.length:Int)≤1048576) (m:Int) (hm:3≤m∧m≤1000):∃ n,Jt a m=some n∧3≤n∧n≤m:=by
 unfold Jt
 rw [Int.tdiv_eq_ediv_of_nonneg (by omega),w64 (n:=(a.length:Int) / 12) (by omega) (by omega),w64 (n:=3+(a.length:Int) / 12) (by omega) (by omega)]
 by_cases h:3+(a.length:Int) / 12 > m
 ·exact ⟨m,by rw [decide_eq_true h]; rfl,hm.1,Int.le_refl _⟩
 ·exact ⟨_,by rw [decide_eq_false h]; rfl,by omega,by omega⟩

def WIm (m:Nat) (w:Wld):Prop:=RBd w.2.1∧w.1.length≤2000000∧((1≤w.2.2.1.length∧w.2.2.1.length≤2000000)∧∀ n∈w.2.2.1,NIn n)∧(w.2.2.2.2.1.length≤m∧∀ x∈w.2.2.2.2.1,Kj x.1∧x.2.1.2.2.length≤2000000)∧(w.2.2.2.2.2.length≤m∧∀ s∈w.2.2.2.2.2,Kj s)
theorem WIm.win {m:Nat} {w:Wld} (h:WIm m w) (hm:m≤1000):WIn w:=by
 obtain ⟨h1,h2,⟨h3,h4⟩,⟨h5,h6⟩,h7,h8⟩:=h
 exact ⟨h1,h2,⟨h3.2,h4⟩,⟨by omega,λ x hx=>(h6 x hx).1⟩,by omega,h8⟩
theorem WIm.more {m n:Nat} {w:Wld} (h:WIm m w) (hm:m≤n):WIm n w:=by
 obtain ⟨h1,h2,h3,⟨h5,h6⟩,h7,h8⟩:=h
 exact ⟨h1,h2,h3,⟨by omega,h6⟩,by omega,h8⟩
theorem WI.wim {w:Wld} (h:WI w):WIm 200 w:=by
 have hi:=h.win
 have h2:=h.dlen
 have h1:=h.nlen
 exact ⟨hi.1,hi.2.1,⟨⟨by omega,hi.2.2.1.1⟩,hi.2.2.1.2⟩,⟨h.wlen,λ x hx=>⟨Kx (h.wok x hx).1,by have:=(Ld.1 (h.wok x hx).2.1).2.1; omega⟩⟩,h.splen,hi.2.2.2.2.2⟩
theorem Gna {f:Fil} (h:f.2.2.length≤2000000):Bd f=some f:=by
 unfold Bd
 rw [bT (by simp only [List.length_nil]; omega),List.nil_append]
theorem Swa {m:Nat} {w:Wld} (h:WIm m w) (hm:m≤1000):Tot (λ k=>Cs k w) (λ r=>r=w):=by
 obtain ⟨h1,h2,⟨⟨_,h3⟩,h4⟩,⟨h5,h6⟩,h7,h8⟩:=h
 unfold Cs
 refine Tot.ble (by rw [List.length_nil]; omega) (Tot.bind (Uq w.2.1 h1) ?_)
 rintro r rfl
 refine Tot.ble (by rw [List.length_nil]; omega) ?_
 rw [List.nil_append,List.nil_append]
 refine Tot.bind (Q:=λ r=>r=(w,Sva,(w.1,w.2.1,w.2.2.1,w.2.2.2.1,[],w.2.2.2.2.2))) ?_ ?_
 ·refine Tot.up (L:=λ k i (s:List Nod)=>Fg k i w Sva (w.1,w.2.1,s,w.2.2.2.1,[],w.2.2.2.2.2)) (Q:=λ r=>r=(w,Sva,(w.1,w.2.1,w.2.2.1,w.2.2.2.1,[],w.2.2.2.2.2))) w.2.2.1.length (λ j s=>s=w.2.2.1.take j) ?_ ?_ 0 [] (Nat.zero_le _) rfl
  ·rintro s rfl
   simp (disch:=omega) only [Fg,dF]
   exact Tot.pure (by rw [List.take_length])
  ·rintro j s hj rfl next
   have hm:=h4 _ (A4 (d:=Cr) hj)
   have e0:w.2.2.1.getD j ((0:Int),(([],[]),([],[])))=w.2.2.1.getD j Cr:=rfl
   have hl:(w.2.2.1.take j).length=j:=by rw [List.length_take]; omega
   simp (disch:=omega) only [Fg,dT,Int.toNat_natCast,w64,e0]
   refine Tot.bind (N5 _ hm) ?_
   rintro r rfl
   refine Tot.ble (by rw [hl]; simp only [List.length_cons,List.length_nil]; omega) (next _ ?_)
   rw [List.take_succ_eq_append_getElem hj,List.getD_eq_getElem?_getD,List.getElem?_eq_getElem hj]
   rfl
 ·rintro r rfl
  refine Tot.bind (Q:=λ r=>r=(Sva,w)) ?_ (by rintro r rfl; exact Tot.pure rfl)
  refine Tot.up (L:=λ k i (s:List Wri)=>Ff k i w Sva (w.1,w.2.1,w.2.2.1,w.2.2.2.1,s,w.2.2.2.2.2)) (Q:=λ r=>r=(Sva,w)) w.2.2.2.2.1.length (λ j s=>s=w.2.2.2.2.1.take j) ?_ ?_ 0 [] (Nat.zero_le _) rfl
  ·rintro s rfl
   simp (disch:=omega) only [Ff,dF]
   exact Tot.pure (by rw [List.take_length])
  ·rintro j s hj rfl next
   have hm:=(h6 _ (A4 (d:=Sf) hj)).2
   have e0:w.2.2.2.2.1.getD j ((⟨#[]⟩:ByteArray),((((0:Int),((0:Int),(0:Int))),(false,[])),false))=w.2.2.2.2.1.getD j Sf:=rfl
   have hl:(w.2.2.2.2.1.take j).length=j:=by rw [List.length_take]; omega
   simp (disch:=omega) only [Ff,dT,Int.toNat_natCast,w64,e0,Gna hm,Option.bind_some]
   refine Tot.ble (by rw [hl]; simp only [List.length_cons,List.length_nil]; omega) (next _ ?_)
   rw [List.take_succ_eq_append_getElem hj,List.getD_eq_getElem?_getD,List.getElem?_eq_getElem hj]
   rfl
theorem Lya {m:Nat} {w:Wld} (h:WIm m w) {i:Nat} {n:Nod} (hn:NIn n):WIm m (w.1,w.2.1,w.2.2.1.set i n,w.2.2.2):=by
 obtain ⟨h1,h2,⟨h3,h4⟩,h5⟩:=h
 refine ⟨h1,h2,⟨by rw [List.length_set]; exact h3,λ x hx=>?_⟩,h5⟩
 rcases List.mem_or_eq_of_mem_set hx with hx|rfl
 ·exact h4 x hx
 ·exact hn
theorem Jaa {m:Nat} {w:Wld} {c:Cur} (hc:D0 c) (h:WIm m w) (hm:m≤900):Tot (λ k=>Df k c w w) (λ r=>WIm (m+1) r.1∧D0 r.2.1):=by
 have h':=h
 obtain ⟨h1,h2,⟨⟨h0,h3⟩,h4⟩,⟨h5,h6⟩,h7,h8⟩:=h'
 have hw:=h.more (Nat.le_succ m)
 unfold Df
 refine Tot.bind (Swa (w:=w) h (by omega)) ?_
 rintro r rfl
 refine Tot.dec (by omega) ?_
 obtain ⟨i,c1,e1,i0,i1,_,k1⟩:=Ai c hc (r.2.2.1.length:Int) (by omega)
 have i1:=i1 (by omega)
 refine Tot.bind (Tot.of (Q:=λ r=>r=(i,c1)) e1 rfl) ?_
 rintro _ rfl
 obtain ⟨x,c2,e2,_,_,_,k2⟩:=Ai c1 k1 10 (by decide)
 refine Tot.bind (Tot.of (Q:=λ r=>r=(x,c2)) e2 rfl) ?_
 rintro _ rfl
 dsimp only
 refine Tot.ite (λ _=>?_) (λ _=>?_)
 ·obtain ⟨y,c3,e3,_,k3⟩:=L8 c2 k2 [0,1,2,6] (by decide) (by decide)
  refine Tot.bind (Tot.of (Q:=λ r=>r=(y,c3)) e3 rfl) ?_
  rintro _ rfl
  exact Tot.pure ⟨⟨h1,hw.2⟩,k3⟩
 refine Tot.ite (λ _=>?_) (λ _=>?_)
 ·refine Tot.dec (by omega) (Tot.bind (Rga c2 k2) ?_)
  rintro ⟨n,c3⟩ ⟨g1,g2⟩
  exact Tot.dec i0 (Tot.dec i1 (Tot.pure ⟨Lya hw g1,g2⟩))
 refine Tot.ite (λ _=>?_) (λ _=>?_)
 ·obtain ⟨y,c3,e3,k3⟩:=Lda c2 k2
  refine Tot.bind (Tot.of (Q:=λ r=>r=(y,c3)) e3 rfl) ?_
  rintro _ rfl
  exact Tot.pure ⟨hw,k3⟩
 refine Tot.ite (λ _=>?_) (λ _=>?_)
 ·refine Tot.dite (λ _=>Tot.dec (by omega) (Tot.pure ⟨⟨h1,h2,⟨⟨h0,h3⟩,h4⟩,⟨by dsimp only; rw [List.length_drop]; omega,λ x hx=>h6 x (List.mem_of_mem_drop hx)⟩,by dsimp only; omega,h8⟩,k2⟩)) (λ _=>Tot.pure ⟨hw,k2⟩)
 refine Tot.ite (λ _=>?_) (λ _=>?_)
 ·obtain ⟨s,c3,e3,hs,k3⟩:=Pr c2 k2
  refine Tot.bind (Tot.of (Q:=λ r=>r=(s,c3)) e3 rfl) ?_
  rintro _ rfl
  refine Tot.bind (R9a c3 k3) ?_
  rintro ⟨f,c4⟩ ⟨⟨_,g1⟩,k4⟩
  refine Tot.ble (by simp only [List.length_cons,List.length_nil]; omega) (Tot.pure ⟨⟨h1,h2,⟨⟨h0,h3⟩,h4⟩,⟨by dsimp only; rw [List.length_append]; simp only [List.length_cons,List.length_nil]; omega,λ x hx=>?_⟩,by dsimp only; omega,h8⟩,k4⟩)
  rcases List.mem_append.1 hx with hx|hx
  ·exact h6 x hx
  ·rw [List.mem_singleton.1 hx]; exact ⟨hs,g1⟩
 refine Tot.ite (λ _=>?_) (λ _=>?_)
 ·obtain ⟨s,c3,e3,hs,k3⟩:=Pr c2 k2
  refine Tot.bind (Tot.of (Q:=λ r=>r=(s,c3)) e3 rfl) ?_
  rintro _ rfl
  refine Tot.ble (by simp only [List.length_cons,List.length_nil]; omega) (Tot.pure ⟨⟨h1,h2,⟨⟨h0,h3⟩,h4⟩,⟨by dsimp only; omega,h6⟩,by dsimp only; rw [List.length_append]; simp only [List.length_cons,List.length_nil]; omega,λ x hx=>?_⟩,k3⟩)
  rcases List.mem_append.1 hx with hx|hx
  ·exact h8 x hx
  ·rw [List.mem_singleton.1 hx]; exact hs
 refine Tot.ite (λ _=>?_) (λ _=>?_)
 ·have hm:=h4 _ (A4 (d:=Cr) (show i.toNat<r.2.2.1.length by omega))
  refine Tot.dec (by omega) (Tot.dec i0 (Tot.dec i1 (Tot.pure ⟨Lya hw ⟨⟨Nw dg0.1,dg0.2⟩,hm.2⟩,k2⟩)))
 refine Tot.ite (λ _=>?_) (λ _=>Tot.pure ⟨hw,k2⟩)
 refine Tot.dite (λ hd=>?_) (λ _=>Tot.pure ⟨hw,k2⟩)
 obtain ⟨y,c3,e3,_,k3⟩:=L8 c2 k2 [0,5,21] (by decide) (by decide)
 refine Tot.bind (Tot.of (Q:=λ r=>r=(y,c3)) e3 rfl) ?_
 rintro _ rfl
 exact Tot.dec (by omega) (Tot.pure ⟨⟨h1,by dsimp only; rw [List.length_set]; exact h2,hw.2.2⟩,k3⟩)
theorem Nna (a:List Int) (hb:(a.length:Int)≤1048576):Tot (λ k=>G9 k a) (λ w=>WIm 203 w):=by
 unfold G9
 refine Tot.bind (Qga a hb) ?_
 intro c hc
 obtain ⟨n,e,n0,n1⟩:=W2a a hb 30 (by decide)
 refine Tot.bind (Tot.of (Q:=λ r=>r=n) e rfl) ?_
 rintro n rfl
 refine Tot.bind (J9a c hc _ (by omega)) ?_
 rintro ⟨w,c1⟩ ⟨h,k1⟩
 dsimp only at h k1 ⊢
 obtain ⟨x,c2,e2,x0,x1,_,k2⟩:=Ai c1 k1 3 (by decide)
 have x1:=x1 (by decide)
 refine Tot.bind (Tot.of (Q:=λ r=>r=(x,c2)) e2 rfl) ?_
 rintro _ rfl
 have loop:∀ (n:Nat) (i:Int) (c:Cur) (w:Wld) (m:Nat),i=n→n≤3→m+n≤203→D0 c→WIm m w→Tot (λ k=>Gz k i Sva w c) (λ r=>WIm 203 r.2):=by
  intro n
  induction n with
  |zero=>
   rintro i c w m rfl _ hm hc h
   refine Tot.succ ?_
   simp (disch:=omega) only [Gz,dF]
   exact Tot.pure (h.more (by omega))
  |succ n ih=>
   rintro i c w m rfl hn hm hc h
   refine Tot.succ ?_
   simp (disch:=omega) only [Gz,dT]
   refine Tot.bind (Jaa hc h (by omega)) ?_
   rintro ⟨w1,c1,w2⟩ ⟨g1,g2⟩
   dsimp only at g1 g2 ⊢
   rw [w64 (n:=((n+1:Nat):Int) - 1) (by omega) (by omega)]
   exact ih _ c1 w1 (m+1) (by omega) (by omega) (by omega) g2 g1
 refine Tot.bind (loop x.toNat x c2 w 200 (by omega) (by omega) (by omega) k2 h.wim) ?_
 rintro r hr
 exact Tot.pure hr

end Go.Proofs.YtcgfpppmikhgmaaGreat.Vf

section
set_option linter.unusedVariables false
set_option linter.unusedSimpArgs false
namespace Go.Proofs.YtcgfpppmikhgmaaGreat.Pure
open Go Go.RowKit Go.Proofs.YtcgfpppmikhgmaaGreat.Vf
theorem FnSafe:∀ (a0:List Int),Ty.fit ti (.sl 5 (.i .u8)) a0→∃ k,Ki k a0=some true:=by
 intro a0 _
 refine Tot.law (f:=λ k=>Ki k a0) ?_
 unfold Ki Mz
 refine Tot.bind (Tot.pure (Q:=λ b=>b=decide ((List.length a0:Int) > 1048576)) rfl) ?_
 rintro b rfl
 refine Tot.dite (λ _=>Tot.pure rfl) (λ hb=>?_)
 refine Tot.bind (Q:=λ w=>WIm 203 w) ?_ ?_
 ·unfold Iv
  refine Tot.bind (Nna a0 (by omega)) ?_
  intro w hw
  exact Tot.pure hw
 intro w h
 have hw:=h.win (by decide)
 refine Tot.bind (Vta w hw) ?_
 rintro r rfl
 have no:Rk w≠0→0≤Rk w→Rk w≤5→Tot (λ k=>(Jj k w).bind λ r13=>cond (Rk w==r13) (cond ((Rk w==0)==false) (cond (decide (Rk w≥0)) (some (decide (Rk w≤5))) (some false)) (some false)) (some false)) (λ b=>b=true):=by
  intro h0 h1 h2
  refine Tot.bind (Lta w hw) ?_
  rintro r rfl
  exact Tot.yes (by rw [beq_self_eq_true]) (Tot.yes (by rw [beq_eq_false_iff_ne.2 h0]; rfl) (Tot.dec h1 (Tot.pure (decide_eq_true h2))))
 refine Tot.bind (Gca w hw) ?_
 rintro r rfl
 refine Tot.ite (λ a1=>Tot.bind (A6a w hw) ?_) (λ a1=>no ?_ ?_ ?_)
 ·rintro r rfl
  refine Tot.ite (λ a2=>Tot.bind (C5a w hw) ?_) (λ a2=>no ?_ ?_ ?_)
  ·rintro r rfl
   refine Tot.ite (λ a3=>Tot.bind (Lsa w hw) ?_) (λ a3=>no ?_ ?_ ?_)
   ·rintro r rfl
    refine Tot.ite (λ a4=>Tot.bind (A7a w hw) ?_) (λ a4=>no ?_ ?_ ?_)
    ·rintro r rfl
     refine Tot.bind (Lta w hw) ?_
     rintro r rfl
     refine Tot.yes (by rw [beq_self_eq_true]) ?_
     unfold Rk
     rw [a1,a2,a3,a4]
     cases Oe w<;>exact Tot.pure rfl
    all_goals (unfold Rk; rw [a1,a2,a3,a4]; simp)
   all_goals (unfold Rk; rw [a1,a2,a3]; simp)
  all_goals (unfold Rk; rw [a1,a2]; simp)
 all_goals (unfold Rk; rw [a1]; simp)
end Go.Proofs.YtcgfpppmikhgmaaGreat.Pure
end
