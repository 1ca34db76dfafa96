import Derived.Test.YtmhhjceoinoekaaGreatMao
set_option linter.unusedVariables false
set_option linter.unusedSimpArgs false
namespace Go.Proofs.YtmhhjceoinoekaaGreat.Vf
open Go

abbrev Evt:=Int×Int×ByteArray×List Int×Int×List Int
def Dkb (e:Evt):Prop:=Km e.2.2.1∧e.2.2.2.1.length≤1000000000∧(-9223372036854775808≤e.2.2.2.2.1∧e.2.2.2.2.1≤9223372036854775807)∧e.2.2.2.2.2.length≤4000000000000
def H3a (l:List Int):List Bool:=l.map (· == 1)
def crN (n:Nod) (kp:List Bool):Nod:=(n.1,T3 n.2.1 kp,n.2.2)
theorem D3b {n:Nod} {kp:List Bool} (hn:NG n):NG (crN n kp):=E7a hn (Soa hn.g)
def Bcb (w:Wld) (i:Nat) (s:ByteArray) (b:Int):Bool×Wld:=bif (M5a (w.2.2.1.getD i Cf) s b).2 then (true,(w.1,w.2.1,w.2.2.1.set i (M5a (w.2.2.1.getD i Cf) s b).1,w.2.2.2.1,w.2.2.2.2.1,spl w.2.2.2.2.2 s)) else (false,w)
def H4a (w:Wld) (e:Evt) (i:Nat):Bool×Wld:=
 bif e.1==3 then Jva w i e.2.2.1 e.2.2.2.2.2 else bif e.1==4 then Jxa w i e.2.2.2.2.2 else bif e.1==5 then Jya w i e.2.2.2.2.2 else
 bif e.1==6 then (true,wN w (w.2.2.1.set i (Enb (w.2.2.1.getD i Cf)).1)) else
 bif e.1==7 then (true,wN w (w.2.2.1.set i (crN (w.2.2.1.getD i Cf) (H3a e.2.2.2.2.2)))) else Bcb w i e.2.2.1 e.2.2.2.2.1
theorem Taa (w:Wld) (e:Evt) (i:Nat) (hei:e.2.1=(i:Int)) (he:Dkb e) (hr:H2 w.2.1 w.1=true) (hn:NS w.2.2.1) (hi:i<w.2.2.1.length) (hsp:w.2.2.2.2.2.length≤2000000):
  Tot (λ k=>Ay k w e) (λ r=>r=H4a w e i):=by
 have hni:=hn.get hi
 have e0:w.2.2.1.getD i ((0:Int),(([],[]),([],[])))=w.2.2.1.getD i Cf:=rfl
 obtain ⟨he1,he2,he3,he4⟩:=he
 unfold Ay H4a
 cases e.1==3 with
 |true=>
  rw [hei]
  refine Tot.yes rfl (Tot.bind (Wna w i _ _ hr hn hi) ?_)
  rintro r rfl
  exact Tot.pure rfl
 |false=>
  refine Tot.no rfl ?_
  cases e.1==4 with
  |true=>
   rw [hei]
   refine Tot.yes rfl (Tot.bind (T6a w i _ (N9 hr) hn hi) ?_)
   rintro r rfl
   exact Tot.pure rfl
  |false=>
   refine Tot.no rfl ?_
   cases e.1==5 with
   |true=>
    rw [hei]
    refine Tot.yes rfl (Tot.bind (T7a w i _ (N9 hr) hn hi) ?_)
    rintro r rfl
    exact Tot.pure rfl
   |false=>
    refine Tot.no rfl ?_
    cases e.1==6 with
    |true=>
     refine Tot.yes rfl ?_
     simp (disch:=omega) only [hei,dT,Int.toNat_natCast,e0]
     refine Tot.bind (Ssa _ hni.g) ?_
     rintro r rfl
     exact Tot.pure rfl
    |false=>
     refine Tot.no rfl ?_
     cases e.1==7 with
     |true=>
      refine Tot.yes rfl (Tot.bind (Q:=λ r=>r=(H3a e.2.2.2.2.2,w,e)) ?_ ?_)
      ·refine Tot.up (L:=λ k j (s:List Bool)=>Cs k s j w e) (Q:=λ r=>r=(H3a e.2.2.2.2.2,w,e)) e.2.2.2.2.2.length (λ j s=>s=H3a (e.2.2.2.2.2.take j)) ?_ ?_ 0 [] (Nat.zero_le _) rfl
       ·rintro s rfl
        simp (disch:=omega) only [Cs,dF]
        exact Tot.pure (by rw [List.take_length])
       ·rintro j s hj rfl next
        simp (disch:=omega) only [Cs,dT,Int.toNat_natCast,w64]
        have hk:(H3a (e.2.2.2.2.2.take j)).length=j:=by unfold H3a; rw [List.length_map,List.length_take]; omega
        refine Tot.ble (by rw [hk,List.length_singleton]; omega) (next _ ?_)
        unfold H3a
        rw [List.take_succ_eq_append_getElem hj,List.map_append,List.getD_eq_getElem?_getD,List.getElem?_eq_getElem hj]
        rfl
      ·rintro r rfl
       simp (disch:=omega) only [hei,dT,Int.toNat_natCast,e0]
       refine Tot.bind (Sra _ _ hni.g (by unfold H3a; rw [List.length_map]; exact he4)) ?_
       rintro r rfl
       exact Tot.pure rfl
     |false=>
      refine Tot.no rfl ?_
      simp (disch:=omega) only [hei,dT,Int.toNat_natCast,e0]
      refine Tot.bind (Jda _ _ _ (Gla hni) he3.2 he3.1) ?_
      rintro r rfl
      unfold Bcb
      rw [cond_false,cond_false,cond_false,cond_false,cond_false]
      generalize M5a (w.2.2.1.getD i Cf) e.2.2.1 e.2.2.2.2.1=q
      cases h:q.2 with
      |true=>
       refine Tot.yes rfl (Tot.bind (T9a _ _ (by omega)) ?_)
       rintro r rfl
       exact Tot.pure rfl
      |false=>exact Tot.no rfl (Tot.pure rfl)
def Jza (w:Wld) (i wt:Int):Bool×Wld:=bif !(inR i 0 ((w.1.length:Int) - 1)) then (false,w) else bif !(inR wt 1 1000) then (false,w) else
 (decide ((Jia w.2.1 (wgt w.1 i.toNat wt)).2≥0),(wgt w.1 i.toNat wt,(Jia w.2.1 (wgt w.1 i.toNat wt)).1,w.2.2))
theorem Tba (w:Wld) (i wt:Int) (hr:H2 w.2.1 w.1=true):Tot (λ k=>Hk k w i wt) (λ r=>r=Jza w i wt):=by
 have h12:=(Dz.1 (Ax.1 hr).1).2.2.2
 unfold Hk Jza
 rw [w64 (n:=(w.1.length:Int) - 1) (by omega) (by omega)]
 simp only [Nz,Option.bind_some]
 cases h1:inR i 0 ((w.1.length:Int) - 1) with
 |false=>exact Tot.yes rfl (Tot.pure rfl)
 |true=>
  refine Tot.no rfl ?_
  cases h2:inR wt 1 1000 with
  |false=>exact Tot.yes rfl (Tot.pure rfl)
  |true=>
   refine Tot.no rfl ?_
   obtain ⟨i0,i1⟩:=Fh.1 h1
   obtain ⟨w0,w1⟩:=Fh.1 h2
   simp (disch:=omega) only [dT]
   refine Tot.bind (Sla (r:=w.2.1) (l:=wgt w.1 i.toNat wt) (E3a hr (by omega) w0 w1)) ?_
   rintro r rfl
   exact Tot.pure rfl
def Yea (r:Int×Wld):Bool×Wld:=bif r.1 != 2 then (r.1 != 3,r.2) else (false,r.2)
def doW (w:Wld) (e:Evt):Bool×Wld:=
 bif e.1==1 then Yea (ask w e.2.2.1 ((0,0,0),false,e.2.2.2.1) e.2.2.2.2.1 e.2.2.2.2.2) else
 bif e.1==2 then Yea (ask w e.2.2.1 ((0,0,0),true,[]) e.2.2.2.2.1 e.2.2.2.2.2) else
 bif e.1==3 || (e.1==4 || (e.1==5 || (e.1==6 || (e.1==7 || e.1==8)))) then (bif inR e.2.1 0 ((w.2.2.1.length:Int) - 1) then H4a w e e.2.1.toNat else (false,w)) else
 bif e.1==9 then Jza w e.2.1 e.2.2.2.2.1 else (false,w)
theorem D4b (w:Wld) (e:Evt) (he:Dkb e) (hr:H2 w.2.1 w.1=true) (hn:NS w.2.2.1) (hst:Fi w.2.2.2.1=true) (hw:w.2.2.2.2.1.length≤2000000) (hsp:w.2.2.2.2.2.length≤2000000):
  Tot (λ k=>Iu k w e) (λ r=>r=doW w e):=by
 have hnl:=hn.1
 have node:∀ {f:Nat→Option (Bool×Wld)} ,Tot (λ k=>(A7 e.2.1 0 (IntKind.wrap .i64 ((List.length w.2.2.1:Int) - 1))).bind λ r4=>cond r4 ((Ay k w e).bind λ r5=>some (r5.1,r5.2)) (some (false,w))) (λ r=>r=bif inR e.2.1 0 ((w.2.2.1.length:Int) - 1) then H4a w e e.2.1.toNat else (false,w)):=by
  intro f
  rw [w64 (n:=(w.2.2.1.length:Int) - 1) (by omega) (by omega)]
  simp only [Nz,Option.bind_some]
  cases h1:inR e.2.1 0 ((w.2.2.1.length:Int) - 1) with
  |false=>exact Tot.no rfl (Tot.pure rfl)
  |true=>
   obtain ⟨i0,i1⟩:=Fh.1 h1
   refine Tot.yes rfl (Tot.bind (Taa w e e.2.1.toNat (by omega) he hr hn (by omega) hsp) ?_)
   rintro r rfl
   exact Tot.pure rfl
 have answer:∀ (q:Int×Wld),Tot (λ _=>cond (q.1 != 2) (some (q.1 != 3,q.2)) (some (false,q.2))) (λ r=>r=Yea q):=by
  intro q
  unfold Yea
  cases q.1 != 2<;>exact Tot.pure rfl
 unfold Iu doW
 cases e.1==1 with
 |true=>
  refine Tot.yes rfl (Tot.ble (by have:=he.2.1; rw [List.length_nil]; omega) (Tot.bind (Jua w e.2.2.1 ((0,0,0),false,e.2.2.2.1) e.2.2.2.2.1 e.2.2.2.2.2 hr hn hst he.1 (λ h=>by cases h) hw) ?_))
  rintro q rfl
  exact answer _
 |false=>
  refine Tot.no rfl ?_
  cases e.1==2 with
  |true=>
   refine Tot.yes rfl (Tot.bind (Jua w e.2.2.1 ((0,0,0),true,[]) e.2.2.2.2.1 e.2.2.2.2.2 hr hn hst he.1 (λ _=>rfl) hw) ?_)
   rintro q rfl
   exact answer _
  |false=>
   refine Tot.no rfl ?_
   cases e.1==3 with
   |true=>exact Tot.yes rfl (node (f:=λ _=>none))
   |false=>
    refine Tot.no rfl ?_
    cases e.1==4 with
    |true=>exact Tot.yes rfl (node (f:=λ _=>none))
    |false=>
     refine Tot.no rfl ?_
     cases e.1==5 with
     |true=>exact Tot.yes rfl (node (f:=λ _=>none))
     |false=>
      refine Tot.no rfl ?_
      cases e.1==6 with
      |true=>exact Tot.yes rfl (node (f:=λ _=>none))
      |false=>
       refine Tot.no rfl ?_
       cases e.1==7 with
       |true=>exact Tot.yes rfl (node (f:=λ _=>none))
       |false=>
        refine Tot.no rfl ?_
        cases e.1==8 with
        |true=>exact Tot.yes rfl (node (f:=λ _=>none))
        |false=>
         refine Tot.no rfl ?_
         cases e.1==9 with
         |true=>
          refine Tot.yes rfl (Tot.bind (Tba w _ _ hr) ?_)
          rintro r rfl
          exact Tot.pure rfl
         |false=>exact Tot.no rfl (Tot.pure rfl)

theorem Cna {a b c:Stp} (h1:sle a b=false) (h2:sle b c=false):sle a c=false:=by
 cases h:sle a c with
 |false=>rfl
 |true=>
  have n1:¬ _:=λ k=>by rw [R9.2 k] at h1; cases h1
  have n2:¬ _:=λ k=>by rw [R9.2 k] at h2; cases h2
  have h3:=R9.1 h
  omega
theorem Axa {a b:Stp} (h:sle a b=true):sle b a=false:=by
 cases h':sle b a with
 |false=>rfl
 |true=>
  have h1:=R9.1 h
  have h2:=R9.1 h'
  omega
def Eka (ws:List Wri):Prop:=∀ x∈ws,Ar x.1=true∧Eb x.2.1=true∧An x.2.1.2.2
def IsW (ws:List Wri) (s:ByteArray) (f:Fil):Prop:=∃ x∈ws,x.1=s∧x.2.1=f
def EO (ws:List Wri) (sp:List ByteArray) (s:ByteArray) (b:List Int):Prop:=∃ f,IsW ws s f∧(b=Ls f∨(s∈sp∧∃ n,n<8 * (Ls f).length∧b=Nl (Ls f) n))
def ED (ws:List Wri) (sp:List ByteArray) (d:Dsk) (s:ByteArray):Prop:=
 (∀ b,gt d.1 s=some b→EO ws sp s b)∧(∀ b,gt d.2 s=some b→EO ws sp s b)∧
 (s∉sp→∀ b f,gt d.2 s=some b→Nj b=some f→∃ b' f',gt d.1 s=some b'∧Nj b'=some f'∧sle f'.1 f.1=false)
def DI (ws:List Wri) (sp:List ByteArray) (d:Dsk):Prop:=∀ s,ED ws sp d s
def HD (d:Dsk) (s:ByteArray) (st:Stp):Prop:=∃ b f,gt d.2 s=some b∧Nj b=some f∧sle f.1 st=false
def MO (sp:List ByteArray) (d d':Dsk):Prop:=∀ s,s∉sp→∀ st,HD d s st→HD d' s st
theorem IsW.good {ws:List Wri} (hw:Eka ws) {s:ByteArray} {f:Fil} (h:IsW ws s f):Ar s=true∧Eb f=true∧An f.2.2:=by
 obtain ⟨x,hx,rfl,rfl⟩:=h
 exact hw x hx
theorem EO.get {ws:List Wri} {sp:List ByteArray} (hw:Eka ws) {s:ByteArray} {b:List Int} (h:EO ws sp s b) {f:Fil} (hf:Nj b=some f):IsW ws s f∧b=Ls f:=by
 obtain ⟨g,h1,h2⟩:=h
 obtain ⟨_,g2,g3⟩:=h1.good hw
 rcases h2 with rfl|⟨_,n,hn,rfl⟩
 ·rw [Xn g2 g3] at hf
  cases hf
  exact ⟨h1,rfl⟩
 ·rw [W3a g2 hn] at hf; cases hf
theorem EO.fine {ws:List Wri} {sp:List ByteArray} (hw:Eka ws) {s:ByteArray} {b:List Int} (h:EO ws sp s b) (hs:s∉sp):∃ f,Nj b=some f∧IsW ws s f:=by
 obtain ⟨g,h1,h2⟩:=h
 obtain ⟨_,g2,g3⟩:=h1.good hw
 rcases h2 with rfl|⟨h,_⟩
 ·exact ⟨g,Xn g2 g3,h1⟩
 ·exact absurd h hs
theorem EO.mono {ws ws':List Wri} {sp sp':List ByteArray} (h1:∀ x∈ws,x∈ws') (h2:∀ s∈sp,s∈sp') {s:ByteArray} {b:List Int} (h:EO ws sp s b):EO ws' sp' s b:=by
 obtain ⟨g,⟨x,hx,e⟩,h3⟩:=h
 refine ⟨g,⟨x,h1 x hx,e⟩,?_⟩
 rcases h3 with h3|⟨h3,h4⟩
 ·exact .inl h3
 ·exact .inr ⟨h2 s h3,h4⟩
theorem ED.mono {ws ws':List Wri} {sp sp':List ByteArray} (h1:∀ x∈ws,x∈ws') (h2:∀ s∈sp,s∈sp') {d:Dsk} {s:ByteArray} (h:ED ws sp d s):ED ws' sp' d s:=
 ⟨λ b hb=>(h.1 b hb).mono h1 h2,λ b hb=>(h.2.1 b hb).mono h1 h2,λ hs=>h.2.2 (λ c=>hs (h2 s c))⟩
theorem DI.mono {ws ws':List Wri} {sp sp':List ByteArray} (h1:∀ x∈ws,x∈ws') (h2:∀ s∈sp,s∈sp') {d:Dsk} (h:DI ws sp d):DI ws' sp' d:=λ s=>(h s).mono h1 h2
theorem ED.same {ws:List Wri} {sp:List ByteArray} {d d':Dsk} {s:ByteArray} (h:ED ws sp d s) (e1:gt d'.1 s=gt d.1 s) (e2:gt d'.2 s=gt d.2 s):ED ws sp d' s:=by
 unfold ED
 rw [e1,e2]
 exact h
theorem HD.same {d d':Dsk} {s:ByteArray} {st:Stp} (h:HD d s st) (e2:gt d'.2 s=gt d.2 s):HD d' s st:=by
 unfold HD
 rw [e2]
 exact h
theorem MO.refl (sp:List ByteArray) (d:Dsk):MO sp d d:=λ _ _ _ h=>h
theorem MO.trans {sp:List ByteArray} {a b c:Dsk} (h1:MO sp a b) (h2:MO sp b c):MO sp a c:=λ s hs st h=>h2 s hs st (h1 s hs st h)
theorem Tca {s:ByteArray} {st:Stp} {n:Nod}:Jsa s st n=true↔HD n.2.1 s st:=by
 unfold Jsa HD
 cases h:gt n.2.1.2 s with
 |none=>exact ⟨λ c=>(by cases c),λ ⟨b,f,c,_⟩=>(by cases c)⟩
 |some b=>
  dsimp only
  cases h2:Nj b with
  |none=>exact ⟨λ c=>(by cases c),λ ⟨b',f,c,c2,_⟩=>(by cases c; rw [h2] at c2; cases c2)⟩
  |some f=>
   dsimp only
   rw [Bool.not_eq_true']
   exact ⟨λ c=>⟨b,f,rfl,h2,c⟩,λ ⟨b',f',c,c2,c3⟩=>(by cases c; rw [h2] at c2; cases c2; exact c3)⟩
section
variable {ws:List Wri} {sp:List ByteArray} {d:Dsk} {s:ByteArray}
theorem ED.ge (h:ED ws sp d s) (hs:s∉sp) {st:Stp} (hh:HD d s st):∃ b f,gt d.1 s=some b∧Nj b=some f∧sle f.1 st=false:=by
 obtain ⟨b,f,h1,h2,h3⟩:=hh
 obtain ⟨b',f',h4,h5,h6⟩:=h.2.2 hs b f h1 h2
 exact ⟨b',f',h4,h5,Cna h6 h3⟩
theorem Anb (hd:B4 d=true) (h:DI ws sp d):DI ws sp (d.1,sy d s):=by
 intro t
 by_cases ht:s=t
 ·subst ht
  have e:gt (sy d s) s=gt d.1 s:=by rw [Jba hd,if_pos rfl]
  refine ⟨(h s).1,λ b hb=>(h s).1 b (by rw [← e]; exact hb),λ hs b f hb hf=>⟨b,f,by rw [← e]; exact hb,hf,O8 _⟩⟩
 ·exact (h t).same rfl (by show gt (sy d s) t=_; rw [Jba hd,if_neg ht])
theorem D5b (hd:B4 d=true) (h:DI ws sp d):MO sp d (d.1,sy d s):=by
 intro t ht st hh
 by_cases hst:s=t
 ·subst hst
  obtain ⟨b,f,h1,h2,h3⟩:=(h s).ge ht hh
  exact ⟨b,f,by show gt (sy d s) s=_; rw [Jba hd,if_pos rfl,h1],h2,h3⟩
 ·exact hh.same (by show gt (sy d s) t=_; rw [Jba hd,if_neg hst])
theorem Ecb (hw:Eka ws) (hd:B4 d=true) (h:DI ws sp d) {f:Fil} (hf:IsW ws s f) (hn:∀ o,old d s=some o→sle o.1 f.1=true):DI ws sp (wr d.1 s (Ls f),d.2):=by
 intro t
 by_cases ht:s=t
 ·subst ht
  have e:gt (wr d.1 s (Ls f)) s=some (Ls f):=by rw [Jaa (N7 hd),if_pos rfl]
  obtain ⟨_,g2,g3⟩:=hf.good hw
  refine ⟨λ b hb=>?_,(h s).2.1,λ hs b g hb hg=>⟨Ls f,f,e,Xn g2 g3,?_⟩⟩
  ·rw [show gt (wr d.1 s (Ls f)) s=some b from hb] at e
   cases e
   exact ⟨f,hf,.inl rfl⟩
  ·obtain ⟨b',f',k1,k2,k3⟩:=(h s).2.2 hs b g hb hg
   have:=hn f' (by unfold old; rw [k1]; exact k2)
   exact Cna (Axa this) k3
 ·exact (h t).same (by show gt (wr d.1 s (Ls f)) t=_; rw [Jaa (N7 hd),if_neg ht]) rfl
theorem Tda (hw:Eka ws) (hd:DG d) (h:DI ws sp d) {f:Fil} {sure:Bool} (hf:IsW ws s f):DI ws sp (keep d s f sure).1∧MO sp d (keep d s f sure).1:=by
 obtain ⟨g1,g2,g3⟩:=hf.good hw
 rw [Gja hd.1 g1 g2]
 rcases Cja (f:=f) (sure:=sure) hd g1 with k|⟨o,_,_,k,hg,h3⟩|⟨h1,h2,k,hg,h3⟩
 ·rw [k]; exact ⟨h,MO.refl _ _⟩
 ·rcases h3 with ⟨_,h3⟩|⟨_,h3⟩
  ·rw [h3]; exact ⟨h,MO.refl _ _⟩
  ·rw [h3]; exact ⟨Anb hd.1 h,D5b hd.1 h⟩
 ·have hw':=Ecb hw hd.1 h hf h1
  rcases h3 with ⟨_,h3⟩|⟨_,h3⟩
  ·rw [h3]; exact ⟨hw',λ t _ st hh=>hh.same rfl⟩
  ·rw [h3]; exact ⟨Anb h2.1 hw',(show MO sp d (wr d.1 s (Ls f),d.2) from λ t _ st hh=>hh.same rfl).trans (D5b h2.1 hw')⟩
theorem Tea (hw:Eka ws) (hd:DG d) {f:Fil} (hf:IsW ws s f) (hc:(keep d s f true).2=0∨(keep d s f true).2=1):HD (keep d s f true).1 s f.1:=by
 obtain ⟨g1,g2,g3⟩:=hf.good hw
 rw [Gja hd.1 g1 g2] at hc ⊢
 obtain ⟨o,g,b,ho,_,e,h1,h2,h3⟩:=S6a hd g1 g2 g3 hc
 rw [e]
 exact ⟨b,g,by show gt (sy o s) s=_; rw [Jba ho.1,if_pos rfl,h1],h2,h3⟩
theorem Aob (hd:DG d) (h:DI ws sp d) (kp:List Bool):DI ws sp (T3 d kp):=by
 intro t
 rcases Spa (d:=d) (kp:=kp) t with e|⟨e1,e2⟩
 ·rw [e]; exact h t
 ·unfold ED
  rw [e1]
  have eo:∀ b,gt (T3 d kp).1 t=some b→EO ws sp t b:=by
   intro b hb
   rcases e2 with e2|e2
   ·exact (h t).1 b (by rw [← e2]; exact hb)
   ·exact (h t).2.1 b (by rw [← e2]; exact hb)
  exact ⟨eo,eo,λ _ b f hb hf=>⟨b,f,hb,hf,O8 _⟩⟩
theorem Apb (hd:DG d) (h:DI ws sp d) (kp:List Bool):MO sp d (T3 d kp):=by
 intro t ht st hh
 rcases Spa (d:=d) (kp:=kp) t with e|⟨e1,e2⟩
 ·rw [e]; exact hh
 ·unfold HD
  rw [e1]
  rcases e2 with e2|e2
  ·rw [e2]; exact (h t).ge ht hh
  ·rw [e2]; exact hh
theorem Woa (hw:Eka ws) (hd:DG d) (h:DI ws sp d):DI ws sp (Ol d).1∧MO sp d (Ol d).1:=by
 obtain ⟨_,hc⟩:=Ara d.1 (d,0) hd
 have hc':∀ t,(t∈Eja d.1→gt (Ol d).1.1 t=none∧gt (Ol d).1.2 t=none)∧(t∉Eja d.1→gt (Ol d).1.1 t=gt d.1 t∧gt (Ol d).1.2 t=gt d.2 t):=hc
 have hb:∀ t,t∈Eja d.1→t∈sp:=by
  intro t ht
  obtain ⟨b,h1,h2⟩:=(W6a hd.1).1 ht
  by_cases hs:t∈sp
  ·exact hs
  ·obtain ⟨f,hf,_⟩:=((h t).1 b h1).fine hw hs
   rw [hf] at h2; cases h2
 constructor
 ·intro t
  by_cases ht:t∈Eja d.1
  ·obtain ⟨e1,e2⟩:=(hc' t).1 ht
   unfold ED
   rw [e1,e2]
   exact ⟨λ b hb=>(by cases hb),λ b hb=>(by cases hb),λ _ b f hb=>(by cases hb)⟩
  ·obtain ⟨e1,e2⟩:=(hc' t).2 ht
   exact (h t).same e1 e2
 ·intro t ht st hh
  exact hh.same ((hc' t).2 (λ c=>ht (hb t c))).2
theorem D6b (hd:DG d) (h:DI ws sp d) (hs:Ar s=true):DI ws sp (syD (rmD d s).1 s).1∧∀ t,t≠s→∀ st,HD d t st→HD (syD (rmD d s).1 s).1 t st:=by
 have hr:DI ws sp (rmD d s).1∨True := .inr trivial
 unfold rmD
 cases hg:gt d.1 s with
 |none=>
  have e:(bif (none:Option (List Int)).isSome then ((cut d.1 s,d.2),true) else (d,false)).1=d:=rfl
  rw [e]
  unfold syD
  by_cases hl:(sy d s).length≤60
  ·rw [decide_eq_true hl]
   exact ⟨Anb hd.1 h,λ t ht st hh=>hh.same (by show gt (sy d s) t=_; rw [Jba hd.1,if_neg (Ne.symm ht)])⟩
  ·rw [decide_eq_false hl]; exact ⟨h,λ t ht st hh=>hh⟩
 |some b=>
  have e:(bif (some b:Option (List Int)).isSome then ((cut d.1 s,d.2),true) else (d,false)).1=(cut d.1 s,d.2):=rfl
  rw [e]
  have hd':B4 (cut d.1 s,d.2)=true:=F5.2 ⟨W7 (F5.1 hd.1).1,(F5.1 hd.1).2⟩
  have e1:∀ t,gt (cut d.1 s) t=if s=t then none else gt d.1 t:=λ t=>U6 (N7 hd.1)
  have e2:∀ t,gt (sy (cut d.1 s,d.2) s) t=if s=t then none else gt d.2 t:=λ t=>by
   rw [Jba hd']
   by_cases hst:s=t
   ·rw [if_pos hst,if_pos hst]; show gt (cut d.1 s) s=none; rw [e1,if_pos rfl]
   ·rw [if_neg hst,if_neg hst]
  have hlen:(sy (cut d.1 s,d.2) s).length≤60:=by
   have:sy (cut d.1 s,d.2) s=cut d.2 s:=by
    unfold sy
    have:=e1 s
    rw [if_pos rfl] at this
    rw [show gt (cut d.1 s,d.2).1 s=none from this]
   rw [this]
   exact Nat.le_trans Oi.length_le (Ap.1 (F5.1 hd.1).2).2.2
  unfold syD
  rw [decide_eq_true hlen]
  constructor
  ·intro t
   show ED ws sp (cut d.1 s,sy (cut d.1 s,d.2) s) t
   by_cases hst:s=t
   ·unfold ED
    dsimp only
    rw [e1,e2,if_pos hst,if_pos hst]
    exact ⟨λ b hb=>(by cases hb),λ b hb=>(by cases hb),λ _ b f hb=>(by cases hb)⟩
   ·exact (h t).same (by show gt (cut d.1 s) t=_; rw [e1,if_neg hst]) (by show gt (sy (cut d.1 s,d.2) s) t=_; rw [e2,if_neg hst])
  ·intro t ht st hh
   exact hh.same (by show gt (sy (cut d.1 s,d.2) s) t=_; rw [e2,if_neg (Ne.symm ht)])
theorem D7b (hw:Eka ws) (hd:DG d) (h:DI ws sp d) {n:Int} (hl:(lkD d s).2=0) (hr:(Hea d s n).2=true) (sp':List ByteArray) (hsp:∀ t,t∈sp'↔t=s∨t∈sp):DI ws sp' (Hea d s n).1∧MO sp' d (Hea d s n).1∧∃ f,IsW ws s f:=by
 obtain ⟨b,hb,hf⟩:=Rd.1 (show lkD d s=((lkD d s).1,0) by rw [← hl])
 obtain ⟨hW,e⟩:=((h s).1 b hb).get hw hf
 have hsub:∀ t∈sp,t∈sp':=λ t ht=>(hsp t).2 (.inr ht)
 generalize (lkD d s).1=f at *
 unfold Hea at hr ⊢
 rw [hb] at hr ⊢
 dsimp only at hr ⊢
 cases hin:inR n 0 (8 * (b.length:Int) - 1) with
 |false=>rw [hin] at hr; cases hr
 |true=>
  rw [cond_true]
  obtain ⟨n0,n1⟩:=Fh.1 hin
  have hn:n.toNat<8 * (Ls f).length:=by rw [← e]; omega
  have e1:∀ t,gt (wr d.1 s (Nl b n.toNat)) t=if s=t then some (Nl b n.toNat) else gt d.1 t:=λ t=>Jaa (N7 hd.1)
  have e2:∀ t,gt (bif decide (gt d.2 s=some b) then wr d.2 s (Nl b n.toNat) else d.2) t=if s=t∧gt d.2 s=some b then some (Nl b n.toNat) else gt d.2 t:=by
   intro t
   by_cases hg:gt d.2 s=some b
   ·rw [decide_eq_true hg,cond_true,Jaa (Qe hd.1)]
    by_cases hst:s=t
    ·rw [if_pos hst,if_pos ⟨hst,hg⟩]
    ·rw [if_neg hst,if_neg (λ c=>hst c.1)]
   ·rw [decide_eq_false hg,cond_false,if_neg (λ c=>hg c.2)]
  have hflip:EO ws sp' s (Nl b n.toNat):=⟨f,hW,.inr ⟨(hsp s).2 (.inl rfl),n.toNat,hn,by rw [e]⟩⟩
  refine ⟨λ t=>?_,λ t ht st hh=>?_,f,hW⟩
  ·by_cases hst:s=t
   ·subst hst
    refine ⟨λ x hx=>?_,λ x hx=>?_,λ c=>absurd ((hsp s).2 (.inl rfl)) c⟩
    ·have:=e1 s
     rw [if_pos rfl] at this
     rw [show gt (wr d.1 s (Nl b n.toNat)) s=some x from hx] at this
     cases this
     exact hflip
    ·have:=e2 s
     rw [show gt (bif decide (gt d.2 s=some b) then wr d.2 s (Nl b n.toNat) else d.2) s=some x from hx] at this
     by_cases hg:gt d.2 s=some b
     ·rw [if_pos ⟨rfl,hg⟩] at this
      cases this
      exact hflip
     ·rw [if_neg (λ c=>hg c.2)] at this
      exact ((h s).2.1 x this.symm).mono (λ _ h=>h) hsub
   ·refine ((h t).mono (λ _ h=>h) hsub).same ?_ ?_
    ·show gt (wr d.1 s (Nl b n.toNat)) t=_
     rw [e1,if_neg hst]
    ·show gt (bif decide (gt d.2 s=some b) then wr d.2 s (Nl b n.toNat) else d.2) t=_
     rw [e2,if_neg (λ c=>hst c.1)]
  ·have hst:s≠t:=λ c=>ht ((hsp t).2 (.inl c.symm))
   exact hh.same (by show gt (bif decide (gt d.2 s=some b) then wr d.2 s (Nl b n.toNat) else d.2) t=_; rw [e2,if_neg (λ c=>hst c.1)])
end

def NI (ws:List Wri) (sp:List ByteArray) (n:Nod):Prop:=NG n∧DI ws sp n.2.1∧(∀ r∈n.2.2.1,P8 ws r=true)∧∀ r∈n.2.2.2,P8 ws r=true
def KN (ns:List Nod) (s:ByteArray) (st:Stp):Prop:=∃ i,i<ns.length∧HD (ns.getD i Cf).2.1 s st
def MS (sp:List ByteArray) (ns ns':List Nod):Prop:=∀ s,s∉sp→∀ st,KN ns s st→KN ns' s st
theorem Aya {ws:List Wri} {r:Row}:P8 ws r=true↔∃ x∈ws,U7 x.1 x.2.1=r:=by
 unfold P8
 rw [List.any_eq_true]
 exact ⟨λ ⟨x,h1,h2⟩=>⟨x,h1,H2a.1 h2⟩,λ ⟨x,h1,h2⟩=>⟨x,h1,H2a.2 h2⟩⟩
theorem Coa {ws ws':List Wri} (h:∀ x∈ws,x∈ws') {r:Row} (hr:P8 ws r=true):P8 ws' r=true:=by
 obtain ⟨x,h1,h2⟩:=Aya.1 hr
 exact Aya.2 ⟨x,h x h1,h2⟩
theorem Wpa {ws:List Wri} {s:ByteArray} {f:Fil} (h:IsW ws s f):P8 ws (U7 s f)=true:=by
 obtain ⟨x,h1,rfl,rfl⟩:=h
 exact Aya.2 ⟨x,h1,rfl⟩
theorem NI.mono {ws ws':List Wri} {sp sp':List ByteArray} (h1:∀ x∈ws,x∈ws') (h2:∀ s∈sp,s∈sp') {n:Nod} (h:NI ws sp n):NI ws' sp' n:=
 ⟨h.1,h.2.1.mono h1 h2,λ r hr=>Coa h1 (h.2.2.1 r hr),λ r hr=>Coa h1 (h.2.2.2 r hr)⟩
def NR (ws:List Wri) (sp:List ByteArray) (ns ns':List Nod):Prop:=(∀ n∈ns',NI ws sp n)∧ns'.map (·.1)=ns.map (·.1)∧MS sp ns ns'
theorem NR.refl {ws:List Wri} {sp:List ByteArray} {ns:List Nod} (h:∀ n∈ns,NI ws sp n):NR ws sp ns ns:=⟨h,rfl,λ _ _ _ h=>h⟩
theorem NR.len {ws:List Wri} {sp:List ByteArray} {ns ns':List Nod} (h:NR ws sp ns ns'):ns'.length=ns.length:=by
 have:=congrArg List.length h.2.1
 rwa [List.length_map,List.length_map] at this
theorem Nu {α:Type} {l:List α} {i j:Nat} {x d:α} (hj:j<l.length):(l.set i x).getD j d=if i=j then x else l.getD j d:=by
 rw [List.getD_eq_getElem?_getD,List.getElem?_set]
 by_cases h:i=j
 ·subst h
  rw [if_pos rfl,if_pos rfl,if_pos hj]
  rfl
 ·rw [if_neg h,if_neg h,List.getD_eq_getElem?_getD]
theorem K0a {ns:List Nod} {i:Nat} {n:Nod} (hi:i<ns.length) (h:n.1=(ns.getD i Cf).1):(ns.set i n).map (·.1)=ns.map (·.1):=by
 refine List.ext_getElem (by simp) (λ j h1 h2=>?_)
 rw [List.length_map,List.length_set] at h1
 rw [List.getElem_map,List.getElem_map,List.getElem_set]
 by_cases hij:i=j
 ·subst hij
  rw [if_pos rfl,h,List.getD_eq_getElem?_getD,List.getElem?_eq_getElem hi]
  rfl
 ·rw [if_neg hij]
theorem NR.set {ws:List Wri} {sp:List ByteArray} {ns ns':List Nod} (h:NR ws sp ns ns') {i:Nat} (hi:i<ns'.length) {n:Nod} (h1:NI ws sp n) (h2:n.1=(ns'.getD i Cf).1) (h3:MO sp (ns'.getD i Cf).2.1 n.2.1):NR ws sp ns (ns'.set i n):=by
 obtain ⟨g1,g2,g3⟩:=h
 refine ⟨λ m hm=>?_,by rw [K0a hi h2,g2],λ s hs st hk=>?_⟩
 ·rcases List.mem_or_eq_of_mem_set hm with hm|rfl
  ·exact g1 m hm
  ·exact h1
 ·obtain ⟨j,hj,hd⟩:=g3 s hs st hk
  refine ⟨j,by rw [List.length_set]; exact hj,?_⟩
  rw [Nu hj]
  by_cases hij:i=j
  ·subst hij; rw [if_pos rfl]; exact h3 s hs st hd
  ·rw [if_neg hij]; exact hd
section
variable {ws:List Wri} {sp:List ByteArray} {n:Nod} {s:ByteArray} {f:Fil}
theorem Aqb (hw:Eka ws) (h:NI ws sp n) (hf:IsW ws s f) (sure:Bool):NI ws sp (Sk n s f sure).1∧(Sk n s f sure).1.1=n.1∧MO sp n.2.1 (Sk n s f sure).1.2.1:=by
 obtain ⟨g1,g2,g3⟩:=hf.good hw
 obtain ⟨h1,h2,h3,h4⟩:=h
 have hg:=S8a (sure:=sure) h1 g1 g2
 obtain ⟨k1,k2⟩:=Tda (sure:=sure) hw h1.g h2 hf
 unfold Sk at hg ⊢
 cases hq:(n.2.2.2.length:Int)==60 with
 |true=>exact ⟨⟨h1,h2,h3,h4⟩,rfl,MO.refl _ _⟩
 |false=>
  rw [hq] at hg
  refine ⟨⟨hg,k1,h3,?_⟩,rfl,k2⟩
  show ∀ r∈bif (keep n.2.1 s f sure).2==0&&sure then n.2.2.2++[U7 s f] else n.2.2.2,P8 ws r=true
  cases (keep n.2.1 s f sure).2==0&&sure with
  |false=>exact h4
  |true=>
   intro r hr
   rcases List.mem_append.1 hr with hr|hr
   ·exact h4 r hr
   ·rw [List.mem_singleton.1 hr]; exact Wpa hf
theorem Arb (hw:Eka ws) (h:NI ws sp n) (hf:IsW ws s f) (hc:(Sk n s f true).2=0∨(Sk n s f true).2=1):HD (Sk n s f true).1.2.1 s f.1:=by
 unfold Sk at hc ⊢
 cases hq:((n.2.2.2.length:Int)==60) with
 |true=>rw [hq] at hc; rcases hc with hc|hc<;>cases hc
 |false=>rw [hq] at hc; exact Tea hw h.1.g hf hc
theorem Edb (h:NI ws sp n) {l:List Row} (hl:M0 l=true) (hr:∀ r∈l,P8 ws r=true):NI ws sp (tk n l).2∧(tk n l).2.1=n.1∧(tk n l).2.2.1=n.2.1:=by
 obtain ⟨h1,h2,h3,h4⟩:=h
 have hg:=Eab h1 hl
 unfold tk at hg ⊢
 cases hq:decide ((C9a n.2.2.1 l).length > 60) with
 |true=>exact ⟨⟨h1,h2,h3,h4⟩,rfl,rfl⟩
 |false=>
  rw [hq] at hg
  exact ⟨⟨hg,h2,λ r hr'=>(Lja hr').elim (h3 r) (hr r),h4⟩,rfl,rfl⟩
end
theorem D8b {ws:List Wri} {sp:List ByteArray} {ns:List Nod} {R:Int} {rc:List Int} {s:ByteArray} {f:Fil} {cs:List Int} {a:List Nod×Int×Int} {j:Nat} (hw:Eka ws) (hf:IsW ws s f)
  (h:NR ws sp ns a.1∧(s∉sp→a.2.2≥1→KN a.1 s f.1)∧a.2.2≥0) (hc:(cs.getD j 0).toNat<ns.length):
  NR ws sp ns (wst R rc s f cs a j).1∧(s∉sp→(wst R rc s f cs a j).2.2≥1→KN (wst R rc s f cs a j).1 s f.1)∧(wst R rc s f cs a j).2.2≥0:=by
 obtain ⟨h1,h2,h3⟩:=h
 unfold wst
 cases decide (a.2.1<R) with
 |false=>exact ⟨h1,h2,h3⟩
 |true=>
  cases rch rc j==0 with
  |true=>exact ⟨h1,h2,h3⟩
  |false=>
   rw [cond_true,cond_false]
   have hi:(cs.getD j 0).toNat<a.1.length:=by rw [h1.len]; exact hc
   generalize (cs.getD j 0).toNat=i at *
   have hn:=h1.1 _ (A3 (d:=Cf) hi)
   obtain ⟨p1,p2,p3⟩:=Aqb hw hn hf (rch rc j != 3)
   refine ⟨h1.set hi p1 p2 p3,λ hs hg=>?_,?_⟩
   ·cases hr:rch rc j==1&&((Sk (a.1.getD i Cf) s f (rch rc j != 3)).2==0 || (Sk (a.1.getD i Cf) s f (rch rc j != 3)).2==1) with
    |true=>
     rw [Bool.and_eq_true,Bool.or_eq_true,beq_iff_eq,beq_iff_eq,beq_iff_eq] at hr
     have e:(rch rc j != 3)=true:=by rw [hr.1]; rfl
     rw [e] at hr ⊢
     refine ⟨i,by rw [List.length_set]; exact hi,?_⟩
     rw [Nu hi,if_pos rfl]
     exact Arb hw hn hf hr.2
    |false=>
     rw [hr] at hg
     obtain ⟨m,hm,hd⟩:=h2 hs hg
     refine ⟨m,by rw [List.length_set]; exact hm,?_⟩
     rw [Nu hm]
     by_cases hij:i=m
     ·subst hij; rw [if_pos rfl]; exact p3 s hs _ hd
     ·rw [if_neg hij]; exact hd
   ·dsimp only
    cases rch rc j==1&&((Sk (a.1.getD i Cf) s f (rch rc j != 3)).2==0 || (Sk (a.1.getD i Cf) s f (rch rc j != 3)).2==1)
    ·exact h3
    ·rw [cond_true]; omega
theorem D9b {ws:List Wri} {sp:List ByteArray} {w:Wld} {rc:List Int} {s:ByteArray} {f:Fil} (hw:Eka ws) (hf:IsW ws s f) (hn:∀ n∈w.2.2.1,NI ws sp n):
  NR ws sp w.2.2.1 (wrN w s f rc).1∧(s∉sp→(wrN w s f rc).2.2≥1→KN (wrN w s f rc).1 s f.1)∧(wrN w s f rc).2.2≥0:=
 Mv (λ _ (a:List Nod×Int×Int)=>NR ws sp w.2.2.1 a.1∧(s∉sp→a.2.2≥1→KN a.1 s f.1)∧a.2.2≥0) ⟨NR.refl hn,λ _ h=>absurd h (show ¬ (0:Int)≥1 by omega),Int.le_refl _⟩
  (λ j b hj hb=>D8b hw hf hb (by have:=Om (A3 (d:=0) hj); omega))
theorem Dab {ws:List Wri} {sp:List ByteArray} {ns:List Nod} {rc:List Int} {s:ByteArray} {f:Fil} {ps:List Int} {a:List Nod×Bool×Bool} {src j:Nat} (hw:Eka ws) (hf:IsW ws s f) (hsrc:src<ns.length)
  (h:NR ws sp ns a.1∧(a.2.1=false→a.1.getD src Cf=ns.getD src Cf∧(a.2.2=true→0<j→∃ i,i≠src∧i<ns.length∧HD (a.1.getD i Cf).2.1 s f.1))) (hc:(ps.getD j 0).toNat<ns.length) (hc0:0≤ps.getD j 0):
  NR ws sp ns (pst (src:Int) s f rc ps a j).1∧((pst (src:Int) s f rc ps a j).2.1=false→(pst (src:Int) s f rc ps a j).1.getD src Cf=ns.getD src Cf∧((pst (src:Int) s f rc ps a j).2.2=true→0<j+1→∃ i,i≠src∧i<ns.length∧HD ((pst (src:Int) s f rc ps a j).1.getD i Cf).2.1 s f.1)):=by
 obtain ⟨h1,h2⟩:=h
 unfold pst
 cases hz:ps.getD j 0==(src:Int) with
 |true=>exact ⟨h1,λ c=>by cases c⟩
 |false=>
  have hne:(ps.getD j 0).toNat≠src:=by
   have:=beq_eq_false_iff_ne.1 hz
   omega
  cases hr:rch rc j != 1 with
  |true=>exact ⟨h1,λ c=>⟨(h2 c).1,λ c'=>by cases c'⟩⟩
  |false=>
   rw [cond_false,cond_false]
   have hi:(ps.getD j 0).toNat<a.1.length:=by rw [h1.len]; exact hc
   generalize (ps.getD j 0).toNat=i at *
   have hn:=h1.1 _ (A3 (d:=Cf) hi)
   obtain ⟨k1,k2⟩:=Tda (sure:=true) hw hn.1.g hn.2.1 hf
   refine ⟨h1.set hi ⟨Jwa hn.1,k1,hn.2.2⟩ rfl k2,λ c=>⟨?_,λ c' _=>?_⟩⟩
   ·show (a.1.set i _).getD src Cf=_
    rw [Nu (by rw [h1.len]; exact hsrc),if_neg hne]
    exact (h2 c).1
   ·refine ⟨i,hne,hc,?_⟩
    show HD ((a.1.set i _).getD i Cf).2.1 s f.1
    rw [Nu hi,if_pos rfl]
    refine Tea hw hn.1.g hf ?_
    cases hk:(keep (a.1.getD i Cf).2.1 s f true).2 != 0&&(keep (a.1.getD i Cf).2.1 s f true).2 != 1 with
    |true=>
     have:(bif (keep (a.1.getD i Cf).2.1 s f true).2 != 0&&(keep (a.1.getD i Cf).2.1 s f true).2 != 1 then false else a.2.2)=true:=c'
     rw [hk] at this
     cases this
    |false=>
     rw [Bool.and_eq_false_iff,bne,bne,Bool.not_eq_false',Bool.not_eq_false',beq_iff_eq,beq_iff_eq] at hk
     exact hk
theorem Dbb {ws:List Wri} {sp:List ByteArray} {w:Wld} {rc:List Int} {s:ByteArray} {i:Nat} (hw:Eka ws) (hn:∀ n∈w.2.2.1,NI ws sp n) (hi:i<w.2.2.1.length) (hf:IsW ws s (lkD (w.2.2.1.getD i Cf).2.1 s).1):
  NR ws sp w.2.2.1 (puN w i s rc).1∧((puN w i s rc).2.1=false→(puN w i s rc).1.getD i Cf=w.2.2.1.getD i Cf∧((puN w i s rc).2.2=true→0<(Sa w s).length→∃ j,j≠i∧j<w.2.2.1.length∧HD ((puN w i s rc).1.getD j Cf).2.1 s (lkD (w.2.2.1.getD i Cf).2.1 s).1.1)):=
 Mv (λ n (a:List Nod×Bool×Bool)=>NR ws sp w.2.2.1 a.1∧(a.2.1=false→a.1.getD i Cf=w.2.2.1.getD i Cf∧(a.2.2=true→0<n→∃ j,j≠i∧j<w.2.2.1.length∧HD (a.1.getD j Cf).2.1 s (lkD (w.2.2.1.getD i Cf).2.1 s).1.1))) ⟨NR.refl hn,λ _=>⟨rfl,λ _ c=>absurd c (Nat.lt_irrefl _)⟩⟩
  (λ j b hj hb=>Dab hw hf hi hb (by have:=Ud (A3 (d:=0) hj); omega) (Ud (A3 (d:=0) hj)).1)
theorem Tfa {w:Wld} {s:ByteArray} (hr:H2 w.2.1 w.1=true) (hid:w.2.2.1.map (·.1)=w.1.map (·.1)):0<(Sa w s).length:=by
 obtain ⟨_,p2,p3⟩:=Rh hr s
 have h5:=(Ax.1 hr).2.1
 obtain ⟨id,hidm⟩:=List.exists_mem_of_length_pos (l:=Uf w.2.1 s) (by omega)
 have:=Rg.1 (p3 id hidm)
 rw [← hid] at this
 obtain ⟨n,hn,rfl⟩:=List.mem_map.1 this
 obtain ⟨j,hj,rfl⟩:=List.mem_iff_getElem.1 hn
 have hm:(j:Int)∈Sa w s:=Eca.2 ⟨j,hj,by rw [List.getD_eq_getElem?_getD,List.getElem?_eq_getElem hj]; exact hidm,rfl⟩
 exact List.length_pos_of_mem hm
theorem Wqa {ws:List Wri} {sp:List ByteArray} {w:Wld} {rc:List Int} {s:ByteArray} {i:Nat} (hw:Eka ws) (hn:∀ n∈w.2.2.1,NI ws sp n) (hi:i<w.2.2.1.length) (hr:H2 w.2.1 w.1=true) (hid:w.2.2.1.map (·.1)=w.1.map (·.1)):
  ∃ ns,(Jva w i s rc).2=wN w ns∧NR ws sp w.2.2.1 ns:=by
 have hni:=hn _ (A3 (d:=Cf) hi)
 unfold Jva
 cases hl:(lkD (w.2.2.1.getD i Cf).2.1 s).2 != 0 with
 |true=>exact ⟨w.2.2.1,rfl,NR.refl hn⟩
 |false=>
  rw [bne,Bool.not_eq_false',beq_iff_eq] at hl
  obtain ⟨b,hb,hg⟩:=Rd.1 (show lkD (w.2.2.1.getD i Cf).2.1 s=((lkD (w.2.2.1.getD i Cf).2.1 s).1,0) from by rw [← hl])
  have hf:IsW ws s (lkD (w.2.2.1.getD i Cf).2.1 s).1:=(((hni.2.1 s).1 b hb).get hw hg).1
  obtain ⟨h1,h2⟩:=Dbb (rc:=rc) hw hn hi hf
  refine ⟨_,rfl,?_⟩
  cases hc:(puN w i s rc).2.2 && !(puN w i s rc).2.1 with
  |false=>exact h1
  |true=>
   rw [Bool.and_eq_true,Bool.not_eq_true'] at hc
   obtain ⟨h3,h4⟩:=h2 hc.2
   obtain ⟨j,hj,hjl,hd⟩:=h4 hc.1 (Tfa hr hid)
   rw [cond_true,h3]
   obtain ⟨g1,_,_⟩:=hf.good hw
   have hi':i<(puN w i s rc).1.length:=by rw [h1.len]; exact hi
   obtain ⟨o1,o2⟩:=D6b (s:=s) hni.1.g hni.2.1 g1
   refine ⟨λ m hm=>?_,by rw [K0a hi' (by rw [h3]; rfl),h1.2.1],λ t ht st hk=>?_⟩
   ·rcases List.mem_or_eq_of_mem_set hm with hm|rfl
    ·exact h1.1 m hm
    ·exact ⟨Yaa hni.1 g1,o1,hni.2.2⟩
   ·obtain ⟨m,hm,hh⟩:=h1.2.2 t ht st hk
    by_cases hmi:m=i
    ·subst hmi
     rw [h3] at hh
     by_cases hts:t=s
     ·subst hts
      obtain ⟨b',f',e1,e2,e3⟩:=(hni.2.1 t).ge ht hh
      rw [hb] at e1
      cases e1
      rw [hg] at e2
      cases e2
      obtain ⟨c,g,k1,k2,k3⟩:=hd
      refine ⟨j,by rw [List.length_set,h1.len]; exact hjl,?_⟩
      rw [Nu (by rw [h1.len]; exact hjl),if_neg (Ne.symm hj)]
      exact ⟨c,g,k1,k2,Cna k3 e3⟩
     ·refine ⟨m,by rw [List.length_set]; exact hm,?_⟩
      rw [Nu hm,if_pos rfl]
      exact o2 t hts st hh
    ·refine ⟨m,by rw [List.length_set]; exact hm,?_⟩
     rw [Nu hm,if_neg (Ne.symm hmi)]
     exact hh
theorem Moa {ws:List Wri} {sp:List ByteArray} {w:Wld} {src:Int} {l:List Row} {self:Bool} {rc:List Int} (hn:∀ n∈w.2.2.1,NI ws sp n) (hl:M0 l=true) (hr:∀ r∈l,P8 ws r=true):NR ws sp w.2.2.1 (P9 w src l self rc).1:=by
 refine Mv (λ _ (a:List Nod×Bool)=>NR ws sp w.2.2.1 a.1) (NR.refl hn) (λ j b hj hb=>?_)
 have hc:=S7 (A3 (d:=0) hj)
 unfold gst
 cases (Kk w).getD j 0==src && !self with
 |true=>exact hb
 |false=>
  cases rch rc j != 1 with
  |true=>exact hb
  |false=>
   have hi:((Kk w).getD j 0).toNat<b.1.length:=by rw [hb.len]; omega
   obtain ⟨t1,t2,t3⟩:=Edb (hb.1 _ (A3 (d:=Cf) hi)) hl hr
   exact hb.set hi t1 t2 (by rw [t3]; exact MO.refl _ _)
theorem Wra {ws:List Wri} {sp:List ByteArray} {w:Wld} {rc:List Int} {i:Nat} (hn:∀ n∈w.2.2.1,NI ws sp n) (hi:i<w.2.2.1.length):∃ ns,(Jxa w i rc).2=wN w ns∧NR ws sp w.2.2.1 ns:=by
 have hni:=hn _ (A3 (d:=Cf) hi)
 have hl:=(Ee.1 hni.1.1).2.2.2.1
 unfold Jxa
 cases ((w.2.2.1.getD i Cf).2.2.1.length:Int)==0 with
 |true=>exact ⟨w.2.2.1,rfl,NR.refl hn⟩
 |false=>
  refine ⟨_,rfl,?_⟩
  have hg:NR ws sp w.2.2.1 (Sc w i rc).1:=Moa hn hl hni.2.2.1
  cases (Sc w i rc).2 && !(O3 (Kk (wN w (Sc w i rc).1)) (i:Int)) with
  |false=>exact hg
  |true=>
   have hi':i<(Sc w i rc).1.length:=by rw [hg.len]; exact hi
   have hm:=hg.1 _ (A3 (d:=Cf) hi')
   exact hg.set hi' ⟨Mna hm.1,hm.2.1,(λ _ h=>nomatch h),hm.2.2.2⟩ rfl (MO.refl _ _)
theorem Wsa {ws:List Wri} {sp:List ByteArray} {w:Wld} {rc:List Int} {i:Nat} (hn:∀ n∈w.2.2.1,NI ws sp n) (hi:i<w.2.2.1.length):∃ ns,(Jya w i rc).2=wN w ns∧NR ws sp w.2.2.1 ns:=by
 have hni:=hn _ (A3 (d:=Cf) hi)
 obtain ⟨hq,_,_,_,hq60⟩:=Ee.1 hni.1.1
 unfold Jya
 cases ((w.2.2.1.getD i Cf).2.2.2.length:Int)==0 with
 |true=>exact ⟨w.2.2.1,rfl,NR.refl hn⟩
 |false=>
  refine ⟨_,rfl,?_⟩
  have hg:NR ws sp w.2.2.1 (T5 w i rc).1:=Moa hn (T6 hq) (λ r hr=>hni.2.2.2 r (List.mem_of_mem_take hr))
  cases (T5 w i rc).2 with
  |false=>exact hg
  |true=>
   have hi':i<(T5 w i rc).1.length:=by rw [hg.len]; exact hi
   have hm:=hg.1 _ (A3 (d:=Cf) hi')
   exact hg.set hi' ⟨Yda hm.1 (λ r hr=>hq r (List.mem_of_mem_drop hr)) (by rw [List.length_drop]; omega),hm.2.1,hm.2.2.1,λ r hr=>hni.2.2.2 r (List.mem_of_mem_drop hr)⟩ rfl (MO.refl _ _)

structure WI (w:Wld):Prop where
 ring:H2 w.2.1 w.1=true
 ids:w.2.2.1.map (·.1)=w.1.map (·.1)
 nodes:∀ n∈w.2.2.1,NI w.2.2.2.2.1 w.2.2.2.2.2 n
 clk:Fi w.2.2.2.1=true
 wlen:w.2.2.2.2.1.length≤200
 wok:Eka w.2.2.2.2.1
 wge:∀ x∈w.2.2.2.2.1,sle w.2.2.2.1 x.2.1.1=false
 asc:w.2.2.2.2.1.Pairwise (λ a b=>sle a.2.1.1 b.2.1.1=true)
 kept:∀ x∈w.2.2.2.2.1,x.2.2=true→x.1∉w.2.2.2.2.2→KN w.2.2.1 x.1 x.2.1.1
 sps:TS w.2.2.2.2.2
 spw:∀ s∈w.2.2.2.2.2,∃ x∈w.2.2.2.2.1,x.1=s
theorem Eeb:LawfulBEq ByteArray := { eq_of_beq:=λ {a b} h=>Jm.1 (by rw [← Dra]; exact h),rfl:=λ {a}=>by rw [Dra]; exact Jm.2 rfl }
theorem H5a:∀ (p q:List ByteArray),p.Nodup→(∀ x∈p,x∈q)→p.length≤q.length
 |[],_,_,_=>Nat.zero_le _
 |x::p,q,h,hs=>by
  haveI:=Eeb
  obtain ⟨h1,h2⟩:=List.nodup_cons.1 h
  have hx:=hs x List.mem_cons_self
  have hlen:(q.erase x).length=q.length - 1:=List.length_erase_of_mem hx
  have hpos:=List.length_pos_of_mem hx
  have:=H5a p (q.erase x) h2 (λ y hy=>(List.mem_erase_of_ne (λ c=>by subst c; exact h1 hy)).2 (hs y (List.mem_cons_of_mem _ hy)))
  rw [List.length_cons]
  omega
namespace WI
variable {w:Wld}
theorem splen (h:WI w):w.2.2.2.2.2.length≤200:=by
 have hn:w.2.2.2.2.2.Nodup:=h.sps.imp (λ {a b} hab e=>by subst e; rw [Lj] at hab; cases hab)
 have:=H5a _ (w.2.2.2.2.1.map (·.1)) hn (λ s hs=>by
  obtain ⟨x,hx,e⟩:=h.spw s hs
  exact List.mem_map.2 ⟨x,hx,e⟩)
 rw [List.length_map] at this
 have:=h.wlen
 omega
theorem nlen (h:WI w):w.2.2.1.length=w.1.length:=by
 have:=congrArg List.length h.ids
 rwa [List.length_map,List.length_map] at this
theorem dlen (h:WI w):1≤w.1.length∧w.1.length≤12:=(Dz.1 (Ax.1 h.ring).1).2.2
theorem ns (h:WI w):NS w.2.2.1:=⟨by have:=h.nlen; have:=h.dlen; omega,λ n hn=>(h.nodes n hn).1⟩
theorem win (h:WI w):WIn w:=by
 have h1:=h.nlen
 have h2:=h.dlen
 have h3:=h.wlen
 have h4:=h.splen
 refine ⟨N9 h.ring,by omega,⟨by omega,λ n hn=>Gla (h.nodes n hn).1⟩,⟨by omega,λ x hx=>Ir (h.wok x hx).1⟩,by omega,λ s hs=>?_⟩
 obtain ⟨x,hx,e⟩:=h.spw s hs
 rw [← e]
 exact Ir (h.wok x hx).1
theorem other (h:WI w) {ns:List Nod} (hn:NR w.2.2.2.2.1 w.2.2.2.2.2 w.2.2.1 ns):WI (wN w ns):=
 ⟨h.ring,hn.2.1.trans h.ids,hn.1,h.clk,h.wlen,h.wok,h.wge,h.asc,λ x hx hk hs=>hn.2.2 _ hs _ (h.kept x hx hk hs),h.sps,h.spw⟩
theorem other' (h:WI w) {r:Bool×Wld} (hr:∃ ns,r.2=wN w ns∧NR w.2.2.2.2.1 w.2.2.2.2.2 w.2.2.1 ns):WI r.2:=by
 obtain ⟨ns,e,hn⟩:=hr
 rw [e]
 exact h.other hn
theorem write (h:WI w) {s:ByteArray} {f:Fil} {rc:List Int} (hs:Ar s=true) (hf:Eb f=true) (hb:An f.2.2) (hc:sle w.2.2.2.1 f.1=true) (hl:w.2.2.2.2.1.length<200):WI (Uc (w.1,w.2.1,w.2.2.1,f.1,w.2.2.2.2) s f rc).2:=by
 obtain ⟨g1,g2,g3⟩:=D9b (ws:=w.2.2.2.2.1++[(s,f,decide ((wrN (w.1,w.2.1,w.2.2.1,f.1,w.2.2.2.2) s f rc).2.2≥quo w.2.1.1))]) (sp:=w.2.2.2.2.2) (w:=(w.1,w.2.1,w.2.2.1,f.1,w.2.2.2.2)) (rc:=rc) (s:=s) (f:=f)
  (λ x hx=>by
   rcases List.mem_append.1 hx with hx|hx
   ·exact h.wok x hx
   ·rw [List.mem_singleton.1 hx]; exact ⟨hs,hf,hb⟩)
  ⟨_,List.mem_append.2 (.inr (List.mem_singleton.2 rfl)),rfl,rfl⟩
  (λ n hn=>(h.nodes n hn).mono (λ x hx=>List.mem_append.2 (.inl hx)) (λ _ h=>h))
 unfold Uc
 generalize wrN (w.1,w.2.1,w.2.2.1,f.1,w.2.2.2.2) s f rc=a at *
 have hq:quo w.2.1.1≥1:=by
  have:=(Ax.1 h.ring).2.1
  unfold quo
  omega
 exact {
  ring:=h.ring
  ids:=g1.2.1.trans h.ids
  nodes:=g1.1
  clk:=(Jq.1 hf).1
  wlen:=by show (w.2.2.2.2.1++[_]).length≤200; rw [List.length_append]; simp only [List.length_cons,List.length_nil]; omega
  wok:=λ x hx=>by
   rcases List.mem_append.1 hx with hx|hx
   ·exact h.wok x hx
   ·rw [List.mem_singleton.1 hx]; exact ⟨hs,hf,hb⟩
  wge:=λ x hx=>by
   rcases List.mem_append.1 hx with hx|hx
   ·exact Cna (Axa hc) (h.wge x hx)
   ·rw [List.mem_singleton.1 hx]; exact O8 _
  asc:=List.pairwise_append.2 ⟨h.asc,List.pairwise_singleton _ _,λ x hx y hy=>by
   rw [List.mem_singleton.1 hy]
   have:=h.wge x hx
   cases hxy:sle x.2.1.1 f.1 with
   |true=>rfl
   |false=>
    have:=Cna this hxy
    rw [this] at hc
    cases hc⟩
  kept:=λ x hx hk hsp=>by
   rcases List.mem_append.1 hx with hx|hx
   ·exact g1.2.2 _ hsp _ (h.kept x hx hk hsp)
   ·rw [List.mem_singleton.1 hx] at hk hsp ⊢
    have hk':a.2.2≥quo w.2.1.1:=of_decide_eq_true hk
    exact g2 hsp (by omega)
  sps:=h.sps
  spw:=λ s hs=>by
   obtain ⟨x,hx,e⟩:=h.spw s hs
   exact ⟨x,List.mem_append.2 (.inl hx),e⟩ }
theorem ask (h:WI w) {s:ByteArray} {f:Fil} {t:Int} {rc:List Int} (hb:An f.2.2) (hd:f.2.1=true→f.2.2=[]):WI (ask w s f t rc).2:=by
 unfold Vf.ask
 cases hs:Ar s with
 |false=>exact h
 |true=>
  rw [Bool.not_true,cond_false]
  by_cases hl:(f.2.2.length:Int) > 200
  ·rw [decide_eq_true hl]; exact h
  ·rw [decide_eq_false hl,cond_false]
   cases inR t 0 1000000000 with
   |false=>exact h
   |true=>
    rw [Bool.not_true,cond_false]
    cases hw:(w.2.2.2.2.1.length:Int)==200 with
    |true=>exact h
    |false=>
     rw [cond_false]
     have hw':=beq_eq_false_iff_ne.1 hw
     have hwl:=h.wlen
     obtain ⟨n1,n2⟩:=Xu h.clk t 0
     cases he:(Ll w.2.2.2.1 t 0).1==w.2.2.2.1.1&&((Ll w.2.2.2.1 t 0).2.1==w.2.2.2.1.2.1&&(Ll w.2.2.2.1 t 0).2.2==w.2.2.2.1.2.2) with
     |true=>exact h
     |false=>
      rw [cond_false]
      have hlt:sle w.2.2.2.1 (Ll w.2.2.2.1 t 0)=true:=by
       rcases n2 with n2|n2
       ·rw [n2,beq_self_eq_true,beq_self_eq_true,beq_self_eq_true] at he; cases he
       ·exact n2
      exact h.write (f:=(Ll w.2.2.2.1 t 0,f.2)) hs (Jq.2 ⟨n1,by show f.2.2.length≤200; omega,hd⟩) hb hlt (by omega)
theorem rot (h:WI w) {i:Nat} (hi:i<w.2.2.1.length) {s:ByteArray} {b:Int}:WI (Bcb w i s b).2:=by
 have hni:=h.nodes _ (A3 (d:=Cf) hi)
 unfold Bcb
 cases hr:(M5a (w.2.2.1.getD i Cf) s b).2 with
 |false=>exact h
 |true=>
  have hg:=Y1a (s:=s) (b:=b) hni.1
  unfold M5a at hr hg ⊢
  cases hc:N8 (w.2.2.1.getD i Cf)&&((lkD (w.2.2.1.getD i Cf).2.1 s).2==0&&(Hea (w.2.2.1.getD i Cf).2.1 s b).2) with
  |false=>rw [hc] at hr; cases hr
  |true=>
   rw [hc] at hg
   rw [Bool.and_eq_true,Bool.and_eq_true,beq_iff_eq] at hc
   obtain ⟨d1,d2,f,hf⟩:=D7b h.wok hni.1.g hni.2.1 hc.2.1 hc.2.2 (spl w.2.2.2.2.2 s) (λ t=>Efa)
   have hsub:∀ t∈w.2.2.2.2.2,t∈spl w.2.2.2.2.2 s:=λ t ht=>Efa.2 (.inr ht)
   have hN:NR w.2.2.2.2.1 (spl w.2.2.2.2.2 s) w.2.2.1 (w.2.2.1.set i ((w.2.2.1.getD i Cf).1,(Hea (w.2.2.1.getD i Cf).2.1 s b).1,(w.2.2.1.getD i Cf).2.2)):=
    (NR.refl (λ n hn=>(h.nodes n hn).mono (λ _ h=>h) hsub)).set hi ⟨hg,d1,hni.2.2⟩ rfl d2
   exact {
    ring:=h.ring
    ids:=hN.2.1.trans h.ids
    nodes:=hN.1
    clk:=h.clk
    wlen:=h.wlen
    wok:=h.wok
    wge:=h.wge
    asc:=h.asc
    kept:=λ x hx hk hs=>hN.2.2 _ hs _ (h.kept x hx hk (λ c=>hs (hsub _ c)))
    sps:=Cma h.sps
    spw:=λ t ht=>by
     rcases Efa.1 ht with rfl|ht
     ·obtain ⟨x,hx,e,_⟩:=hf
      exact ⟨x,hx,e⟩
     ·exact h.spw t ht }
theorem node (h:WI w) {i:Nat} (hi:i<w.2.2.1.length) {e:Evt}:WI (H4a w e i).2:=by
 have hni:=h.nodes _ (A3 (d:=Cf) hi)
 unfold H4a
 cases e.1==3 with
 |true=>exact h.other' (Wqa h.wok h.nodes hi h.ring h.ids)
 |false=>
  cases e.1==4 with
  |true=>exact h.other' (Wra h.nodes hi)
  |false=>
   cases e.1==5 with
   |true=>exact h.other' (Wsa h.nodes hi)
   |false=>
    cases e.1==6 with
    |true=>
     obtain ⟨c1,c2⟩:=Woa h.wok hni.1.g hni.2.1
     exact h.other ((NR.refl h.nodes).set hi ⟨Y8a hni.1,c1,hni.2.2⟩ rfl c2)
    |false=>
     cases e.1==7 with
     |true=>exact h.other ((NR.refl h.nodes).set hi ⟨D3b hni.1,Aob hni.1.g hni.2.1 _,hni.2.2⟩ rfl (Apb hni.1.g hni.2.1 _))
     |false=>exact h.rot hi
theorem weigh (h:WI w) {i t:Int}:WI (Jza w i t).2:=by
 unfold Jza
 cases h1:inR i 0 ((w.1.length:Int) - 1) with
 |false=>exact h
 |true=>
  cases h2:inR t 1 1000 with
  |false=>exact h
  |true=>
   obtain ⟨i0,i1⟩:=Fh.1 h1
   obtain ⟨w0,w1⟩:=Fh.1 h2
   exact ⟨(Mfa (E3a h.ring (by omega) w0 w1)).1,h.ids.trans (E2a _ _ _).symm,h.nodes,h.clk,h.wlen,h.wok,h.wge,h.asc,h.kept,h.sps,h.spw⟩
theorem ev (h:WI w) {e:Evt} (hb:An e.2.2.2.1):WI (doW w e).2:=by
 have ae:∀ {q:Int×Wld},WI q.2→WI (Yea q).2:=λ {q} hq=>by
  unfold Yea
  cases q.1 != 2<;>exact hq
 unfold doW
 cases e.1==1 with
 |true=>exact ae (h.ask hb (λ c=>by cases c))
 |false=>
  cases e.1==2 with
  |true=>exact ae (h.ask Nr (λ _=>rfl))
  |false=>
   cases e.1==3 || (e.1==4 || (e.1==5 || (e.1==6 || (e.1==7 || e.1==8)))) with
   |true=>
    cases hi:inR e.2.1 0 ((w.2.2.1.length:Int) - 1) with
    |false=>exact h
    |true=>
     have:=Fh.1 hi
     exact h.node (by omega)
   |false=>
    cases e.1==9 with
    |true=>exact h.weigh
    |false=>exact h
theorem Tga {ws:List Wri} (hw:Eka ws) {s:ByteArray} {f:Fil} (hf:An f.2.2):Sya ws s f=true↔IsW ws s f:=by
 unfold Sya IsW
 rw [List.any_eq_true]
 constructor
 ·rintro ⟨x,hx,h⟩
  rw [Bool.and_eq_true] at h
  exact ⟨x,hx,Jm.1 h.1,(H1a (hw x hx).2.2 hf).1 h.2⟩
 ·rintro ⟨x,hx,h1,h2⟩
  exact ⟨x,hx,by rw [Bool.and_eq_true]; exact ⟨Jm.2 h1,(H1a (hw x hx).2.2 hf).2 h2⟩⟩
theorem rightB (h:WI w):Qf w=true:=by
 have h2:=h.dlen
 have hl:=h.nlen
 unfold Qf
 have a1:Ps w.1 w.2.2.1=true:=by
  unfold Ps
  rw [show ((w.2.2.1.length:Int)==(w.1.length:Int))=true by rw [beq_iff_eq]; omega,Bool.true_and,List.all_eq_true]
  intro j hj
  have hj':=List.mem_range.1 hj
  rw [Bool.and_eq_true,beq_iff_eq]
  refine ⟨?_,(h.nodes _ (A3 (d:=Cf) hj')).1.1⟩
  have e1:(w.2.2.1.getD j Cf).1=(w.2.2.1.map (·.1)).getD j 0:=by
   rw [List.getD_eq_getElem?_getD,List.getD_eq_getElem?_getD,List.getElem?_map,List.getElem?_eq_getElem hj']; rfl
  have e2:(w.1.getD j N2).1=(w.1.map (·.1)).getD j 0:=by
   rw [List.getD_eq_getElem?_getD,List.getD_eq_getElem?_getD,List.getElem?_map,List.getElem?_eq_getElem (by omega)]; rfl
  rw [e1,e2,h.ids]
 have a2:Sua w.2.2.2.1 w.2.2.2.2.1=true:=by
  unfold Sua
  rw [Bool.and_eq_true,List.all_eq_true]
  refine ⟨λ x hx=>?_,decide_eq_true (by have:=h.wlen; omega)⟩
  unfold Bia
  rw [(h.wok x hx).1,(h.wok x hx).2.1,h.wge x hx]
  rfl
 have a3:Qj w.2.2.2.2.2=true:=by
  unfold Qj
  rw [List.all_eq_true]
  intro j hj
  have hj':=List.mem_range.1 hj
  rw [Bool.and_eq_true,Bool.or_eq_true]
  refine ⟨?_,?_⟩
  ·obtain ⟨x,hx,e⟩:=h.spw _ (A3 (d:=Ni) hj')
   rw [← e]
   exact (h.wok x hx).1
  ·by_cases h0:j=0
   ·exact .inl (decide_eq_true h0)
   ·right
    have:=List.pairwise_iff_getElem.1 h.sps (j - 1) j (by omega) hj' (by omega)
    rwa [List.getD_eq_getElem?_getD,List.getD_eq_getElem?_getD,List.getElem?_eq_getElem hj',List.getElem?_eq_getElem (by omega)]
 rw [h.ring,a1,h.clk,a2,a3]
 rfl
theorem writtenT (h:WI w):S5 w=true:=by
 unfold S5
 rw [List.all_eq_true]
 intro j hj
 obtain ⟨hg,hd,_⟩:=h.nodes _ (A3 (d:=Cf) (List.mem_range.1 hj))
 rw [Bool.and_eq_true,List.all_eq_true,List.all_eq_true]
 have one:∀ e:Nmd,EO w.2.2.2.2.1 w.2.2.2.2.2 e.1 e.2→T0a w.2.2.2.2.1 e=true:=by
  intro e he
  unfold T0a
  cases hf:Nj e.2 with
  |none=>rfl
  |some f=>exact (Tga h.wok (J6a hf).2.1).2 (he.get h.wok hf).1
 exact ⟨λ e he=>one e ((hd e.1).1 e.2 (J8a (N7 hg.g.1) he)),λ e he=>one e ((hd e.1).2.1 e.2 (J8a (Qe hg.g.1) he))⟩
theorem listedT (h:WI w):W0 w=true:=by
 unfold W0
 rw [List.all_eq_true]
 intro j hj
 obtain ⟨_,_,h1,h2⟩:=h.nodes _ (A3 (d:=Cf) (List.mem_range.1 hj))
 rw [Bool.and_eq_true,List.all_eq_true,List.all_eq_true]
 exact ⟨h1,h2⟩
theorem keptT (h:WI w):Oaa w=true:=by
 unfold Oaa
 rw [List.all_eq_true]
 intro x hx
 unfold T1a
 cases hk:x.2.2 with
 |false=>rfl
 |true=>
  cases hs:B4a w.2.2.2.2.2 x.1 with
  |true=>rfl
  |false=>
   obtain ⟨i,hi,hh⟩:=h.kept x hx hk (λ c=>by rw [E6a.2 c] at hs; cases hs)
   rw [List.any_eq_true.2 ⟨_,A3 hi,Tca.2 hh⟩]
   rfl
theorem stampedT (h:WI w):S6 w=true:=by
 unfold S6
 rw [List.all_eq_true]
 intro j hj
 have hj':=List.mem_range.1 hj
 rw [Bool.and_eq_true,Bool.or_eq_true,Bool.not_eq_true']
 refine ⟨h.wge _ (A3 hj'),?_⟩
 by_cases h0:j=0
 ·exact .inl (decide_eq_true h0)
 ·right
  have:=List.pairwise_iff_getElem.1 h.asc (j - 1) j (by omega) hj' (by omega)
  rwa [List.getD_eq_getElem?_getD,List.getD_eq_getElem?_getD,List.getElem?_eq_getElem hj',List.getElem?_eq_getElem (by omega)]
theorem safe (h:WI w):Wka w=0:=by
 unfold Wka
 rw [h.rightB,h.writtenT,h.listedT,h.keptT,h.stampedT]
 rfl
end WI

def Epb (l:List Dev) (last:Int):Prop:=l.Pairwise (λ a b=>a.1<b.1)∧∀ d∈l,(0≤d.1∧d.1≤last)∧(0≤d.2.1∧d.2.1≤20)∧1≤d.2.2∧d.2.2≤1000
theorem Tha (z:Int) (hz:1≤z∧z≤20):∀ (n:Nat) (i:Int) (l:List Dev) (last:Int) (c:Cur),i=n→n≤6→Lw c→Epb l last→0≤last→last+2 * n≤12→l.length+n≤6→
  Tot (λ k=>Hl k l z last i c) (λ r=>(∃ last,Epb r.1 last∧last≤20)∧r.1.length=l.length+n∧Lw r.2):=by
 intro n
 induction n with
 |zero=>
  rintro i l last c rfl _ hc h h0 h1 _
  refine Tot.succ ?_
  simp (disch:=omega) only [Hl,dF]
  exact Tot.pure ⟨⟨last,h,by omega⟩,rfl,hc⟩
 |succ n ih=>
  rintro i l last c rfl hn hc h h0 h1 hl
  refine Tot.succ ?_
  simp (disch:=omega) only [Hl,dT]
  obtain ⟨x,c1,e1,hx,k1⟩:=Q6 c hc [1,1,2] (by decide) (by decide)
  obtain ⟨y,c2,e2,y0,y1,_,k2⟩:=Kr c1 k1 z (by omega)
  obtain ⟨v,c3,e3,hv,k3⟩:=Q6 c2 k2 [1,1,1,2,10,100] (by decide) (by decide)
  have y1:=y1 (by omega)
  have hx':1≤x∧x≤2:=by
   simp only [List.mem_cons,List.not_mem_nil,or_false] at hx
   omega
  have hv':1≤v∧v≤1000:=by
   simp only [List.mem_cons,List.not_mem_nil,or_false] at hv
   omega
  refine Tot.bind (Tot.of (Q:=λ r=>r=(x,c1)) e1 rfl) ?_
  rintro r rfl
  refine Tot.bind (Tot.of (Q:=λ r=>r=(y,c2)) e2 rfl) ?_
  rintro r rfl
  refine Tot.bind (Tot.of (Q:=λ r=>r=(v,c3)) e3 rfl) ?_
  rintro r rfl
  simp (disch:=omega) only [w64]
  refine Tot.ble (by simp only [List.length_cons,List.length_nil]; omega) ?_
  refine (ih _ (l++[(last+x,y,v)]) (last+x) c3 (by omega) (by omega) k3 ⟨?_,?_⟩ (by omega) (by omega) (by rw [List.length_append]; simp only [List.length_cons,List.length_nil]; omega)).mono ?_
  ·refine List.pairwise_append.2 ⟨h.1,List.pairwise_singleton _ _,λ a ha b hb=>?_⟩
   rw [List.mem_singleton.1 hb]
   have:=(h.2 a ha).1.2
   show a.1<last+x
   omega
  ·intro d hd
   rcases List.mem_append.1 hd with hd|hd
   ·obtain ⟨⟨a1,a2⟩,a3⟩:=h.2 d hd
    exact ⟨⟨a1,by omega⟩,a3⟩
   ·rw [List.mem_singleton.1 hd]
    exact ⟨⟨by show 0≤last+x; omega,Int.le_refl _⟩,⟨y0,by show y≤20; omega⟩,hv'⟩
  ·rintro r ⟨g1,g2,g3⟩
   refine ⟨g1,?_,g3⟩
   rw [g2,List.length_append]
   simp only [List.length_cons,List.length_nil]
   omega
theorem Oda (c:Cur) (hc:Lw c):Tot (λ k=>Gw k c) (λ r=>Lx r.1=true∧(2≤r.1.length∧r.1.length≤6)∧Lw r.2):=by
 unfold Gw
 obtain ⟨x,c1,e1,x0,x1,_,k1⟩:=Kr c hc 4 (by decide)
 obtain ⟨y,c2,e2,y0,y1,_,k2⟩:=Kr c1 k1 5 (by decide)
 have x1:=x1 (by decide)
 have y1:=y1 (by decide)
 refine Tot.bind (Tot.of (Q:=λ r=>r=(x,c1)) e1 rfl) ?_
 rintro r rfl
 refine Tot.bind (Tot.of (Q:=λ r=>r=(y,c2)) e2 rfl) ?_
 rintro r rfl
 simp (disch:=omega) only [w64]
 refine Tot.bind (Tha (1+x) (by omega) (2+y).toNat (2+y) [] 0 c2 (by omega) (by omega) k2 ⟨List.Pairwise.nil,λ d hd=>(nomatch hd)⟩ (Int.le_refl _) (by omega) (by simp only [List.length_nil]; omega)) ?_
 rintro r ⟨⟨last,g1,g2⟩,g3,g4⟩
 rw [List.length_nil] at g3
 exact Tot.pure ⟨Dz.2 ⟨g1.1,λ d hd=>Ns.2 ⟨⟨(g1.2 d hd).1.1,by have:=(g1.2 d hd).1.2; omega⟩,(g1.2 d hd).2⟩,by dsimp only; omega,by dsimp only; omega⟩,⟨by dsimp only; omega,by dsimp only; omega⟩,g4⟩
abbrev Hga:Wld:=(([]:List Dev),((0:Int),([]:List (List Int))),([]:List Nod),((0:Int),((0:Int),(0:Int))),([]:List Wri),([]:List ByteArray))
def Yfa (d:Dev):Nod:=(d.1,([],[]),[],[])
def Dlb (l:List Dev) (parts reps:Int):Wld:=(l,(build l parts reps).1,l.map Yfa,(0,0,0),[],[])
theorem Asb {ws:List Wri} {sp:List ByteArray} {l:List Dev} (h:Lx l=true) {d:Dev} (hd:d∈l):NI ws sp (Yfa d):=by
 obtain ⟨⟨i0,i1⟩,_⟩:=Ns.1 ((Dz.1 h).2.1 d hd)
 refine ⟨⟨Ee.2 ⟨(λ r hr=>nomatch hr),⟨i0,i1⟩,dg0.1,W1,Nat.zero_le _⟩,dg0.2⟩,λ s=>⟨λ b hb=>?_,λ b hb=>?_,λ _ b f hb=>?_⟩,(λ r hr=>nomatch hr),(λ r hr=>nomatch hr)⟩
 ·rw [show gt (Yfa d).2.1.1 s=none from rfl] at hb; cases hb
 ·rw [show gt (Yfa d).2.1.2 s=none from rfl] at hb; cases hb
 ·rw [show gt (Yfa d).2.1.2 s=none from rfl] at hb; cases hb
theorem Atb {l:List Dev} {parts reps:Int} (hb:(build l parts reps).2=true):WI (Dlb l parts reps):=by
 obtain ⟨h1,h2,_,_⟩:=Mba hb
 exact {
  ring:=h2
  ids:=by show (l.map Yfa).map (·.1)=_; rw [List.map_map]; rfl
  nodes:=λ n hn=>by
   obtain ⟨d,hd,rfl⟩:=List.mem_map.1 hn
   exact Asb h1 hd
  clk:=rfl
  wlen:=Nat.zero_le _
  wok:=λ x hx=>nomatch hx
  wge:=λ x hx=>nomatch hx
  asc:=List.Pairwise.nil
  kept:=λ x hx=>nomatch hx
  sps:=List.Pairwise.nil
  spw:=λ s hs=>nomatch hs }
theorem H6a (l:List Dev) (parts reps:Int) (hb:(build l parts reps).2=true):Tot (λ k=>Ca k l parts reps) (λ r=>r=Dlb l parts reps):=by
 obtain ⟨h1,_,_,_⟩:=Mba hb
 have h12:=(Dz.1 h1).2.2.2
 unfold Ca
 refine Tot.bind (Sha l parts reps (by omega)) ?_
 rintro r rfl
 refine Tot.ble (by rw [List.length_nil]; omega) (Tot.no (by rw [hb]; rfl) ?_)
 rw [List.nil_append]
 refine Tot.bind (Q:=λ r=>r=(Hga,Dlb l parts reps)) ?_ (by rintro r rfl; exact Tot.pure rfl)
 refine Tot.up (L:=λ k i (s:List Nod)=>Ez k l i Hga (l,(build l parts reps).1,s,(0,0,0),[],[])) (Q:=λ r=>r=(Hga,Dlb l parts reps)) l.length (λ j s=>s=(l.take j).map Yfa) ?_ ?_ 0 [] (Nat.zero_le _) rfl
 ·rintro s rfl
  simp (disch:=omega) only [Ez,dF]
  exact Tot.pure (by rw [List.take_length]; rfl)
 ·rintro j s hj rfl next
  have hd:=A3 (d:=N2) hj
  obtain ⟨d,ed⟩:∃ d:Dev,l.getD j N2=d:=⟨_,rfl⟩
  rw [ed] at hd
  have e0:l.getD j ((0:Int),((0:Int),(0:Int)))=d:=ed
  have e1:l[j]=d:=by rw [← ed,List.getD_eq_getElem?_getD,List.getElem?_eq_getElem hj]; rfl
  have hid:=(Ns.1 ((Dz.1 h1).2.1 d hd)).1
  simp (disch:=omega) only [Ez,dT,Int.toNat_natCast,w64,e0,Jea,Option.bind_some]
  have hl:((l.take j).map Yfa).length=j:=by rw [List.length_map,List.length_take]; omega
  rw [Fh.2 hid,cond_true]
  refine Tot.ble (by rw [hl]; simp only [List.length_cons,List.length_nil]; omega) (next _ ?_)
  rw [List.take_succ_eq_append_getElem hj,List.map_append,e1]
  rfl
theorem Oea (c:Cur) (hc:Lw c):Tot (λ k=>Kg k c) (λ r=>WI r.1∧Lw r.2):=by
 unfold Kg
 refine Tot.bind (Oda c hc) ?_
 rintro ⟨l,c1⟩ ⟨hl,hn,k1⟩
 dsimp only at hl hn k1 ⊢
 obtain ⟨x,c2,e2,hx,k2⟩:=Q6 c1 k1 [3,2,3,1] (by decide) (by decide)
 obtain ⟨y,c3,e3,hy,k3⟩:=Q6 c2 k2 [4,2,8] (by decide) (by decide)
 have hx':1≤x∧x≤3:=by
  simp only [List.mem_cons,List.not_mem_nil,or_false] at hx
  omega
 have hy':1≤y∧y≤8:=by
  simp only [List.mem_cons,List.not_mem_nil,or_false] at hy
  omega
 have one:∀ n:Int,1≤n→n≤5→n≤(l.length:Int)→Tot (λ k=>(Bu c2 [4,2,8]).bind λ r3=>(Ca k l r3.1 n).bind λ r4=>some (r4,r3.2)) (λ r=>WI r.1∧Lw r.2):=by
  intro n n0 n5 nl
  have hb:(build l y n).2=true:=by
   unfold build
   rw [hl,Fh.2 (show 1≤y∧y≤64 by omega),Fh.2 (show 1≤n∧n≤5 by omega),decide_eq_false (show ¬ n > (l.length:Int) by omega)]
   rfl
  refine Tot.bind (Tot.of (Q:=λ r=>r=(y,c3)) e3 rfl) ?_
  rintro r rfl
  refine Tot.bind (H6a l y n hb) ?_
  rintro r rfl
  exact Tot.pure ⟨Atb hb,k3⟩
 refine Tot.bind (Tot.of (Q:=λ r=>r=(x,c2)) e2 rfl) ?_
 rintro r rfl
 exact Tot.dite (λ h=>one (l.length:Int) (by omega) (by dsimp only at h; omega) (Int.le_refl _)) (λ h=>one x (by omega) (by omega) (by dsimp only at h; omega))
theorem H7a (c:Cur) (hc:Lw c):Tot (λ k=>E9 k c) (λ r=>r.1.length=6∧Lw r.2):=by
 unfold E9
 refine Tot.bind (Q:=λ r=>r.1.length=6∧Lw r.2) ?_ (λ r h=>Tot.pure h)
 refine Tot.up (L:=λ k i (s:List Int×Cur)=>Fw k s.1 i s.2) (Q:=λ r=>r.1.length=6∧Lw r.2) 6 (λ j s=>s.1.length=j∧Lw s.2) ?_ ?_ 0 ([],c) (Nat.zero_le _) ⟨rfl,hc⟩
 ·rintro s ⟨h1,h2⟩
  simp (disch:=omega) only [Fw,dF]
  exact Tot.pure ⟨h1,h2⟩
 ·rintro j s hj ⟨h1,h2⟩ next
  obtain ⟨x,c1,e1,_,k1⟩:=Q6 s.2 h2 [1,1,1,1,0,2,3] (by decide) (by decide)
  simp (disch:=omega) only [Fw,dT,w64]
  refine Tot.bind (Tot.of (Q:=λ r=>r=(x,c1)) e1 rfl) ?_
  rintro r rfl
  exact Tot.ble (by simp only [List.length_cons,List.length_nil]; omega) (next (s.1++[x],c1) ⟨by rw [List.length_append,h1]; rfl,k1⟩)
theorem K1a (c:Cur) (hc:Lw c):Tot (λ k=>E9 k c) (λ r=>r.1.length≤6∧Lw r.2):=(H7a c hc).mono λ r h=>⟨by have:=h.1; omega,h.2⟩
def Wta (r:Evt×Cur×Wld) (w:Wld):Prop:=Dkb r.1∧An r.1.2.2.2.1∧Lw r.2.1∧r.2.2=w
theorem Aub {d:Dsk} (hd:DIn d) (hb:DB d):Tot (λ k=>Gq k d) (λ r=>r.length≤2000000∧∀ t∈r,Km t):=by
 refine (W9a d hd hb).mono ?_
 rintro r rfl
 obtain ⟨a1,a2⟩:=Czb d.1 hd.1.2.1 d.1 0 [] (λ x hx=>hx) (λ y hy=>nomatch hy)
 have:=hd.2.1
 rw [List.length_nil] at a1
 exact ⟨by unfold O7a; omega,a2⟩
theorem Ega (c:Cur) (w:Wld) (hc:Lw c) (hn1:1≤w.2.2.1.length) (hnl:w.2.2.1.length≤2000000) (hnn:∀ n∈w.2.2.1,NIn n):Tot (λ k=>Dg k c w w) (λ r=>Wta r w):=by
 unfold Dg
 obtain ⟨i,c1,e1,i0,i1,_,k1⟩:=Kr c hc (w.2.2.1.length:Int) (by omega)
 have i1:=i1 (by omega)
 obtain ⟨s,c2,e2,hs,k2⟩:=Raa c1 k1
 have hs:=(Ixa s hs).1
 refine Tot.bind (Tot.of (Q:=λ r=>r=(i,c1)) e1 rfl) ?_
 rintro r rfl
 refine Tot.bind (Tot.of (Q:=λ r=>r=(s,c2)) e2 rfl) ?_
 rintro r rfl
 refine Tot.bind (K1a c2 k2) ?_
 rintro ⟨rc,c3⟩ ⟨hrc,k3⟩
 dsimp only at hrc k3 ⊢
 obtain ⟨n,c4,e4,_,_,_,k4⟩:=Kr c3 k3 20 (by decide)
 refine Tot.bind (Tot.of (Q:=λ r=>r=(n,c4)) e4 rfl) ?_
 rintro r rfl
 dsimp only
 have ok:∀ (kd:Int) (s:ByteArray) (l:List Int) (x:Int) (c:Cur),Km s→An l→l.length≤2000000 → -9223372036854775808≤x→x≤9223372036854775807→Lw c→Wta ((kd,i,s,l,x,rc),c,w) w:=λ kd s l x c h1 h2 h3 h4 h5 h6=>⟨⟨h1,by show l.length≤_; omega,⟨h4,h5⟩,by show rc.length≤_; omega⟩,h2,h6,rfl⟩
 have plain:∀ kd:Int,Tot (λ _=>some ((kd,i,s,([]:List Int),(0:Int),rc),c4,w)) (λ r=>Wta r w):=λ kd=>Tot.pure (ok kd s [] 0 c4 hs Nr (Nat.zero_le _) (by decide) (by decide) k4)
 have put:Tot (λ k=>(A9 c4 2).bind λ r5=>(Fz k r5.2).bind λ r6=>some ((1,i,s,r6.1,IntKind.wrap .i64 (w.2.2.2.1.1+r5.1),rc),r6.2,w)) (λ r=>Wta r w):=by
  obtain ⟨x,c5,e5,x0,x1,_,k5⟩:=Kr c4 k4 2 (by decide)
  have x1:=x1 (by decide)
  refine Tot.bind (Tot.of (Q:=λ r=>r=(x,c5)) e5 rfl) ?_
  rintro r rfl
  refine Tot.bind (Nka c5 k5) ?_
  rintro ⟨l,c6⟩ ⟨g1,g2,g3⟩
  dsimp only at g1 g2 g3 ⊢
  have hw:=C5a (w.2.2.2.1.1+x)
  exact Tot.pure (ok 1 s l _ c6 hs g2 (by omega) hw.1 hw.2 g1)
 have drop:Tot (λ k=>(A9 c4 2).bind λ r17=>some ((2,i,s,([]:List Int),IntKind.wrap .i64 (w.2.2.2.1.1+r17.1),rc),r17.2,w)) (λ r=>Wta r w):=by
  obtain ⟨x,c5,e5,x0,x1,_,k5⟩:=Kr c4 k4 2 (by decide)
  have x1:=x1 (by decide)
  refine Tot.bind (Tot.of (Q:=λ r=>r=(x,c5)) e5 rfl) ?_
  rintro r rfl
  have hw:=C5a (w.2.2.2.1.1+x)
  exact Tot.pure (ok 2 s [] _ c5 hs Nr (Nat.zero_le _) hw.1 hw.2 k5)
 have rot:Tot (λ k=>(A9 c4 60).bind λ r31=>some ((8,i,s,([]:List Int),r31.1,rc),r31.2,w)) (λ r=>Wta r w):=by
  obtain ⟨x,c5,e5,x0,x1,_,k5⟩:=Kr c4 k4 60 (by decide)
  have x1:=x1 (by decide)
  refine Tot.bind (Tot.of (Q:=λ r=>r=(x,c5)) e5 rfl) ?_
  rintro r rfl
  exact Tot.pure (ok 8 s [] x c5 hs Nr (Nat.zero_le _) (by omega) (by omega) k5)
 have ring:Tot (λ k=>(Bu c4 [1,2,10,1000]).bind λ r33=>some ((9,i,s,([]:List Int),r33.1,rc),r33.2,w)) (λ r=>Wta r w):=by
  obtain ⟨x,c5,e5,hx,k5⟩:=Q6 c4 k4 [1,2,10,1000] (by decide) (by decide)
  refine Tot.bind (Tot.of (Q:=λ r=>r=(x,c5)) e5 rfl) ?_
  rintro r rfl
  have hx':1≤x∧x≤1000:=by
   simp only [List.mem_cons,List.not_mem_nil,or_false] at hx
   omega
  exact Tot.pure (ok 9 s [] x c5 hs Nr (Nat.zero_le _) (by omega) (by omega) k5)
 have push:Tot (λ k=>cond (decide ((0:Int)≤i)) (cond (decide (i<(List.length w.2.2.1:Int))) ((Gq k (List.getD w.2.2.1 (Int.toNat i) ((0:Int),(([],[]),([],[])))).2.1).bind λ r20=>cond (decide ((List.length r20:Int) > 0)) ((A9 c4 (List.length r20:Int)).bind λ r21=>cond (decide ((0:Int)≤r21.1)) (cond (decide (r21.1<(List.length r20:Int))) (some ((3,i,(List.getD r20 (Int.toNat r21.1) (⟨#[]⟩:ByteArray)),([]:List Int),0,rc),r21.2,w)) none) none) (some ((3,i,s,([]:List Int),0,rc),c4,w))) none) none) (λ r=>Wta r w):=by
  refine Tot.dec i0 (Tot.dec i1 ?_)
  have hm:=hnn _ (A3 (d:=Cf) (show i.toNat<w.2.2.1.length by omega))
  refine Tot.bind (Aub hm.1.1 hm.1.2) ?_
  rintro l ⟨hl,hl'⟩
  refine Tot.dite (λ h0=>?_) (λ h0=>plain 3)
  obtain ⟨x,c5,e5,x0,x1,_,k5⟩:=Kr c4 k4 (l.length:Int) (by omega)
  have x1:=x1 (by omega)
  refine Tot.bind (Tot.of (Q:=λ r=>r=(x,c5)) e5 rfl) ?_
  rintro r rfl
  exact Tot.dec x0 (Tot.dec x1 (Tot.pure (ok 3 _ [] 0 c5 (hl' _ (A3 (d:=Ni) (show x.toNat<l.length by omega))) Nr (Nat.zero_le _) (by decide) (by decide) k5)))
 refine Tot.ite (λ _=>put) (λ _=>?_)
 refine Tot.ite (λ _=>put) (λ _=>?_)
 refine Tot.ite (λ _=>put) (λ _=>?_)
 refine Tot.ite (λ _=>put) (λ _=>?_)
 refine Tot.ite (λ _=>put) (λ _=>?_)
 refine Tot.ite (λ _=>put) (λ _=>?_)
 refine Tot.ite (λ _=>drop) (λ _=>?_)
 refine Tot.ite (λ _=>drop) (λ _=>?_)
 refine Tot.ite (λ _=>push) (λ _=>?_)
 refine Tot.ite (λ _=>push) (λ _=>?_)
 refine Tot.ite (λ _=>push) (λ _=>?_)
 refine Tot.ite (λ _=>plain 5) (λ _=>?_)
 refine Tot.ite (λ _=>plain 5) (λ _=>?_)
 refine Tot.ite (λ _=>plain 4) (λ _=>?_)
 refine Tot.ite (λ _=>plain 6) (λ _=>?_)
 refine Tot.ite (λ _=>plain 7) (λ _=>?_)
 refine Tot.ite (λ _=>plain 7) (λ _=>?_)
 refine Tot.ite (λ _=>rot) (λ _=>?_)
 exact Tot.ite (λ _=>rot) (λ _=>ring)
theorem H8a (c:Cur) (w:Wld) (hc:Lw c) (h:WI w):Tot (λ k=>Dg k c w w) (λ r=>Wta r w):=
 Ega c w hc (by have:=h.nlen; have:=h.dlen; omega) h.ns.1 h.win.2.2.1.2
theorem Avb {w:Wld} (h:WI w) {e:Evt} (he:Dkb e):Tot (λ k=>Iu k w e) (λ r=>r=doW w e):=
 D4b w e he h.ring h.ns h.clk (by have:=h.wlen; omega) (by have:=h.splen; omega)
theorem Ofa:∀ (n:Nat) (i:Int) (c:Cur) (w:Wld),i=n→n≤1000→Lw c→WI w→Tot (λ k=>G6 k i c Hga w) (λ r=>WI r.2.1∧Lw r.2.2):=by
 intro n
 induction n with
 |zero=>
  rintro i c w rfl _ hc h
  refine Tot.succ ?_
  simp (disch:=omega) only [G6,dF]
  exact Tot.pure ⟨h,hc⟩
 |succ n ih=>
  rintro i c w rfl hn hc h
  refine Tot.succ ?_
  simp (disch:=omega) only [G6,dT]
  refine Tot.bind (H8a c w hc h) ?_
  rintro ⟨e,c1,w1⟩ ⟨g1,g2,g3,g4⟩
  dsimp only at g1 g2 g3 g4 ⊢
  subst g4
  refine Tot.bind (Avb h g1) ?_
  rintro r rfl
  rw [w64 (n:=((n+1:Nat):Int) - 1) (by omega) (by omega)]
  exact ih _ c1 _ (by omega) (by omega) g3 (h.ev g2)
theorem K2a (c:Cur) (hc:Lw c) (n:Int) (hn:n≤1000):Tot (λ k=>Fb k c n) (λ r=>WI r.1∧Lw r.2):=by
 unfold Fb
 refine Tot.bind (Oea c hc) ?_
 rintro ⟨w,c1⟩ ⟨h,k1⟩
 dsimp only at h k1 ⊢
 obtain ⟨x,c2,e2,x0,x1,x2,k2⟩:=Kr c1 k1 n (by omega)
 refine Tot.bind (Tot.of (Q:=λ r=>r=(x,c2)) e2 rfl) ?_
 rintro r rfl
 refine Tot.bind (Ofa x.toNat x c2 w (by omega) (by by_cases h:0<n<;>omega) k2 h) ?_
 rintro r hr
 exact Tot.pure hr
theorem Wua (a:List Int) (hb:(a.length:Int)≤1048576) (m:Int) (hm:3≤m∧m≤1000):∃ n,K7 a m=some n∧3≤n∧n≤m:=by
 unfold K7
 rw [Int.tdiv_eq_ediv_of_nonneg (by omega),w64 (n:=(a.length:Int) / 12) (by omega) (by omega),w64 (n:=3+(a.length:Int) / 12) (by omega) (by omega)]
 by_cases h:3+(a.length:Int) / 12 > m
 ·exact ⟨m,by rw [decide_eq_true h]; rfl,hm.1,Int.le_refl _⟩
 ·exact ⟨_,by rw [decide_eq_false h]; rfl,by omega,by omega⟩
theorem Eha (a:List Int) (hb:(a.length:Int)≤1048576):Tot (λ k=>Hm k a) WI:=by
 unfold Hm
 refine Tot.bind (R9a a hb) ?_
 intro c hc
 obtain ⟨n,e,n0,n1⟩:=Wua a hb 50 (by decide)
 refine Tot.bind (Tot.of (Q:=λ r=>r=n) e rfl) ?_
 rintro r rfl
 rw [w64 (n:=12+r) (by omega) (by omega)]
 refine Tot.bind (K2a c hc _ (by omega)) ?_
 rintro r hr
 exact Tot.pure hr.1

def WIm (m:Nat) (w:Wld):Prop:=RBd w.2.1∧w.1.length≤2000000∧(w.2.2.1.length≤2000000∧∀ n∈w.2.2.1,NIn n)∧(w.2.2.2.2.1.length≤m∧∀ x∈w.2.2.2.2.1,Km x.1∧x.2.1.2.2.length≤2000000∧An x.2.1.2.2)∧(w.2.2.2.2.2.length≤m∧∀ s∈w.2.2.2.2.2,Km s)
theorem WIm.win {m:Nat} {w:Wld} (h:WIm m w) (hm:m≤2000000):WIn w:=by
 obtain ⟨h1,h2,⟨h3,h4⟩,⟨h5,h6⟩,h7,h8⟩:=h
 exact ⟨h1,h2,⟨h3,h4⟩,⟨by omega,λ x hx=>(h6 x hx).1⟩,by omega,h8⟩
theorem WI.wim {w:Wld} (h:WI w):WIm 200 w:=by
 have hi:=h.win
 have h2:=h.dlen
 have h1:=h.nlen
 exact ⟨hi.1,hi.2.1,hi.2.2.1,⟨h.wlen,λ x hx=>⟨Ir (h.wok x hx).1,by have:=(Jq.1 (h.wok x hx).2.1).2.1; omega,(h.wok x hx).2.2⟩⟩,h.splen,hi.2.2.2.2.2⟩
theorem H9a {f:Fil} (h:f.2.2.length≤2000000):Bg f=some f:=by
 unfold Bg
 rw [bT (by simp only [List.length_nil]; omega),List.nil_append]
theorem Tia {m:Nat} {w:Wld} (h:WIm m w) (hm:m≤2000000):Tot (λ k=>D8 k w) (λ r=>r=w):=by
 obtain ⟨h1,h2,⟨h3,h4⟩,⟨h5,h6⟩,h7,h8⟩:=h
 unfold D8
 refine Tot.ble (by rw [List.length_nil]; omega) (Tot.bind (Ws w.2.1 h1) ?_)
 rintro r rfl
 refine Tot.ble (by rw [List.length_nil]; omega) ?_
 rw [List.nil_append,List.nil_append]
 refine Tot.bind (Q:=λ r=>r=(w,Hga,(w.1,w.2.1,w.2.2.1,w.2.2.2.1,[],w.2.2.2.2.2))) ?_ ?_
 ·refine Tot.up (L:=λ k i (s:List Nod)=>Ga k i w Hga (w.1,w.2.1,s,w.2.2.2.1,[],w.2.2.2.2.2)) (Q:=λ r=>r=(w,Hga,(w.1,w.2.1,w.2.2.1,w.2.2.2.1,[],w.2.2.2.2.2))) w.2.2.1.length (λ j s=>s=w.2.2.1.take j) ?_ ?_ 0 [] (Nat.zero_le _) rfl
  ·rintro s rfl
   simp (disch:=omega) only [Ga,dF]
   exact Tot.pure (by rw [List.take_length])
  ·rintro j s hj rfl next
   have hm:=h4 _ (A3 (d:=Cf) hj)
   have e0:w.2.2.1.getD j ((0:Int),(([],[]),([],[])))=w.2.2.1.getD j Cf:=rfl
   have hl:(w.2.2.1.take j).length=j:=by rw [List.length_take]; omega
   simp (disch:=omega) only [Ga,dT,Int.toNat_natCast,w64,e0]
   refine Tot.bind (W9 _ hm) ?_
   rintro r rfl
   refine Tot.ble (by rw [hl]; simp only [List.length_cons,List.length_nil]; omega) (next _ ?_)
   rw [List.take_succ_eq_append_getElem hj,List.getD_eq_getElem?_getD,List.getElem?_eq_getElem hj]
   rfl
 ·rintro r rfl
  refine Tot.bind (Q:=λ r=>r=(Hga,w)) ?_ (by rintro r rfl; exact Tot.pure rfl)
  refine Tot.up (L:=λ k i (s:List Wri)=>G9 k i w Hga (w.1,w.2.1,w.2.2.1,w.2.2.2.1,s,w.2.2.2.2.2)) (Q:=λ r=>r=(Hga,w)) w.2.2.2.2.1.length (λ j s=>s=w.2.2.2.2.1.take j) ?_ ?_ 0 [] (Nat.zero_le _) rfl
  ·rintro s rfl
   simp (disch:=omega) only [G9,dF]
   exact Tot.pure (by rw [List.take_length])
  ·rintro j s hj rfl next
   have hm:=(h6 _ (A3 (d:=Xt) hj)).2.1
   have e0:w.2.2.2.2.1.getD j ((⟨#[]⟩:ByteArray),((((0:Int),((0:Int),(0:Int))),(false,[])),false))=w.2.2.2.2.1.getD j Xt:=rfl
   have hl:(w.2.2.2.2.1.take j).length=j:=by rw [List.length_take]; omega
   simp (disch:=omega) only [G9,dT,Int.toNat_natCast,w64,e0,H9a hm,Option.bind_some]
   refine Tot.ble (by rw [hl]; simp only [List.length_cons,List.length_nil]; omega) (next _ ?_)
   rw [List.take_succ_eq_append_getElem hj,List.getD_eq_getElem?_getD,List.getElem?_eq_getElem hj]
   rfl

theorem Tja {c:Stp} (hc:Fi c=true) (t d:Int):Ho c t d=some (Ll c t d):=by
 have h2:0≤c.2.1∧c.2.1≤1000000:=by
  unfold Fi at hc
  rw [Bool.and_eq_true,Bool.and_eq_true,Fh,Fh] at hc
  exact hc.2.1
 unfold Ho Ll
 rw [w64 (n:=c.2.1+1) (by omega) (by omega)]
 simp only [Tz,Option.bind_some]
 cases decide (t≤c.1) with
 |true=>cases Fi (c.1,c.2.1+1,d)<;>rfl
 |false=>cases Fi (t,0,d)<;>rfl
theorem Wv {f:Fil} (h:f.2.2.length≤1000000000):Fo f=some f:=by
 unfold Fo
 rw [Mh _ (by omega)]
 rfl
theorem Tka {n:Nod} {s:ByteArray} {f:Fil} {sure:Bool} (hn:NG n) (hs:Ar s=true) (hf:Eb f=true):Djb n s f sure=Sk n s f sure:=by
 unfold Djb
 rw [hn.1,hs,hf]
 rfl
theorem Oga {n:Nod} (r:Int) (s:ByteArray) (f:Fil) (g:Int) (hn:NG n) (hs:Ar s=true) (hf:Eb f=true) (h0:0≤g) (h1:g≤9000000000000):
  Tot (λ k=>Cv k n r s f g) (λ x=>x=((Sk n s f (r != 3)).1,s,f,bif r==1&&((Sk n s f (r != 3)).2==0 || (Sk n s f (r != 3)).2==1) then g+1 else g)):=by
 unfold Cv
 refine Tot.bind (Jka n s f (r != 3) (Gla hn) (Ir hs)) ?_
 rintro x rfl
 rw [Tka hn hs hf,w64 (n:=g+1) (by omega) (by omega)]
 generalize Sk n s f (r != 3)=p
 cases r==1 with
 |false=>exact Tot.no rfl (Tot.pure rfl)
 |true=>
  refine Tot.yes rfl ?_
  cases p.2==0 with
  |true=>exact Tot.yes rfl (Tot.pure rfl)
  |false=>
   refine Tot.no rfl ?_
   cases p.2==1 with
   |true=>exact Tot.yes rfl (Tot.pure rfl)
   |false=>exact Tot.no rfl (Tot.pure rfl)
theorem Wva (w:Wld) (s:ByteArray) (f:Fil) (rc:List Int) (hr:H2 w.2.1 w.1=true) (hn:NS w.2.2.1) (hs:Ar s=true) (hf:Eb f=true):
  Tot (λ k=>Ac k w s rc true s f 0) (λ r=>r=(wN w (wrN w s f rc).1,s,f,(wrN w s f rc).2.2)):=by
 have hsz:s.size≤1000000000:=by
  have:=Fh.1 (Bool.and_eq_true _ _ ▸ hs:_∧_).2
  omega
 obtain ⟨_,hR,_⟩:=Ax.1 hr
 unfold Ac
 refine Tot.bind (Wu w s hr hn.1 hsz) ?_
 rintro r rfl
 have hc:=λ x=>Om (w:=w) (s:=s) (x:=x)
 have hcl:(Bo w s).length≤4000000000000:=by
  unfold Bo
  refine O7 hn.1 ?_
  have h5:=(Ax.1 hr).2.1
  have p2:=(Rh hr s).2.1
  have h12:=(Dz.1 (Ax.1 hr).1).2.2.2
  have hh:=Nt w.2.1 w.1 s
  rw [List.length_append]; omega
 have hrun:wrN w s f rc=run (wst w.2.1.1 rc s f (Bo w s)) (Bo w s).length (w.2.2.1,0,0):=rfl
 have inv:∀ n,n≤(Bo w s).length→NS (run (wst w.2.1.1 rc s f (Bo w s)) n (w.2.2.1,0,0)).1∧(run (wst w.2.1.1 rc s f (Bo w s)) n (w.2.2.1,0,0)).1.length=w.2.2.1.length∧(0≤(run (wst w.2.1.1 rc s f (Bo w s)) n (w.2.2.1,0,0)).2.1∧(run (wst w.2.1.1 rc s f (Bo w s)) n (w.2.2.1,0,0)).2.1≤n)∧0≤(run (wst w.2.1.1 rc s f (Bo w s)) n (w.2.2.1,0,0)).2.2∧(run (wst w.2.1.1 rc s f (Bo w s)) n (w.2.2.1,0,0)).2.2≤n:=by
  intro n hn'
  refine Mv (λ j (b:List Nod×Int×Int)=>NS b.1∧b.1.length=w.2.2.1.length∧(0≤b.2.1∧b.2.1≤(j:Int))∧0≤b.2.2∧b.2.2≤(j:Int)) ⟨hn,rfl,⟨Int.le_refl _,Int.le_refl _⟩,Int.le_refl _,Int.le_refl _⟩ (λ j b hj hb=>Y9a hs hf hb ?_)
  have:=hc _ (A3 (d:=0) (show j<(Bo w s).length by omega))
  omega
 generalize hcs:Bo w s=cs at *
 refine Tot.bind (Q:=λ r=>r=(wN w (wrN w s f rc).1,s,f,(wrN w s f rc).2.2)) ?_ (by rintro r rfl; exact Tot.pure rfl)
 refine Tot.up (L:=λ k i (a:List Nod×Int×Int)=>Ah k rc a.2.1 cs (cs.length:Int) i (wN w a.1) s f a.2.2) (Q:=λ r=>r=(wN w (wrN w s f rc).1,s,f,(wrN w s f rc).2.2)) cs.length (λ j a=>a=run (wst w.2.1.1 rc s f cs) j (w.2.2.1,0,0)) ?_ ?_ 0 (w.2.2.1,0,0) (Nat.zero_le _) rfl
 ·rintro a rfl
  simp (disch:=omega) only [Ah,dF]
  exact Tot.pure (by rw [hrun])
 ·rintro j a hj rfl next
  obtain ⟨i1,i2,i3,i4,i5⟩:=inv j (by omega)
  rw [Qg] at next
  generalize run (wst w.2.1.1 rc s f cs) j (w.2.2.1,0,0)=a at *
  obtain ⟨ns,o,g⟩:=a
  dsimp only at i1 i2 i3 i4 i5
  have hci:=hc _ (A3 (d:=0) hj)
  obtain ⟨i,ei⟩:∃ i:Nat,cs.getD j 0=(i:Int):=⟨(cs.getD j 0).toNat,by omega⟩
  rw [ei] at hci
  unfold wst at next
  rw [ei,Int.toNat_natCast] at next
  dsimp only at next
  have e0:ns.getD i ((0:Int),(([],[]),([],[])))=ns.getD i Cf:=rfl
  simp (disch:=omega) only [Ah,dT,wN,Int.toNat_natCast,w64,ei,e0,Jpa,Option.bind_some]
  cases h0:rch rc j==0 with
  |true=>
   refine Tot.no (by rw [bne,h0]; rfl) ?_
   rw [h0] at next
   refine next (ns,o,g) ?_
   cases decide (o<w.2.1.1)<;>rfl
  |false=>
   refine Tot.yes (by rw [bne,h0]; rfl) ?_
   rw [h0] at next
   refine Tot.dite (λ hR'=>?_) (λ hR'=>?_)
   ·rw [decide_eq_true hR'] at next
    refine Tot.bind (Oga (rch rc j) s f g (i1.get (by omega)) hs hf i4 (by omega)) ?_
    rintro p rfl
    exact next _ rfl
   ·rw [decide_eq_false hR'] at next
    exact next _ rfl
theorem Awb (w:Wld) (s:ByteArray) (f:Fil) (t:Int) (rc:List Int) (hr:H2 w.2.1 w.1=true) (hn:NS w.2.2.1) (hst:Fi w.2.2.2.1=true) (hs:Km s) (hd:f.2.1=true→f.2.2=[]) (hw:w.2.2.2.2.1.length≤200):
  Tot (λ k=>Cw k w s f t rc) (λ r=>r=ask w s f t rc):=by
 unfold Cw ask
 refine Tot.bind (Np s hs) ?_
 rintro b rfl
 cases hs':Ar s with
 |false=>exact Tot.yes rfl (Tot.pure rfl)
 |true=>
  refine Tot.no rfl ?_
  rw [Bool.not_true,cond_false]
  by_cases hl:(f.2.2.length:Int) > 200
  ·rw [decide_eq_true hl]; exact Tot.yes rfl (Tot.pure rfl)
  ·rw [decide_eq_false hl,cond_false]
   refine Tot.no rfl ?_
   simp only [Tw,Tja hst,Option.bind_some]
   cases inR t 0 1000000000 with
   |false=>exact Tot.yes rfl (Tot.pure rfl)
   |true=>
    refine Tot.no rfl ?_
    rw [Bool.not_true,cond_false]
    by_cases h200:w.2.2.2.2.1.length=200
    ·rw [show ((w.2.2.2.2.1.length:Int)==200)=true by rw [beq_iff_eq]; omega]
     exact Tot.dec (by omega) (Tot.pure rfl)
    ·rw [show ((w.2.2.2.2.1.length:Int)==200)=false by rw [beq_eq_false_iff_ne]; omega,cond_false]
     refine Tot.ndec (by omega) ?_
     cases (Ll w.2.2.2.1 t 0).1==w.2.2.2.1.1&&((Ll w.2.2.2.1 t 0).2.1==w.2.2.2.1.2.1&&(Ll w.2.2.2.1 t 0).2.2==w.2.2.2.1.2.2) with
     |true=>exact Tot.yes rfl (Tot.pure rfl)
     |false=>
      rw [cond_false]
      have hfo:Eb (Ll w.2.2.2.1 t 0,f.2)=true:=Jq.2 ⟨(Xu hst t 0).1,by show f.2.2.length≤200; omega,hd⟩
      refine Tot.no rfl (Tot.bind (Wva (w.1,w.2.1,w.2.2.1,Ll w.2.2.2.1 t 0,w.2.2.2.2) s (Ll w.2.2.2.1 t 0,f.2) rc hr hn hs' hfo) ?_)
      rintro r rfl
      have h5:=(Ax.1 hr).2.1
      dsimp only [wN]
      rw [Akb (by omega) (by omega),Wv (f:=(Ll w.2.2.2.1 t 0,f.2)) (show f.2.2.length≤_ by omega)]
      simp only [Option.bind_some]
      refine Tot.ble (by simp only [List.length_cons,List.length_nil]; omega) ?_
      unfold Uc
      cases decide ((wrN (w.1,w.2.1,w.2.2.1,Ll w.2.2.2.1 t 0,w.2.2.2.2) s (Ll w.2.2.2.1 t 0,f.2) rc).2.2≥quo w.2.1.1) with
      |true=>exact Tot.pure rfl
      |false=>exact Tot.pure rfl

section
open Go
end

section
open Go
end

def NO (ns ms:List Nod):Prop:=NS ms∧ms.map (·.1)=ns.map (·.1)
theorem NO.len {ns ms:List Nod} (h:NO ns ms):ms.length=ns.length:=by
 have:=congrArg List.length h.2
 rwa [List.length_map,List.length_map] at this
theorem NO.set {ns ms:List Nod} (h:NO ns ms) {i:Nat} {n:Nod} (hi:i<ms.length) (hn:NG n) (e:n.1=(ms.getD i Cf).1):NO ns (ms.set i n):=⟨h.1.set hn,(K0a hi e).trans h.2⟩
theorem Axb (n:Nod) (s:ByteArray) (f:Fil) (sure:Bool):(Sk n s f sure).1.1=n.1:=by
 unfold Sk
 cases (n.2.2.2.length:Int)==60 with
 |true=>rfl
 |false=>rfl
theorem Efb (n:Nod) (l:List Row):(tk n l).2.1=n.1:=by
 unfold tk
 cases decide ((C9a n.2.2.1 l).length > 60)<;>rfl
theorem Ayb (n:Nod) (s:ByteArray) (b:Int):(M5a n s b).1.1=n.1:=by
 unfold M5a
 cases N8 n&&((lkD n.2.1 s).2==0&&(Hea n.2.1 s b).2)<;>rfl
theorem Dcb {w:Wld} {s:ByteArray} {f:Fil} {rc:List Int} (hn:NS w.2.2.1) (hs:Ar s=true) (hf:Eb f=true):NO w.2.2.1 (wrN w s f rc).1:=by
 unfold wrN
 refine Mv (λ _ (a:List Nod×Int×Int)=>NO w.2.2.1 a.1) ⟨hn,rfl⟩ (λ j a hj h=>?_)
 have hc:=Om (A3 (d:=0) hj)
 have hl:=h.len
 unfold wst
 cases decide (a.2.1<w.2.1.1) with
 |false=>exact h
 |true=>
  rw [cond_true]
  cases rch rc j==0 with
  |true=>exact h
  |false=>exact h.set (by omega) (S8a (h.1.get (by omega)) hs hf) (Axb _ _ _ _)
theorem Ddb {w:Wld} {i:Nat} {s:ByteArray} {rc:List Int} (hn:NS w.2.2.1):NO w.2.2.1 (puN w i s rc).1:=by
 unfold puN
 refine Mv (λ _ (a:List Nod×Bool×Bool)=>NO w.2.2.1 a.1) ⟨hn,rfl⟩ (λ j a hj h=>?_)
 have hc:=Ud (A3 (d:=0) hj)
 have hl:=h.len
 unfold pst
 cases (Sa w s).getD j 0==(i:Int) with
 |true=>exact h
 |false=>
  rw [cond_false]
  cases rch rc j != 1 with
  |true=>exact h
  |false=>exact h.set (by omega) (Jwa (h.1.get (by omega))) rfl
theorem Wwa {w:Wld} {i:Nat} {s:ByteArray} {rc:List Int} (hn:NS w.2.2.1) (hi:i<w.2.2.1.length):∃ ns,(Jva w i s rc).2=wN w ns∧NO w.2.2.1 ns:=by
 unfold Jva
 cases hl:(lkD (w.2.2.1.getD i Cf).2.1 s).2 != 0 with
 |true=>exact ⟨w.2.2.1,rfl,hn,rfl⟩
 |false=>
  have h:=Ddb (i:=i) (s:=s) (rc:=rc) hn
  have hlen:=h.len
  have hs:Ar s=true:=by
   rw [bne,Bool.not_eq_false',beq_iff_eq] at hl
   obtain ⟨b,hb,_⟩:=Rd.1 (show lkD (w.2.2.1.getD i Cf).2.1 s=((lkD (w.2.2.1.getD i Cf).2.1 s).1,0) from by rw [← hl])
   exact S1a (hn.get hi).g.1 (by rw [hb]; rfl)
  refine ⟨_,rfl,?_⟩
  cases (puN w i s rc).2.2 && !(puN w i s rc).2.1 with
  |false=>exact h
  |true=>exact h.set (by omega) (Yaa (h.1.get (by omega)) hs) rfl
theorem Mpa {w:Wld} {src:Int} {l:List Row} {self:Bool} {rc:List Int} (hl:M0 l=true) (hn:NS w.2.2.1):NO w.2.2.1 (P9 w src l self rc).1:=by
 unfold P9
 refine Mv (λ _ (a:List Nod×Bool)=>NO w.2.2.1 a.1) ⟨hn,rfl⟩ (λ j a hj h=>?_)
 have hc:=S7 (A3 (d:=0) hj)
 have hlen:=h.len
 unfold gst
 cases (Kk w).getD j 0==src && !self with
 |true=>exact h
 |false=>
  rw [cond_false]
  cases rch rc j != 1 with
  |true=>exact h
  |false=>exact h.set (by omega) (Eab (h.1.get (by omega)) hl) (Efb _ _)
theorem Wxa {w:Wld} {i:Nat} {rc:List Int} (hn:NS w.2.2.1) (hi:i<w.2.2.1.length):∃ ns,(Jxa w i rc).2=wN w ns∧NO w.2.2.1 ns:=by
 have h:=Mpa (w:=w) (src:=(i:Int)) (self:=false) (rc:=rc) (Ee.1 (hn.get hi).1).2.2.2.1 hn
 have hlen:=h.len
 unfold Jxa
 cases ((w.2.2.1.getD i Cf).2.2.1.length:Int)==0 with
 |true=>exact ⟨w.2.2.1,rfl,hn,rfl⟩
 |false=>
  refine ⟨_,rfl,?_⟩
  show NO w.2.2.1 (bif (Sc w i rc).2&&_ then (Sc w i rc).1.set i (T5a ((Sc w i rc).1.getD i Cf)) else (Sc w i rc).1)
  unfold Sc
  cases (P9 w (i:Int) (w.2.2.1.getD i Cf).2.2.1 false rc).2&&_ with
  |false=>exact h
  |true=>exact h.set (by omega) (Mna (h.1.get (by omega))) rfl
theorem Wya {w:Wld} {i:Nat} {rc:List Int} (hn:NS w.2.2.1) (hi:i<w.2.2.1.length):∃ ns,(Jya w i rc).2=wN w ns∧NO w.2.2.1 ns:=by
 have hq:=Ee.1 (hn.get hi).1
 have h:=Mpa (w:=w) (src:=(i:Int)) (self:=true) (rc:=rc) (T6 hq.1) hn
 have hlen:=h.len
 unfold Jya
 cases ((w.2.2.1.getD i Cf).2.2.2.length:Int)==0 with
 |true=>exact ⟨w.2.2.1,rfl,hn,rfl⟩
 |false=>
  refine ⟨_,rfl,?_⟩
  show NO w.2.2.1 (bif (T5 w i rc).2 then (T5 w i rc).1.set i (Ebb ((T5 w i rc).1.getD i Cf) ((w.2.2.1.getD i Cf).2.2.2.drop 1)) else (T5 w i rc).1)
  unfold T5
  cases (P9 w (i:Int) ((w.2.2.1.getD i Cf).2.2.2.take 1) true rc).2 with
  |false=>exact h
  |true=>exact h.set (by omega) (Yda (h.1.get (by omega)) (λ r hr=>hq.1 r (List.mem_of_mem_drop hr)) (by rw [List.length_drop]; omega)) rfl
structure WO (w:Wld):Prop where
 ring:H2 w.2.1 w.1=true
 ids:w.2.2.1.map (·.1)=w.1.map (·.1)
 ns:NS w.2.2.1
 clk:Fi w.2.2.2.1=true
 wlen:w.2.2.2.2.1.length≤200
 wok:Eka w.2.2.2.2.1
 wge:∀ x∈w.2.2.2.2.1,sle w.2.2.2.1 x.2.1.1=false
 sps:TS w.2.2.2.2.2
 spn:∀ s∈w.2.2.2.2.2,Ar s=true
theorem WI.wo {w:Wld} (h:WI w):WO w:=⟨h.ring,h.ids,h.ns,h.clk,h.wlen,h.wok,h.wge,h.sps,λ s hs=>by
 obtain ⟨x,hx,e⟩:=h.spw s hs
 rw [← e]
 exact (h.wok x hx).1⟩
namespace WO
variable {w:Wld}
theorem nlen (h:WO w):w.2.2.1.length=w.1.length:=by
 have:=congrArg List.length h.ids
 rwa [List.length_map,List.length_map] at this
theorem dlen (h:WO w):1≤w.1.length∧w.1.length≤12:=(Dz.1 (Ax.1 h.ring).1).2.2
theorem other (h:WO w) {ns:List Nod} (hn:NO w.2.2.1 ns):WO (wN w ns):=⟨h.ring,hn.2.trans h.ids,hn.1,h.clk,h.wlen,h.wok,h.wge,h.sps,h.spn⟩
theorem other' (h:WO w) {r:Bool×Wld} (hr:∃ ns,r.2=wN w ns∧NO w.2.2.1 ns):WO r.2:=by
 obtain ⟨ns,e,hn⟩:=hr
 rw [e]
 exact h.other hn
theorem write (h:WO w) {s:ByteArray} {f:Fil} {rc:List Int} (hs:Ar s=true) (hf:Eb f=true) (hb:An f.2.2) (hc:sle w.2.2.2.1 f.1=true) (hl:w.2.2.2.2.1.length<200):WO (Uc (w.1,w.2.1,w.2.2.1,f.1,w.2.2.2.2) s f rc).2:=by
 have g:=Dcb (w:=(w.1,w.2.1,w.2.2.1,f.1,w.2.2.2.2)) (rc:=rc) h.ns hs hf
 unfold Uc
 generalize wrN (w.1,w.2.1,w.2.2.1,f.1,w.2.2.2.2) s f rc=a at *
 exact {
  ring:=h.ring
  ids:=g.2.trans h.ids
  ns:=g.1
  clk:=(Jq.1 hf).1
  wlen:=by show (w.2.2.2.2.1++[_]).length≤200; rw [List.length_append]; simp only [List.length_cons,List.length_nil]; omega
  wok:=λ x hx=>by
   rcases List.mem_append.1 hx with hx|hx
   ·exact h.wok x hx
   ·rw [List.mem_singleton.1 hx]; exact ⟨hs,hf,hb⟩
  wge:=λ x hx=>by
   rcases List.mem_append.1 hx with hx|hx
   ·exact Cna (Axa hc) (h.wge x hx)
   ·rw [List.mem_singleton.1 hx]; exact O8 _
  sps:=h.sps
  spn:=h.spn }
theorem ask (h:WO w) {s:ByteArray} {f:Fil} {t:Int} {rc:List Int} (hb:An f.2.2) (hd:f.2.1=true→f.2.2=[]):WO (ask w s f t rc).2:=by
 unfold Vf.ask
 cases hs:Ar s with
 |false=>exact h
 |true=>
  rw [Bool.not_true,cond_false]
  by_cases hl:(f.2.2.length:Int) > 200
  ·rw [decide_eq_true hl]; exact h
  ·rw [decide_eq_false hl,cond_false]
   cases inR t 0 1000000000 with
   |false=>exact h
   |true=>
    rw [Bool.not_true,cond_false]
    cases hw:(w.2.2.2.2.1.length:Int)==200 with
    |true=>exact h
    |false=>
     rw [cond_false]
     have hw':=beq_eq_false_iff_ne.1 hw
     have hwl:=h.wlen
     obtain ⟨n1,n2⟩:=Xu h.clk t 0
     cases he:(Ll w.2.2.2.1 t 0).1==w.2.2.2.1.1&&((Ll w.2.2.2.1 t 0).2.1==w.2.2.2.1.2.1&&(Ll w.2.2.2.1 t 0).2.2==w.2.2.2.1.2.2) with
     |true=>exact h
     |false=>
      rw [cond_false]
      have hlt:sle w.2.2.2.1 (Ll w.2.2.2.1 t 0)=true:=by
       rcases n2 with n2|n2
       ·rw [n2,beq_self_eq_true,beq_self_eq_true,beq_self_eq_true] at he; cases he
       ·exact n2
      exact h.write (f:=(Ll w.2.2.2.1 t 0,f.2)) hs (Jq.2 ⟨n1,by show f.2.2.length≤200; omega,hd⟩) hb hlt (by omega)
theorem rot (h:WO w) {i:Nat} (hi:i<w.2.2.1.length) {s:ByteArray} {b:Int}:WO (Bcb w i s b).2:=by
 have hg:=h.ns.get hi
 unfold Bcb
 cases hr:(M5a (w.2.2.1.getD i Cf) s b).2 with
 |false=>exact h
 |true=>
  have hn:NO w.2.2.1 (w.2.2.1.set i (M5a (w.2.2.1.getD i Cf) s b).1):=NO.set ⟨h.ns,rfl⟩ hi (Y1a hg) (Ayb _ _ _)
  have hs:Ar s=true:=by
   unfold M5a at hr
   cases hc:N8 (w.2.2.1.getD i Cf)&&((lkD (w.2.2.1.getD i Cf).2.1 s).2==0&&(Hea (w.2.2.1.getD i Cf).2.1 s b).2) with
   |false=>rw [hc] at hr; cases hr
   |true=>
    rw [Bool.and_eq_true,Bool.and_eq_true,beq_iff_eq] at hc
    obtain ⟨b,hb,_⟩:=Rd.1 (show lkD (w.2.2.1.getD i Cf).2.1 s=((lkD (w.2.2.1.getD i Cf).2.1 s).1,0) from by rw [← hc.2.1])
    exact S1a hg.g.1 (by rw [hb]; rfl)
  exact ⟨h.ring,hn.2.trans h.ids,hn.1,h.clk,h.wlen,h.wok,h.wge,Cma h.sps,λ t ht=>by
   rcases Efa.1 ht with rfl|ht
   ·exact hs
   ·exact h.spn t ht⟩
theorem node (h:WO w) {i:Nat} (hi:i<w.2.2.1.length) {e:Evt}:WO (H4a w e i).2:=by
 have hg:=h.ns.get hi
 unfold H4a
 cases e.1==3 with
 |true=>exact h.other' (Wwa h.ns hi)
 |false=>
  cases e.1==4 with
  |true=>exact h.other' (Wxa h.ns hi)
  |false=>
   cases e.1==5 with
   |true=>exact h.other' (Wya h.ns hi)
   |false=>
    cases e.1==6 with
    |true=>exact h.other (NO.set ⟨h.ns,rfl⟩ hi (Y8a hg) rfl)
    |false=>
     cases e.1==7 with
     |true=>exact h.other (NO.set ⟨h.ns,rfl⟩ hi (D3b hg) rfl)
     |false=>exact h.rot hi
theorem weigh (h:WO w) {i t:Int}:WO (Jza w i t).2:=by
 unfold Jza
 cases h1:inR i 0 ((w.1.length:Int) - 1) with
 |false=>exact h
 |true=>
  cases h2:inR t 1 1000 with
  |false=>exact h
  |true=>
   obtain ⟨i0,i1⟩:=Fh.1 h1
   obtain ⟨w0,w1⟩:=Fh.1 h2
   exact ⟨(Mfa (E3a h.ring (by omega) w0 w1)).1,h.ids.trans (E2a _ _ _).symm,h.ns,h.clk,h.wlen,h.wok,h.wge,h.sps,h.spn⟩
theorem ev (h:WO w) {e:Evt} (hb:An e.2.2.2.1):WO (doW w e).2:=by
 have ae:∀ {q:Int×Wld},WO q.2→WO (Yea q).2:=λ {q} hq=>by
  unfold Yea
  cases q.1 != 2<;>exact hq
 unfold doW
 cases e.1==1 with
 |true=>exact ae (h.ask hb (λ c=>by cases c))
 |false=>
  cases e.1==2 with
  |true=>exact ae (h.ask Nr (λ _=>rfl))
  |false=>
   cases e.1==3 || (e.1==4 || (e.1==5 || (e.1==6 || (e.1==7 || e.1==8)))) with
   |true=>
    cases hi:inR e.2.1 0 ((w.2.2.1.length:Int) - 1) with
    |false=>exact h
    |true=>
     have:=Fh.1 hi
     exact h.node (by omega)
   |false=>
    cases e.1==9 with
    |true=>exact h.weigh
    |false=>exact h
theorem nods (h:WO w):Ps w.1 w.2.2.1=true:=by
 have hl:=h.nlen
 unfold Ps
 rw [show ((w.2.2.1.length:Int)==(w.1.length:Int))=true by rw [beq_iff_eq]; omega,Bool.true_and,List.all_eq_true]
 intro j hj
 have hj':=List.mem_range.1 hj
 rw [Bool.and_eq_true,beq_iff_eq]
 refine ⟨?_,(h.ns.get hj').1⟩
 have e1:(w.2.2.1.getD j Cf).1=(w.2.2.1.map (·.1)).getD j 0:=by
  rw [List.getD_eq_getElem?_getD,List.getD_eq_getElem?_getD,List.getElem?_map,List.getElem?_eq_getElem hj']; rfl
 have e2:(w.1.getD j N2).1=(w.1.map (·.1)).getD j 0:=by
  rw [List.getD_eq_getElem?_getD,List.getD_eq_getElem?_getD,List.getElem?_map,List.getElem?_eq_getElem (by omega)]; rfl
 rw [e1,e2,h.ids]
theorem ok (h:WO w):Qf w=true:=by
 unfold Qf
 have a2:Sua w.2.2.2.1 w.2.2.2.2.1=true:=by
  unfold Sua
  rw [Bool.and_eq_true,List.all_eq_true]
  refine ⟨λ x hx=>?_,decide_eq_true (by have:=h.wlen; omega)⟩
  unfold Bia
  rw [(h.wok x hx).1,(h.wok x hx).2.1,h.wge x hx]
  rfl
 have a3:Qj w.2.2.2.2.2=true:=by
  unfold Qj
  rw [List.all_eq_true]
  intro j hj
  have hj':=List.mem_range.1 hj
  rw [Bool.and_eq_true,Bool.or_eq_true]
  refine ⟨h.spn _ (A3 hj'),?_⟩
  by_cases h0:j=0
  ·exact .inl (decide_eq_true h0)
  ·right
   have:=List.pairwise_iff_getElem.1 h.sps (j - 1) j (by omega) hj' (by omega)
   rwa [List.getD_eq_getElem?_getD,List.getD_eq_getElem?_getD,List.getElem?_eq_getElem hj',List.getElem?_eq_getElem (by omega)]
 rw [h.ring,h.nods,h.clk,a2,a3]
 rfl
end WO
theorem Egb {l:List ByteArray} (h:∀ j,0<j→j<l.length→tlt (l.getD (j - 1) Ni) (l.getD j Ni)=true):TS l:=by
 induction l with
 |nil=>exact List.Pairwise.nil
 |cons x l ih=>
  have ht:TS l:=ih (λ j h0 hj=>by
   have:=h (j+1) (by omega) (by simpa using hj)
   obtain ⟨m,rfl⟩:∃ m,j=m+1:=⟨j - 1,by omega⟩
   simpa using this)
  refine List.pairwise_cons.2 ⟨λ y hy=>?_,ht⟩
  cases l with
  |nil=>cases hy
  |cons z l=>
   have hz:tlt x z=true:=by have:=h 1 (by omega) (by simp); simpa using this
   rcases List.mem_cons.1 hy with rfl|hy
   ·exact hz
   ·exact Mr hz ((List.pairwise_cons.1 ht).1 y hy)
theorem Ehb {w:Wld} (h:Qf w=true) (hn:∀ n∈w.2.2.1,DB n.2.1) (hb:∀ x∈w.2.2.2.2.1,An x.2.1.2.2):WO w:=by
 unfold Qf at h
 simp only [Bool.and_eq_true] at h
 obtain ⟨h1,h2,h3,h4,h5⟩:=h
 unfold Ps at h2
 rw [Bool.and_eq_true,beq_iff_eq,List.all_eq_true] at h2
 obtain ⟨hl,h2⟩:=h2
 have hd:=(Dz.1 (Ax.1 h1).1).2.2
 have hnode:∀ j,j<w.2.2.1.length→(w.2.2.1.getD j Cf).1=(w.1.getD j N2).1∧N8 (w.2.2.1.getD j Cf)=true:=λ j hj=>by
  have:=h2 j (List.mem_range.2 hj)
  rwa [Bool.and_eq_true,beq_iff_eq] at this
 unfold Sua at h4
 rw [Bool.and_eq_true,List.all_eq_true,decide_eq_true_iff] at h4
 unfold Qj at h5
 rw [List.all_eq_true] at h5
 have hsp:∀ j,j<w.2.2.2.2.2.length→Ar (w.2.2.2.2.2.getD j Ni)=true∧(j=0∨tlt (w.2.2.2.2.2.getD (j - 1) Ni) (w.2.2.2.2.2.getD j Ni)=true):=λ j hj=>by
  have:=h5 j (List.mem_range.2 hj)
  rwa [Bool.and_eq_true,Bool.or_eq_true,decide_eq_true_iff] at this
 have hx:∀ x∈w.2.2.2.2.1,Ar x.1=true∧Eb x.2.1=true∧sle w.2.2.2.1 x.2.1.1=false:=λ x hx=>by
  have:=h4.1 x hx
  unfold Bia at this
  rwa [Bool.and_eq_true,Bool.and_eq_true,Bool.not_eq_true'] at this
 refine ⟨h1,?_,⟨by omega,λ n hm=>?_⟩,h3,by omega,λ x hm=>⟨(hx x hm).1,(hx x hm).2.1,hb x hm⟩,λ x hm=>(hx x hm).2.2,Egb (λ j h0 hj=>?_),λ s hs=>?_⟩
 ·refine List.ext_getElem (by rw [List.length_map,List.length_map]; omega) (λ j a b=>?_)
  rw [List.length_map] at a b
  have:=(hnode j a).1
  rw [List.getD_eq_getElem?_getD,List.getD_eq_getElem?_getD,List.getElem?_eq_getElem a,List.getElem?_eq_getElem b] at this
  rw [List.getElem_map,List.getElem_map]
  exact this
 ·obtain ⟨j,hj,rfl⟩:=List.mem_iff_getElem.1 hm
  have:=(hnode j hj).2
  rw [List.getD_eq_getElem?_getD,List.getElem?_eq_getElem hj] at this
  exact ⟨this,hn _ hm⟩
 ·rcases (hsp j hj).2 with h|h
  ·omega
  ·exact h
 ·obtain ⟨j,hj,rfl⟩:=List.mem_iff_getElem.1 hs
  have:=(hsp j hj).1
  rwa [List.getD_eq_getElem?_getD,List.getElem?_eq_getElem hj] at this

section
open Go
end

section
open Go
end

theorem WIm.wo {m:Nat} {w:Wld} (h:WIm m w) (hk:Qf w=true):WO w:=Ehb hk (λ n hn=>(h.2.2.1.2 n hn).1.2) (λ x hx=>(h.2.2.2.1.2 x hx).2.2)
theorem WO.wim {w:Wld} (h:WO w) {m:Nat} (h2:200≤m) (hs:w.2.2.2.2.2.length≤m):WIm m w:=
 ⟨N9 h.ring,by have:=h.dlen; omega,⟨h.ns.1,λ n hn=>Gla (h.ns.2 n hn)⟩,⟨by have:=h.wlen; omega,λ x hx=>⟨Ir (h.wok x hx).1,by have:=(Jq.1 (h.wok x hx).2.1).2.1; omega,(h.wok x hx).2.2⟩⟩,hs,λ s hs=>Ir (h.spn s hs)⟩
theorem Tla {m:Nat} {w:Wld} (h:WIm m w) (hm:m≤2000000):Tot (λ k=>Bp k w) (λ r=>r=w):=by
 obtain ⟨h1,h2,⟨h3,h4⟩,⟨h5,h6⟩,h7,h8⟩:=h
 unfold Bp
 refine Tot.ble (by rw [List.length_nil]; omega) (Tot.bind (Gsa w.2.1 h1) ?_)
 rintro r rfl
 refine Tot.ble (by rw [List.length_nil]; omega) ?_
 rw [List.nil_append,List.nil_append]
 refine Tot.bind (Q:=λ r=>r=(w,Hga,(w.1,w.2.1,w.2.2.1,w.2.2.2.1,[],w.2.2.2.2.2))) ?_ ?_
 ·refine Tot.up (L:=λ k i (s:List Nod)=>Dy k w.2.2.1 (w.2.2.1.length:Int) i w Hga (w.1,w.2.1,s,w.2.2.2.1,[],w.2.2.2.2.2)) (Q:=λ r=>r=(w,Hga,(w.1,w.2.1,w.2.2.1,w.2.2.2.1,[],w.2.2.2.2.2))) w.2.2.1.length (λ j s=>s=w.2.2.1.take j) ?_ ?_ 0 [] (Nat.zero_le _) rfl
  ·rintro s rfl
   simp (disch:=omega) only [Dy,dF]
   exact Tot.pure (by rw [List.take_length])
  ·rintro j s hj rfl next
   have hm:=h4 _ (A3 (d:=Cf) hj)
   have e0:w.2.2.1.getD j ((0:Int),(([],[]),([],[])))=w.2.2.1.getD j Cf:=rfl
   have hl:(w.2.2.1.take j).length=j:=by rw [List.length_take]; omega
   simp (disch:=omega) only [Dy,dT,Int.toNat_natCast,w64,e0]
   refine Tot.bind (W8 _ hm) ?_
   rintro r rfl
   refine Tot.ble (by rw [hl]; simp only [List.length_cons,List.length_nil]; omega) (next _ ?_)
   rw [List.take_succ_eq_append_getElem hj,List.getD_eq_getElem?_getD,List.getElem?_eq_getElem hj]
   rfl
 ·rintro r rfl
  refine Tot.bind (Q:=λ r=>r=(Hga,w)) ?_ (by rintro r rfl; exact Tot.pure rfl)
  refine Tot.up (L:=λ k i (s:List Wri)=>Dx k w.2.2.2.2.1 (w.2.2.2.2.1.length:Int) i Hga (w.1,w.2.1,w.2.2.1,w.2.2.2.1,s,w.2.2.2.2.2)) (Q:=λ r=>r=(Hga,w)) w.2.2.2.2.1.length (λ j s=>s=w.2.2.2.2.1.take j) ?_ ?_ 0 [] (Nat.zero_le _) rfl
  ·rintro s rfl
   simp (disch:=omega) only [Dx,dF]
   exact Tot.pure (by rw [List.take_length])
  ·rintro j s hj rfl next
   have hm:=(h6 _ (A3 (d:=Xt) hj)).2.1
   have e0:w.2.2.2.2.1.getD j ((⟨#[]⟩:ByteArray),((((0:Int),((0:Int),(0:Int))),(false,[])),false))=w.2.2.2.2.1.getD j Xt:=rfl
   have hl:(w.2.2.2.2.1.take j).length=j:=by rw [List.length_take]; omega
   simp (disch:=omega) only [Dx,dT,Int.toNat_natCast,w64,e0,Wv (f:=(w.2.2.2.2.1.getD j Xt).2.1) (by omega),Option.bind_some]
   refine Tot.ble (by rw [hl]; simp only [List.length_cons,List.length_nil]; omega) (next _ ?_)
   rw [List.take_succ_eq_append_getElem hj,List.getD_eq_getElem?_getD,List.getElem?_eq_getElem hj]
   rfl
def Eqb (w v:Wld):Prop:=v.2.2.1.length=w.2.2.1.length∧w.2.2.2.2.1.length≤v.2.2.2.2.1.length∧sle v.2.2.2.1 w.2.2.2.1=false
theorem Eqb.nodes {w:Wld} {ns:List Nod} (h:ns.length=w.2.2.1.length):Eqb w (wN w ns):=⟨h,Nat.le_refl _,O8 _⟩

def Dmb (s:ByteArray) (a:Bool×Fil) (n:Nod):Bool×Fil:=bif (lkD n.2.1 s).2==0 then (bif !a.1 || sle a.2.1 (lkD n.2.1 s).1.1 then (true,(lkD n.2.1 s).1) else a) else a

def Toa (R:Int) (rc:List Int) (s:ByteArray) (ns:List Nod) (cs:List Int) (a:Int×Int×Bool×Fil) (j:Nat):Int×Int×Bool×Fil:=
 bif decide (a.1<R) then (bif rch rc j==0 then a else (a.1+1,bif rch rc j==1 then (a.2.1+1,Dmb s a.2.2 (ns.getD (cs.getD j 0).toNat Cf)) else a.2)) else a
def gtR (w:Wld) (s:ByteArray) (rc:List Int):Int×Int×Bool×Fil:=run (Toa w.2.1.1 rc s w.2.2.1 (Bo w s)) (Bo w s).length (0,0,false,Dxa)
def gtW (r:Int×Int×Bool×Fil):Fil×Int:=bif r.2.1==0 then (Dxa,1) else bif !r.2.2.1 then (Dxa,4) else bif r.2.2.2.2.1 then (Dxa,5) else (r.2.2.2,0)
def Dnb (w:Wld) (s:ByteArray) (rc:List Int):Fil×Int:=bif Qf w&&Ar s then gtW (gtR w s rc) else (Dxa,2)
theorem Azb {R:Int} {rc:List Int} {s:ByteArray} {ns:List Nod} {cs:List Int} {a:Int×Int×Bool×Fil} {j:Nat} (h:(0≤a.1∧a.1≤j)∧0≤a.2.1∧a.2.1≤j):let b:=Toa R rc s ns cs a j
  (0≤b.1∧b.1≤((j+1:Nat):Int))∧0≤b.2.1∧b.2.1≤((j+1:Nat):Int):=by
 obtain ⟨⟨h1,h2⟩,h3,h4⟩:=h
 intro b
 have hb:b=Toa R rc s ns cs a j:=rfl
 unfold Toa at hb
 cases hR:decide (a.1<R) with
 |false=>rw [hR,cond_false] at hb; rw [hb]; exact ⟨⟨h1,by omega⟩,h3,by omega⟩
 |true=>
  rw [hR,cond_true] at hb
  cases hr:rch rc j==0 with
  |true=>rw [hr,cond_true] at hb; rw [hb]; exact ⟨⟨h1,by omega⟩,h3,by omega⟩
  |false=>
   rw [hr,cond_false] at hb
   rw [hb]
   cases rch rc j==1 with
   |true=>exact ⟨⟨by dsimp only; omega,by dsimp only; omega⟩,by rw [cond_true]; dsimp only; omega,by rw [cond_true]; dsimp only; omega⟩
   |false=>exact ⟨⟨by dsimp only; omega,by dsimp only; omega⟩,by rw [cond_false]; exact h3,by rw [cond_false]; dsimp only; omega⟩
theorem B0b (w:Wld) (s:ByteArray) (rc:List Int) (n:Nat):let b:=run (Toa w.2.1.1 rc s w.2.2.1 (Bo w s)) n (0,0,false,Dxa)
  (0≤b.1∧b.1≤(n:Int))∧0≤b.2.1∧b.2.1≤(n:Int):=
 Mv (λ j (b:Int×Int×Bool×Fil)=>(0≤b.1∧b.1≤(j:Int))∧0≤b.2.1∧b.2.1≤(j:Int)) ⟨⟨Int.le_refl _,Int.le_refl _⟩,Int.le_refl _,Int.le_refl _⟩ (λ j b _ hb=>Azb hb)
theorem Haa {w:Wld} {s:ByteArray} (hr:H2 w.2.1 w.1=true) (hn:w.2.2.1.length≤2000000):(Bo w s).length≤4000000000000:=by
 unfold Bo
 refine O7 hn ?_
 have h5:=(Ax.1 hr).2.1
 have p2:=(Rh hr s).2.1
 have h12:=(Dz.1 (Ax.1 hr).1).2.2.2
 have hh:=Nt w.2.1 w.1 s
 rw [List.length_append]; omega
theorem Tma {s:ByteArray} (h:Ar s=true):s.size≤1000000000:=by
 have:=Fh.1 (Bool.and_eq_true _ _ ▸ h:_∧_).2
 omega
theorem Wza {n:Nod} (hn:NIn n) (how g:Int) (s:ByteArray) (a:Bool×Fil) (h0:0≤g) (h1:g≤9000000000000):
  Tot (λ k=>C6 k n how g s a.1 a.2) (λ r=>r=bif how==1 then (g+1,s,(Dmb s a n).1,(Dmb s a n).2) else (g,s,a.1,a.2)):=by
 unfold C6 Dmb
 cases hh:how==1 with
 |false=>exact Tot.yes (by rw [bne,hh]; rfl) (Tot.pure rfl)
 |true=>
  refine Tot.no (by rw [bne,hh]; rfl) (Tot.bind (Vpa hn.1.1.1.1.1 hn.1.2.1 s) ?_)
  rintro r rfl
  rw [w64 (n:=g+1) (by omega) (by omega)]
  cases (lkD n.2.1 s).2==0 with
  |false=>exact Tot.no rfl (Tot.pure rfl)
  |true=>
   refine Tot.yes rfl ?_
   obtain ⟨b,f⟩:=a
   cases b with
   |false=>exact Tot.yes rfl (Tot.pure rfl)
   |true=>
    refine Tot.no rfl ?_
    simp only [Gea,Option.bind_some]
    cases sle f.1 (lkD n.2.1 s).1.1 with
    |true=>exact Tot.yes rfl (Tot.pure rfl)
    |false=>exact Tot.no rfl (Tot.pure rfl)
theorem Oha (w:Wld) (s:ByteArray) (rc:List Int) (hr:H2 w.2.1 w.1=true) (hn:w.2.2.1.length≤2000000) (hni:∀ n∈w.2.2.1,NIn n) (hs:Ar s=true):
  Tot (λ k=>A8 k w s rc true 0 s false Dxa) (λ r=>r=(w,(gtR w s rc).2.1,s,(gtR w s rc).2.2.1,(gtR w s rc).2.2.2)):=by
 have hcl:=Haa (s:=s) hr hn
 have h5:=(Ax.1 hr).2.1
 unfold A8
 refine Tot.bind (Wu w s hr hn (Tma hs)) ?_
 rintro r rfl
 have hc:=λ x=>Om (w:=w) (s:=s) (x:=x)
 have hrun:gtR w s rc=run (Toa w.2.1.1 rc s w.2.2.1 (Bo w s)) (Bo w s).length (0,0,false,Dxa):=rfl
 have inv:=B0b w s rc
 generalize hcs:Bo w s=cs at *
 refine Tot.bind (Q:=λ r=>r=(w,(gtR w s rc).2.1,s,(gtR w s rc).2.2.1,(gtR w s rc).2.2.2)) ?_ (by rintro r rfl; exact Tot.pure rfl)
 refine Tot.up (L:=λ k i (a:Int×Int×Bool×Fil)=>Aa k rc a.1 cs (cs.length:Int) i w a.2.1 s a.2.2.1 a.2.2.2) (Q:=λ r=>r=(w,(gtR w s rc).2.1,s,(gtR w s rc).2.2.1,(gtR w s rc).2.2.2)) cs.length (λ j a=>a=run (Toa w.2.1.1 rc s w.2.2.1 cs) j (0,0,false,Dxa)) ?_ ?_ 0 (0,0,false,Dxa) (Nat.zero_le _) rfl
 ·rintro a rfl
  simp (disch:=omega) only [Aa,dF]
  exact Tot.pure (by rw [hrun])
 ·rintro j a hj rfl next
  obtain ⟨⟨i1,i2⟩,i3,i4⟩:=inv j
  rw [Qg] at next
  generalize run (Toa w.2.1.1 rc s w.2.2.1 cs) j (0,0,false,Dxa)=a at *
  obtain ⟨o,g,a⟩:=a
  dsimp only at i1 i2 i3 i4
  have hci:=hc _ (A3 (d:=0) hj)
  obtain ⟨i,ei⟩:∃ i:Nat,cs.getD j 0=(i:Int):=⟨(cs.getD j 0).toNat,by omega⟩
  rw [ei] at hci
  unfold Toa at next
  rw [ei,Int.toNat_natCast] at next
  dsimp only at next
  have e0:w.2.2.1.getD i ((0:Int),(([],[]),([],[])))=w.2.2.1.getD i Cf:=rfl
  simp (disch:=omega) only [Aa,dT,Int.toNat_natCast,w64,ei,e0,Jpa,Option.bind_some]
  cases h0:rch rc j==0 with
  |true=>
   refine Tot.no (by rw [bne,h0]; rfl) ?_
   rw [h0] at next
   refine next (o,g,a) ?_
   cases decide (o<w.2.1.1)<;>rfl
  |false=>
   refine Tot.yes (by rw [bne,h0]; rfl) ?_
   rw [h0] at next
   refine Tot.dite (λ hR'=>?_) (λ hR'=>?_)
   ·rw [decide_eq_true hR'] at next
    refine Tot.bind (Wza (hni _ (A3 (d:=Cf) (show i<w.2.2.1.length by omega))) (rch rc j) g s a i3 (by omega)) ?_
    rintro p rfl
    cases h1:rch rc j==1 with
    |true=>rw [h1] at next; exact next _ rfl
    |false=>rw [h1] at next; exact next _ rfl
   ·rw [decide_eq_false hR'] at next
    exact next _ rfl
theorem X0a (w:Wld) (s:ByteArray) (rc:List Int) (hw:WIn w) (hs:Km s):Tot (λ k=>Hn k w s rc) (λ r=>r=Dnb w s rc):=by
 unfold Hn Dnb
 refine Tot.bind (Ua w hw) ?_
 rintro b rfl
 cases hk:Qf w with
 |false=>exact Tot.yes rfl (Tot.pure rfl)
 |true=>
  refine Tot.no rfl (Tot.bind (Np s hs) ?_)
  rintro b rfl
  cases hn:Ar s with
  |false=>exact Tot.yes rfl (Tot.pure rfl)
  |true=>
   have hr:H2 w.2.1 w.1=true:=by
    unfold Qf at hk
    exact (Bool.and_eq_true _ _ ▸ hk:_∧_).1
   refine Tot.no rfl (Tot.bind (Oha w s rc hr hw.2.2.1.1 hw.2.2.1.2 hn) ?_)
   rintro r rfl
   unfold gtW
   dsimp only
   cases (gtR w s rc).2.1==0 with
   |true=>exact Tot.yes rfl (Tot.pure rfl)
   |false=>
    refine Tot.no rfl ?_
    cases (gtR w s rc).2.2.1 with
    |false=>exact Tot.yes rfl (Tot.pure rfl)
    |true=>
     refine Tot.no rfl ?_
     cases (gtR w s rc).2.2.2.2.1 with
     |true=>exact Tot.yes rfl (Tot.pure rfl)
     |false=>exact Tot.no rfl (Tot.pure rfl)

end Go.Proofs.YtmhhjceoinoekaaGreat.Vf
