import Derived.Test.YtflokceoeiplcaaGreatMap
import Derived.Test.YtflokceoeiplcaaGreatMal
section
set_option linter.unusedVariables false
set_option linter.unusedSimpArgs false
namespace Go.Proofs.YtflokceoeiplcaaGreat.Vf
open Go
theorem F4a {a b c:Stp} (h1:sle a b=false) (h2:sle b c=false):sle a c=false:=by
 cases h:sle a c with
 |false=>rfl
 |true=>
  have n1:¬ _:=fun k=>by rw [Pk.2 k] at h1; cases h1
  have n2:¬ _:=fun k=>by rw [Pk.2 k] at h2; cases h2
  have h3:=Pk.1 h
  omega
theorem F5a {a b:Stp} (h:sle a b=true):sle b a=false:=by
 cases h':sle b a with
 |false=>rfl
 |true=>
  have h1:=Pk.1 h
  have h2:=Pk.1 h'
  omega
def F6a (ws:List Wri):Prop:=∀ x∈ws,Ce x.1=true∧H3 x.2.1=true∧An x.2.1.2.2
def IsW (ws:List Wri) (s:ByteArray) (f:Fil):Prop:=∃ x∈ws,x.1=s∧x.2.1=f
def EO (ws:List Wri) (sp:List ByteArray) (s:ByteArray) (b:List Int):Prop:=∃ f,IsW ws s f∧(b=K5 f∨(s∈sp∧∃ n,n<8 * (K5 f).length∧b=M1 (K5 f) n))
def ED (ws:List Wri) (sp:List ByteArray) (d:Dsk) (s:ByteArray):Prop:=
 (∀ b,gt d.1 s=some b→EO ws sp s b)∧(∀ b,gt d.2 s=some b→EO ws sp s b)∧
 (s∉sp→∀ b f,gt d.2 s=some b→Me b=some f→∃ b' f',gt d.1 s=some b'∧Me b'=some f'∧sle f'.1 f.1=false)
def DI (ws:List Wri) (sp:List ByteArray) (d:Dsk):Prop:=∀ s,ED ws sp d s
def HD (d:Dsk) (s:ByteArray) (st:Stp):Prop:=∃ b f,gt d.2 s=some b∧Me b=some f∧sle f.1 st=false
def MO (sp:List ByteArray) (d d':Dsk):Prop:=∀ s,s∉sp→∀ st,HD d s st→HD d' s st
theorem IsW.good {ws:List Wri} (hw:F6a ws) {s:ByteArray} {f:Fil} (h:IsW ws s f):Ce s=true∧H3 f=true∧An f.2.2:=by
 obtain ⟨x,hx,rfl,rfl⟩:=h
 exact hw x hx
theorem EO.get {ws:List Wri} {sp:List ByteArray} (hw:F6a ws) {s:ByteArray} {b:List Int} (h:EO ws sp s b) {f:Fil} (hf:Me b=some f):IsW ws s f∧b=K5 f:=by
 obtain ⟨g,h1,h2⟩:=h
 obtain ⟨_,g2,g3⟩:=h1.good hw
 rcases h2 with rfl|⟨_,n,hn,rfl⟩
 ·rw [Uf g2 g3] at hf
  cases hf
  exact ⟨h1,rfl⟩
 ·rw [Tea g2 hn] at hf; cases hf
theorem EO.fine {ws:List Wri} {sp:List ByteArray} (hw:F6a ws) {s:ByteArray} {b:List Int} (h:EO ws sp s b) (hs:s∉sp):∃ f,Me b=some f∧IsW ws s f:=by
 obtain ⟨g,h1,h2⟩:=h
 obtain ⟨_,g2,g3⟩:=h1.good hw
 rcases h2 with rfl|⟨h,_⟩
 ·exact ⟨g,Uf g2 g3,h1⟩
 ·exact absurd h hs
theorem EO.mono {ws ws':List Wri} {sp sp':List ByteArray} (h1:∀ x∈ws,x∈ws') (h2:∀ s∈sp,s∈sp') {s:ByteArray} {b:List Int} (h:EO ws sp s b):EO ws' sp' s b:=by
 obtain ⟨g,⟨x,hx,e⟩,h3⟩:=h
 refine ⟨g,⟨x,h1 x hx,e⟩,?_⟩
 rcases h3 with h3|⟨h3,h4⟩
 ·exact .inl h3
 ·exact .inr ⟨h2 s h3,h4⟩
theorem ED.mono {ws ws':List Wri} {sp sp':List ByteArray} (h1:∀ x∈ws,x∈ws') (h2:∀ s∈sp,s∈sp') {d:Dsk} {s:ByteArray} (h:ED ws sp d s):ED ws' sp' d s:=
 ⟨fun b hb=>(h.1 b hb).mono h1 h2,fun b hb=>(h.2.1 b hb).mono h1 h2,fun hs=>h.2.2 (fun c=>hs (h2 s c))⟩
theorem DI.mono {ws ws':List Wri} {sp sp':List ByteArray} (h1:∀ x∈ws,x∈ws') (h2:∀ s∈sp,s∈sp') {d:Dsk} (h:DI ws sp d):DI ws' sp' d:=fun s=>(h s).mono h1 h2
theorem ED.same {ws:List Wri} {sp:List ByteArray} {d d':Dsk} {s:ByteArray} (h:ED ws sp d s) (e1:gt d'.1 s=gt d.1 s) (e2:gt d'.2 s=gt d.2 s):ED ws sp d' s:=by
 unfold ED
 rw [e1,e2]
 exact h
theorem HD.same {d d':Dsk} {s:ByteArray} {st:Stp} (h:HD d s st) (e2:gt d'.2 s=gt d.2 s):HD d' s st:=by
 unfold HD
 rw [e2]
 exact h
theorem MO.refl (sp:List ByteArray) (d:Dsk):MO sp d d:=fun _ _ _ h=>h
theorem MO.trans {sp:List ByteArray} {a b c:Dsk} (h1:MO sp a b) (h2:MO sp b c):MO sp a c:=fun s hs st h=>h2 s hs st (h1 s hs st h)
theorem Qta {s:ByteArray} {st:Stp} {n:Nod}:Xn s st n=true↔HD n.2.1 s st:=by
 unfold Xn HD
 cases h:gt n.2.1.2 s with
 |none=>exact ⟨fun c=>(by cases c),fun ⟨b,f,c,_⟩=>(by cases c)⟩
 |some b=>
  dsimp only
  cases h2:Me b with
  |none=>exact ⟨fun c=>(by cases c),fun ⟨b',f,c,c2,_⟩=>(by cases c; rw [h2] at c2; cases c2)⟩
  |some f=>
   dsimp only
   rw [Bool.not_eq_true']
   exact ⟨fun c=>⟨b,f,rfl,h2,c⟩,fun ⟨b',f',c,c2,c3⟩=>(by cases c; rw [h2] at c2; cases c2; exact c3)⟩
section
variable {ws:List Wri} {sp:List ByteArray} {d:Dsk} {s:ByteArray}
theorem ED.ge (h:ED ws sp d s) (hs:s∉sp) {st:Stp} (hh:HD d s st):∃ b f,gt d.1 s=some b∧Me b=some f∧sle f.1 st=false:=by
 obtain ⟨b,f,h1,h2,h3⟩:=hh
 obtain ⟨b',f',h4,h5,h6⟩:=h.2.2 hs b f h1 h2
 exact ⟨b',f',h4,h5,F4a h6 h3⟩
theorem Xka (hd:B9 d=true) (h:DI ws sp d):DI ws sp (d.1,sy d s):=by
 intro t
 by_cases ht:s=t
 ·subst ht
  have e:gt (sy d s) s=gt d.1 s:=by rw [H7a hd,if_pos rfl]
  refine ⟨(h s).1,fun b hb=>(h s).1 b (by rw [← e]; exact hb),fun hs b f hb hf=>⟨b,f,by rw [← e]; exact hb,hf,Qa _⟩⟩
 ·exact (h t).same rfl (by show gt (sy d s) t=_; rw [H7a hd,if_neg ht])
theorem A3b (hd:B9 d=true) (h:DI ws sp d):MO sp d (d.1,sy d s):=by
 intro t ht st hh
 by_cases hst:s=t
 ·subst hst
  obtain ⟨b,f,h1,h2,h3⟩:=(h s).ge ht hh
  exact ⟨b,f,by show gt (sy d s) s=_; rw [H7a hd,if_pos rfl,h1],h2,h3⟩
 ·exact hh.same (by show gt (sy d s) t=_; rw [H7a hd,if_neg hst])
theorem B4b (hw:F6a ws) (hd:B9 d=true) (h:DI ws sp d) {f:Fil} (hf:IsW ws s f) (hn:∀ o,old d s=some o→sle o.1 f.1=true):DI ws sp (wr d.1 s (K5 f),d.2):=by
 intro t
 by_cases ht:s=t
 ·subst ht
  have e:gt (wr d.1 s (K5 f)) s=some (K5 f):=by rw [H6a (Lq hd),if_pos rfl]
  obtain ⟨_,g2,g3⟩:=hf.good hw
  refine ⟨fun b hb=>?_,(h s).2.1,fun hs b g hb hg=>⟨K5 f,f,e,Uf g2 g3,?_⟩⟩
  ·rw [show gt (wr d.1 s (K5 f)) s=some b from hb] at e
   cases e
   exact ⟨f,hf,.inl rfl⟩
  ·obtain ⟨b',f',k1,k2,k3⟩:=(h s).2.2 hs b g hb hg
   have:=hn f' (by unfold old; rw [k1]; exact k2)
   exact F4a (F5a this) k3
 ·exact (h t).same (by show gt (wr d.1 s (K5 f)) t=_; rw [H6a (Lq hd),if_neg ht]) rfl
theorem Qua (hw:F6a ws) (hd:DG d) (h:DI ws sp d) {f:Fil} {sure:Bool} (hf:IsW ws s f):DI ws sp (keep d s f sure).1∧MO sp d (keep d s f sure).1:=by
 obtain ⟨g1,g2,g3⟩:=hf.good hw
 rw [Efa hd.1 g1 g2]
 rcases Aoa (f:=f) (sure:=sure) hd g1 with k|⟨o,_,_,k,hg,h3⟩|⟨h1,h2,k,hg,h3⟩
 ·rw [k]; exact ⟨h,MO.refl _ _⟩
 ·rcases h3 with ⟨_,h3⟩|⟨_,h3⟩
  ·rw [h3]; exact ⟨h,MO.refl _ _⟩
  ·rw [h3]; exact ⟨Xka hd.1 h,A3b hd.1 h⟩
 ·have hw':=B4b hw hd.1 h hf h1
  rcases h3 with ⟨_,h3⟩|⟨_,h3⟩
  ·rw [h3]; exact ⟨hw',fun t _ st hh=>hh.same rfl⟩
  ·rw [h3]; exact ⟨Xka h2.1 hw',(show MO sp d (wr d.1 s (K5 f),d.2) from fun t _ st hh=>hh.same rfl).trans (A3b h2.1 hw')⟩
theorem Qva (hw:F6a ws) (hd:DG d) {f:Fil} (hf:IsW ws s f) (hc:(keep d s f true).2=0∨(keep d s f true).2=1):HD (keep d s f true).1 s f.1:=by
 obtain ⟨g1,g2,g3⟩:=hf.good hw
 rw [Efa hd.1 g1 g2] at hc ⊢
 obtain ⟨o,g,b,ho,_,e,h1,h2,h3⟩:=Pia hd g1 g2 g3 hc
 rw [e]
 exact ⟨b,g,by show gt (sy o s) s=_; rw [H7a ho.1,if_pos rfl,h1],h2,h3⟩
theorem Xla (hd:DG d) (h:DI ws sp d) (kp:List Bool):DI ws sp (R9 d kp):=by
 intro t
 rcases Q0a (d:=d) (kp:=kp) t with e|⟨e1,e2⟩
 ·rw [e]; exact h t
 ·unfold ED
  rw [e1]
  have eo:∀ b,gt (R9 d kp).1 t=some b→EO ws sp t b:=by
   intro b hb
   rcases e2 with e2|e2
   ·exact (h t).1 b (by rw [← e2]; exact hb)
   ·exact (h t).2.1 b (by rw [← e2]; exact hb)
  exact ⟨eo,eo,fun _ b f hb hf=>⟨b,f,hb,hf,Qa _⟩⟩
theorem Xma (hd:DG d) (h:DI ws sp d) (kp:List Bool):MO sp d (R9 d kp):=by
 intro t ht st hh
 rcases Q0a (d:=d) (kp:=kp) t with e|⟨e1,e2⟩
 ·rw [e]; exact hh
 ·unfold HD
  rw [e1]
  rcases e2 with e2|e2
  ·rw [e2]; exact (h t).ge ht hh
  ·rw [e2]; exact hh
theorem U0a (hw:F6a ws) (hd:DG d) (h:DI ws sp d):DI ws sp (N1 d).1∧MO sp d (N1 d).1:=by
 obtain ⟨_,hc⟩:=Xi d.1 (d,0) hd
 have hc':∀ t,(t∈Cia d.1→gt (N1 d).1.1 t=none∧gt (N1 d).1.2 t=none)∧(t∉Cia d.1→gt (N1 d).1.1 t=gt d.1 t∧gt (N1 d).1.2 t=gt d.2 t):=hc
 have hb:∀ t,t∈Cia d.1→t∈sp:=by
  intro t ht
  obtain ⟨b,h1,h2⟩:=(Tha hd.1).1 ht
  by_cases hs:t∈sp
  ·exact hs
  ·obtain ⟨f,hf,_⟩:=((h t).1 b h1).fine hw hs
   rw [hf] at h2; cases h2
 constructor
 ·intro t
  by_cases ht:t∈Cia d.1
  ·obtain ⟨e1,e2⟩:=(hc' t).1 ht
   unfold ED
   rw [e1,e2]
   exact ⟨fun b hb=>(by cases hb),fun b hb=>(by cases hb),fun _ b f hb=>(by cases hb)⟩
  ·obtain ⟨e1,e2⟩:=(hc' t).2 ht
   exact (h t).same e1 e2
 ·intro t ht st hh
  exact hh.same ((hc' t).2 (fun c=>ht (hb t c))).2
theorem A4b (hd:DG d) (h:DI ws sp d) (hs:Ce s=true):DI ws sp (syD (rmD d s).1 s).1∧∀ t,t≠s→∀ st,HD d t st→HD (syD (rmD d s).1 s).1 t st:=by
 have hr:DI ws sp (rmD d s).1∨True := .inr trivial
 unfold rmD
 cases hg:gt d.1 s with
 |none=>
  have e:(bif (none:Option (List Int)).isSome then ((cut d.1 s,d.2),true) else (d,false)).1=d:=rfl
  rw [e]
  unfold syD
  by_cases hl:(sy d s).length≤60
  ·rw [decide_eq_true hl]
   exact ⟨Xka hd.1 h,fun t ht st hh=>hh.same (by show gt (sy d s) t=_; rw [H7a hd.1,if_neg (Ne.symm ht)])⟩
  ·rw [decide_eq_false hl]; exact ⟨h,fun t ht st hh=>hh⟩
 |some b=>
  have e:(bif (some b:Option (List Int)).isSome then ((cut d.1 s,d.2),true) else (d,false)).1=(cut d.1 s,d.2):=rfl
  rw [e]
  have hd':B9 (cut d.1 s,d.2)=true:=De.2 ⟨Tm (De.1 hd.1).1,(De.1 hd.1).2⟩
  have e1:∀ t,gt (cut d.1 s) t=if s=t then none else gt d.1 t:=fun t=>Sc (Lq hd.1)
  have e2:∀ t,gt (sy (cut d.1 s,d.2) s) t=if s=t then none else gt d.2 t:=fun t=>by
   rw [H7a hd']
   by_cases hst:s=t
   ·rw [if_pos hst,if_pos hst]; show gt (cut d.1 s) s=none; rw [e1,if_pos rfl]
   ·rw [if_neg hst,if_neg hst]
  have hlen:(sy (cut d.1 s,d.2) s).length≤60:=by
   have:sy (cut d.1 s,d.2) s=cut d.2 s:=by
    unfold sy
    have:=e1 s
    rw [if_pos rfl] at this
    rw [show gt (cut d.1 s,d.2).1 s=none from this]
   rw [this]
   exact Nat.le_trans My.length_le (Ae.1 (De.1 hd.1).2).2.2
  unfold syD
  rw [decide_eq_true hlen]
  constructor
  ·intro t
   show ED ws sp (cut d.1 s,sy (cut d.1 s,d.2) s) t
   by_cases hst:s=t
   ·unfold ED
    dsimp only
    rw [e1,e2,if_pos hst,if_pos hst]
    exact ⟨fun b hb=>(by cases hb),fun b hb=>(by cases hb),fun _ b f hb=>(by cases hb)⟩
   ·exact (h t).same (by show gt (cut d.1 s) t=_; rw [e1,if_neg hst]) (by show gt (sy (cut d.1 s,d.2) s) t=_; rw [e2,if_neg hst])
  ·intro t ht st hh
   exact hh.same (by show gt (sy (cut d.1 s,d.2) s) t=_; rw [e2,if_neg (Ne.symm ht)])
theorem A5b (hw:F6a ws) (hd:DG d) (h:DI ws sp d) {n:Int} (hl:(lkD d s).2=0) (hr:(Jra d s n).2=true) (sp':List ByteArray) (hsp:∀ t,t∈sp'↔t=s∨t∈sp):DI ws sp' (Jra d s n).1∧MO sp' d (Jra d s n).1∧∃ f,IsW ws s f:=by
 obtain ⟨b,hb,hf⟩:=Xc.1 (show lkD d s=((lkD d s).1,0) by rw [← hl])
 obtain ⟨hW,e⟩:=((h s).1 b hb).get hw hf
 have hsub:∀ t∈sp,t∈sp':=fun t ht=>(hsp t).2 (.inr ht)
 generalize (lkD d s).1=f at *
 unfold Jra at hr ⊢
 rw [hb] at hr ⊢
 dsimp only at hr ⊢
 cases hin:inR n 0 (8 * (b.length:Int) - 1) with
 |false=>rw [hin] at hr; cases hr
 |true=>
  rw [cond_true]
  obtain ⟨n0,n1⟩:=Gv.1 hin
  have hn:n.toNat<8 * (K5 f).length:=by rw [← e]; omega
  have e1:∀ t,gt (wr d.1 s (M1 b n.toNat)) t=if s=t then some (M1 b n.toNat) else gt d.1 t:=fun t=>H6a (Lq hd.1)
  have e2:∀ t,gt (bif decide (gt d.2 s=some b) then wr d.2 s (M1 b n.toNat) else d.2) t=if s=t∧gt d.2 s=some b then some (M1 b n.toNat) else gt d.2 t:=by
   intro t
   by_cases hg:gt d.2 s=some b
   ·rw [decide_eq_true hg,cond_true,H6a (Oq hd.1)]
    by_cases hst:s=t
    ·rw [if_pos hst,if_pos ⟨hst,hg⟩]
    ·rw [if_neg hst,if_neg (fun c=>hst c.1)]
   ·rw [decide_eq_false hg,cond_false,if_neg (fun c=>hg c.2)]
  have hflip:EO ws sp' s (M1 b n.toNat):=⟨f,hW,.inr ⟨(hsp s).2 (.inl rfl),n.toNat,hn,by rw [e]⟩⟩
  refine ⟨fun t=>?_,fun t ht st hh=>?_,f,hW⟩
  ·by_cases hst:s=t
   ·subst hst
    refine ⟨fun x hx=>?_,fun x hx=>?_,fun c=>absurd ((hsp s).2 (.inl rfl)) c⟩
    ·have:=e1 s
     rw [if_pos rfl] at this
     rw [show gt (wr d.1 s (M1 b n.toNat)) s=some x from hx] at this
     cases this
     exact hflip
    ·have:=e2 s
     rw [show gt (bif decide (gt d.2 s=some b) then wr d.2 s (M1 b n.toNat) else d.2) s=some x from hx] at this
     by_cases hg:gt d.2 s=some b
     ·rw [if_pos ⟨rfl,hg⟩] at this
      cases this
      exact hflip
     ·rw [if_neg (fun c=>hg c.2)] at this
      exact ((h s).2.1 x this.symm).mono (fun _ h=>h) hsub
   ·refine ((h t).mono (fun _ h=>h) hsub).same ?_ ?_
    ·show gt (wr d.1 s (M1 b n.toNat)) t=_
     rw [e1,if_neg hst]
    ·show gt (bif decide (gt d.2 s=some b) then wr d.2 s (M1 b n.toNat) else d.2) t=_
     rw [e2,if_neg (fun c=>hst c.1)]
  ·have hst:s≠t:=fun c=>ht ((hsp t).2 (.inl c.symm))
   exact hh.same (by show gt (bif decide (gt d.2 s=some b) then wr d.2 s (M1 b n.toNat) else d.2) t=_; rw [e2,if_neg (fun c=>hst c.1)])
end
end Go.Proofs.YtflokceoeiplcaaGreat.Vf
end

section
set_option linter.unusedVariables false
set_option linter.unusedSimpArgs false
namespace Go.Proofs.YtflokceoeiplcaaGreat.Vf
open Go
def NI (ws:List Wri) (sp:List ByteArray) (n:Nod):Prop:=NG n∧DI ws sp n.2.1∧(∀ r∈n.2.2.1,Lb ws r=true)∧∀ r∈n.2.2.2,Lb ws r=true
def KN (ns:List Nod) (s:ByteArray) (st:Stp):Prop:=∃ i,i<ns.length∧HD (ns.getD i Ch).2.1 s st
def MS (sp:List ByteArray) (ns ns':List Nod):Prop:=∀ s,s∉sp→∀ st,KN ns s st→KN ns' s st
theorem Xu {ws:List Wri} {r:Row}:Lb ws r=true↔∃ x∈ws,Ta x.1 x.2.1=r:=by
 unfold Lb
 rw [List.any_eq_true]
 exact ⟨fun ⟨x,h1,h2⟩=>⟨x,h1,F0a.1 h2⟩,fun ⟨x,h1,h2⟩=>⟨x,h1,F0a.2 h2⟩⟩
theorem Aua {ws ws':List Wri} (h:∀ x∈ws,x∈ws') {r:Row} (hr:Lb ws r=true):Lb ws' r=true:=by
 obtain ⟨x,h1,h2⟩:=Xu.1 hr
 exact Xu.2 ⟨x,h x h1,h2⟩
theorem U1a {ws:List Wri} {s:ByteArray} {f:Fil} (h:IsW ws s f):Lb ws (Ta s f)=true:=by
 obtain ⟨x,h1,rfl,rfl⟩:=h
 exact Xu.2 ⟨x,h1,rfl⟩
theorem NI.mono {ws ws':List Wri} {sp sp':List ByteArray} (h1:∀ x∈ws,x∈ws') (h2:∀ s∈sp,s∈sp') {n:Nod} (h:NI ws sp n):NI ws' sp' n:=
 ⟨h.1,h.2.1.mono h1 h2,fun r hr=>Aua h1 (h.2.2.1 r hr),fun r hr=>Aua h1 (h.2.2.2 r hr)⟩
def NR (ws:List Wri) (sp:List ByteArray) (ns ns':List Nod):Prop:=(∀ n∈ns',NI ws sp n)∧ns'.map (·.1)=ns.map (·.1)∧MS sp ns ns'
theorem NR.refl {ws:List Wri} {sp:List ByteArray} {ns:List Nod} (h:∀ n∈ns,NI ws sp n):NR ws sp ns ns:=⟨h,rfl,fun _ _ _ h=>h⟩
theorem NR.len {ws:List Wri} {sp:List ByteArray} {ns ns':List Nod} (h:NR ws sp ns ns'):ns'.length=ns.length:=by
 have:=congrArg List.length h.2.1
 rwa [List.length_map,List.length_map] at this
theorem Ma {α:Type} {l:List α} {i j:Nat} {x d:α} (hj:j<l.length):(l.set i x).getD j d=if i=j then x else l.getD j d:=by
 rw [List.getD_eq_getElem?_getD,List.getElem?_set]
 by_cases h:i=j
 ·subst h
  rw [if_pos rfl,if_pos rfl,if_pos hj]
  rfl
 ·rw [if_neg h,if_neg h,List.getD_eq_getElem?_getD]
theorem Qwa {ns:List Nod} {i:Nat} {n:Nod} (hi:i<ns.length) (h:n.1=(ns.getD i Ch).1):(ns.set i n).map (·.1)=ns.map (·.1):=by
 refine List.ext_getElem (by simp) (fun j h1 h2=>?_)
 rw [List.length_map,List.length_set] at h1
 rw [List.getElem_map,List.getElem_map,List.getElem_set]
 by_cases hij:i=j
 ·subst hij
  rw [if_pos rfl,h,List.getD_eq_getElem?_getD,List.getElem?_eq_getElem hi]
  rfl
 ·rw [if_neg hij]
theorem NR.set {ws:List Wri} {sp:List ByteArray} {ns ns':List Nod} (h:NR ws sp ns ns') {i:Nat} (hi:i<ns'.length) {n:Nod} (h1:NI ws sp n) (h2:n.1=(ns'.getD i Ch).1) (h3:MO sp (ns'.getD i Ch).2.1 n.2.1):NR ws sp ns (ns'.set i n):=by
 obtain ⟨g1,g2,g3⟩:=h
 refine ⟨fun m hm=>?_,by rw [Qwa hi h2,g2],fun s hs st hk=>?_⟩
 ·rcases List.mem_or_eq_of_mem_set hm with hm|rfl
  ·exact g1 m hm
  ·exact h1
 ·obtain ⟨j,hj,hd⟩:=g3 s hs st hk
  refine ⟨j,by rw [List.length_set]; exact hj,?_⟩
  rw [Ma hj]
  by_cases hij:i=j
  ·subst hij; rw [if_pos rfl]; exact h3 s hs st hd
  ·rw [if_neg hij]; exact hd
section
variable {ws:List Wri} {sp:List ByteArray} {n:Nod} {s:ByteArray} {f:Fil}
theorem Xna (hw:F6a ws) (h:NI ws sp n) (hf:IsW ws s f) (sure:Bool):NI ws sp (Xd n s f sure).1∧(Xd n s f sure).1.1=n.1∧MO sp n.2.1 (Xd n s f sure).1.2.1:=by
 obtain ⟨g1,g2,g3⟩:=hf.good hw
 obtain ⟨h1,h2,h3,h4⟩:=h
 have hg:=V4a (sure:=sure) h1 g1 g2
 obtain ⟨k1,k2⟩:=Qua (sure:=sure) hw h1.g h2 hf
 unfold Xd at hg ⊢
 cases hq:(n.2.2.2.length:Int)==60 with
 |true=>exact ⟨⟨h1,h2,h3,h4⟩,rfl,MO.refl _ _⟩
 |false=>
  rw [hq] at hg
  refine ⟨⟨hg,k1,h3,?_⟩,rfl,k2⟩
  show ∀ r∈bif (keep n.2.1 s f sure).2==0&&sure then n.2.2.2++[Ta s f] else n.2.2.2,Lb ws r=true
  cases (keep n.2.1 s f sure).2==0&&sure with
  |false=>exact h4
  |true=>
   intro r hr
   rcases List.mem_append.1 hr with hr|hr
   ·exact h4 r hr
   ·rw [List.mem_singleton.1 hr]; exact U1a hf
theorem Xoa (hw:F6a ws) (h:NI ws sp n) (hf:IsW ws s f) (hc:(Xd n s f true).2=0∨(Xd n s f true).2=1):HD (Xd n s f true).1.2.1 s f.1:=by
 unfold Xd at hc ⊢
 cases hq:((n.2.2.2.length:Int)==60) with
 |true=>rw [hq] at hc; rcases hc with hc|hc<;>cases hc
 |false=>rw [hq] at hc; exact Qva hw h.1.g hf hc
theorem B5b (h:NI ws sp n) {l:List Row} (hl:Kk l=true) (hr:∀ r∈l,Lb ws r=true):NI ws sp (tk n l).2∧(tk n l).2.1=n.1∧(tk n l).2.2.1=n.2.1:=by
 obtain ⟨h1,h2,h3,h4⟩:=h
 have hg:=Bgb h1 hl
 unfold tk at hg ⊢
 cases hq:decide ((Bya n.2.2.1 l).length > 60) with
 |true=>exact ⟨⟨h1,h2,h3,h4⟩,rfl,rfl⟩
 |false=>
  rw [hq] at hg
  exact ⟨⟨hg,h2,fun r hr'=>(J9a hr').elim (h3 r) (hr r),h4⟩,rfl,rfl⟩
end
theorem A6b {ws:List Wri} {sp:List ByteArray} {ns:List Nod} {R:Int} {rc:List Int} {s:ByteArray} {f:Fil} {cs:List Int} {a:List Nod×Int×Int} {j:Nat} (hw:F6a ws) (hf:IsW ws s f)
  (h:NR ws sp ns a.1∧(s∉sp→a.2.2≥1→KN a.1 s f.1)∧a.2.2≥0) (hc:(cs.getD j 0).toNat<ns.length):
  NR ws sp ns (wst R rc s f cs a j).1∧(s∉sp→(wst R rc s f cs a j).2.2≥1→KN (wst R rc s f cs a j).1 s f.1)∧(wst R rc s f cs a j).2.2≥0:=by
 obtain ⟨h1,h2,h3⟩:=h
 unfold wst
 cases decide (a.2.1<R) with
 |false=>exact ⟨h1,h2,h3⟩
 |true=>
  cases rch rc j==0 with
  |true=>exact ⟨h1,h2,h3⟩
  |false=>
   rw [cond_true,cond_false]
   have hi:(cs.getD j 0).toNat<a.1.length:=by rw [h1.len]; exact hc
   generalize (cs.getD j 0).toNat=i at *
   have hn:=h1.1 _ (A3 (d:=Ch) hi)
   obtain ⟨p1,p2,p3⟩:=Xna hw hn hf (rch rc j != 3)
   refine ⟨h1.set hi p1 p2 p3,fun hs hg=>?_,?_⟩
   ·cases hr:rch rc j==1&&((Xd (a.1.getD i Ch) s f (rch rc j != 3)).2==0 || (Xd (a.1.getD i Ch) s f (rch rc j != 3)).2==1) with
    |true=>
     rw [Bool.and_eq_true,Bool.or_eq_true,beq_iff_eq,beq_iff_eq,beq_iff_eq] at hr
     have e:(rch rc j != 3)=true:=by rw [hr.1]; rfl
     rw [e] at hr ⊢
     refine ⟨i,by rw [List.length_set]; exact hi,?_⟩
     rw [Ma hi,if_pos rfl]
     exact Xoa hw hn hf hr.2
    |false=>
     rw [hr] at hg
     obtain ⟨m,hm,hd⟩:=h2 hs hg
     refine ⟨m,by rw [List.length_set]; exact hm,?_⟩
     rw [Ma hm]
     by_cases hij:i=m
     ·subst hij; rw [if_pos rfl]; exact p3 s hs _ hd
     ·rw [if_neg hij]; exact hd
   ·dsimp only
    cases rch rc j==1&&((Xd (a.1.getD i Ch) s f (rch rc j != 3)).2==0 || (Xd (a.1.getD i Ch) s f (rch rc j != 3)).2==1)
    ·exact h3
    ·rw [cond_true]; omega
theorem A7b {ws:List Wri} {sp:List ByteArray} {w:Wld} {rc:List Int} {s:ByteArray} {f:Fil} (hw:F6a ws) (hf:IsW ws s f) (hn:∀ n∈w.2.2.1,NI ws sp n):
  NR ws sp w.2.2.1 (wrN w s f rc).1∧(s∉sp→(wrN w s f rc).2.2≥1→KN (wrN w s f rc).1 s f.1)∧(wrN w s f rc).2.2≥0:=
 Pu (fun _ (a:List Nod×Int×Int)=>NR ws sp w.2.2.1 a.1∧(s∉sp→a.2.2≥1→KN a.1 s f.1)∧a.2.2≥0) ⟨NR.refl hn,fun _ h=>absurd h (show ¬ (0:Int)≥1 by omega),Int.le_refl _⟩
  (fun j b hj hb=>A6b hw hf hb (by have:=Xp (A3 (d:=0) hj); omega))
theorem A8b {ws:List Wri} {sp:List ByteArray} {ns:List Nod} {rc:List Int} {s:ByteArray} {f:Fil} {ps:List Int} {a:List Nod×Bool×Bool} {src j:Nat} (hw:F6a ws) (hf:IsW ws s f) (hsrc:src<ns.length)
  (h:NR ws sp ns a.1∧(a.2.1=false→a.1.getD src Ch=ns.getD src Ch∧(a.2.2=true→0<j→∃ i,i≠src∧i<ns.length∧HD (a.1.getD i Ch).2.1 s f.1))) (hc:(ps.getD j 0).toNat<ns.length) (hc0:0≤ps.getD j 0):
  NR ws sp ns (pst (src:Int) s f rc ps a j).1∧((pst (src:Int) s f rc ps a j).2.1=false→(pst (src:Int) s f rc ps a j).1.getD src Ch=ns.getD src Ch∧((pst (src:Int) s f rc ps a j).2.2=true→0<j+1→∃ i,i≠src∧i<ns.length∧HD ((pst (src:Int) s f rc ps a j).1.getD i Ch).2.1 s f.1)):=by
 obtain ⟨h1,h2⟩:=h
 unfold pst
 cases hz:ps.getD j 0==(src:Int) with
 |true=>exact ⟨h1,fun c=>by cases c⟩
 |false=>
  have hne:(ps.getD j 0).toNat≠src:=by
   have:=beq_eq_false_iff_ne.1 hz
   omega
  cases hr:rch rc j != 1 with
  |true=>exact ⟨h1,fun c=>⟨(h2 c).1,fun c'=>by cases c'⟩⟩
  |false=>
   rw [cond_false,cond_false]
   have hi:(ps.getD j 0).toNat<a.1.length:=by rw [h1.len]; exact hc
   generalize (ps.getD j 0).toNat=i at *
   have hn:=h1.1 _ (A3 (d:=Ch) hi)
   obtain ⟨k1,k2⟩:=Qua (sure:=true) hw hn.1.g hn.2.1 hf
   refine ⟨h1.set hi ⟨Qia hn.1,k1,hn.2.2⟩ rfl k2,fun c=>⟨?_,fun c' _=>?_⟩⟩
   ·show (a.1.set i _).getD src Ch=_
    rw [Ma (by rw [h1.len]; exact hsrc),if_neg hne]
    exact (h2 c).1
   ·refine ⟨i,hne,hc,?_⟩
    show HD ((a.1.set i _).getD i Ch).2.1 s f.1
    rw [Ma hi,if_pos rfl]
    refine Qva hw hn.1.g hf ?_
    cases hk:(keep (a.1.getD i Ch).2.1 s f true).2 != 0&&(keep (a.1.getD i Ch).2.1 s f true).2 != 1 with
    |true=>
     have:(bif (keep (a.1.getD i Ch).2.1 s f true).2 != 0&&(keep (a.1.getD i Ch).2.1 s f true).2 != 1 then false else a.2.2)=true:=c'
     rw [hk] at this
     cases this
    |false=>
     rw [Bool.and_eq_false_iff,bne,bne,Bool.not_eq_false',Bool.not_eq_false',beq_iff_eq,beq_iff_eq] at hk
     exact hk
theorem A9b {ws:List Wri} {sp:List ByteArray} {w:Wld} {rc:List Int} {s:ByteArray} {i:Nat} (hw:F6a ws) (hn:∀ n∈w.2.2.1,NI ws sp n) (hi:i<w.2.2.1.length) (hf:IsW ws s (lkD (w.2.2.1.getD i Ch).2.1 s).1):
  NR ws sp w.2.2.1 (puN w i s rc).1∧((puN w i s rc).2.1=false→(puN w i s rc).1.getD i Ch=w.2.2.1.getD i Ch∧((puN w i s rc).2.2=true→0<(Rb w s).length→∃ j,j≠i∧j<w.2.2.1.length∧HD ((puN w i s rc).1.getD j Ch).2.1 s (lkD (w.2.2.1.getD i Ch).2.1 s).1.1)):=
 Pu (fun n (a:List Nod×Bool×Bool)=>NR ws sp w.2.2.1 a.1∧(a.2.1=false→a.1.getD i Ch=w.2.2.1.getD i Ch∧(a.2.2=true→0<n→∃ j,j≠i∧j<w.2.2.1.length∧HD (a.1.getD j Ch).2.1 s (lkD (w.2.2.1.getD i Ch).2.1 s).1.1))) ⟨NR.refl hn,fun _=>⟨rfl,fun _ c=>absurd c (Nat.lt_irrefl _)⟩⟩
  (fun j b hj hb=>A8b hw hf hi hb (by have:=Um (A3 (d:=0) hj); omega) (Um (A3 (d:=0) hj)).1)
theorem Qxa {w:Wld} {s:ByteArray} (hr:Hu w.2.1 w.1=true) (hid:w.2.2.1.map (·.1)=w.1.map (·.1)):0<(Rb w s).length:=by
 obtain ⟨_,p2,p3⟩:=C9a hr s
 have h5:=(Cz.1 hr).2.1
 obtain ⟨id,hidm⟩:=List.exists_mem_of_length_pos (l:=Uj w.2.1 s) (by omega)
 have:=Ps.1 (p3 id hidm)
 rw [← hid] at this
 obtain ⟨n,hn,rfl⟩:=List.mem_map.1 this
 obtain ⟨j,hj,rfl⟩:=List.mem_iff_getElem.1 hn
 have hm:(j:Int)∈Rb w s:=Cda.2 ⟨j,hj,by rw [List.getD_eq_getElem?_getD,List.getElem?_eq_getElem hj]; exact hidm,rfl⟩
 exact List.length_pos_of_mem hm
theorem U2a {ws:List Wri} {sp:List ByteArray} {w:Wld} {rc:List Int} {s:ByteArray} {i:Nat} (hw:F6a ws) (hn:∀ n∈w.2.2.1,NI ws sp n) (hi:i<w.2.2.1.length) (hr:Hu w.2.1 w.1=true) (hid:w.2.2.1.map (·.1)=w.1.map (·.1)):
  ∃ ns,(Qha w i s rc).2=wN w ns∧NR ws sp w.2.2.1 ns:=by
 have hni:=hn _ (A3 (d:=Ch) hi)
 unfold Qha
 cases hl:(lkD (w.2.2.1.getD i Ch).2.1 s).2 != 0 with
 |true=>exact ⟨w.2.2.1,rfl,NR.refl hn⟩
 |false=>
  rw [bne,Bool.not_eq_false',beq_iff_eq] at hl
  obtain ⟨b,hb,hg⟩:=Xc.1 (show lkD (w.2.2.1.getD i Ch).2.1 s=((lkD (w.2.2.1.getD i Ch).2.1 s).1,0) from by rw [← hl])
  have hf:IsW ws s (lkD (w.2.2.1.getD i Ch).2.1 s).1:=(((hni.2.1 s).1 b hb).get hw hg).1
  obtain ⟨h1,h2⟩:=A9b (rc:=rc) hw hn hi hf
  refine ⟨_,rfl,?_⟩
  cases hc:(puN w i s rc).2.2 && !(puN w i s rc).2.1 with
  |false=>exact h1
  |true=>
   rw [Bool.and_eq_true,Bool.not_eq_true'] at hc
   obtain ⟨h3,h4⟩:=h2 hc.2
   obtain ⟨j,hj,hjl,hd⟩:=h4 hc.1 (Qxa hr hid)
   rw [cond_true,h3]
   obtain ⟨g1,_,_⟩:=hf.good hw
   have hi':i<(puN w i s rc).1.length:=by rw [h1.len]; exact hi
   obtain ⟨o1,o2⟩:=A4b (s:=s) hni.1.g hni.2.1 g1
   refine ⟨fun m hm=>?_,by rw [Qwa hi' (by rw [h3]; rfl),h1.2.1],fun t ht st hk=>?_⟩
   ·rcases List.mem_or_eq_of_mem_set hm with hm|rfl
    ·exact h1.1 m hm
    ·exact ⟨Zya hni.1 g1,o1,hni.2.2⟩
   ·obtain ⟨m,hm,hh⟩:=h1.2.2 t ht st hk
    by_cases hmi:m=i
    ·subst hmi
     rw [h3] at hh
     by_cases hts:t=s
     ·subst hts
      obtain ⟨b',f',e1,e2,e3⟩:=(hni.2.1 t).ge ht hh
      rw [hb] at e1
      cases e1
      rw [hg] at e2
      cases e2
      obtain ⟨c,g,k1,k2,k3⟩:=hd
      refine ⟨j,by rw [List.length_set,h1.len]; exact hjl,?_⟩
      rw [Ma (by rw [h1.len]; exact hjl),if_neg (Ne.symm hj)]
      exact ⟨c,g,k1,k2,F4a k3 e3⟩
     ·refine ⟨m,by rw [List.length_set]; exact hm,?_⟩
      rw [Ma hm,if_pos rfl]
      exact o2 t hts st hh
    ·refine ⟨m,by rw [List.length_set]; exact hm,?_⟩
     rw [Ma hm,if_neg (Ne.symm hmi)]
     exact hh
theorem Kaa {ws:List Wri} {sp:List ByteArray} {w:Wld} {src:Int} {l:List Row} {self:Bool} {rc:List Int} (hn:∀ n∈w.2.2.1,NI ws sp n) (hl:Kk l=true) (hr:∀ r∈l,Lb ws r=true):NR ws sp w.2.2.1 (Pv w src l self rc).1:=by
 refine Pu (fun _ (a:List Nod×Bool)=>NR ws sp w.2.2.1 a.1) (NR.refl hn) (fun j b hj hb=>?_)
 have hc:=Tf (A3 (d:=0) hj)
 unfold gst
 cases (K6 w).getD j 0==src && !self with
 |true=>exact hb
 |false=>
  cases rch rc j != 1 with
  |true=>exact hb
  |false=>
   have hi:((K6 w).getD j 0).toNat<b.1.length:=by rw [hb.len]; omega
   obtain ⟨t1,t2,t3⟩:=B5b (hb.1 _ (A3 (d:=Ch) hi)) hl hr
   exact hb.set hi t1 t2 (by rw [t3]; exact MO.refl _ _)
theorem U3a {ws:List Wri} {sp:List ByteArray} {w:Wld} {rc:List Int} {i:Nat} (hn:∀ n∈w.2.2.1,NI ws sp n) (hi:i<w.2.2.1.length):∃ ns,(Qka w i rc).2=wN w ns∧NR ws sp w.2.2.1 ns:=by
 have hni:=hn _ (A3 (d:=Ch) hi)
 have hl:=(Fc.1 hni.1.1).2.2.2.1
 unfold Qka
 cases ((w.2.2.1.getD i Ch).2.2.1.length:Int)==0 with
 |true=>exact ⟨w.2.2.1,rfl,NR.refl hn⟩
 |false=>
  refine ⟨_,rfl,?_⟩
  have hg:NR ws sp w.2.2.1 (Xr w i rc).1:=Kaa hn hl hni.2.2.1
  cases (Xr w i rc).2 && !(Mz (K6 (wN w (Xr w i rc).1)) (i:Int)) with
  |false=>exact hg
  |true=>
   have hi':i<(Xr w i rc).1.length:=by rw [hg.len]; exact hi
   have hm:=hg.1 _ (A3 (d:=Ch) hi')
   exact hg.set hi' ⟨Tza hm.1,hm.2.1,(fun _ h=>nomatch h),hm.2.2.2⟩ rfl (MO.refl _ _)
theorem U4a {ws:List Wri} {sp:List ByteArray} {w:Wld} {rc:List Int} {i:Nat} (hn:∀ n∈w.2.2.1,NI ws sp n) (hi:i<w.2.2.1.length):∃ ns,(Qma w i rc).2=wN w ns∧NR ws sp w.2.2.1 ns:=by
 have hni:=hn _ (A3 (d:=Ch) hi)
 obtain ⟨hq,_,_,_,hq60⟩:=Fc.1 hni.1.1
 unfold Qma
 cases ((w.2.2.1.getD i Ch).2.2.2.length:Int)==0 with
 |true=>exact ⟨w.2.2.1,rfl,NR.refl hn⟩
 |false=>
  refine ⟨_,rfl,?_⟩
  have hg:NR ws sp w.2.2.1 (Z1 w i rc).1:=Kaa hn (Xt hq) (fun r hr=>hni.2.2.2 r (List.mem_of_mem_take hr))
  cases (Z1 w i rc).2 with
  |false=>exact hg
  |true=>
   have hi':i<(Z1 w i rc).1.length:=by rw [hg.len]; exact hi
   have hm:=hg.1 _ (A3 (d:=Ch) hi')
   exact hg.set hi' ⟨A1b hm.1 (fun r hr=>hq r (List.mem_of_mem_drop hr)) (by rw [List.length_drop]; omega),hm.2.1,hm.2.2.1,fun r hr=>hni.2.2.2 r (List.mem_of_mem_drop hr)⟩ rfl (MO.refl _ _)
end Go.Proofs.YtflokceoeiplcaaGreat.Vf
end

section
set_option linter.unusedVariables false
set_option linter.unusedSimpArgs false
namespace Go.Proofs.YtflokceoeiplcaaGreat.Vf
open Go
structure WI (w:Wld):Prop where
 ring:Hu w.2.1 w.1=true
 ids:w.2.2.1.map (·.1)=w.1.map (·.1)
 nodes:∀ n∈w.2.2.1,NI w.2.2.2.2.1 w.2.2.2.2.2 n
 clk:Gk w.2.2.2.1=true
 wlen:w.2.2.2.2.1.length≤200
 wok:F6a w.2.2.2.2.1
 wge:∀ x∈w.2.2.2.2.1,sle w.2.2.2.1 x.2.1.1=false
 asc:w.2.2.2.2.1.Pairwise (fun a b=>sle a.2.1.1 b.2.1.1=true)
 kept:∀ x∈w.2.2.2.2.1,x.2.2=true→x.1∉w.2.2.2.2.2→KN w.2.2.1 x.1 x.2.1.1
 sps:TS w.2.2.2.2.2
 spw:∀ s∈w.2.2.2.2.2,∃ x∈w.2.2.2.2.1,x.1=s
theorem B6b:LawfulBEq ByteArray := { eq_of_beq:=fun {a b} h=>Ic.1 (by rw [← Bxa]; exact h),rfl:=fun {a}=>by rw [Bxa]; exact Ic.2 rfl }
theorem F7a:∀ (p q:List ByteArray),p.Nodup→(∀ x∈p,x∈q)→p.length≤q.length
 |[],_,_,_=>Nat.zero_le _
 |x::p,q,h,hs=>by
  haveI:=B6b
  obtain ⟨h1,h2⟩:=List.nodup_cons.1 h
  have hx:=hs x List.mem_cons_self
  have hlen:(q.erase x).length=q.length - 1:=List.length_erase_of_mem hx
  have hpos:=List.length_pos_of_mem hx
  have:=F7a p (q.erase x) h2 (fun y hy=>(List.mem_erase_of_ne (fun c=>by subst c; exact h1 hy)).2 (hs y (List.mem_cons_of_mem _ hy)))
  rw [List.length_cons]
  omega
namespace WI
variable {w:Wld}
theorem splen (h:WI w):w.2.2.2.2.2.length≤200:=by
 have hn:w.2.2.2.2.2.Nodup:=h.sps.imp (fun {a b} hab e=>by subst e; rw [Jo] at hab; cases hab)
 have:=F7a _ (w.2.2.2.2.1.map (·.1)) hn (fun s hs=>by
  obtain ⟨x,hx,e⟩:=h.spw s hs
  exact List.mem_map.2 ⟨x,hx,e⟩)
 rw [List.length_map] at this
 have:=h.wlen
 omega
theorem nlen (h:WI w):w.2.2.1.length=w.1.length:=by
 have:=congrArg List.length h.ids
 rwa [List.length_map,List.length_map] at this
theorem dlen (h:WI w):1≤w.1.length∧w.1.length≤12:=(H4.1 (Cz.1 h.ring).1).2.2
theorem ns (h:WI w):NS w.2.2.1:=⟨by have:=h.nlen; have:=h.dlen; omega,fun n hn=>(h.nodes n hn).1⟩
theorem win (h:WI w):WIn w:=by
 have h1:=h.nlen
 have h2:=h.dlen
 have h3:=h.wlen
 have h4:=h.splen
 refine ⟨N0 h.ring,by omega,⟨by omega,fun n hn=>Lha (h.nodes n hn).1⟩,⟨by omega,fun x hx=>Jx (h.wok x hx).1⟩,by omega,fun s hs=>?_⟩
 obtain ⟨x,hx,e⟩:=h.spw s hs
 rw [← e]
 exact Jx (h.wok x hx).1
theorem other (h:WI w) {ns:List Nod} (hn:NR w.2.2.2.2.1 w.2.2.2.2.2 w.2.2.1 ns):WI (wN w ns):=
 ⟨h.ring,hn.2.1.trans h.ids,hn.1,h.clk,h.wlen,h.wok,h.wge,h.asc,fun x hx hk hs=>hn.2.2 _ hs _ (h.kept x hx hk hs),h.sps,h.spw⟩
theorem other' (h:WI w) {r:Bool×Wld} (hr:∃ ns,r.2=wN w ns∧NR w.2.2.2.2.1 w.2.2.2.2.2 w.2.2.1 ns):WI r.2:=by
 obtain ⟨ns,e,hn⟩:=hr
 rw [e]
 exact h.other hn
theorem write (h:WI w) {s:ByteArray} {f:Fil} {rc:List Int} (hs:Ce s=true) (hf:H3 f=true) (hb:An f.2.2) (hc:sle w.2.2.2.1 f.1=true) (hl:w.2.2.2.2.1.length<200):WI (F2a (w.1,w.2.1,w.2.2.1,f.1,w.2.2.2.2) s f rc).2:=by
 obtain ⟨g1,g2,g3⟩:=A7b (ws:=w.2.2.2.2.1++[(s,f,decide ((wrN (w.1,w.2.1,w.2.2.1,f.1,w.2.2.2.2) s f rc).2.2≥quo w.2.1.1))]) (sp:=w.2.2.2.2.2) (w:=(w.1,w.2.1,w.2.2.1,f.1,w.2.2.2.2)) (rc:=rc) (s:=s) (f:=f)
  (fun x hx=>by
   rcases List.mem_append.1 hx with hx|hx
   ·exact h.wok x hx
   ·rw [List.mem_singleton.1 hx]; exact ⟨hs,hf,hb⟩)
  ⟨_,List.mem_append.2 (.inr (List.mem_singleton.2 rfl)),rfl,rfl⟩
  (fun n hn=>(h.nodes n hn).mono (fun x hx=>List.mem_append.2 (.inl hx)) (fun _ h=>h))
 unfold F2a
 generalize wrN (w.1,w.2.1,w.2.2.1,f.1,w.2.2.2.2) s f rc=a at *
 have hq:quo w.2.1.1≥1:=by
  have:=(Cz.1 h.ring).2.1
  unfold quo
  omega
 exact {
  ring:=h.ring
  ids:=g1.2.1.trans h.ids
  nodes:=g1.1
  clk:=(Kt.1 hf).1
  wlen:=by show (w.2.2.2.2.1++[_]).length≤200; rw [List.length_append]; simp only [List.length_cons,List.length_nil]; omega
  wok:=fun x hx=>by
   rcases List.mem_append.1 hx with hx|hx
   ·exact h.wok x hx
   ·rw [List.mem_singleton.1 hx]; exact ⟨hs,hf,hb⟩
  wge:=fun x hx=>by
   rcases List.mem_append.1 hx with hx|hx
   ·exact F4a (F5a hc) (h.wge x hx)
   ·rw [List.mem_singleton.1 hx]; exact Qa _
  asc:=List.pairwise_append.2 ⟨h.asc,List.pairwise_singleton _ _,fun x hx y hy=>by
   rw [List.mem_singleton.1 hy]
   have:=h.wge x hx
   cases hxy:sle x.2.1.1 f.1 with
   |true=>rfl
   |false=>
    have:=F4a this hxy
    rw [this] at hc
    cases hc⟩
  kept:=fun x hx hk hsp=>by
   rcases List.mem_append.1 hx with hx|hx
   ·exact g1.2.2 _ hsp _ (h.kept x hx hk hsp)
   ·rw [List.mem_singleton.1 hx] at hk hsp ⊢
    have hk':a.2.2≥quo w.2.1.1:=of_decide_eq_true hk
    exact g2 hsp (by omega)
  sps:=h.sps
  spw:=fun s hs=>by
   obtain ⟨x,hx,e⟩:=h.spw s hs
   exact ⟨x,List.mem_append.2 (.inl hx),e⟩ }
theorem ask (h:WI w) {s:ByteArray} {f:Fil} {t:Int} {rc:List Int} (hb:An f.2.2) (hd:f.2.1=true→f.2.2=[]):WI (ask w s f t rc).2:=by
 unfold Vf.ask
 cases hs:Ce s with
 |false=>exact h
 |true=>
  rw [Bool.not_true,cond_false]
  by_cases hl:(f.2.2.length:Int) > 200
  ·rw [decide_eq_true hl]; exact h
  ·rw [decide_eq_false hl,cond_false]
   cases inR t 0 1000000000 with
   |false=>exact h
   |true=>
    rw [Bool.not_true,cond_false]
    cases hw:(w.2.2.2.2.1.length:Int)==200 with
    |true=>exact h
    |false=>
     rw [cond_false]
     have hw':=beq_eq_false_iff_ne.1 hw
     have hwl:=h.wlen
     obtain ⟨n1,n2⟩:=K7a h.clk t 0
     cases he:(Ni w.2.2.2.1 t 0).1==w.2.2.2.1.1&&((Ni w.2.2.2.1 t 0).2.1==w.2.2.2.1.2.1&&(Ni w.2.2.2.1 t 0).2.2==w.2.2.2.1.2.2) with
     |true=>exact h
     |false=>
      rw [cond_false]
      have hlt:sle w.2.2.2.1 (Ni w.2.2.2.1 t 0)=true:=by
       rcases n2 with n2|n2
       ·rw [n2,beq_self_eq_true,beq_self_eq_true,beq_self_eq_true] at he; cases he
       ·exact n2
      exact h.write (f:=(Ni w.2.2.2.1 t 0,f.2)) hs (Kt.2 ⟨n1,by show f.2.2.length≤200; omega,hd⟩) hb hlt (by omega)
theorem rot (h:WI w) {i:Nat} (hi:i<w.2.2.1.length) {s:ByteArray} {b:Int}:WI (Agb w i s b).2:=by
 have hni:=h.nodes _ (A3 (d:=Ch) hi)
 unfold Agb
 cases hr:(T4a (w.2.2.1.getD i Ch) s b).2 with
 |false=>exact h
 |true=>
  have hg:=Zpa (s:=s) (b:=b) hni.1
  unfold T4a at hr hg ⊢
  cases hc:Nc (w.2.2.1.getD i Ch)&&((lkD (w.2.2.1.getD i Ch).2.1 s).2==0&&(Jra (w.2.2.1.getD i Ch).2.1 s b).2) with
  |false=>rw [hc] at hr; cases hr
  |true=>
   rw [hc] at hg
   rw [Bool.and_eq_true,Bool.and_eq_true,beq_iff_eq] at hc
   obtain ⟨d1,d2,f,hf⟩:=A5b h.wok hni.1.g hni.2.1 hc.2.1 hc.2.2 (spl w.2.2.2.2.2 s) (fun t=>Hra)
   have hsub:∀ t∈w.2.2.2.2.2,t∈spl w.2.2.2.2.2 s:=fun t ht=>Hra.2 (.inr ht)
   have hN:NR w.2.2.2.2.1 (spl w.2.2.2.2.2 s) w.2.2.1 (w.2.2.1.set i ((w.2.2.1.getD i Ch).1,(Jra (w.2.2.1.getD i Ch).2.1 s b).1,(w.2.2.1.getD i Ch).2.2)):=
    (NR.refl (fun n hn=>(h.nodes n hn).mono (fun _ h=>h) hsub)).set hi ⟨hg,d1,hni.2.2⟩ rfl d2
   exact {
    ring:=h.ring
    ids:=hN.2.1.trans h.ids
    nodes:=hN.1
    clk:=h.clk
    wlen:=h.wlen
    wok:=h.wok
    wge:=h.wge
    asc:=h.asc
    kept:=fun x hx hk hs=>hN.2.2 _ hs _ (h.kept x hx hk (fun c=>hs (hsub _ c)))
    sps:=Lxa h.sps
    spw:=fun t ht=>by
     rcases Hra.1 ht with rfl|ht
     ·obtain ⟨x,hx,e,_⟩:=hf
      exact ⟨x,hx,e⟩
     ·exact h.spw t ht }
theorem node (h:WI w) {i:Nat} (hi:i<w.2.2.1.length) {e:Evt}:WI (Lya w e i).2:=by
 have hni:=h.nodes _ (A3 (d:=Ch) hi)
 unfold Lya
 cases e.1==3 with
 |true=>exact h.other' (U2a h.wok h.nodes hi h.ring h.ids)
 |false=>
  cases e.1==4 with
  |true=>exact h.other' (U3a h.nodes hi)
  |false=>
   cases e.1==5 with
   |true=>exact h.other' (U4a h.nodes hi)
   |false=>
    cases e.1==6 with
    |true=>
     obtain ⟨c1,c2⟩:=U0a h.wok hni.1.g hni.2.1
     exact h.other ((NR.refl h.nodes).set hi ⟨Zwa hni.1,c1,hni.2.2⟩ rfl c2)
    |false=>
     cases e.1==7 with
     |true=>exact h.other ((NR.refl h.nodes).set hi ⟨B3b hni.1,Xla hni.1.g hni.2.1 _,hni.2.2⟩ rfl (Xma hni.1.g hni.2.1 _))
     |false=>exact h.rot hi
theorem weigh (h:WI w) {i t:Int}:WI (Qra w i t).2:=by
 unfold Qra
 cases h1:inR i 0 ((w.1.length:Int) - 1) with
 |false=>exact h
 |true=>
  cases h2:inR t 1 1000 with
  |false=>exact h
  |true=>
   obtain ⟨i0,i1⟩:=Gv.1 h1
   obtain ⟨w0,w1⟩:=Gv.1 h2
   exact ⟨(Tca (K2a h.ring (by omega) w0 w1)).1,h.ids.trans (Hga _ _ _).symm,h.nodes,h.clk,h.wlen,h.wok,h.wge,h.asc,h.kept,h.sps,h.spw⟩
theorem ev (h:WI w) {e:Evt} (hb:An e.2.2.2.1):WI (doW w e).2:=by
 have ae:∀ {q:Int×Wld},WI q.2→WI (Y4a q).2:=fun {q} hq=>by
  unfold Y4a
  cases q.1 != 2<;>exact hq
 unfold doW
 cases e.1==1 with
 |true=>exact ae (h.ask hb (fun c=>by cases c))
 |false=>
  cases e.1==2 with
  |true=>exact ae (h.ask Nz (fun _=>rfl))
  |false=>
   cases e.1==3 || (e.1==4 || (e.1==5 || (e.1==6 || (e.1==7 || e.1==8)))) with
   |true=>
    cases hi:inR e.2.1 0 ((w.2.2.1.length:Int) - 1) with
    |false=>exact h
    |true=>
     have:=Gv.1 hi
     exact h.node (by omega)
   |false=>
    cases e.1==9 with
    |true=>exact h.weigh
    |false=>exact h
theorem Qya {ws:List Wri} (hw:F6a ws) {s:ByteArray} {f:Fil} (hf:An f.2.2):Hna ws s f=true↔IsW ws s f:=by
 unfold Hna IsW
 rw [List.any_eq_true]
 constructor
 ·rintro ⟨x,hx,h⟩
  rw [Bool.and_eq_true] at h
  exact ⟨x,hx,Ic.1 h.1,(Eza (hw x hx).2.2 hf).1 h.2⟩
 ·rintro ⟨x,hx,h1,h2⟩
  exact ⟨x,hx,by rw [Bool.and_eq_true]; exact ⟨Ic.2 h1,(Eza (hw x hx).2.2 hf).2 h2⟩⟩
theorem rightB (h:WI w):Cba w=true:=by
 have h2:=h.dlen
 have hl:=h.nlen
 unfold Cba
 have a1:Qq w.1 w.2.2.1=true:=by
  unfold Qq
  rw [show ((w.2.2.1.length:Int)==(w.1.length:Int))=true by rw [beq_iff_eq]; omega,Bool.true_and,List.all_eq_true]
  intro j hj
  have hj':=List.mem_range.1 hj
  rw [Bool.and_eq_true,beq_iff_eq]
  refine ⟨?_,(h.nodes _ (A3 (d:=Ch) hj')).1.1⟩
  have e1:(w.2.2.1.getD j Ch).1=(w.2.2.1.map (·.1)).getD j 0:=by
   rw [List.getD_eq_getElem?_getD,List.getD_eq_getElem?_getD,List.getElem?_map,List.getElem?_eq_getElem hj']; rfl
  have e2:(w.1.getD j Lt).1=(w.1.map (·.1)).getD j 0:=by
   rw [List.getD_eq_getElem?_getD,List.getD_eq_getElem?_getD,List.getElem?_map,List.getElem?_eq_getElem (by omega)]; rfl
  rw [e1,e2,h.ids]
 have a2:Vba w.2.2.2.1 w.2.2.2.2.1=true:=by
  unfold Vba
  rw [Bool.and_eq_true,List.all_eq_true]
  refine ⟨fun x hx=>?_,decide_eq_true (by have:=h.wlen; omega)⟩
  unfold Eua
  rw [(h.wok x hx).1,(h.wok x hx).2.1,h.wge x hx]
  rfl
 have a3:Sg w.2.2.2.2.2=true:=by
  unfold Sg
  rw [List.all_eq_true]
  intro j hj
  have hj':=List.mem_range.1 hj
  rw [Bool.and_eq_true,Bool.or_eq_true]
  refine ⟨?_,?_⟩
  ·obtain ⟨x,hx,e⟩:=h.spw _ (A3 (d:=Na) hj')
   rw [← e]
   exact (h.wok x hx).1
  ·by_cases h0:j=0
   ·exact .inl (decide_eq_true h0)
   ·right
    have:=List.pairwise_iff_getElem.1 h.sps (j - 1) j (by omega) hj' (by omega)
    rwa [List.getD_eq_getElem?_getD,List.getD_eq_getElem?_getD,List.getElem?_eq_getElem hj',List.getElem?_eq_getElem (by omega)]
 rw [h.ring,a1,h.clk,a2,a3]
 rfl
theorem writtenT (h:WI w):Mn w=true:=by
 unfold Mn
 rw [List.all_eq_true]
 intro j hj
 obtain ⟨hg,hd,_⟩:=h.nodes _ (A3 (d:=Ch) (List.mem_range.1 hj))
 rw [Bool.and_eq_true,List.all_eq_true,List.all_eq_true]
 have one:∀ e:Nmd,EO w.2.2.2.2.1 w.2.2.2.2.2 e.1 e.2→Cea w.2.2.2.2.1 e=true:=by
  intro e he
  unfold Cea
  cases hf:Me e.2 with
  |none=>rfl
  |some f=>exact (Qya h.wok (Pda hf).2.1).2 (he.get h.wok hf).1
 exact ⟨fun e he=>one e ((hd e.1).1 e.2 (H4a (Lq hg.g.1) he)),fun e he=>one e ((hd e.1).2.1 e.2 (H4a (Oq hg.g.1) he))⟩
theorem listedT (h:WI w):Ot w=true:=by
 unfold Ot
 rw [List.all_eq_true]
 intro j hj
 obtain ⟨_,_,h1,h2⟩:=h.nodes _ (A3 (d:=Ch) (List.mem_range.1 hj))
 rw [Bool.and_eq_true,List.all_eq_true,List.all_eq_true]
 exact ⟨h1,h2⟩
theorem keptT (h:WI w):Cga w=true:=by
 unfold Cga
 rw [List.all_eq_true]
 intro x hx
 unfold F1a
 cases hk:x.2.2 with
 |false=>rfl
 |true=>
  cases hs:Y0 w.2.2.2.2.2 x.1 with
  |true=>rfl
  |false=>
   obtain ⟨i,hi,hh⟩:=h.kept x hx hk (fun c=>by rw [C6a.2 c] at hs; cases hs)
   rw [List.any_eq_true.2 ⟨_,A3 hi,Qta.2 hh⟩]
   rfl
theorem stampedT (h:WI w):Mo w=true:=by
 unfold Mo
 rw [List.all_eq_true]
 intro j hj
 have hj':=List.mem_range.1 hj
 rw [Bool.and_eq_true,Bool.or_eq_true,Bool.not_eq_true']
 refine ⟨h.wge _ (A3 hj'),?_⟩
 by_cases h0:j=0
 ·exact .inl (decide_eq_true h0)
 ·right
  have:=List.pairwise_iff_getElem.1 h.asc (j - 1) j (by omega) hj' (by omega)
  rwa [List.getD_eq_getElem?_getD,List.getD_eq_getElem?_getD,List.getElem?_eq_getElem hj',List.getElem?_eq_getElem (by omega)]
theorem safe (h:WI w):Lua w=0:=by
 unfold Lua
 rw [h.rightB,h.writtenT,h.listedT,h.keptT,h.stampedT]
 rfl
end WI
end Go.Proofs.YtflokceoeiplcaaGreat.Vf
end

section
set_option linter.unusedVariables false
set_option linter.unusedSimpArgs false
namespace Go.Proofs.YtflokceoeiplcaaGreat.Vf
open Go
def Bib (l:List Dev) (last:Int):Prop:=l.Pairwise (fun a b=>a.1<b.1)∧∀ d∈l,(0≤d.1∧d.1≤last)∧(0≤d.2.1∧d.2.1≤20)∧1≤d.2.2∧d.2.2≤1000
theorem Qza (z:Int) (hz:1≤z∧z≤20):∀ (n:Nat) (i:Int) (l:List Dev) (last:Int) (c:Cur),i=n→n≤6→Kj c→Bib l last→0≤last→last+2 * n≤12→l.length+n≤6→
  Tot (fun k=>Fs k l z last i c) (fun r=>(∃ last,Bib r.1 last∧last≤20)∧r.1.length=l.length+n∧Kj r.2):=by
 intro n
 induction n with
 |zero=>
  rintro i l last c rfl _ hc h h0 h1 _
  refine Tot.succ ?_
  simp (disch:=omega) only [Fs,dF]
  exact Tot.pure ⟨⟨last,h,by omega⟩,rfl,hc⟩
 |succ n ih=>
  rintro i l last c rfl hn hc h h0 h1 hl
  refine Tot.succ ?_
  simp (disch:=omega) only [Fs,dT]
  obtain ⟨x,c1,e1,hx,k1⟩:=Og c hc [1,1,2] (by decide) (by decide)
  obtain ⟨y,c2,e2,y0,y1,_,k2⟩:=J8 c1 k1 z (by omega)
  obtain ⟨v,c3,e3,hv,k3⟩:=Og c2 k2 [1,1,1,2,10,100] (by decide) (by decide)
  have y1:=y1 (by omega)
  have hx':1≤x∧x≤2:=by
   simp only [List.mem_cons,List.not_mem_nil,or_false] at hx
   omega
  have hv':1≤v∧v≤1000:=by
   simp only [List.mem_cons,List.not_mem_nil,or_false] at hv
   omega
  refine Tot.bind (Tot.of (Q:=fun r=>r=(x,c1)) e1 rfl) ?_
  rintro r rfl
  refine Tot.bind (Tot.of (Q:=fun r=>r=(y,c2)) e2 rfl) ?_
  rintro r rfl
  refine Tot.bind (Tot.of (Q:=fun r=>r=(v,c3)) e3 rfl) ?_
  rintro r rfl
  simp (disch:=omega) only [w64]
  refine Tot.ble (by simp only [List.length_cons,List.length_nil]; omega) ?_
  refine (ih _ (l++[(last+x,y,v)]) (last+x) c3 (by omega) (by omega) k3 ⟨?_,?_⟩ (by omega) (by omega) (by rw [List.length_append]; simp only [List.length_cons,List.length_nil]; omega)).mono ?_
  ·refine List.pairwise_append.2 ⟨h.1,List.pairwise_singleton _ _,fun a ha b hb=>?_⟩
   rw [List.mem_singleton.1 hb]
   have:=(h.2 a ha).1.2
   show a.1<last+x
   omega
  ·intro d hd
   rcases List.mem_append.1 hd with hd|hd
   ·obtain ⟨⟨a1,a2⟩,a3⟩:=h.2 d hd
    exact ⟨⟨a1,by omega⟩,a3⟩
   ·rw [List.mem_singleton.1 hd]
    exact ⟨⟨by show 0≤last+x; omega,Int.le_refl _⟩,⟨y0,by show y≤20; omega⟩,hv'⟩
  ·rintro r ⟨g1,g2,g3⟩
   refine ⟨g1,?_,g3⟩
   rw [g2,List.length_append]
   simp only [List.length_cons,List.length_nil]
   omega
theorem Lza (c:Cur) (hc:Kj c):Tot (fun k=>Ff k c) (fun r=>Ju r.1=true∧(2≤r.1.length∧r.1.length≤6)∧Kj r.2):=by
 unfold Ff
 obtain ⟨x,c1,e1,x0,x1,_,k1⟩:=J8 c hc 4 (by decide)
 obtain ⟨y,c2,e2,y0,y1,_,k2⟩:=J8 c1 k1 5 (by decide)
 have x1:=x1 (by decide)
 have y1:=y1 (by decide)
 refine Tot.bind (Tot.of (Q:=fun r=>r=(x,c1)) e1 rfl) ?_
 rintro r rfl
 refine Tot.bind (Tot.of (Q:=fun r=>r=(y,c2)) e2 rfl) ?_
 rintro r rfl
 simp (disch:=omega) only [w64]
 refine Tot.bind (Qza (1+x) (by omega) (2+y).toNat (2+y) [] 0 c2 (by omega) (by omega) k2 ⟨List.Pairwise.nil,fun d hd=>(nomatch hd)⟩ (Int.le_refl _) (by omega) (by simp only [List.length_nil]; omega)) ?_
 rintro r ⟨⟨last,g1,g2⟩,g3,g4⟩
 rw [List.length_nil] at g3
 exact Tot.pure ⟨H4.2 ⟨g1.1,fun d hd=>M8.2 ⟨⟨(g1.2 d hd).1.1,by have:=(g1.2 d hd).1.2; omega⟩,(g1.2 d hd).2⟩,by dsimp only; omega,by dsimp only; omega⟩,⟨by dsimp only; omega,by dsimp only; omega⟩,g4⟩
abbrev Ahb:Wld:=(([]:List Dev),((0:Int),([]:List (List Int))),([]:List Nod),((0:Int),((0:Int),(0:Int))),([]:List Wri),([]:List ByteArray))
def Vfa (d:Dev):Nod:=(d.1,([],[]),[],[])
def Aib (l:List Dev) (parts reps:Int):Wld:=(l,(build l parts reps).1,l.map Vfa,(0,0,0),[],[])
theorem Xpa {ws:List Wri} {sp:List ByteArray} {l:List Dev} (h:Ju l=true) {d:Dev} (hd:d∈l):NI ws sp (Vfa d):=by
 obtain ⟨⟨i0,i1⟩,_⟩:=M8.1 ((H4.1 h).2.1 d hd)
 refine ⟨⟨Fc.2 ⟨(fun r hr=>nomatch hr),⟨i0,i1⟩,dg0.1,Tg,Nat.zero_le _⟩,dg0.2⟩,fun s=>⟨fun b hb=>?_,fun b hb=>?_,fun _ b f hb=>?_⟩,(fun r hr=>nomatch hr),(fun r hr=>nomatch hr)⟩
 ·rw [show gt (Vfa d).2.1.1 s=none from rfl] at hb; cases hb
 ·rw [show gt (Vfa d).2.1.2 s=none from rfl] at hb; cases hb
 ·rw [show gt (Vfa d).2.1.2 s=none from rfl] at hb; cases hb
theorem Xqa {l:List Dev} {parts reps:Int} (hb:(build l parts reps).2=true):WI (Aib l parts reps):=by
 obtain ⟨h1,h2,_,_⟩:=Jya hb
 exact {
  ring:=h2
  ids:=by show (l.map Vfa).map (·.1)=_; rw [List.map_map]; rfl
  nodes:=fun n hn=>by
   obtain ⟨d,hd,rfl⟩:=List.mem_map.1 hn
   exact Xpa h1 hd
  clk:=rfl
  wlen:=Nat.zero_le _
  wok:=fun x hx=>nomatch hx
  wge:=fun x hx=>nomatch hx
  asc:=List.Pairwise.nil
  kept:=fun x hx=>nomatch hx
  sps:=List.Pairwise.nil
  spw:=fun s hs=>nomatch hs }
theorem F8a (l:List Dev) (parts reps:Int) (hb:(build l parts reps).2=true):Tot (fun k=>Br k l parts reps) (fun r=>r=Aib l parts reps):=by
 obtain ⟨h1,_,_,_⟩:=Jya hb
 have h12:=(H4.1 h1).2.2.2
 unfold Br
 refine Tot.bind (Psa l parts reps (by omega)) ?_
 rintro r rfl
 refine Tot.ble (by rw [List.length_nil]; omega) (Tot.no (by rw [hb]; rfl) ?_)
 rw [List.nil_append]
 refine Tot.bind (Q:=fun r=>r=(Ahb,Aib l parts reps)) ?_ (by rintro r rfl; exact Tot.pure rfl)
 refine Tot.up (L:=fun k i (s:List Nod)=>Df k l i Ahb (l,(build l parts reps).1,s,(0,0,0),[],[])) (Q:=fun r=>r=(Ahb,Aib l parts reps)) l.length (fun j s=>s=(l.take j).map Vfa) ?_ ?_ 0 [] (Nat.zero_le _) rfl
 ·rintro s rfl
  simp (disch:=omega) only [Df,dF]
  exact Tot.pure (by rw [List.take_length]; rfl)
 ·rintro j s hj rfl next
  have hd:=A3 (d:=Lt) hj
  obtain ⟨d,ed⟩:∃ d:Dev,l.getD j Lt=d:=⟨_,rfl⟩
  rw [ed] at hd
  have e0:l.getD j ((0:Int),((0:Int),(0:Int)))=d:=ed
  have e1:l[j]=d:=by rw [← ed,List.getD_eq_getElem?_getD,List.getElem?_eq_getElem hj]; rfl
  have hid:=(M8.1 ((H4.1 h1).2.1 d hd)).1
  simp (disch:=omega) only [Df,dT,Int.toNat_natCast,w64,e0,Haa,Option.bind_some]
  have hl:((l.take j).map Vfa).length=j:=by rw [List.length_map,List.length_take]; omega
  rw [Gv.2 hid,cond_true]
  refine Tot.ble (by rw [hl]; simp only [List.length_cons,List.length_nil]; omega) (next _ ?_)
  rw [List.take_succ_eq_append_getElem hj,List.map_append,e1]
  rfl
theorem M0a (c:Cur) (hc:Kj c):Tot (fun k=>Ir k c) (fun r=>WI r.1∧Kj r.2):=by
 unfold Ir
 refine Tot.bind (Lza c hc) ?_
 rintro ⟨l,c1⟩ ⟨hl,hn,k1⟩
 dsimp only at hl hn k1 ⊢
 obtain ⟨x,c2,e2,hx,k2⟩:=Og c1 k1 [3,2,3,1] (by decide) (by decide)
 obtain ⟨y,c3,e3,hy,k3⟩:=Og c2 k2 [4,2,8] (by decide) (by decide)
 have hx':1≤x∧x≤3:=by
  simp only [List.mem_cons,List.not_mem_nil,or_false] at hx
  omega
 have hy':1≤y∧y≤8:=by
  simp only [List.mem_cons,List.not_mem_nil,or_false] at hy
  omega
 have one:∀ n:Int,1≤n→n≤5→n≤(l.length:Int)→Tot (fun k=>(Be c2 [4,2,8]).bind fun r3=>(Br k l r3.1 n).bind fun r4=>some (r4,r3.2)) (fun r=>WI r.1∧Kj r.2):=by
  intro n n0 n5 nl
  have hb:(build l y n).2=true:=by
   unfold build
   rw [hl,Gv.2 (show 1≤y∧y≤64 by omega),Gv.2 (show 1≤n∧n≤5 by omega),decide_eq_false (show ¬ n > (l.length:Int) by omega)]
   rfl
  refine Tot.bind (Tot.of (Q:=fun r=>r=(y,c3)) e3 rfl) ?_
  rintro r rfl
  refine Tot.bind (F8a l y n hb) ?_
  rintro r rfl
  exact Tot.pure ⟨Xqa hb,k3⟩
 refine Tot.bind (Tot.of (Q:=fun r=>r=(x,c2)) e2 rfl) ?_
 rintro r rfl
 exact Tot.dite (fun h=>one (l.length:Int) (by omega) (by dsimp only at h; omega) (Int.le_refl _)) (fun h=>one x (by omega) (by omega) (by dsimp only at h; omega))
theorem Hsa (c:Cur) (hc:Kj c):Tot (fun k=>Dz k c) (fun r=>r.1.length≤6∧Kj r.2):=by
 unfold Dz
 refine Tot.bind (Q:=fun r=>r.1.length≤6∧Kj r.2) ?_ (fun r h=>Tot.pure h)
 refine Tot.up (L:=fun k i (s:List Int×Cur)=>Em k s.1 i s.2) (Q:=fun r=>r.1.length≤6∧Kj r.2) 6 (fun j s=>s.1.length=j∧Kj s.2) ?_ ?_ 0 ([],c) (Nat.zero_le _) ⟨rfl,hc⟩
 ·rintro s ⟨h1,h2⟩
  simp (disch:=omega) only [Em,dF]
  exact Tot.pure ⟨by dsimp only; omega,h2⟩
 ·rintro j s hj ⟨h1,h2⟩ next
  obtain ⟨x,c1,e1,_,k1⟩:=Og s.2 h2 [1,1,1,1,0,2,3] (by decide) (by decide)
  simp (disch:=omega) only [Em,dT,w64]
  refine Tot.bind (Tot.of (Q:=fun r=>r=(x,c1)) e1 rfl) ?_
  rintro r rfl
  exact Tot.ble (by simp only [List.length_cons,List.length_nil]; omega) (next (s.1++[x],c1) ⟨by rw [List.length_append,h1]; rfl,k1⟩)
def Vga (r:Evt×Cur×Wld) (w:Wld):Prop:=Afb r.1∧An r.1.2.2.2.1∧Kj r.2.1∧r.2.2=w
theorem Xra {d:Dsk} (hd:DG d):Tot (fun k=>Fe k d) (fun r=>r.length≤60∧∀ t∈r,Ky t):=by
 have hi:=Pn hd.1
 refine (Tka d hi hd.2).mono ?_
 rintro r rfl
 obtain ⟨a1,a2⟩:=Zva d.1 hi.1.2.1 d.1 0 [] (fun x hx=>hx) (fun y hy=>nomatch hy)
 have:=(Ae.1 (De.1 hd.1).1).2.2
 rw [List.length_nil] at a1
 exact ⟨by unfold Lra; omega,a2⟩
theorem F9a (c:Cur) (w:Wld) (hc:Kj c) (h:WI w):Tot (fun k=>Dm k c w w) (fun r=>Vga r w):=by
 have hnl:=h.ns.1
 have hn1:1≤w.2.2.1.length:=by have:=h.nlen; have:=h.dlen; omega
 have hclk:0≤w.2.2.2.1.1∧w.2.2.2.1.1≤1000000000:=by
  have:=h.clk
  unfold Gk at this
  rw [Bool.and_eq_true,Gv] at this
  exact this.1
 unfold Dm
 obtain ⟨i,c1,e1,i0,i1,_,k1⟩:=J8 c hc (w.2.2.1.length:Int) (by omega)
 have i1:=i1 (by omega)
 obtain ⟨s,c2,e2,hs,k2⟩:=Oua c1 k1
 have hs:=(Gua s hs).1
 refine Tot.bind (Tot.of (Q:=fun r=>r=(i,c1)) e1 rfl) ?_
 rintro r rfl
 refine Tot.bind (Tot.of (Q:=fun r=>r=(s,c2)) e2 rfl) ?_
 rintro r rfl
 refine Tot.bind (Hsa c2 k2) ?_
 rintro ⟨rc,c3⟩ ⟨hrc,k3⟩
 dsimp only at hrc k3 ⊢
 obtain ⟨n,c4,e4,_,_,_,k4⟩:=J8 c3 k3 20 (by decide)
 refine Tot.bind (Tot.of (Q:=fun r=>r=(n,c4)) e4 rfl) ?_
 rintro r rfl
 dsimp only
 have ok:∀ (kd:Int) (s:ByteArray) (l:List Int) (x:Int) (c:Cur),Ky s→An l→l.length≤1000 → -9223372036854775808≤x→x≤9223372036854775807→Kj c→Vga ((kd,i,s,l,x,rc),c,w) w:=fun kd s l x c h1 h2 h3 h4 h5 h6=>⟨⟨h1,by show l.length≤_; omega,⟨h4,h5⟩,by show rc.length≤_; omega⟩,h2,h6,rfl⟩
 have plain:∀ kd:Int,Tot (fun _=>some ((kd,i,s,([]:List Int),(0:Int),rc),c4,w)) (fun r=>Vga r w):=fun kd=>Tot.pure (ok kd s [] 0 c4 hs Nz (Nat.zero_le _) (by decide) (by decide) k4)
 have put:Tot (fun k=>(A9 c4 2).bind fun r5=>(Er k r5.2).bind fun r6=>some ((1,i,s,r6.1,IntKind.wrap .i64 (w.2.2.2.1.1+r5.1),rc),r6.2,w)) (fun r=>Vga r w):=by
  obtain ⟨x,c5,e5,x0,x1,_,k5⟩:=J8 c4 k4 2 (by decide)
  have x1:=x1 (by decide)
  refine Tot.bind (Tot.of (Q:=fun r=>r=(x,c5)) e5 rfl) ?_
  rintro r rfl
  refine Tot.bind (L4a c5 k5) ?_
  rintro ⟨l,c6⟩ ⟨g1,g2,g3⟩
  dsimp only at g1 g2 g3 ⊢
  rw [w64 (n:=w.2.2.2.1.1+x) (by omega) (by omega)]
  exact Tot.pure (ok 1 s l _ c6 hs g2 (by omega) (by omega) (by omega) g1)
 have drop:Tot (fun k=>(A9 c4 2).bind fun r17=>some ((2,i,s,([]:List Int),IntKind.wrap .i64 (w.2.2.2.1.1+r17.1),rc),r17.2,w)) (fun r=>Vga r w):=by
  obtain ⟨x,c5,e5,x0,x1,_,k5⟩:=J8 c4 k4 2 (by decide)
  have x1:=x1 (by decide)
  refine Tot.bind (Tot.of (Q:=fun r=>r=(x,c5)) e5 rfl) ?_
  rintro r rfl
  dsimp only
  rw [w64 (n:=w.2.2.2.1.1+x) (by omega) (by omega)]
  exact Tot.pure (ok 2 s [] _ c5 hs Nz (Nat.zero_le _) (by omega) (by omega) k5)
 have rot:Tot (fun k=>(A9 c4 60).bind fun r31=>some ((8,i,s,([]:List Int),r31.1,rc),r31.2,w)) (fun r=>Vga r w):=by
  obtain ⟨x,c5,e5,x0,x1,_,k5⟩:=J8 c4 k4 60 (by decide)
  have x1:=x1 (by decide)
  refine Tot.bind (Tot.of (Q:=fun r=>r=(x,c5)) e5 rfl) ?_
  rintro r rfl
  exact Tot.pure (ok 8 s [] x c5 hs Nz (Nat.zero_le _) (by omega) (by omega) k5)
 have ring:Tot (fun k=>(Be c4 [1,2,10,1000]).bind fun r33=>some ((9,i,s,([]:List Int),r33.1,rc),r33.2,w)) (fun r=>Vga r w):=by
  obtain ⟨x,c5,e5,hx,k5⟩:=Og c4 k4 [1,2,10,1000] (by decide) (by decide)
  refine Tot.bind (Tot.of (Q:=fun r=>r=(x,c5)) e5 rfl) ?_
  rintro r rfl
  have hx':1≤x∧x≤1000:=by
   simp only [List.mem_cons,List.not_mem_nil,or_false] at hx
   omega
  exact Tot.pure (ok 9 s [] x c5 hs Nz (Nat.zero_le _) (by omega) (by omega) k5)
 have push:Tot (fun k=>cond (decide ((0:Int)≤i)) (cond (decide (i<(List.length w.2.2.1:Int))) ((Fe k (List.getD w.2.2.1 (Int.toNat i) ((0:Int),(([],[]),([],[])))).2.1).bind fun r20=>cond (decide ((List.length r20:Int) > 0)) ((A9 c4 (List.length r20:Int)).bind fun r21=>cond (decide ((0:Int)≤r21.1)) (cond (decide (r21.1<(List.length r20:Int))) (some ((3,i,(List.getD r20 (Int.toNat r21.1) (⟨#[]⟩:ByteArray)),([]:List Int),0,rc),r21.2,w)) none) none) (some ((3,i,s,([]:List Int),0,rc),c4,w))) none) none) (fun r=>Vga r w):=by
  refine Tot.dec i0 (Tot.dec i1 ?_)
  have hm:=h.nodes _ (A3 (d:=Ch) (show i.toNat<w.2.2.1.length by omega))
  refine Tot.bind (Xra hm.1.g) ?_
  rintro l ⟨hl,hl'⟩
  refine Tot.dite (fun h0=>?_) (fun h0=>plain 3)
  obtain ⟨x,c5,e5,x0,x1,_,k5⟩:=J8 c4 k4 (l.length:Int) (by omega)
  have x1:=x1 (by omega)
  refine Tot.bind (Tot.of (Q:=fun r=>r=(x,c5)) e5 rfl) ?_
  rintro r rfl
  exact Tot.dec x0 (Tot.dec x1 (Tot.pure (ok 3 _ [] 0 c5 (hl' _ (A3 (d:=Na) (show x.toNat<l.length by omega))) Nz (Nat.zero_le _) (by decide) (by decide) k5)))
 refine Tot.ite (fun _=>put) (fun _=>?_)
 refine Tot.ite (fun _=>put) (fun _=>?_)
 refine Tot.ite (fun _=>put) (fun _=>?_)
 refine Tot.ite (fun _=>put) (fun _=>?_)
 refine Tot.ite (fun _=>put) (fun _=>?_)
 refine Tot.ite (fun _=>put) (fun _=>?_)
 refine Tot.ite (fun _=>drop) (fun _=>?_)
 refine Tot.ite (fun _=>drop) (fun _=>?_)
 refine Tot.ite (fun _=>push) (fun _=>?_)
 refine Tot.ite (fun _=>push) (fun _=>?_)
 refine Tot.ite (fun _=>push) (fun _=>?_)
 refine Tot.ite (fun _=>plain 5) (fun _=>?_)
 refine Tot.ite (fun _=>plain 5) (fun _=>?_)
 refine Tot.ite (fun _=>plain 4) (fun _=>?_)
 refine Tot.ite (fun _=>plain 6) (fun _=>?_)
 refine Tot.ite (fun _=>plain 7) (fun _=>?_)
 refine Tot.ite (fun _=>plain 7) (fun _=>?_)
 refine Tot.ite (fun _=>rot) (fun _=>?_)
 exact Tot.ite (fun _=>rot) (fun _=>ring)
theorem Xsa {w:Wld} (h:WI w) {e:Evt} (he:Afb e):Tot (fun k=>Ho k w e) (fun r=>r=doW w e):=
 A2b w e he h.ring h.ns h.clk (by have:=h.wlen; omega) (by have:=h.splen; omega)
theorem M1a:∀ (n:Nat) (i:Int) (c:Cur) (w:Wld),i=n→n≤1000→Kj c→WI w→Tot (fun k=>Es k i c Ahb w) (fun r=>WI r.2.1∧Kj r.2.2):=by
 intro n
 induction n with
 |zero=>
  rintro i c w rfl _ hc h
  refine Tot.succ ?_
  simp (disch:=omega) only [Es,dF]
  exact Tot.pure ⟨h,hc⟩
 |succ n ih=>
  rintro i c w rfl hn hc h
  refine Tot.succ ?_
  simp (disch:=omega) only [Es,dT]
  refine Tot.bind (F9a c w hc h) ?_
  rintro ⟨e,c1,w1⟩ ⟨g1,g2,g3,g4⟩
  dsimp only at g1 g2 g3 g4 ⊢
  subst g4
  refine Tot.bind (Xsa h g1) ?_
  rintro r rfl
  rw [w64 (n:=((n+1:Nat):Int) - 1) (by omega) (by omega)]
  exact ih _ c1 _ (by omega) (by omega) g3 (h.ev g2)
theorem Hta (c:Cur) (hc:Kj c) (n:Int) (hn:n≤1000):Tot (fun k=>E3 k c n) (fun r=>WI r.1∧Kj r.2):=by
 unfold E3
 refine Tot.bind (M0a c hc) ?_
 rintro ⟨w,c1⟩ ⟨h,k1⟩
 dsimp only at h k1 ⊢
 obtain ⟨x,c2,e2,x0,x1,x2,k2⟩:=J8 c1 k1 n (by omega)
 refine Tot.bind (Tot.of (Q:=fun r=>r=(x,c2)) e2 rfl) ?_
 rintro r rfl
 refine Tot.bind (M1a x.toNat x c2 w (by omega) (by by_cases h:0<n<;>omega) k2 h) ?_
 rintro r hr
 exact Tot.pure hr
theorem U5a (a:List Int) (hb:(a.length:Int)≤1048576) (m:Int) (hm:3≤m∧m≤1000):∃ n,Iy a m=some n∧3≤n∧n≤m:=by
 unfold Iy
 rw [Int.tdiv_eq_ediv_of_nonneg (by omega),w64 (n:=(a.length:Int) / 12) (by omega) (by omega),w64 (n:=3+(a.length:Int) / 12) (by omega) (by omega)]
 by_cases h:3+(a.length:Int) / 12 > m
 ·exact ⟨m,by rw [decide_eq_true h]; rfl,hm.1,Int.le_refl _⟩
 ·exact ⟨_,by rw [decide_eq_false h]; rfl,by omega,by omega⟩
theorem Cha (a:List Int) (hb:(a.length:Int)≤1048576):Tot (fun k=>G5 k a) WI:=by
 unfold G5
 refine Tot.bind (Ota a hb) ?_
 intro c hc
 obtain ⟨n,e,n0,n1⟩:=U5a a hb 50 (by decide)
 refine Tot.bind (Tot.of (Q:=fun r=>r=n) e rfl) ?_
 rintro r rfl
 rw [w64 (n:=12+r) (by omega) (by omega)]
 refine Tot.bind (Hta c hc _ (by omega)) ?_
 rintro r hr
 exact Tot.pure hr.1
end Go.Proofs.YtflokceoeiplcaaGreat.Vf
end

section
set_option linter.unusedVariables false
set_option linter.unusedSimpArgs false
namespace Go.Proofs.YtflokceoeiplcaaGreat.Pure
open Go Go.RowKit Go.Proofs.YtflokceoeiplcaaGreat.Vf
theorem FnTop:∀ (a0:List Int),Ty.fit ti (.sl 5 (.i .u8)) a0→∃ k,Jw k a0=some true:=by
 intro a0 _
 refine Tot.law (f:=fun k=>Jw k a0) ?_
 unfold Jw M2
 refine Tot.bind (Tot.pure (Q:=fun b=>b=decide ((List.length a0:Int) > 1048576)) rfl) ?_
 rintro b rfl
 refine Tot.dite (fun _=>Tot.pure rfl) (fun hb=>?_)
 refine Tot.bind (Cha a0 (by omega)) ?_
 intro w h
 have hw:=h.win
 refine Tot.bind (Tva w hw) ?_
 rintro r rfl
 refine Tot.yes (by rw [h.safe]; rfl) (Tot.bind (Twa w hw) ?_)
 rintro r rfl
 refine Tot.yes (by rw [h.safe]; rfl) (Tot.bind (Xm w hw) ?_)
 rintro r rfl
 refine Tot.yes h.writtenT (Tot.bind (Asa w hw) ?_)
 rintro r rfl
 refine Tot.yes h.listedT (Tot.bind (K6a w hw) ?_)
 rintro r rfl
 refine Tot.yes h.keptT (Tot.bind (Xo w hw) ?_)
 rintro r rfl
 refine Tot.yes h.stampedT (Tot.bind (Exa w hw) ?_)
 rintro r rfl
 exact Tot.pure h.rightB
end Go.Proofs.YtflokceoeiplcaaGreat.Pure
end
